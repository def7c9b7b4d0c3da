/- Chapter 23, plain law: what items are shown as, what is wrong with them, whether they are complete; a replacement of a percent sign by two is one byte by byte. No condition. -/
import Derived.Test.YtiopcifglfocpaaDoorW23m
import Derived.Lib.Replace
namespace Go.Proofs.YtiopcifglfocpaaDoor.X
open Go.RowKit
def dbl (c : UInt8) : List UInt8 := if c = 37 then [37, 37] else [c]
theorem index_37 (c : UInt8) (r : List UInt8) : Lib.index (c :: r) [37] = if c = 37 then 0 else if Lib.index r [37] = -1 then -1 else Lib.index r [37] + 1 := by
  by_cases hc : c = 37
  · subst hc
    rw [if_pos rfl]
    exact Lib.index_first (i := 0) (Nat.zero_le _) (by simp [Lib.occAt]) (fun _ h => absurd h (Nat.not_lt_zero _))
  · rw [if_neg hc]
    have h := Lib.index_drop (s := c :: r) (sub := [37]) (i := 1) (by
      intro j hj
      obtain rfl : j = 0 := by omega
      show [(37 : UInt8)].isPrefixOf (c :: r) = false
      rw [List.isPrefixOf, show ((37 : UInt8) == c) = false by rw [beq_eq_false_iff_ne]; exact fun e => hc e.symm]
      rfl) (by simp)
    rw [h]
    simp
theorem repl_k : ∀ s : List UInt8, Lib.replaceK [37] [37, 37] (s.count 37) s = s.flatMap dbl
  | [] => rfl
  | c :: r => by
    by_cases hc : c = 37
    · subst hc
      have hi : Lib.index (37 :: r) [37] = ((0 : Nat) : Int) := by rw [index_37, if_pos rfl]; rfl
      rw [List.count_cons_self, Lib.replaceK_hit _ _ _ _ 0 hi]
      simp [repl_k r, dbl]
    · have ih := repl_k r
      rw [List.count_cons_of_ne (fun e => hc e), List.flatMap_cons, ← ih]
      rw [show dbl c = [c] by rw [dbl, if_neg hc]]
      cases hk : r.count 37 with
      | zero => simp [Lib.replaceK]
      | succ k =>
        obtain ⟨i, hi⟩ := Lib.index_of_count (s := r) (old := [37]) (by rw [Lib.count_one]; omega)
        have hi' : Lib.index (c :: r) [37] = ((i + 1 : Nat) : Int) := by
          rw [index_37, if_neg hc, hi, if_neg (by omega)]; omega
        rw [Lib.replaceK_hit _ _ _ _ _ hi', Lib.replaceK_hit _ _ _ _ _ hi]
        simp
theorem repl_37 (s : List UInt8) : Lib.replaceAll s [37] [37, 37] = s.flatMap dbl := by
  unfold Lib.replaceAll Lib.replace Lib.replaceNum
  rw [if_neg (by decide), if_pos (.inl (by decide)), Lib.count_one, repl_k]
/-- An item's text in a layout. -/
def pieceL (x : Itm) : List UInt8 :=
  if x.1 = 0 then x.2.2.data.toList.flatMap dbl else if x.1 = 7 then [37, UInt8.ofNat (48 + x.2.1).toNat, 102] else [37, UInt8.ofNat (letC x.1 x.2.1).toNat]
def showL (l : List Itm) : List UInt8 := l.flatMap pieceL
theorem showL_app (l m : List Itm) : showL (l ++ m) = showL l ++ showL m := by simp [showL]
theorem showL_take (l : List Itm) (k : Nat) (h : k < l.length) : showL (l.take (k + 1)) = showL (l.take k) ++ pieceL l[k] := by
  rw [List.take_succ_eq_append_getElem h, showL_app]
  simp [showL]
def textN (l : List Itm) : Nat := (l.map fun x => x.2.2.size).sum
theorem textN_app (l m : List Itm) : textN (l ++ m) = textN l + textN m := by
  unfold textN
  rw [List.map_append, List.sum_append]
theorem textN_one (x : Itm) : textN [x] = x.2.2.size := by simp [textN]
theorem textN_take (l : List Itm) (k : Nat) (h : k < l.length) : textN (l.take (k + 1)) = textN (l.take k) + l[k].2.2.size := by
  rw [List.take_succ_eq_append_getElem h, textN_app, textN_one]
theorem textN_le (l : List Itm) (k : Nat) : textN (l.take k) ≤ textN l := by
  have : textN l = textN (l.take k) + textN (l.drop k) := by
    rw [← textN_app, List.take_append_drop]
  omega
theorem textN_mem (l : List Itm) (x : Itm) (h : x ∈ l) : x.2.2.size ≤ textN l := by
  obtain ⟨a, b, rfl⟩ := List.append_of_mem h
  simp [textN]; omega
theorem dbl_len (s : List UInt8) : s.length ≤ (s.flatMap dbl).length ∧ (s.flatMap dbl).length ≤ 2 * s.length := by
  induction s with
  | nil => simp
  | cons c r ih =>
    have : 1 ≤ (dbl c).length ∧ (dbl c).length ≤ 2 := by unfold dbl; split <;> simp
    rw [List.flatMap_cons, List.length_append, List.length_cons]; omega
theorem piece_len (x : Itm) : x.2.2.size * (if x.1 = 0 then 1 else 0) ≤ (pieceL x).length ∧ (pieceL x).length ≤ 3 + 2 * x.2.2.size := by
  unfold pieceL
  split
  · have := dbl_len x.2.2.data.toList
    rw [len_list] at this
    omega
  · split <;> simp only [List.length_cons, List.length_nil] <;> omega
theorem show_len (l : List Itm) : (showL l).length ≤ 3 * l.length + 2 * textN l := by
  induction l with
  | nil => simp [showL]
  | cons x r ih =>
    have := (piece_len x).2
    simp [showL, textN] at *; omega
/-- Whether each item may be. -/
def okI (x : Itm) : Bool := mayB x.1 x.2.1 x.2.2.data.toList
/-- Whether each item may be behind the kind ahead of it. -/
def chk : Int → List Itm → Bool
  | _, [] => true
  | was, x :: r => okI x && !(decide (x.1 = 0) && decide (was = 0)) && chk x.1 r
def checkE (l : List Itm) : Int := if 32 < l.length then 1 else if chk (-1) l = false then 5 else if 128 < (showL l).length then 1 else 0
theorem chk_ok : ∀ (was : Int) (l : List Itm), chk was l = true → ∀ x ∈ l, okI x = true
  | _, [], _, _, h => by simp at h
  | was, y :: r, h, x, hx => by
    rw [chk] at h
    simp at h
    rcases List.mem_cons.1 hx with rfl | hx
    · exact h.1.1
    · exact chk_ok y.1 r h.2 x hx
theorem ok_text (x : Itm) (h : okI x = true) : x.1 ≠ 0 → x.2.2.data.toList = [] := by
  intro h0
  unfold okI mayB at h
  rw [if_neg h0] at h
  split at h
  · simp at h; simpa using h.1.1
  · split at h
    · simp at h; simpa using h.1
    · simp at h; simpa using h.1.1.1
theorem ok_size (x : Itm) (h : okI x = true) : x.2.2.size ≤ (pieceL x).length := by
  by_cases h0 : x.1 = 0
  · have := (piece_len x).1
    rw [if_pos h0] at this; omega
  · have := ok_text x h h0
    have h2 := len_list x.2.2
    rw [this] at h2
    simp at h2; omega
theorem textN_show (l : List Itm) (h : ∀ x ∈ l, okI x = true) : textN l ≤ (showL l).length := by
  induction l with
  | nil => simp [showL, textN]
  | cons x r ih =>
    have h1 := ok_size x (h x (by simp))
    have h2 := ih (fun y hy => h y (by simp [hy]))
    simp [showL, textN] at *; omega
/-- The kind ahead of the item k. -/
def wasK (l : List Itm) (k : Nat) : Int := match k with | 0 => -1 | j + 1 => ((l[j]?).map (·.1)).getD (-1)
theorem chk_drop (l : List Itm) (k : Nat) (h : k < l.length) : chk (wasK l k) (l.drop k) = (okI l[k] && !(decide (l[k].1 = 0) && decide (wasK l k = 0)) && chk (wasK l (k + 1)) (l.drop (k + 1))) := by
  rw [List.drop_eq_getElem_cons h, chk]
  congr 2
  simp [wasK, h]
end Go.Proofs.YtiopcifglfocpaaDoor.X
