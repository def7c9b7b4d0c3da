/- Chapter 23, plain law: a layout's items, byte by byte; whole pieces of text at once give the same. No condition. -/
import Derived.Test.YtiopcifglfocpaaDoorW23d
namespace Go.Proofs.YtiopcifglfocpaaDoor.X
open Go.RowKit
def oneByte (c : UInt8) : ByteArray := ⟨#[c]⟩
/-- The items of a layout, behind those that were read; none: it is no layout. -/
def pars : Nat → List UInt8 → List Itm → Option (List Itm)
  | 0, _, l => some l
  | _ + 1, [], l => some l
  | f + 1, c :: r, l =>
    if c = 37 then
      (if r.take 1 = [37] then pars f (r.drop 1) (addText l (oneByte 37))
       else if (oneV r).2.2 = 0 then none
       else pars f (r.drop (oneV r).2.2.toNat) (l ++ [((oneV r).1, (oneV r).2.1, ⟨#[]⟩)]))
    else pars f r (addText l (oneByte c))
def parsV (s : List UInt8) (l : List Itm) : Option (List Itm) := pars s.length s l
theorem pars_nil (f : Nat) (l : List Itm) : pars f [] l = some l := by cases f <;> rfl
theorem oneV_bd : ∀ r : List UInt8, (oneV r).2.2 = 0 ∨ (oneV r).2.2 = 1 ∧ 1 ≤ r.length ∨ (oneV r).2.2 = 2 ∧ 2 ≤ r.length
  | [] => .inl rfl
  | c :: r => by
    by_cases hk : itK c.toNat ≠ 0
    · rw [oneV, if_pos hk]
      exact .inr (.inl ⟨rfl, by simp⟩)
    · by_cases hf : (49 ≤ c.toNat ∧ c.toNat ≤ 57) ∧ r.take 1 = [102]
      · rw [oneV, if_neg hk, if_pos hf]
        refine .inr (.inr ⟨rfl, ?_⟩)
        cases r with
        | nil => simp at hf
        | cons a b => simp
      · rw [oneV, if_neg hk, if_neg hf]
        exact .inl rfl
theorem pars_fuel : ∀ (f : Nat) (s : List UInt8) (l : List Itm), s.length ≤ f → pars f s l = pars s.length s l
  | f, [], l, _ => by rw [pars_nil]; rfl
  | 0, c :: r, l, h => by simp at h
  | f + 1, c :: r, l, h => by
    have h' : r.length ≤ f := by simpa using h
    show pars (f + 1) (c :: r) l = pars (r.length + 1) (c :: r) l
    unfold pars
    split
    · split
      · rw [pars_fuel f _ _ (by simp; omega), pars_fuel r.length _ _ (by simp)]
      · split
        · rfl
        · rw [pars_fuel f _ _ (by simp; omega), pars_fuel r.length _ _ (by simp)]
    · rw [pars_fuel f _ _ h', pars_fuel r.length _ _ (Nat.le_refl _)]
termination_by f => f
theorem parsV_nil (l : List Itm) : parsV [] l = some l := rfl
theorem parsV_cons (c : UInt8) (r : List UInt8) (l : List Itm) : parsV (c :: r) l =
    if c = 37 then
      (if r.take 1 = [37] then parsV (r.drop 1) (addText l (oneByte 37))
       else if (oneV r).2.2 = 0 then none
       else parsV (r.drop (oneV r).2.2.toNat) (l ++ [((oneV r).1, (oneV r).2.1, ⟨#[]⟩)]))
    else parsV r (addText l (oneByte c)) := by
  unfold parsV
  show pars (r.length + 1) (c :: r) l = _
  rw [pars]
  rw [pars_fuel r.length (r.drop 1) _ (by simp), pars_fuel r.length (r.drop (oneV r).2.2.toNat) _ (by simp)]
theorem addText_two (l : List Itm) (a b : ByteArray) : addText (addText l a) b = addText l (a ++ b) := by
  rcases List.eq_nil_or_concat l with rfl | ⟨r, x, rfl⟩
  · simp [addText]
  · rw [List.concat_eq_append]
    by_cases hx : x.1 = 0
    · simp [addText, hx, ByteArray.append_assoc]
    · simp [addText, hx]
/-- A piece of text at once. -/
theorem parsV_text : ∀ (a : List UInt8) (b : List UInt8) (l : List Itm), a ≠ [] → (∀ c ∈ a, c ≠ 37) → parsV (a ++ b) l = parsV b (addText l ⟨a.toArray⟩)
  | [], _, _, h, _ => absurd rfl h
  | [c], b, l, _, h => by
    rw [List.singleton_append, parsV_cons, if_neg (h c (by simp))]
    rfl
  | c :: d :: a, b, l, _, h => by
    rw [List.cons_append, parsV_cons, if_neg (h c (by simp)), parsV_text (d :: a) b _ (by simp) (fun x hx => h x (by simp at hx ⊢; right; exact hx)), addText_two]
    congr 1
theorem len_list (s : ByteArray) : s.data.toList.length = s.size := by rw [Array.length_toList]; rfl
/-- Up to the first percent sign. -/
theorem pars_cut (s : ByteArray) (k : Nat) (l : List Itm) (h0 : 0 < k) (h1 : k ≤ s.size) (h : ∀ j, j < k → s.data.toList[j]? ≠ some 37) :
    parsV s.data.toList l = parsV (s.extract k s.size).data.toList (addText l (s.extract 0 k)) := by
  have e1 : (s.extract k s.size).data.toList = s.data.toList.drop k := Lib.extract_to_end _ _
  have e2 : (s.extract 0 k) = ⟨(s.data.toList.take k).toArray⟩ := by
    apply ByteArray.ext
    apply Array.toList_inj.1
    rw [ByteArray.data_extract, Array.toList_extract]
    simp [List.extract]
  rw [e1, e2, ← parsV_text (s.data.toList.take k) (s.data.toList.drop k) l ?_ ?_, List.take_append_drop]
  · intro e
    have := congrArg List.length e
    rw [List.length_take, len_list, List.length_nil] at this
    omega
  · intro c hc e
    obtain ⟨j, hj, ej⟩ := List.mem_iff_getElem.1 hc
    rw [List.length_take] at hj
    rw [List.getElem_take] at ej
    refine h j (by omega) ?_
    rw [List.getElem?_eq_getElem (by omega), ej, e]
theorem pars_two (s : ByteArray) (l : List Itm) (h : s.data.toList.take 2 = [37, 37]) : parsV s.data.toList l = parsV (s.extract 2 s.size).data.toList (addText l ⟨#[37]⟩) := by
  rw [Lib.extract_to_end]
  match e : s.data.toList, h with
  | a :: b :: r, h =>
    simp at h
    obtain ⟨rfl, rfl⟩ := h
    rw [parsV_cons, if_pos rfl, if_pos (show List.take 1 (37 :: r) = [37] from rfl)]
    rfl
theorem pars_one (s : ByteArray) (l : List Itm) (h : s.data.toList[0]? = some 37) (h2 : ¬ s.data.toList.take 2 = [37, 37]) :
    parsV s.data.toList l = if (oneV (s.extract 1 s.size).data.toList).2.2 = 0 then none
      else parsV (s.extract (1 + (oneV (s.extract 1 s.size).data.toList).2.2.toNat) s.size).data.toList (l ++ [((oneV (s.extract 1 s.size).data.toList).1, (oneV (s.extract 1 s.size).data.toList).2.1, ⟨#[]⟩)]) := by
  simp only [Lib.extract_to_end]
  match e : s.data.toList, h with
  | c :: r, h =>
    simp at h
    subst h
    rw [e] at h2
    rw [parsV_cons, if_pos rfl, if_neg (fun h' => h2 (by cases r with | nil => simp at h' | cons a b => simp at h' ⊢; exact h'))]
    simp only [List.drop_succ_cons, List.drop_zero, Nat.add_comm 1]
theorem addText_bd (l : List Itm) (t : ByteArray) (S S0 : Nat) (h : ∀ x ∈ l, x.2.2.size + S ≤ S0) (h0 : S ≤ S0) (ht : t.size ≤ S) :
    (addText l t).length ≤ l.length + 1 ∧ ∀ x ∈ addText l t, x.2.2.size + (S - t.size) ≤ S0 := by
  rcases List.eq_nil_or_concat l with rfl | ⟨r, y, rfl⟩
  · refine ⟨by simp [addText], ?_⟩
    intro x hx
    simp [addText] at hx
    subst hx
    show t.size + (S - t.size) ≤ S0
    omega
  · rw [List.concat_eq_append] at *
    by_cases hy : y.1 = 0
    · refine ⟨by simp [addText, hy], ?_⟩
      intro x hx
      simp [addText, hy] at hx
      rcases hx with hx | rfl
      · have := h x (by simp [hx]); omega
      · have := h y (by simp)
        show (y.2.2 ++ t).size + (S - t.size) ≤ S0
        rw [ByteArray.size_append]; omega
    · refine ⟨by simp [addText, hy], ?_⟩
      intro x hx
      simp [addText, hy] at hx
      rcases hx with hx | rfl | rfl
      · have := h x (by simp [hx]); omega
      · have := h x (by simp); omega
      · show t.size + (S - t.size) ≤ S0
        omega
theorem own_shape {w : World} {base size n : Nat} {e : TypeId} {v : Value} {xs : List Value} (h : w.ownsRow base e size v n xs) : ∃ a cap, v = .slice a n cap := by
  rcases h.2 with ⟨hv, h0⟩ | ⟨g, cap, _, hv, _⟩
  · exact ⟨none, 0, by rw [hv, h0]⟩
  · exact ⟨_, cap, hv⟩
theorem prefPP (s : ByteArray) (w : World) :
    Calls Tryd.prog 25 #[.string s, .string ⟨#[37, 37]⟩] w fun e w' => e = .returned (.bool (decide (s.data.toList.take 2 = [37, 37]))) ∧ w = w' := by
  refine (Tryd.strings_HasPrefix s ⟨#[37, 37]⟩ w).mono ?_
  rintro e w' ⟨rfl, rfl⟩
  refine ⟨?_, rfl⟩
  congr 2
  match s.data.toList with
  | [] => rfl
  | [x] => simp [Lib.hasPrefix, List.isPrefixOf]
  | x :: y :: r =>
    simp only [Lib.hasPrefix, List.isPrefixOf, Bool.and_true, List.take_succ_cons, List.take_zero, List.cons.injEq, and_true]
    by_cases h : x = 37
    · subst h
      by_cases h' : y = 37
      · subst h'; rfl
      · rw [decide_eq_false (fun e => h' e.2), show ((37 : UInt8) == y) = false by rw [beq_eq_false_iff_ne]; exact fun e => h' e.symm]; rfl
    · rw [decide_eq_false (fun e => h e.1), show ((37 : UInt8) == x) = false by rw [beq_eq_false_iff_ne]; exact fun e => h e.symm]; rfl
end Go.Proofs.YtiopcifglfocpaaDoor.X
