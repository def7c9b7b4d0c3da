/- Chapter 23, plain law: the reference gathers a word's bytes and lays it as an item ahead of the next directive: the same items. No condition. -/
import Derived.Test.YtiopcifglfocpaaDoorW23g
namespace Go.Proofs.YtiopcifglfocpaaDoor.X
open Go.RowKit
/-- The items and the word that is being gathered. -/
def fl (l : List Itm) (t : ByteArray) : List Itm := if t.size = 0 then l else l ++ [(0, 0, t)]
def noText (l : List Itm) : Prop := ∀ x, l.getLast? = some x → x.1 ≠ 0
theorem noText_app (l : List Itm) (x : Itm) (h : x.1 ≠ 0) : noText (l ++ [x]) := by
  intro y hy
  rw [List.getLast?_concat] at hy
  cases hy; exact h
theorem fl_empty (l : List Itm) (t : ByteArray) (h : t.size = 0) : fl l t = l := by rw [fl, if_pos h]
theorem fl_full (l : List Itm) (t : ByteArray) (h : t.size ≠ 0) : fl l t = l ++ [(0, 0, t)] := by rw [fl, if_neg h]
theorem fl_add (l : List Itm) (t u : ByteArray) (hl : noText l) (hu : u.size ≠ 0) : addText (fl l t) u = fl l (t ++ u) := by
  rw [fl_full l (t ++ u) (by rw [ByteArray.size_append]; omega)]
  by_cases ht : t.size = 0
  · have e : t ++ u = u := by
      have : t = ByteArray.empty := by
        apply ByteArray.ext
        exact Array.eq_empty_of_size_eq_zero ht
      rw [this]; simp
    rw [fl_empty l t ht, e, addText]
    split
    · rename_i x hx
      rw [if_neg (hl x hx)]
    · rename_i hx
      rw [List.getLast?_eq_none_iff] at hx
      rw [hx]; rfl
  · rw [fl_full l t ht, addText]
    simp
theorem drop_byte (s : ByteArray) (k : Nat) (h : k < s.size) : s.data.toList.drop k = s[k] :: s.data.toList.drop (k + 1) := by
  rw [List.drop_eq_getElem_cons (by rw [len_list]; exact h)]
  rfl
theorem piece_one (s : ByteArray) (k : Nat) (h : k < s.size) : s.extract k (k + 1) = oneByte s[k] := by
  apply ByteArray.ext
  apply Array.toList_inj.1
  rw [ByteArray.data_extract, Array.toList_extract]
  simp only [List.extract]
  rw [drop_byte s k h]
  simp [oneByte]
/-- An ordinary byte. -/
theorem step_byte (s : ByteArray) (k : Nat) (l : List Itm) (t : ByteArray) (h : k < s.size) (hl : noText l) (hc : s[k] ≠ 37) :
    parsV (s.data.toList.drop k) (fl l t) = parsV (s.data.toList.drop (k + 1)) (fl l (t ++ s.extract k (k + 1))) := by
  rw [drop_byte s k h, parsV_cons, if_neg hc, piece_one s k h, fl_add l t (oneByte s[k]) hl (show (1 : Nat) ≠ 0 by decide)]
/-- Two percent signs. -/
theorem step_two (s : ByteArray) (k : Nat) (l : List Itm) (t : ByteArray) (h : k + 1 < s.size) (hl : noText l) (hc : s[k] = 37) (hd : s[k + 1] = 37) :
    parsV (s.data.toList.drop k) (fl l t) = parsV (s.data.toList.drop (k + 2)) (fl l (t ++ ⟨#[37]⟩)) := by
  rw [drop_byte s k (by omega), parsV_cons, if_pos hc, drop_byte s (k + 1) h, if_pos (by rw [hd]; rfl), show oneByte 37 = ⟨#[37]⟩ from rfl, fl_add l t _ hl (by decide)]
  rfl
/-- A directive. -/
theorem step_one (s : ByteArray) (k : Nat) (l : List Itm) (h : k + 1 < s.size) (hc : s[k] = 37) (hd : s[k + 1] ≠ 37) :
    parsV (s.data.toList.drop k) l = if (oneV (s.data.toList.drop (k + 1))).2.2 = 0 then none
      else parsV (s.data.toList.drop (k + 1 + (oneV (s.data.toList.drop (k + 1))).2.2.toNat)) (l ++ [((oneV (s.data.toList.drop (k + 1))).1, (oneV (s.data.toList.drop (k + 1))).2.1, ⟨#[]⟩)]) := by
  rw [drop_byte s k (by omega), parsV_cons, if_pos hc, if_neg (by rw [drop_byte s (k + 1) h]; simp; exact hd), List.drop_drop]
/-- A percent sign at the end. -/
theorem step_end (s : ByteArray) (k : Nat) (l : List Itm) (h : k + 1 = s.size) (hc : s[k] = 37) : parsV (s.data.toList.drop k) l = none := by
  rw [drop_byte s k (by omega), parsV_cons, if_pos hc, List.drop_eq_nil_of_le (by rw [len_list]; omega), if_neg (by simp), if_pos (show (oneV []).2.2 = 0 from rfl)]
end Go.Proofs.YtiopcifglfocpaaDoor.X
