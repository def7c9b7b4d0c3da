/- Plain laws: moments. -/
import Derived.Test.YtddgfffempgghaaDoorW08
namespace Go.Proofs.YtddgfffempgghaaDoor.X
open Go.RowKit

/-- The fields of a moment's text. -/
def fldAt : Nat → Nat := fun j => if j = 0 then 0 else 3 * j + 2
def fldLen : Nat → Nat := fun j => if j = 0 then 4 else 2
def fld (t : List UInt8) (j : Nat) : Int := valL ((t.drop (fldAt j)).take (fldLen j)) 0
def momShape (t : List UInt8) : Bool := decide (t.length = 19 ∧ t.getD 4 0 = 45 ∧ t.getD 7 0 = 45 ∧ t.getD 10 0 = 84 ∧ t.getD 13 0 = 58 ∧ t.getD 16 0 = 58)
def momFlds (t : List UInt8) : Bool := decide (0 ≤ fld t 0 ∧ 0 ≤ fld t 1 ∧ 0 ≤ fld t 2 ∧ 0 ≤ fld t 3 ∧ 0 ≤ fld t 4 ∧ 0 ≤ fld t 5)
def momY (l : List UInt8) : Int := if numNeg l = true then - fld (numRest l) 0 else fld (numRest l) 0
def momOk (l : List UInt8) : Bool := momShape (numRest l) && (momFlds (numRest l) && !(numNeg l && decide (fld (numRest l) 0 = 0)))
def momE (l : List UInt8) : Int := if momOk l = true then civilE (momY l) (fld (numRest l) 1) (fld (numRest l) 2) (fld (numRest l) 3) (fld (numRest l) 4) (fld (numRest l) 5) 0 else 2
def momV (l : List UInt8) : Int := if momOk l = true then civilV (momY l) (fld (numRest l) 1) (fld (numRest l) 2) (fld (numRest l) 3) (fld (numRest l) 4) (fld (numRest l) 5) 0 else 0
theorem fld_bd (t : List UInt8) (j : Nat) : -1 ≤ fld t j ∧ fld t j ≤ 9999 := by
  have h1 := valL_bd ((t.drop (fldAt j)).take (fldLen j)) 0 (by omega)
  have h2 := valL_lt ((t.drop (fldAt j)).take (fldLen j)) 0 0 (by omega) (by decide)
  have h3 : ((t.drop (fldAt j)).take (fldLen j)).length ≤ 4 := by
    refine Nat.le_trans (List.length_take_le _ _) ?_
    unfold fldLen; split <;> omega
  have h4 : 10 ^ (((t.drop (fldAt j)).take (fldLen j)).length + 0) ≤ 10 ^ 4 := Nat.pow_le_pow_right (by omega) (by omega)
  unfold fld
  omega
theorem digV_fld (t : ByteArray) (j a b : Nat) (h19 : t.size = 19) (ha : a = fldAt j) (hb : b = fldAt j + fldLen j) (hj : b ≤ 19) : digV (t.extract a b) = fld t.data.toList j ∧ (t.extract a b).size ≤ 19 := by
  have hz : (t.extract a b).data.toList = (t.data.toList.drop (fldAt j)).take (fldLen j) := by
    rw [Lib.extract_data, ha, hb, Nat.add_sub_cancel_left]
  have hl : (t.extract a b).data.toList.length = fldLen j := by
    rw [hz, List.length_take, List.length_drop, len_data, h19]; omega
  have hf : 2 ≤ fldLen j ∧ fldLen j ≤ 4 := by unfold fldLen; split <;> omega
  have hl' := len_data (t.extract a b)
  refine ⟨?_, by omega⟩
  rw [digV, if_neg (by omega), digL_eq _ 0 0 (by omega) (by omega) (by decide), hz, fld]

/-- A row of six numbers in memory. -/
def Arr6 (B : Nat) (f : Nat → Int) (wr : World) : Prop :=
  (∀ j, j < 6 → wr.cell? ⟨B, j, none⟩ = some (.int .i64 (f j))) ∧ (∀ j, wr.frozen? ⟨B, j, none⟩ = false) ∧ B < wr.heap.size
theorem Arr6.below {B : Nat} {f : Nat → Int} {w w1 : World} (h : Arr6 B f w) (hb : Below w.heap.size w w1) : Arr6 B f w1 :=
  ⟨fun j hj => (hb.cell (p := ⟨B, j, none⟩) h.2.2).trans (h.1 j hj), fun j => (hb.frozen (p := ⟨B, j, none⟩) h.2.2).trans (h.2.1 j), Nat.lt_of_lt_of_le h.2.2 hb.size⟩
theorem Arr6.set {B : Nat} {f : Nat → Int} {w : World} (h : Arr6 B f w) (k : Nat) (hk : k < 6) (v : Int) : Arr6 B (fun j => if j = k then v else f j) (w.setCell ⟨B, k, none⟩ (.int .i64 v)) := by
  refine ⟨fun j hj => ?_, fun j => ?_, by simpa using h.2.2⟩
  · by_cases hjk : j = k
    · subst hjk
      rw [World.cell?_setCell_same (h := h.1 j hk)]; simp
    · rw [World.cell?_setCell_other (h := by intro he; injection he; omega), h.1 j hj]; simp [hjk]
  · have := h.2.1 j
    simpa using this
end Go.Proofs.YtddgfffempgghaaDoor.X
