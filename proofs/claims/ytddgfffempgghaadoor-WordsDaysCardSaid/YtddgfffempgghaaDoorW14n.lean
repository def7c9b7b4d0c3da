/- The walk through the reference's Moment. -/
import Derived.Test.YtddgfffempgghaaDoorW14m
namespace Go.Proofs.YtddgfffempgghaaDoor.X
open Go.RowKit

theorem digAt (t : ByteArray) (j : Nat) (a l : Int) (W : World) (h19 : t.size = 19) (ha : a = fldAt j) (hl : l = fldLen j) (hj : fldAt j + fldLen j ≤ 19) :
    Calls Tryd.prog 35 #[.string t, .int .i64 a, .int .i64 l] W fun e w' => e = .returned (.int .i64 (fld t.data.toList j)) ∧ W = w' := by
  have hf : fldLen j ≤ 4 := by unfold fldLen; split <;> omega
  have h := refDigits_at t a l W (by omega) (by omega) (by omega) (by omega) (by unfold maxLen; omega)
  rw [show a.toNat = fldAt j by omega, show l.toNat = fldLen j by omega] at h
  exact h
set_option maxHeartbeats 2000000 in
theorem refMoment_bad_pos (s : ByteArray) (w : World) (_hs : s.size ≤ maxLen) (h0 : 0 < s.size) (hc : ((s[0].toNat : Int) == 45) = false) (h : momShape (numRest s.data.toList) = false) :
    Calls Tryd.prog 23 #[.string s] w fun e w' => e = .returned (.tuple #[.int .i64 (momV s.data.toList), .int .i64 (momE s.data.toList)]) ∧ Below w.heap.size w w' := by
  have HV := Lib.hid (show momV s.data.toList = 0 by rw [momV, momOk, h]; rfl)
  have HE := Lib.hid (show momE s.data.toList = 2 by rw [momE, momOk, h]; rfl)
  have hnb := neg_byte s h0
  rw [hc] at hnb
  have hrest : s.data.toList = numRest s.data.toList := by rw [numRest, if_neg (by rw [hnb]; decide)]
  rw [← hrest] at h
  have HB := Lib.hid hnb
  have HT := Lib.hid hrest
  clear hnb hrest
  by_cases h19 : s.size = 19
  · have hz : (s.size : Int) = 19 := by omega
    have k4 : 4 < s.size := by omega
    have k7 : 7 < s.size := by omega
    have k10 : 10 < s.size := by omega
    have k13 : 13 < s.size := by omega
    have k16 : 16 < s.size := by omega
    have hsep := shape_sep s h19 k4 k7 k10 k13 k16
    rw [h] at hsep
    have HS := Lib.hid hsep
    clear h h19 hsep
    go_enter Tryd.func23, Tryd.ntmps23
    go_wp2_with fail
    all_goals first
      | (go_ret2; exact ⟨ret_two HV.out.symm HE.out.symm, Below.refl _ _⟩)
      | (exfalso; have := HS.out; grind)
  · have h19' : ((s.size : Int) != 19) = true := by simp; omega
    clear h19 h
    go_enter Tryd.func23, Tryd.ntmps23
    go_wp2_with fail
    go_ret2
    exact ⟨ret_two HV.out.symm HE.out.symm, Below.refl _ _⟩
set_option maxHeartbeats 2000000 in
theorem refMoment_bad_neg (s : ByteArray) (w : World) (hs : s.size ≤ maxLen) (h0 : 0 < s.size) (hc : ((s[0].toNat : Int) == 45) = true) (h : momShape (numRest s.data.toList) = false) :
    Calls Tryd.prog 23 #[.string s] w fun e w' => e = .returned (.tuple #[.int .i64 (momV s.data.toList), .int .i64 (momE s.data.toList)]) ∧ Below w.heap.size w w' := by
  have HV := Lib.hid (show momV s.data.toList = 0 by rw [momV, momOk, h]; rfl)
  have HE := Lib.hid (show momE s.data.toList = 2 by rw [momE, momOk, h]; rfl)
  unfold maxLen at hs
  have hnb := neg_byte s h0
  rw [hc] at hnb
  have hrest : (s.extract 1 s.size).data.toList = numRest s.data.toList := by rw [numRest, if_pos hnb, cut_front]
  have hsz : (s.extract 1 s.size).size = s.size - 1 := cut_size s
  rw [← hrest] at h
  have HB := Lib.hid hnb
  have HT := Lib.hid hrest
  clear hnb hrest
  by_cases h19 : (s.extract 1 s.size).size = 19
  · have hz : (s.size : Int) = 20 := by omega
    have k4 : 4 < (s.extract 1 s.size).size := by omega
    have k7 : 7 < (s.extract 1 s.size).size := by omega
    have k10 : 10 < (s.extract 1 s.size).size := by omega
    have k13 : 13 < (s.extract 1 s.size).size := by omega
    have k16 : 16 < (s.extract 1 s.size).size := by omega
    have hsep := shape_sep (s.extract 1 s.size) h19 k4 k7 k10 k13 k16
    rw [h] at hsep
    have HS := Lib.hid hsep
    clear h h19 hsep
    go_enter Tryd.func23, Tryd.ntmps23
    go_wp2_with fail
    all_goals first
      | (go_ret2; exact ⟨ret_two HV.out.symm HE.out.symm, Below.refl _ _⟩)
      | (exfalso; have := HS.out; grind)
  · have hsz2 : (((s.size - 1 : Nat) : Int) != 19) = true := by simp; omega
    clear h19 h
    go_enter Tryd.func23, Tryd.ntmps23
    go_wp2_with fail
    go_ret2
    exact ⟨ret_two HV.out.symm HE.out.symm, Below.refl _ _⟩
end Go.Proofs.YtddgfffempgghaaDoor.X
