/- The walks through the calendar, continued. -/
import Derived.Test.YtddgfffempgghaaDoorW06
import Derived.Deep.RegionHeld3
import Derived.StillTailTactics
namespace Go.Proofs.YtddgfffempgghaaDoor.X
open Go.RowKit

theorem tquo (a b : Int) (hb : 1 ≤ b) :
    (Int.tmod a b < 0 → Int.tdiv a b - 1 = a / b ∧ Int.tmod a b + b = a % b) ∧ (0 ≤ Int.tmod a b → Int.tdiv a b = a / b ∧ Int.tmod a b = a % b) := by
  have h1 := Int.mul_tdiv_add_tmod a b
  have h2 := Int.tmod_lt_of_pos a (show 0 < b by omega)
  have h3 := Int.lt_tmod_of_pos a (show 0 < b by omega)
  constructor
  · intro h
    have h4 : b * (a.tdiv b - 1) = b * a.tdiv b - b := by rw [Int.mul_sub, Int.mul_one]
    have := (Int.ediv_emod_unique (a := a) (b := b) (q := a.tdiv b - 1) (r := a.tmod b + b) (by omega)).2 ⟨by omega, by omega, by omega⟩
    exact ⟨this.1.symm, this.2.symm⟩
  · intro h
    have := (Int.ediv_emod_unique (a := a) (b := b) (q := a.tdiv b) (r := a.tmod b) (by omega)).2 ⟨by omega, h, h2⟩
    exact ⟨this.1.symm, this.2.symm⟩
theorem tquo_bd (a b : Int) (hb : 1 ≤ b) (hb' : b ≤ 1000000000) (h0 : -1000000000000 ≤ a) (h1 : a ≤ 1000000000000) :
    -1000000000001 ≤ a.tdiv b ∧ a.tdiv b ≤ 1000000000001 ∧ -1000000000 ≤ a.tmod b ∧ a.tmod b ≤ 1000000000 := by
  have h2 := Int.tmod_lt_of_pos a (show 0 < b by omega)
  have h3 := Int.lt_tmod_of_pos a (show 0 < b by omega)
  have hq : a.natAbs / b.natAbs ≤ a.natAbs := Nat.div_le_self _ _
  have h4 : (a.tdiv b).natAbs = a.natAbs / b.natAbs := Int.natAbs_tdiv a b
  omega
set_option maxHeartbeats 400000 in
theorem floor_any (a b : Int) (w : World) (hb : 1 ≤ b) (hb' : b ≤ 1000000000) (h0 : -1000000000000 ≤ a) (h1 : a ≤ 1000000000000) :
    Calls Tryd.prog 59 #[.int .i64 a, .int .i64 b] w fun e w' => e = .returned (.tuple #[.int .i64 (a / b), .int .i64 (a % b)]) ∧ Below w.heap.size w w' := by
  have hb0 : (b == 0) = false := by rw [beq_eq_false_iff_ne]; omega
  obtain ⟨k1, k2, k3, k4⟩ := tquo_bd a b hb hb' h0 h1
  obtain ⟨q1, q2⟩ := tquo a b hb
  have Q1 := Lib.hid q1
  have Q2 := Lib.hid q2
  clear q1 q2
  go_enter Tryd.func59, Tryd.ntmps59
  go_wp2
  go_quiet (fail)
  go_wp2
  · go_ret2
    have h := Q1.out (by assumption)
    exact ⟨ret_two h.1 h.2, by repeat (first | exact Below.refl _ _ | refine Below.drew ?_ | refine below_drewN ?_ _)⟩
  · go_ret2
    have h := Q2.out (by assumption)
    exact ⟨ret_two h.1 h.2, by repeat (first | exact Below.refl _ _ | refine Below.drew ?_ | refine below_drewN ?_ _)⟩
set_option maxHeartbeats 400000 in
theorem number_of (y m d : Int) (w : World) (hy : -1000000 ≤ y) (hy' : y ≤ 1000000) (hm : 1 ≤ m) (hm' : m ≤ 12) (hd : -1000000000 ≤ d) (hd' : d ≤ 1000000000) :
    Calls Tryd.prog 50 #[.int .i64 y, .int .i64 m, .int .i64 d] w fun e w' => e = .returned (.int .i64 (dayNum y m d)) ∧ Below w.heap.size w w' := by
  have HN := Lib.hid (numberG_eq y m d hm hm')
  go_enter Tryd.func50, Tryd.ntmps50
  go_wp2_with fail
  refine (floor_any _ _ _ (by omega) (by omega) (by omega) (by omega)).mono ?_
  rintro e w1 ⟨rfl, hbel⟩
  obtain ⟨q, hq⟩ : ∃ q, q = (y - (14 - m) / 12) / 400 := ⟨_, rfl⟩
  obtain ⟨r, hr⟩ : ∃ r, r = (y - (14 - m) / 12) % 400 := ⟨_, rfl⟩
  rw [← hq, ← hr]
  have h1 : 0 ≤ r ∧ r ≤ 399 := by omega
  have h2 : -3000 ≤ q ∧ q ≤ 3000 := by omega
  obtain ⟨h1, h1'⟩ := h1
  obtain ⟨h2, h2'⟩ := h2
  have HQ := Lib.hid hq
  have HR := Lib.hid hr
  clear hq hr
  go_wp2
  go_ret
  refine ⟨ret_int ?_, hbel⟩
  have h := HN.out
  unfold numberG at h
  simp only at h
  rw [← HQ.out, ← HR.out] at h
  rw [← h]
def checkDate (y m d : Int) : Int := if d < 1 ∨ monthDays y m < d then 7 else if y < -9999 ∨ 9999 < y then 8 else 0
theorem monthDays_bd (y m : Int) : 0 ≤ monthDays y m ∧ monthDays y m ≤ 31 := by unfold monthDays; grind
set_option maxHeartbeats 400000 in
theorem checkDate_low (y m d : Int) (w : World) (hd : d < 1) :
    Calls Tryd.prog 49 #[.agg #[.int .i64 y, .int .i64 m, .int .i64 d]] w fun e w' => e = .returned (.int .i64 (checkDate y m d)) ∧ Below w.heap.size w w' := by
  have HC := Lib.hid (show checkDate y m d = 7 by rw [checkDate, if_pos (.inl hd)])
  go_enter Tryd.func49, Tryd.ntmps49
  go_wp2
  go_quiet (fail)
  go_wp2
  go_ret
  exact ⟨ret_int HC.out.symm, by repeat (first | exact Below.refl _ _ | refine Below.drew ?_ | refine below_drewN ?_ _ | refine Below.alloc ?_ (by simp) _)⟩
set_option maxHeartbeats 1000000 in
theorem checkDate_mid (y m d : Int) (w : World) (hd : 1 ≤ d) :
    Calls Tryd.prog 49 #[.agg #[.int .i64 y, .int .i64 m, .int .i64 d]] w fun e w' => e = .returned (.int .i64 (checkDate y m d)) ∧ Below w.heap.size w w' := by
  obtain ⟨k, hk⟩ : ∃ k, k = monthDays y m := ⟨_, rfl⟩
  have HC := Lib.hid (show checkDate y m d = if k < d then 7 else if y < -9999 ∨ 9999 < y then 8 else 0 by rw [checkDate, hk]; simp only [show ¬ d < 1 by omega, false_or])
  have HK := Lib.hid hk
  clear hk
  have hd0 : decide (d < 1) = false := decide_eq_false (by omega)
  go_enter Tryd.func49, Tryd.ntmps49
  go_wp2
  go_region_with (go_at_call 58; refine (monthDays_any _ _ _).mono ?_; rintro e w1 ⟨rfl, hbel⟩; rw [← HK.out]; obtain ⟨hc, hf⟩ := bcell hbel)
  all_goals
    have hB : Below w.heap.size w _ := ((Below.refl w.heap.size w).alloc (Nat.le_refl _) _).drew.trans (hbel.mono (B' := w.heap.size) (by simp))
    clear hbel
    go_wp2
  all_goals
    go_ret
    exact ⟨ret_int (by rw [HC.out]; grind), by repeat (first | exact hB | refine Below.drew ?_ | refine below_drewN ?_ _)⟩
theorem checkDate_any (y m d : Int) (w : World) :
    Calls Tryd.prog 49 #[.agg #[.int .i64 y, .int .i64 m, .int .i64 d]] w fun e w' => e = .returned (.int .i64 (checkDate y m d)) ∧ Below w.heap.size w w' := by
  by_cases hd : d < 1
  · exact checkDate_low y m d w hd
  · exact checkDate_mid y m d w (by omega)
def daysV (y m d : Int) : Int := if checkDate y m d = 0 then dayNum y m d else 0
theorem checkDate_ok (y m d : Int) (h : checkDate y m d = 0) : 1 ≤ m ∧ m ≤ 12 ∧ 1 ≤ d ∧ d ≤ 31 ∧ -9999 ≤ y ∧ y ≤ 9999 ∧ d ≤ monthDays y m := by
  have := monthDays_bd y m
  unfold checkDate at h
  have hm : m < 1 ∨ 12 < m → monthDays y m = 0 := fun h => by rw [monthDays, if_pos h]
  grind
set_option maxHeartbeats 400000 in
theorem days_any (y m d : Int) (w : World) :
    Calls Tryd.prog 38 #[.agg #[.int .i64 y, .int .i64 m, .int .i64 d]] w fun e w' => e = .returned (.tuple #[.int .i64 (daysV y m d), .int .i64 (checkDate y m d)]) ∧ Below w.heap.size w w' := by
  obtain ⟨k, hk⟩ : ∃ k, k = checkDate y m d := ⟨_, rfl⟩
  have hok := checkDate_ok y m d
  rw [← hk] at hok
  have HV := Lib.hid (show daysV y m d = if k = 0 then dayNum y m d else 0 by rw [daysV, hk])
  have HK := Lib.hid hk
  have HO := Lib.hid hok
  clear hk hok
  go_enter Tryd.func38, Tryd.ntmps38
  go_wp2_with fail
  refine (checkDate_any _ _ _ _).mono ?_
  rintro e w1 ⟨rfl, hbel⟩
  rw [← HK.out]
  obtain ⟨hc, hf⟩ := bcell hbel
  have hB : Below w.heap.size w w1 := ((Below.refl w.heap.size w).alloc (Nat.le_refl _) _).trans (hbel.mono (B' := w.heap.size) (by simp))
  by_cases hz : k = 0
  · obtain ⟨a1, a2, a3, a4, a5, a6, _⟩ := HO.out hz
    have hz' : (k != 0) = false := by rw [hz]; rfl
    have HZ := Lib.hid hz
    clear hz
    go_wp2_with (go_at_call 50; refine (number_of _ _ _ _ (by omega) (by omega) (by omega) (by omega) (by omega) (by omega)).mono ?_; rintro e w2 ⟨rfl, hbel2⟩)
    go_ret2
    exact ⟨ret_two (by rw [HV.out, if_pos HZ.out]) (by rw [← HK.out, HZ.out]), hB.trans (hbel2.mono hB.size)⟩
  · have hz' : (k != 0) = true := by simpa using hz
    have HZ := Lib.hid hz
    clear hz
    go_wp2
    go_ret2
    exact ⟨ret_two (by rw [HV.out, if_neg HZ.out]) HK.out, hB⟩
end Go.Proofs.YtddgfffempgghaaDoor.X
