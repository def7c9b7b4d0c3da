/- The walks through the calendar. -/
import Derived.Test.YtddgfffempgghaaDoorP06
import Derived.Test.YtddgfffempgghaaDoorW14g
namespace Go.Proofs.YtddgfffempgghaaDoor.X
open Go.RowKit

theorem tmod_iff (y k : Int) (_hk : k ≠ 0) : Int.tmod y k = 0 ↔ y % k = 0 :=
  ⟨fun h => Int.emod_eq_zero_of_dvd (Int.dvd_of_tmod_eq_zero h), fun h => Int.tmod_eq_zero_of_dvd (Int.dvd_of_emod_eq_zero h)⟩
theorem tmod4 (y : Int) : (Int.tmod y 4 == 0) = decide (y % 4 = 0) := by
  rw [Bool.eq_iff_iff, beq_iff_eq, decide_eq_true_eq, tmod_iff _ _ (by decide)]
theorem tmod100 (y : Int) : (Int.tmod y 100 == 0) = decide (y % 100 = 0) := by
  rw [Bool.eq_iff_iff, beq_iff_eq, decide_eq_true_eq, tmod_iff _ _ (by decide)]
theorem tmod400 (y : Int) : (Int.tmod y 400 == 0) = decide (y % 400 = 0) := by
  rw [Bool.eq_iff_iff, beq_iff_eq, decide_eq_true_eq, tmod_iff _ _ (by decide)]
theorem ret_bool {a b : Bool} (h : a = b) : Ending.returned (.bool a) = .returned (.bool b) := by rw [h]
set_option maxHeartbeats 400000 in
theorem leap_any (y : Int) (w : World) :
    Calls Tryd.prog 70 #[.int .i64 y] w fun e w' => e = .returned (.bool (leapB y)) ∧ w = w' := by
  obtain ⟨a, ha⟩ : ∃ a, a = decide (y % 4 = 0) := ⟨_, rfl⟩
  obtain ⟨b, hb⟩ : ∃ b, b = decide (y % 100 = 0) := ⟨_, rfl⟩
  obtain ⟨c, hc⟩ : ∃ c, c = decide (y % 400 = 0) := ⟨_, rfl⟩
  have e1 := tmod4 y
  have e2 := tmod100 y
  have e3 := tmod400 y
  rw [← ha] at e1
  rw [← hb] at e2
  rw [← hc] at e3
  have e4 : (Int.tmod y 100 != 0) = !b := by rw [← e2]; rfl
  have HL : Hid (leapB y = ((a && !b) || c)) := by
    show leapB y = _
    rw [ha, hb, hc, leapB, Bool.eq_iff_iff]; simp <;> omega
  clear ha hb hc
  go_enter Tryd.func70, Tryd.ntmps70
  cases a <;> cases b <;> cases c
  all_goals simp only [Bool.not_true, Bool.not_false] at e4
  all_goals go_wp2
  all_goals
    go_ret
    exact ⟨ret_bool (by rw [HL.out]; rfl), rfl⟩
set_option maxHeartbeats 400000 in
theorem refLeap_any (y : Int) (w : World) :
    Calls Tryd.prog 81 #[.int .i64 y] w fun e w' => e = .returned (.bool (leapB y)) ∧ w = w' := by
  obtain ⟨a, ha⟩ : ∃ a, a = decide (y % 4 = 0) := ⟨_, rfl⟩
  obtain ⟨b, hb⟩ : ∃ b, b = decide (y % 100 = 0) := ⟨_, rfl⟩
  obtain ⟨c, hc⟩ : ∃ c, c = decide (y % 400 = 0) := ⟨_, rfl⟩
  have e1 := tmod4 y
  have e2 := tmod100 y
  have e3 := tmod400 y
  rw [← ha] at e1
  rw [← hb] at e2
  rw [← hc] at e3
  have e4 : (Int.tmod y 100 != 0) = !b := by rw [← e2]; rfl
  have HL : Hid (leapB y = (a && (!b || c))) := by
    show leapB y = _
    rw [ha, hb, hc, leapB, Bool.eq_iff_iff]; simp <;> omega
  clear ha hb hc
  go_enter Tryd.func81, Tryd.ntmps81
  cases a <;> cases b <;> cases c
  all_goals simp only [Bool.not_true, Bool.not_false] at e4
  all_goals go_wp2
  all_goals
    go_ret
    exact ⟨ret_bool (by rw [HL.out]; rfl), rfl⟩

theorem refYearDays_any (y : Int) (w : World) :
    Calls Tryd.prog 80 #[.int .i64 y] w fun e w' => e = .returned (.int .i64 (yearDays y)) ∧ w = w' := by
  rcases leapB_cases y with ⟨h, _⟩ | ⟨h, _⟩
  all_goals
    have H := Lib.hid (show yearDays y = _ by rw [yearDays, h])
    go_enter Tryd.func80, Tryd.ntmps80
    go_wp2_with (go_at_call 81; refine (refLeap_any _ _).mono ?_; rintro e w1 ⟨rfl, rfl⟩; rw [h])
    go_ret
    exact ⟨ret_int H.out.symm, rfl⟩
set_option maxHeartbeats 400000 in
theorem refMonthDays_any (y m : Int) (w : World) :
    Calls Tryd.prog 74 #[.int .i64 y, .int .i64 m] w fun e w' => e = .returned (.int .i64 (monthDays y m)) ∧ w = w' := by
  have hc : m < 1 ∨ 12 < m ∨ m = 1 ∨ m = 2 ∨ m = 3 ∨ m = 4 ∨ m = 5 ∨ m = 6 ∨ m = 7 ∨ m = 8 ∨ m = 9 ∨ m = 10 ∨ m = 11 ∨ m = 12 := by omega
  rcases leapB_cases y with ⟨h, _⟩ | ⟨h, _⟩
  all_goals
    have H := Lib.hid (show monthDays y m = _ by rw [monthDays, h])
    rcases hc with hm | hm | rfl | rfl | rfl | rfl | rfl | rfl | rfl | rfl | rfl | rfl | rfl | rfl
    all_goals
      go_enter Tryd.func74, Tryd.ntmps74
      go_wp2_with (go_at_call 81; refine (refLeap_any _ _).mono ?_; rintro e w1 ⟨rfl, rfl⟩; rw [h])
      go_ret
      exact ⟨ret_int (by rw [H.out]; first | rfl | (rw [if_pos (by omega)])), rfl⟩
def MonthsIs (w : World) (e : Ending) (w' : World) : Prop :=
  e = .returned (.agg #[.int .i64 0, .int .i64 31, .int .i64 28, .int .i64 31, .int .i64 30, .int .i64 31, .int .i64 30, .int .i64 31, .int .i64 31, .int .i64 30, .int .i64 31, .int .i64 30, .int .i64 31]) ∧ Below w.heap.size w w'
set_option maxHeartbeats 400000 in
theorem months_any (w : World) : Calls Tryd.prog 71 #[] w (MonthsIs w) := by
  go_enter Tryd.func71, Tryd.ntmps71
  go_wp2
  exact bodyPost_ret (v := .agg #[.int .i64 0, .int .i64 31, .int .i64 28, .int .i64 31, .int .i64 30, .int .i64 31, .int .i64 30, .int .i64 31, .int .i64 31, .int .i64 30, .int .i64 31, .int .i64 30, .int .i64 31]) (by simp [results, Tryd.results71, go_sem]) rfl ⟨rfl, by repeat (first | exact Below.refl _ _ | refine Below.setCell ?_ (by simp) _ | refine Below.alloc ?_ (by simp) _)⟩
set_option maxHeartbeats 1000000 in
theorem monthDays_any (y m : Int) (w : World) :
    Calls Tryd.prog 58 #[.int .i64 y, .int .i64 m] w fun e w' => e = .returned (.int .i64 (monthDays y m)) ∧ Below w.heap.size w w' := by
  have i1 : ∀ w, (Instr.index 83 (.agg #[.int .i64 0, .int .i64 31, .int .i64 28, .int .i64 31, .int .i64 30, .int .i64 31, .int .i64 30, .int .i64 31, .int .i64 31, .int .i64 30, .int .i64 31, .int .i64 30, .int .i64 31]) (.int .i64 1)).run Tryd.prog w = .ok (.int .i64 31) w := fun _ => by kernel_rfl
  have i2 : ∀ w, (Instr.index 83 (.agg #[.int .i64 0, .int .i64 31, .int .i64 28, .int .i64 31, .int .i64 30, .int .i64 31, .int .i64 30, .int .i64 31, .int .i64 31, .int .i64 30, .int .i64 31, .int .i64 30, .int .i64 31]) (.int .i64 2)).run Tryd.prog w = .ok (.int .i64 28) w := fun _ => by kernel_rfl
  have i3 : ∀ w, (Instr.index 83 (.agg #[.int .i64 0, .int .i64 31, .int .i64 28, .int .i64 31, .int .i64 30, .int .i64 31, .int .i64 30, .int .i64 31, .int .i64 31, .int .i64 30, .int .i64 31, .int .i64 30, .int .i64 31]) (.int .i64 3)).run Tryd.prog w = .ok (.int .i64 31) w := fun _ => by kernel_rfl
  have i4 : ∀ w, (Instr.index 83 (.agg #[.int .i64 0, .int .i64 31, .int .i64 28, .int .i64 31, .int .i64 30, .int .i64 31, .int .i64 30, .int .i64 31, .int .i64 31, .int .i64 30, .int .i64 31, .int .i64 30, .int .i64 31]) (.int .i64 4)).run Tryd.prog w = .ok (.int .i64 30) w := fun _ => by kernel_rfl
  have i5 : ∀ w, (Instr.index 83 (.agg #[.int .i64 0, .int .i64 31, .int .i64 28, .int .i64 31, .int .i64 30, .int .i64 31, .int .i64 30, .int .i64 31, .int .i64 31, .int .i64 30, .int .i64 31, .int .i64 30, .int .i64 31]) (.int .i64 5)).run Tryd.prog w = .ok (.int .i64 31) w := fun _ => by kernel_rfl
  have i6 : ∀ w, (Instr.index 83 (.agg #[.int .i64 0, .int .i64 31, .int .i64 28, .int .i64 31, .int .i64 30, .int .i64 31, .int .i64 30, .int .i64 31, .int .i64 31, .int .i64 30, .int .i64 31, .int .i64 30, .int .i64 31]) (.int .i64 6)).run Tryd.prog w = .ok (.int .i64 30) w := fun _ => by kernel_rfl
  have i7 : ∀ w, (Instr.index 83 (.agg #[.int .i64 0, .int .i64 31, .int .i64 28, .int .i64 31, .int .i64 30, .int .i64 31, .int .i64 30, .int .i64 31, .int .i64 31, .int .i64 30, .int .i64 31, .int .i64 30, .int .i64 31]) (.int .i64 7)).run Tryd.prog w = .ok (.int .i64 31) w := fun _ => by kernel_rfl
  have i8 : ∀ w, (Instr.index 83 (.agg #[.int .i64 0, .int .i64 31, .int .i64 28, .int .i64 31, .int .i64 30, .int .i64 31, .int .i64 30, .int .i64 31, .int .i64 31, .int .i64 30, .int .i64 31, .int .i64 30, .int .i64 31]) (.int .i64 8)).run Tryd.prog w = .ok (.int .i64 31) w := fun _ => by kernel_rfl
  have i9 : ∀ w, (Instr.index 83 (.agg #[.int .i64 0, .int .i64 31, .int .i64 28, .int .i64 31, .int .i64 30, .int .i64 31, .int .i64 30, .int .i64 31, .int .i64 31, .int .i64 30, .int .i64 31, .int .i64 30, .int .i64 31]) (.int .i64 9)).run Tryd.prog w = .ok (.int .i64 30) w := fun _ => by kernel_rfl
  have i10 : ∀ w, (Instr.index 83 (.agg #[.int .i64 0, .int .i64 31, .int .i64 28, .int .i64 31, .int .i64 30, .int .i64 31, .int .i64 30, .int .i64 31, .int .i64 31, .int .i64 30, .int .i64 31, .int .i64 30, .int .i64 31]) (.int .i64 10)).run Tryd.prog w = .ok (.int .i64 31) w := fun _ => by kernel_rfl
  have i11 : ∀ w, (Instr.index 83 (.agg #[.int .i64 0, .int .i64 31, .int .i64 28, .int .i64 31, .int .i64 30, .int .i64 31, .int .i64 30, .int .i64 31, .int .i64 31, .int .i64 30, .int .i64 31, .int .i64 30, .int .i64 31]) (.int .i64 11)).run Tryd.prog w = .ok (.int .i64 30) w := fun _ => by kernel_rfl
  have i12 : ∀ w, (Instr.index 83 (.agg #[.int .i64 0, .int .i64 31, .int .i64 28, .int .i64 31, .int .i64 30, .int .i64 31, .int .i64 30, .int .i64 31, .int .i64 31, .int .i64 30, .int .i64 31, .int .i64 30, .int .i64 31]) (.int .i64 12)).run Tryd.prog w = .ok (.int .i64 31) w := fun _ => by kernel_rfl
  have hc : m < 1 ∨ 12 < m ∨ m = 1 ∨ m = 2 ∨ m = 3 ∨ m = 4 ∨ m = 5 ∨ m = 6 ∨ m = 7 ∨ m = 8 ∨ m = 9 ∨ m = 10 ∨ m = 11 ∨ m = 12 := by omega
  rcases leapB_cases y with ⟨h, _⟩ | ⟨h, _⟩
  all_goals
    have H := Lib.hid (show monthDays y m = _ by rw [monthDays, h])
    have hbel := Below.refl w.heap.size w
    rcases hc with hm | hm | rfl | rfl | rfl | rfl | rfl | rfl | rfl | rfl | rfl | rfl | rfl | rfl
    all_goals
      go_enter Tryd.func58, Tryd.ntmps58
      go_wp2_with (first | (go_at_call 70; refine (leap_any _ _).mono ?_; rintro e w1 ⟨rfl, rfl⟩; rw [h]) | (go_at_call 71; refine (months_any _).mono ?_; rintro e w1 ⟨rfl, hbel⟩))
      go_ret
      exact ⟨ret_int (by rw [H.out]; first | rfl | (rw [if_pos (by omega)])), hbel⟩
end Go.Proofs.YtddgfffempgghaaDoor.X
