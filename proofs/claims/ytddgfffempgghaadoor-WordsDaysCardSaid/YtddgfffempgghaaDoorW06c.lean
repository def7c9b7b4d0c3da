/- The walks through the reference's calendar. -/
import Derived.Test.YtddgfffempgghaaDoorW06b
namespace Go.Proofs.YtddgfffempgghaaDoor.X
open Go.RowKit

def mayDate (y m d : Int) : Bool := decide (1 ≤ d ∧ d ≤ monthDays y m)
set_option maxHeartbeats 400000 in
theorem refMay_any (y m d : Int) (w : World) :
    Calls Tryd.prog 72 #[.agg #[.int .i64 y, .int .i64 m, .int .i64 d]] w fun e w' => e = .returned (.bool (mayDate y m d)) ∧ Below w.heap.size w w' := by
  by_cases hd : 1 ≤ d
  · have HC := Lib.hid (show mayDate y m d = decide (d ≤ monthDays y m) by rw [mayDate, Bool.eq_iff_iff]; simp [hd])
    have hd0 : decide (d < 1) = false := decide_eq_false (by omega)
    have hd1 : decide (1 ≤ d) = true := decide_eq_true hd
    go_enter Tryd.func72, Tryd.ntmps72
    go_wp2
    go_quiet ((go_at_call 74; exact Calls.quiet_of_same ((refMonthDays_any _ _ _).mono fun _ _ ⟨a, b⟩ => ⟨a, b.symm⟩)))
    go_wp2
    go_ret
    exact ⟨ret_bool (by rw [HC.out]), by repeat (first | exact Below.refl _ _ | exact hB | refine Below.drew ?_ | refine below_drewN ?_ _ | refine Below.alloc ?_ (by simp) _)⟩
  · have HC := Lib.hid (show mayDate y m d = false by rw [mayDate]; exact decide_eq_false (by omega))
    have hd1 : decide (1 ≤ d) = false := decide_eq_false hd
    go_enter Tryd.func72, Tryd.ntmps72
    go_wp2
    go_quiet (fail)
    go_wp2
    go_ret
    exact ⟨ret_bool HC.out.symm, by repeat (first | exact Below.refl _ _ | exact hB | refine Below.drew ?_ | refine below_drewN ?_ _ | refine Below.alloc ?_ (by simp) _)⟩
set_option maxHeartbeats 400000 in
theorem refCheckDate_any (y m d : Int) (w : World) :
    Calls Tryd.prog 61 #[.agg #[.int .i64 y, .int .i64 m, .int .i64 d]] w fun e w' => e = .returned (.int .i64 (checkDate y m d)) ∧ Below w.heap.size w w' := by
  obtain ⟨b, hb⟩ : ∃ b, b = mayDate y m d := ⟨_, rfl⟩
  have HC := Lib.hid (show checkDate y m d = if b = false then 7 else if y < -9999 ∨ 9999 < y then 8 else 0 by rw [checkDate, hb, mayDate]; grind)
  have HB := Lib.hid hb
  clear hb
  cases b
  all_goals
    go_enter Tryd.func61, Tryd.ntmps61
    go_wp2_with fail
    refine (refMay_any _ _ _ _).mono ?_
    rintro e w1 ⟨rfl, hbel⟩
    rw [← HB.out]
    obtain ⟨hc, hf⟩ := bcell hbel
    have hB : Below w.heap.size w w1 := ((Below.refl w.heap.size w).alloc (Nat.le_refl _) _).trans (hbel.mono (B' := w.heap.size) (by simp))
    clear hbel
    go_wp2
  all_goals
    go_ret
    exact ⟨ret_int (by rw [HC.out]; grind), hB⟩
set_option maxHeartbeats 400000 in
theorem start_any (y : Int) (w : World) (h0 : -10400 ≤ y) (h1 : y ≤ 10400) :
    Calls Tryd.prog 73 #[.int .i64 y] w fun e w' => e = .returned (.int .i64 (jan1 y)) ∧ w = w' := by
  have HJ := Lib.hid (show ∀ a : Int, -12000 ≤ a → a ≤ 12000 → -10000000 ≤ jan1 a ∧ jan1 a ≤ 10000000 from fun a h h' => by unfold jan1; omega)
  go_enter Tryd.func73, Tryd.ntmps73
  go_wp2_with fail
  go_loop [3, 4] (fun n a => ∃ k : Int, 2000 ≤ k ∧ k ≤ 11000 ∧ a = .int .i64 k ∧ n = .int .i64 (jan1 k)) (fun _ a => (11000 - intOf a).toNat)
  case atStart => exact ⟨2000, by omega, by omega, rfl, by rw [jan1_2000]⟩
  case round =>
    obtain ⟨k, hk0, hk1, rfl, rfl⟩ := hrel
    obtain ⟨j0, j1⟩ := HJ.out k (by omega) (by omega)
    by_cases hlt : k + 400 ≤ y
    · go_wp2
      go_round
      case rel => exact ⟨k + 400, by omega, by omega, rfl, by rw [jan1_cycle]⟩
      case measure => simp [intOf]; omega
    · go_wp2_with fail
      go_loop [3, 4] (fun n a => ∃ k : Int, -10900 ≤ k ∧ k ≤ 11000 ∧ a = .int .i64 k ∧ n = .int .i64 (jan1 k)) (fun _ a => (intOf a + 10900).toNat)
      case atStart => exact ⟨k, by omega, by omega, rfl, rfl⟩
      case round =>
        clear hlt hk0 hk1 j0 j1
        obtain ⟨k, hk0, hk1, rfl, rfl⟩ := hrel
        obtain ⟨j0, j1⟩ := HJ.out k (by omega) (by omega)
        by_cases hlt : y < k
        · have hj : jan1 (k - 400) = jan1 k - 146097 := by have := jan1_cycle (k - 400); rw [show k - 400 + 400 = k by omega] at this; omega
          have HJ2 := Lib.hid hj
          clear hj
          go_wp2
          go_round
          case rel => exact ⟨k - 400, by omega, by omega, rfl, by rw [HJ2.out]⟩
          case measure => simp [intOf]; omega
        · go_wp2_with fail
          go_loop [3, 4] (fun n a => ∃ k : Int, -10900 ≤ k ∧ k ≤ y ∧ a = .int .i64 k ∧ n = .int .i64 (jan1 k)) (fun _ a => (10400 - intOf a).toNat)
          case atStart => exact ⟨k, by omega, by omega, rfl, rfl⟩
          case round =>
            clear hlt hk0 hk1 j0 j1
            obtain ⟨k, hk0, hk1, rfl, rfl⟩ := hrel
            obtain ⟨j0, j1⟩ := HJ.out k (by omega) (by omega)
            by_cases hlt : k < y
            · have HN := Lib.hid (jan1_next k)
              have hyd : 0 ≤ yearDays k ∧ yearDays k ≤ 366 := by unfold yearDays; split <;> omega
              obtain ⟨y0, y1⟩ := hyd
              go_wp2_with (go_at_call 80; refine (refYearDays_any _ _).mono ?_; rintro e w1 ⟨rfl, rfl⟩)
              go_round
              case rel => exact ⟨k + 1, by omega, by omega, rfl, by rw [HN.out]⟩
              case measure => simp [intOf]; omega
            · have hke : k = y := by omega
              have HE := Lib.hid hke
              clear hke
              go_wp2
              go_ret
              exact ⟨ret_int (by rw [HE.out]), rfl⟩
set_option maxHeartbeats 400000 in
theorem refNumber06 (y m d : Int) (w : World) (h0 : -10400 ≤ y) (h1 : y ≤ 10400) (hm : 1 ≤ m) (hm' : m ≤ 12) (hd : -1000000 ≤ d) (hd' : d ≤ 1000000) :
    Calls Tryd.prog 62 #[.agg #[.int .i64 y, .int .i64 m, .int .i64 d]] w fun e w' => e = .returned (.int .i64 (dayNum y m d)) ∧ Below w.heap.size w w' := by
  have hj : -10000000 ≤ jan1 y ∧ jan1 y ≤ 10000000 := by unfold jan1; omega
  obtain ⟨j0, j1⟩ := hj
  go_enter Tryd.func62, Tryd.ntmps62
  go_wp2_with (go_at_call 73; refine (start_any _ _ h0 h1).mono ?_; rintro e w1 ⟨rfl, rfl⟩)
  go_loop [3, 4] (fun n a => ∃ k : Int, 1 ≤ k ∧ k ≤ m ∧ a = .int .i64 k ∧ n = .int .i64 (jan1 y + cum y k)) (fun _ a => (12 - intOf a).toNat)
  case atStart => exact ⟨1, by omega, by omega, rfl, by rw [show cum y 1 = 0 from rfl, Int.add_zero]⟩
  case round =>
    obtain ⟨k, hk0, hk1, rfl, rfl⟩ := hrel
    obtain ⟨cb0, cb1⟩ := cum_bd y k hk0 (by omega)
    obtain ⟨mb0, mb1⟩ := monthDays_bd y k
    by_cases hlt : k < m
    · have HN := Lib.hid (cum_next y k hk0 (by omega))
      go_wp2_with (go_at_call 74; refine (refMonthDays_any _ _ _).mono ?_; rintro e w1 ⟨rfl, rfl⟩)
      go_round
      case rel => exact ⟨k + 1, by omega, by omega, rfl, by rw [HN.out, Int.add_assoc]⟩
      case measure => simp [intOf]; omega
    · have hke : k = m := by omega
      have HE := Lib.hid hke
      clear hke
      go_wp2
      go_ret
      exact ⟨ret_int (by rw [dayNum, HE.out]), by repeat (first | exact Below.refl _ _ | exact hB | refine Below.drew ?_ | refine below_drewN ?_ _ | refine Below.alloc ?_ (by simp) _)⟩
def checkClock (h m s n : Int) : Int := if h < 0 ∨ 23 < h ∨ m < 0 ∨ 59 < m ∨ s < 0 ∨ 59 < s ∨ n < 0 ∨ 1000000000 ≤ n then 5 else 0
set_option maxHeartbeats 1000000 in
theorem refCheckClock_any (h m s n : Int) (w : World) :
    Calls Tryd.prog 60 #[.agg #[.int .i64 h, .int .i64 m, .int .i64 s, .int .i64 n]] w fun e w' => e = .returned (.int .i64 (checkClock h m s n)) ∧ Below w.heap.size w w' := by
  have HC := Lib.hid (show checkClock h m s n = if h < 0 ∨ 23 < h ∨ m < 0 ∨ 59 < m ∨ s < 0 ∨ 59 < s ∨ n < 0 ∨ 1000000000 ≤ n then 5 else 0 from rfl)
  go_enter Tryd.func60, Tryd.ntmps60
  go_wp2
  all_goals
    go_ret
    exact ⟨ret_int (by rw [HC.out]; first | rw [if_pos (by omega)] | rw [if_neg (by omega)]), by repeat (first | exact Below.refl _ _ | exact hB | refine Below.drew ?_ | refine below_drewN ?_ _ | refine Below.alloc ?_ (by simp) _)⟩
set_option maxHeartbeats 400000 in
theorem refSecs08 (h m s n : Int) (w : World) (h0 : 0 ≤ h ∧ h ≤ 23) (m0 : 0 ≤ m ∧ m ≤ 59) (s0 : 0 ≤ s ∧ s ≤ 59) :
    Calls Tryd.prog 63 #[.agg #[.int .i64 h, .int .i64 m, .int .i64 s, .int .i64 n]] w fun e w' => e = .returned (.int .i64 (3600 * h + 60 * m + s)) ∧ Below w.heap.size w w' := by
  obtain ⟨h0, h1⟩ := h0
  obtain ⟨m0, m1⟩ := m0
  obtain ⟨s0, s1⟩ := s0
  go_enter Tryd.func63, Tryd.ntmps63
  go_wp2
  go_ret
  exact ⟨rfl, by repeat (first | exact Below.refl _ _ | exact hB | refine Below.drew ?_ | refine below_drewN ?_ _ | refine Below.alloc ?_ (by simp) _)⟩
def checkCivil (y mo d h m s n : Int) : Int := if checkClock h m s n ≠ 0 then checkClock h m s n else checkDate y mo d
set_option maxHeartbeats 1000000 in
theorem refCheckCivil_any (y mo d h m s n : Int) (w : World) :
    Calls Tryd.prog 51 #[.agg #[.int .i64 y, .int .i64 mo, .int .i64 d, .int .i64 h, .int .i64 m, .int .i64 s, .int .i64 n]] w fun e w' => e = .returned (.int .i64 (checkCivil y mo d h m s n)) ∧ Below w.heap.size w w' := by
  obtain ⟨k, hk⟩ : ∃ k, k = checkClock h m s n := ⟨_, rfl⟩
  have HC := Lib.hid (show checkCivil y mo d h m s n = if k ≠ 0 then k else checkDate y mo d by rw [checkCivil, hk])
  have HK := Lib.hid hk
  clear hk
  go_enter Tryd.func51, Tryd.ntmps51
  go_wp2_with fail
  refine (refCheckClock_any _ _ _ _ _).mono ?_
  rintro e w1 ⟨rfl, hbel⟩
  rw [← HK.out]
  obtain ⟨hc, hf⟩ := bcell hbel
  have hB : Below w.heap.size w w1 := ((Below.refl w.heap.size w).alloc (Nat.le_refl _) _).trans (hbel.mono (B' := w.heap.size) (by simp))
  clear hbel
  go_wp2_with fail
  · go_ret
    exact ⟨ret_int (by rw [HC.out]; grind), hB⟩
  · refine (refCheckDate_any _ _ _ _).mono ?_
    rintro e w2 ⟨rfl, hbel⟩
    have hB2 : Below w.heap.size w w2 := hB.trans (hbel.mono hB.size)
    go_wp2
    go_ret
    exact ⟨ret_int (by rw [HC.out]; grind), hB2⟩
def civilNum (y mo d h m s : Int) : Int := dayNum y mo d * 86400 + (3600 * h + 60 * m + s)
theorem dayNum_bd (y m d : Int) (h0 : -10400 ≤ y) (h1 : y ≤ 10400) (hm : 1 ≤ m) (hm' : m ≤ 12) (hd : -1000000 ≤ d) (hd' : d ≤ 1000000) : -100000000 ≤ dayNum y m d ∧ dayNum y m d ≤ 100000000 := by
  have hj : -10000000 ≤ jan1 y ∧ jan1 y ≤ 10000000 := by unfold jan1; omega
  have hcb := cum_bd y m hm hm'
  unfold dayNum
  omega
theorem below_next {w W w1 : World} (hB : Below w.heap.size w W) (h : Below W.heap.size W w1) : Below w.heap.size w w1 := hB.trans (h.mono hB.size)
set_option maxHeartbeats 1000000 in
theorem refNumber09 (y mo d h m s n : Int) (w : World) (y0 : -10400 ≤ y ∧ y ≤ 10400) (mo0 : 1 ≤ mo ∧ mo ≤ 12) (d0 : 1 ≤ d ∧ d ≤ 31) (h0 : 0 ≤ h ∧ h ≤ 23) (m0 : 0 ≤ m ∧ m ≤ 59) (s0 : 0 ≤ s ∧ s ≤ 59) :
    Calls Tryd.prog 52 #[.agg #[.int .i64 y, .int .i64 mo, .int .i64 d, .int .i64 h, .int .i64 m, .int .i64 s, .int .i64 n]] w fun e w' => e = .returned (.int .i64 (civilNum y mo d h m s)) ∧ Below w.heap.size w w' := by
  obtain ⟨b0, b1⟩ := dayNum_bd y mo d (by omega) (by omega) (by omega) (by omega) (by omega) (by omega)
  obtain ⟨a, ha⟩ : ∃ a, a = dayNum y mo d := ⟨_, rfl⟩
  obtain ⟨b, hb⟩ : ∃ b, b = 3600 * h + 60 * m + s := ⟨_, rfl⟩
  rw [← ha] at b0 b1
  have c0 : 0 ≤ b := by omega
  have c1 : b ≤ 100000 := by omega
  have C1 := Lib.hid (fun W => refNumber06 y mo d W (by omega) (by omega) (by omega) (by omega) (by omega) (by omega))
  have C2 := Lib.hid (fun W => refSecs08 h m s n W h0 m0 s0)
  rw [← ha] at C1
  rw [← hb] at C2
  have HV := Lib.hid (show civilNum y mo d h m s = a * 86400 + b by rw [civilNum, ha, hb])
  clear ha hb y0 mo0 d0 h0 m0 s0
  go_enter Tryd.func52, Tryd.ntmps52
  go_wp2
  have hB := (Below.refl w.heap.size w).alloc (Nat.le_refl _) (.cells #[.int .i64 y, .int .i64 mo, .int .i64 d, .int .i64 h, .int .i64 m, .int .i64 s, .int .i64 n] 62)
  go_region_with (first | (go_at_call 62; refine (C1.out _).mono ?_; rintro e w1 ⟨rfl, hbel⟩; obtain ⟨hc, hf⟩ := bcell hbel; (first | have hB' := below_next hB.drew hbel | have hB' := below_next hB hbel | have hB' := below_next hB.drew.drew hbel); clear hB; have hB := hB'; clear hB'; clear hbel) | (go_at_call 63; refine (C2.out _).mono ?_; rintro e w1 ⟨rfl, hbel⟩; obtain ⟨hc, hf⟩ := bcell hbel; (first | have hB' := below_next hB.drew hbel | have hB' := below_next hB hbel | have hB' := below_next hB.drew.drew hbel); clear hB; have hB := hB'; clear hB'; clear hbel))
  all_goals
    go_wp2
    go_ret
    exact ⟨ret_int (by rw [IntWalk.i64_in (a * 86400) (by omega), IntWalk.i64_in (a * 86400 + b) (by omega), HV.out]), by repeat (first | exact hB | refine Below.drew ?_ | refine below_drewN ?_ _)⟩
def civilE (y mo d h m s n : Int) : Int := checkCivil y mo d h m s n
def civilV (y mo d h m s n : Int) : Int := if checkCivil y mo d h m s n = 0 then civilNum y mo d h m s else 0
theorem checkCivil_ok (y mo d h m s n : Int) (hk : checkCivil y mo d h m s n = 0) : (-10400 ≤ y ∧ y ≤ 10400) ∧ (1 ≤ mo ∧ mo ≤ 12) ∧ (1 ≤ d ∧ d ≤ 31) ∧ (0 ≤ h ∧ h ≤ 23) ∧ (0 ≤ m ∧ m ≤ 59) ∧ (0 ≤ s ∧ s ≤ 59) := by
  have h1 : checkClock h m s n = 0 ∧ checkDate y mo d = 0 := by unfold checkCivil at hk; grind
  have h2 := checkDate_ok y mo d h1.2
  have h3 : ¬ (h < 0 ∨ 23 < h ∨ m < 0 ∨ 59 < m ∨ s < 0 ∨ 59 < s ∨ n < 0 ∨ 1000000000 ≤ n) := by
    intro hc
    have := h1.1
    rw [checkClock, if_pos hc] at this
    omega
  omega
set_option maxHeartbeats 1000000 in
theorem refSecs09 (y mo d h m s n : Int) (w : World) :
    Calls Tryd.prog 39 #[.agg #[.int .i64 y, .int .i64 mo, .int .i64 d, .int .i64 h, .int .i64 m, .int .i64 s, .int .i64 n]] w fun e w' => e = .returned (.tuple #[.int .i64 (civilV y mo d h m s n), .int .i64 (civilE y mo d h m s n)]) ∧ Below w.heap.size w w' := by
  obtain ⟨k, hk⟩ : ∃ k, k = checkCivil y mo d h m s n := ⟨_, rfl⟩
  have HE := Lib.hid (show civilE y mo d h m s n = k by rw [hk]; rfl)
  have HV := Lib.hid (show civilV y mo d h m s n = if k = 0 then civilNum y mo d h m s else 0 by rw [hk]; rfl)
  have hok := checkCivil_ok y mo d h m s n
  rw [← hk] at hok
  have HO := Lib.hid hok
  have HK := Lib.hid hk
  clear hok hk
  go_enter Tryd.func39, Tryd.ntmps39
  go_wp2_with fail
  refine (refCheckCivil_any _ _ _ _ _ _ _ _).mono ?_
  rintro e w1 ⟨rfl, hbel⟩
  rw [← HK.out]
  obtain ⟨hc, hf⟩ := bcell hbel
  have hB : Below w.heap.size w w1 := ((Below.refl w.heap.size w).alloc (Nat.le_refl _) _).trans (hbel.mono (B' := w.heap.size) (by simp))
  clear hbel
  by_cases hz : k = 0
  · obtain ⟨a1, a2, a3, a4, a5, a6⟩ := HO.out hz
    have C1 := Lib.hid (fun W => refNumber09 y mo d h m s n W a1 a2 a3 a4 a5 a6)
    have hz' : (k != 0) = false := by rw [hz]; rfl
    have HZ := Lib.hid hz
    clear hz a1 a2 a3 a4 a5 a6
    go_wp2_with (go_at_call 52; refine (C1.out _).mono ?_; rintro e w2 ⟨rfl, hbel⟩)
    go_ret2
    exact ⟨ret_two (by rw [HV.out, if_pos HZ.out]) (by rw [HE.out, HZ.out]), below_next hB hbel⟩
  · have hz' : (k != 0) = true := by simpa using hz
    have HZ := Lib.hid hz
    clear hz
    go_wp2
    go_ret2
    exact ⟨ret_two (by rw [HV.out, if_neg HZ.out]) HE.out.symm, hB⟩
end Go.Proofs.YtddgfffempgghaaDoor.X
