/- The walks through the clock. -/
import Derived.Test.YtddgfffempgghaaDoorW06c
namespace Go.Proofs.YtddgfffempgghaaDoor.X
open Go.RowKit

def cut1V (p most : Int) : Int := max 0 (min p most)
def CutIs (a b c d : Int) (w : World) (e : Ending) (w' : World) : Prop :=
  e = .returned (.agg #[.int .i64 (cut1V a 23), .int .i64 (cut1V b 59), .int .i64 (cut1V c 59), .int .i64 (cut1V d 999999999)]) ∧ Below w.heap.size w w'
set_option maxHeartbeats 1000000 in
theorem cut_any (a b c d : Int) (w : World) :
    Calls Tryd.prog 57 #[.agg #[.int .i64 a, .int .i64 b, .int .i64 c, .int .i64 d]] w (CutIs a b c d w) := by
  go_enter Tryd.func57, Tryd.ntmps57
  go_wp2_with fail
  refine wp_loop_rounds 5 ?_
  rw [rounds_succ]
  go_wp2_with fail
  go_region
  go_wp2
  rw [rounds_succ]
  go_wp2
  go_region
  go_wp2
  rw [rounds_succ]
  go_wp2
  go_region
  go_wp2
  rw [rounds_succ]
  go_wp2
  go_region
  go_wp2
  rw [rounds_succ]
  go_wp2
  exact bodyPost_ret (v := .agg #[.int .i64 (cut1V a 23), .int .i64 (cut1V b 59), .int .i64 (cut1V c 59), .int .i64 (cut1V d 999999999)]) (by simp [results, Tryd.results57, cut1V, go_sem]) rfl ⟨rfl, by repeat (first | exact Below.refl _ _ | refine Below.drew ?_ | refine Below.setCell ?_ (by simp) _ | refine Below.alloc ?_ (by simp <;> omega) _)⟩
theorem eqArr (d : Nat) (w : World) (x0 x1 x2 x3 y0 y1 y2 y3 : Int) :
    (Op.equalIn (d + 2) 74 (.agg #[.int .i64 x0, .int .i64 x1, .int .i64 x2, .int .i64 x3]) (.agg #[.int .i64 y0, .int .i64 y1, .int .i64 y2, .int .i64 y3])).run Tryd.prog w = .ok (x0 == y0 && (x1 == y1 && (x2 == y2 && x3 == y3))) w := by
  unfold Op.equalIn
  simp [go_sem, List.range', part]
  by_cases h0 : x0 = y0
  · by_cases h1 : x1 = y1
    · by_cases h2 : x2 = y2
      · by_cases h3 : x3 = y3
        · simp [h0, h1, h2, h3]
        · simp [h0, h1, h2, h3]
      · simp [h0, h1, h2]
    · simp [h0, h1]
  · simp [h0]
theorem cut_iff (h m s n : Int) : (cut1V h 23 == h && (cut1V m 59 == m && (cut1V s 59 == s && cut1V n 999999999 == n))) = decide (checkClock h m s n = 0) := by
  unfold cut1V checkClock
  rw [Bool.eq_iff_iff]
  simp only [Bool.and_eq_true, beq_iff_eq, decide_eq_true_eq]
  by_cases hc : h < 0 ∨ 23 < h ∨ m < 0 ∨ 59 < m ∨ s < 0 ∨ 59 < s ∨ n < 0 ∨ 1000000000 ≤ n
  · rw [if_pos hc]; omega
  · rw [if_neg hc]; omega
theorem checkClock_two (h m s n : Int) : checkClock h m s n = if decide (checkClock h m s n = 0) = true then 0 else 5 := by
  unfold checkClock; split <;> simp
set_option maxHeartbeats 1000000 in
theorem checkClock_any (h m s n : Int) (w : World) :
    Calls Tryd.prog 48 #[.agg #[.int .i64 h, .int .i64 m, .int .i64 s, .int .i64 n]] w fun e w' => e = .returned (.int .i64 (checkClock h m s n)) ∧ Below w.heap.size w w' := by
  have hcut := cut_iff h m s n
  have heq : ∀ W, (Op.equalIn 10000 74 (.agg #[.int .i64 (cut1V h 23), .int .i64 (cut1V m 59), .int .i64 (cut1V s 59), .int .i64 (cut1V n 999999999)]) (.agg #[.int .i64 h, .int .i64 m, .int .i64 s, .int .i64 n])).run Tryd.prog W = .ok (cut1V h 23 == h && (cut1V m 59 == m && (cut1V s 59 == s && cut1V n 999999999 == n))) W := fun W => eqArr 9998 W _ _ _ _ _ _ _ _
  obtain ⟨b, hb⟩ : ∃ b, b = decide (checkClock h m s n = 0) := ⟨_, rfl⟩
  rw [hcut, ← hb] at heq
  have HC := Lib.hid (show checkClock h m s n = if b = true then 0 else 5 by rw [hb]; exact checkClock_two h m s n)
  clear hcut hb
  cases b
  all_goals
    go_enter Tryd.func48, Tryd.ntmps48
    have hB := ((Below.refl w.heap.size w).alloc (Nat.le_refl _) (.cells #[.int .i64 h, .int .i64 m, .int .i64 s, .int .i64 n] 56)).alloc (by simp) (.cells #[.int .i64 h, .int .i64 m, .int .i64 s, .int .i64 n] 74)
    go_wp2
    go_region_with (go_at_call 57; refine (cut_any _ _ _ _ _).mono ?_; rintro e w1 ⟨rfl, hbel⟩; obtain ⟨hc, hf⟩ := bcell hbel; (first | have hB' := below_next hB.drew hbel | have hB' := below_next hB hbel | have hB' := below_next hB.drew.drew hbel); clear hB; have hB := hB'; clear hB'; clear hbel)
  all_goals
    go_wp2
    go_ret
    exact ⟨ret_int (by rw [HC.out]; rfl), by repeat (first | exact hB | refine Below.drew ?_ | refine below_drewN ?_ _)⟩
def nanosV (h m s n : Int) : Int := if checkClock h m s n = 0 then ((h * 60 + m) * 60 + s) * 1000000000 + n else 0
theorem checkClock_ok (h m s n : Int) (hk : checkClock h m s n = 0) : 0 ≤ h ∧ h ≤ 23 ∧ 0 ≤ m ∧ m ≤ 59 ∧ 0 ≤ s ∧ s ≤ 59 ∧ 0 ≤ n ∧ n ≤ 999999999 := by
  have h3 : ¬ (h < 0 ∨ 23 < h ∨ m < 0 ∨ 59 < m ∨ s < 0 ∨ 59 < s ∨ n < 0 ∨ 1000000000 ≤ n) := by
    intro hc
    rw [checkClock, if_pos hc] at hk
    omega
  omega
set_option maxHeartbeats 1000000 in
theorem nanos_any (h m s n : Int) (w : World) :
    Calls Tryd.prog 37 #[.agg #[.int .i64 h, .int .i64 m, .int .i64 s, .int .i64 n]] w fun e w' => e = .returned (.tuple #[.int .i64 (nanosV h m s n), .int .i64 (checkClock h m s n)]) ∧ Below w.heap.size w w' := by
  obtain ⟨k, hk⟩ : ∃ k, k = checkClock h m s n := ⟨_, rfl⟩
  have HV := Lib.hid (show nanosV h m s n = if k = 0 then ((h * 60 + m) * 60 + s) * 1000000000 + n else 0 by rw [hk]; rfl)
  have hok := checkClock_ok h m s n
  rw [← hk] at hok
  have HO := Lib.hid hok
  have HK := Lib.hid hk
  clear hok hk
  go_enter Tryd.func37, Tryd.ntmps37
  go_wp2_with fail
  refine (checkClock_any _ _ _ _ _).mono ?_
  rintro e w1 ⟨rfl, hbel⟩
  rw [← HK.out]
  obtain ⟨hc, hf⟩ := bcell hbel
  have hB : Below w.heap.size w w1 := ((Below.refl w.heap.size w).alloc (Nat.le_refl _) _).trans (hbel.mono (B' := w.heap.size) (by simp))
  clear hbel
  by_cases hz : k = 0
  · obtain ⟨a1, a2, a3, a4, a5, a6, a7, a8⟩ := HO.out hz
    have hz' : (k != 0) = false := by rw [hz]; rfl
    have HZ := Lib.hid hz
    clear hz
    go_wp2
    go_ret2
    exact ⟨ret_two (by rw [HV.out, if_pos HZ.out]) (by rw [← HK.out, HZ.out]), hB⟩
  · have hz' : (k != 0) = true := by simpa using hz
    have HZ := Lib.hid hz
    clear hz
    go_wp2
    go_ret2
    exact ⟨ret_two (by rw [HV.out, if_neg HZ.out]) HK.out, hB⟩
end Go.Proofs.YtddgfffempgghaaDoor.X
