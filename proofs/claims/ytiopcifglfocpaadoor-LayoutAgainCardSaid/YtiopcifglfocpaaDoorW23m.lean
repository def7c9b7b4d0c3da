/- Chapter 23, walks: how many bytes an item's text may have, in the program and in its reference. Condition: an item's text as long as a string may be. -/
import Derived.Test.YtiopcifglfocpaaDoorW23l
namespace Go.Proofs.YtiopcifglfocpaaDoor.X
open Go.RowKit Go.Maps
/-- How many bytes an item's text may have: at least, at most. -/
def widV (k n : Int) (t : List UInt8) : Int × Int :=
  if mayB k n t = false then (0, 0)
  else if k = 0 then ((t.length : Int), (t.length : Int)) else if k = 7 then (n, n)
  else if n = 3 then (3, 3)
  else if k = 1 ∨ k = 10 then (5, 5) else if k = 8 then (9, 9) else if k = 9 then (3, 3) else if k = 12 then (1, 1)
  else if k = 13 then (3, 9) else if k = 14 then (6, 9) else if k = 17 then (1, 6) else if k = 18 then (1, 2) else (2, 2)
theorem may_kinds (k n : Int) (t : List UInt8) (h : mayB k n t = true) :
    (k = 0 ∧ n = 0) ∨ (k = 7 ∧ 1 ≤ n ∧ n ≤ 9) ∨ (k = 13 ∧ n = 0) ∨ (k = 13 ∧ n = 3) ∨ (k = 14 ∧ n = 0) ∨ (k = 14 ∧ n = 3) ∨ (n = 0 ∧ (k = 1 ∨ k = 2 ∨ k = 3 ∨ k = 4 ∨ k = 5 ∨ k = 6 ∨ k = 8 ∨ k = 9 ∨ k = 10 ∨ k = 11 ∨ k = 12 ∨ k = 15 ∨ k = 16 ∨ k = 17 ∨ k = 18)) := by
  unfold mayB at h
  split at h
  · simp at h; omega
  · split at h
    · simp at h; omega
    · split at h
      · simp at h; omega
      · simp at h; omega
theorem both_any (n : Int) (w : World) :
    Calls Tryd.prog 30 #[.int .i64 n] w fun e w' => e = .returned (.tuple #[.int .i64 n, .int .i64 n]) ∧ w = w' := by
  go_enter Tryd.func30, Tryd.ntmps30
  go_wp2
  go_ret2
  exact ⟨rfl, rfl⟩
/-- What Width hands back. -/
def WidIs (k n : Int) (t : List UInt8) (w : World) (e : Ending) (w' : World) : Prop :=
  e = .returned (.tuple #[.int .i64 (widV k n t).1, .int .i64 (widV k n t).2]) ∧ Below w.heap.size w w'
theorem wid_ret {k n : Int} {t : List UInt8} {w w' : World} {a b : Int} (h : widV k n t = (a, b)) (hb : Below w.heap.size w w') : WidIs k n t w (.returned (.tuple #[.int .i64 a, .int .i64 b])) w' :=
  ⟨by rw [h], hb⟩
set_option maxHeartbeats 4000000 in
theorem width_any (k n : Int) (t : ByteArray) (w : World) (hs : t.size ≤ maxLen) :
    Calls Tryd.prog 13 #[.agg #[.int .i64 k, .int .i64 n, .string t]] w (WidIs k n t.data.toList w) := by
  cases hm : mayB k n t.data.toList
  · have HV := Lib.hid (show widV k n t.data.toList = (0, 0) by rw [widV, if_pos hm])
    go_enter Tryd.func13, Tryd.ntmps13
    go_wp2_with fail
    refine (may_any _ _ _ _ hs).mono ?_
    rintro e w1 ⟨rfl, hb1⟩
    have hB := (below_one w (.cells #[.int .i64 k, .int .i64 n, .string t] 32)).trans (hb1.mono (by simp))
    rw [hm]
    clear hm hb1
    go_wp2
    go_ret2
    exact wid_ret HV.out hB
  · have hR := fun w1 (hb : Below (w.alloc (.cells #[.int .i64 k, .int .i64 n, .string t] 32)).heap.size (w.alloc (.cells #[.int .i64 k, .int .i64 n, .string t] 32)) w1) => (Row3i.new w k n t 32).below hb
    have HR := Lib.hid hR
    clear hR
    rcases may_kinds k n _ hm with ⟨rfl, rfl⟩ | ⟨rfl, n1, n9⟩ | ⟨rfl, rfl⟩ | ⟨rfl, rfl⟩ | ⟨rfl, rfl⟩ | ⟨rfl, rfl⟩ | ⟨rfl, rfl | rfl | rfl | rfl | rfl | rfl | rfl | rfl | rfl | rfl | rfl | rfl | rfl | rfl | rfl⟩
    · have HV := Lib.hid (show widV 0 0 t.data.toList = ((t.size : Int), (t.size : Int)) by rw [widV, if_neg (by rw [hm]; decide), if_pos rfl, len_list])
      go_enter Tryd.func13, Tryd.ntmps13
      go_wp2_with fail
      refine (may_any _ _ _ _ hs).mono ?_
      rintro e w1 ⟨rfl, hb1⟩
      have hB := (below_one w (.cells #[.int .i64 0, .int .i64 0, .string t] 32)).trans (hb1.mono (by simp))
      obtain ⟨c0, c1, c2, _, _, _, _⟩ := HR.out w1 hb1
      rw [hm]
      clear hm hb1 HR
      go_wp2_with (refine (both_any _ _).mono ?_; rintro e w2 ⟨rfl, rfl⟩)
      go_ret2
      exact wid_ret HV.out hB
    · have HV := Lib.hid (show widV 7 n t.data.toList = (n, n) by rw [widV, if_neg (by rw [hm]; decide), if_neg (by decide), if_pos rfl])
      go_enter Tryd.func13, Tryd.ntmps13
      go_wp2_with fail
      refine (may_any _ _ _ _ hs).mono ?_
      rintro e w1 ⟨rfl, hb1⟩
      have hB := (below_one w (.cells #[.int .i64 7, .int .i64 n, .string t] 32)).trans (hb1.mono (by simp))
      obtain ⟨c0, c1, c2, _, _, _, _⟩ := HR.out w1 hb1
      rw [hm]
      clear hm hb1 HR
      go_wp2_with (refine (both_any _ _).mono ?_; rintro e w2 ⟨rfl, rfl⟩)
      go_ret2
      exact wid_ret HV.out hB
    all_goals
      have HV := Lib.hid (show widV _ _ t.data.toList = _ by rw [widV, if_neg (by rw [hm]; decide)])
      go_enter Tryd.func13, Tryd.ntmps13
      go_wp2_with fail
      refine (may_any _ _ _ _ hs).mono ?_
      rintro e w1 ⟨rfl, hb1⟩
      have hB := (below_one w _).trans (hb1.mono (by simp))
      obtain ⟨c0, c1, c2, _, _, _, _⟩ := HR.out w1 hb1
      rw [hm]
      clear hm hb1 HR
      go_wp2_with (refine (both_any _ _).mono ?_; rintro e w2 ⟨rfl, rfl⟩)
      go_ret2
      exact wid_ret HV.out hB
set_option maxHeartbeats 4000000 in
theorem refWidth_any (k n : Int) (t : ByteArray) (w : World) (hs : t.size ≤ maxLen) :
    Calls Tryd.prog 14 #[.agg #[.int .i64 k, .int .i64 n, .string t]] w (WidIs k n t.data.toList w) := by
  cases hm : mayB k n t.data.toList
  · have HV := Lib.hid (show widV k n t.data.toList = (0, 0) by rw [widV, if_pos hm])
    have hE : mayE k n t.data.toList = 5 := by simp [mayE, hm]
    go_enter Tryd.func14, Tryd.ntmps14
    go_wp2_with fail
    refine (refMay_any _ _ _ _ hs).mono ?_
    rintro e w1 ⟨rfl, hb1⟩
    have hB := (below_one w (.cells #[.int .i64 k, .int .i64 n, .string t] 32)).trans (hb1.mono (by simp))
    rw [hE]
    clear hm hE hb1
    go_wp2
    go_ret2
    exact wid_ret HV.out hB
  · have hR := fun w1 (hb : Below (w.alloc (.cells #[.int .i64 k, .int .i64 n, .string t] 32)).heap.size (w.alloc (.cells #[.int .i64 k, .int .i64 n, .string t] 32)) w1) => (Row3i.new w k n t 32).below hb
    have HR := Lib.hid hR
    have hE : mayE k n t.data.toList = 0 := by simp [mayE, hm]
    clear hR
    rcases may_kinds k n _ hm with ⟨rfl, rfl⟩ | ⟨rfl, n1, n9⟩ | ⟨rfl, rfl⟩ | ⟨rfl, rfl⟩ | ⟨rfl, rfl⟩ | ⟨rfl, rfl⟩ | ⟨rfl, rfl | rfl | rfl | rfl | rfl | rfl | rfl | rfl | rfl | rfl | rfl | rfl | rfl | rfl | rfl⟩
    · have HV := Lib.hid (show widV 0 0 t.data.toList = ((t.size : Int), (t.size : Int)) by rw [widV, if_neg (by rw [hm]; decide), if_pos rfl, len_list])
      go_enter Tryd.func14, Tryd.ntmps14
      go_wp2_with fail
      refine (refMay_any _ _ _ _ hs).mono ?_
      rintro e w1 ⟨rfl, hb1⟩
      have hB := (below_one w (.cells #[.int .i64 0, .int .i64 0, .string t] 32)).trans (hb1.mono (by simp))
      obtain ⟨c0, c1, c2, _, _, _, _⟩ := HR.out w1 hb1
      rw [hE]
      clear hm hE hb1 HR
      go_wp2_with fail
      go_quiet (fail)
      go_wp2
      go_ret2
      exact wid_ret HV.out (below_drewN' hB _)
    · have HV := Lib.hid (show widV 7 n t.data.toList = (n, n) by rw [widV, if_neg (by rw [hm]; decide), if_neg (by decide), if_pos rfl])
      go_enter Tryd.func14, Tryd.ntmps14
      go_wp2_with fail
      refine (refMay_any _ _ _ _ hs).mono ?_
      rintro e w1 ⟨rfl, hb1⟩
      have hB := (below_one w (.cells #[.int .i64 7, .int .i64 n, .string t] 32)).trans (hb1.mono (by simp))
      obtain ⟨c0, c1, c2, _, _, _, _⟩ := HR.out w1 hb1
      rw [hE]
      clear hm hE hb1 HR
      go_wp2_with fail
      go_quiet (fail)
      go_wp2
      go_ret2
      exact wid_ret HV.out (below_drewN' hB _)
    all_goals
      have HV := Lib.hid (show widV _ _ t.data.toList = _ by rw [widV, if_neg (by rw [hm]; decide)])
      go_enter Tryd.func14, Tryd.ntmps14
      go_wp2_with fail
      refine (refMay_any _ _ _ _ hs).mono ?_
      rintro e w1 ⟨rfl, hb1⟩
      have hB := (below_one w _).trans (hb1.mono (by simp))
      obtain ⟨c0, c1, c2, _, _, _, _⟩ := HR.out w1 hb1
      rw [hE]
      clear hm hE hb1 HR
      go_wp2
      go_ret2
      exact wid_ret HV.out hB
end Go.Proofs.YtiopcifglfocpaaDoor.X
