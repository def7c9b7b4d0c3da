/- The walk through the reference's Day. -/
import Derived.Test.YtddgfffempgghaaDoorW14f
namespace Go.Proofs.YtddgfffempgghaaDoor.X
open Go.RowKit

/-- The world where a call has laid a day for its result. -/
def dayW (w : World) : World := w.alloc (.cells #[.int .i64 0, .int .i64 0, .int .i64 0] 35)
theorem res3 (w w1 : World) (h : Below (w.heap.size + 1) (dayW w) w1) :
    w1.cell? ⟨w.heap.size, 0, none⟩ = some (.int .i64 0) ∧ w1.cell? ⟨w.heap.size, 1, none⟩ = some (.int .i64 0) ∧ w1.cell? ⟨w.heap.size, 2, none⟩ = some (.int .i64 0) ∧
    (∀ o, w1.frozen? ⟨w.heap.size, o, none⟩ = false) ∧ Below w.heap.size w w1 ∧ w.heap.size < w1.heap.size := by
  refine ⟨(h.cell (p := ⟨w.heap.size, 0, none⟩) (Nat.lt_succ_self _)).trans ?_, (h.cell (p := ⟨w.heap.size, 1, none⟩) (Nat.lt_succ_self _)).trans ?_, (h.cell (p := ⟨w.heap.size, 2, none⟩) (Nat.lt_succ_self _)).trans ?_, fun o => (h.frozen (p := ⟨w.heap.size, o, none⟩) (Nat.lt_succ_self _)).trans ?_, ((Below.refl _ _).alloc (Nat.le_refl _) _).trans (h.mono (Nat.le_succ _)), ?_⟩
  · unfold dayW; rw [World.cell?_alloc_mark]; rfl
  · unfold dayW; rw [World.cell?_alloc_mark]; rfl
  · unfold dayW; rw [World.cell?_alloc_mark]; rfl
  · simp [dayW, World.frozen?, World.alloc, -World.alloc_eq]
  · have := h.size; simp [dayW] at this; omega
set_option maxHeartbeats 1000000 in
theorem refDay_last (s : ByteArray) (w : World) (_hs : s.size ≤ maxLen) (h5 : 5 ≤ s.size) (h : s.data.toList.take 5 = [108, 97, 115, 116, 45]) :
    Calls Tryd.prog 24 #[.string s] w (DayIs (dayV s.data.toList) w) := by
  obtain ⟨n, hn⟩ : ∃ n, n = wkV (s.data.toList.drop 5) := ⟨_, rfl⟩
  have HD := Lib.hid (show dayV s.data.toList = if n = 0 then (0, 0, 0, 2) else (1, 0, n, 0) by rw [dayV, if_pos h, hn])
  have g1 := seg_beq s 0 5 [108, 97, 115, 116, 45]
  rw [show 5 - 0 = 5 from rfl, List.drop_zero, decide_eq_true h] at g1
  have HN := Lib.hid (show wkV (s.extract 5 s.size).data.toList = n by rw [hn, Lib.extract_to_end])
  clear h hn
  go_enter Tryd.func24, Tryd.ntmps24
  go_wp2_with fail
  refine (refWeekday_any _ _).mono ?_
  rintro e w1 ⟨rfl, hbel⟩
  rw [HN.out]
  obtain ⟨c0, c1, c2, hf, hB, hz⟩ := res3 w w1 (hbel.mono (by simp))
  clear hbel
  go_wp2
  · refine bodyPost_ret (v := .tuple #[.agg #[.int .i64 0, .int .i64 0, .int .i64 0], .int .i64 2]) (by simp [results, Tryd.results24, go_sem, c0, c1, c2]) rfl ⟨?_, by repeat (first | exact hB | refine Below.setCell ?_ (by simp) _)⟩
    rw [HD.out, if_pos (by grind)]
  · refine bodyPost_ret (v := .tuple #[.agg #[.int .i64 1, .int .i64 0, .int .i64 n], .int .i64 0]) (by simp [results, Tryd.results24, go_sem, c0, c1, c2]) rfl ⟨?_, by repeat (first | exact hB | refine Below.setCell ?_ (by simp) _)⟩
    rw [HD.out, if_neg (by grind)]
set_option maxHeartbeats 1000000 in
theorem refDay_b1 (s : ByteArray) (w : World) (hs : s.size ≤ maxLen) (h : ¬ s.data.toList.take 5 = [108, 97, 115, 116, 45]) (h5 : s.size < 5) :
    Calls Tryd.prog 24 #[.string s] w (DayIs (dayV s.data.toList) w) := by
  obtain ⟨n, hn⟩ : ∃ n, n = numV s.data.toList 1 31 := ⟨_, rfl⟩
  obtain ⟨x, hx⟩ : ∃ x, x = numE s.data.toList 1 31 := ⟨_, rfl⟩
  have HD := Lib.hid (show dayV s.data.toList = if x = 0 then (0, n, 0, 0) else (0, 0, 0, x) by rw [hn, hx]; exact day_plain s.data.toList h (by rw [len_data]; omega))
  have HN := Lib.hid hn
  have HX := Lib.hid hx
  have g1 := seg_beq s 0 5 [108, 97, 115, 116, 45]
  rw [show 5 - 0 = 5 from rfl, List.drop_zero, decide_eq_false h] at g1
  clear h hn hx
  go_enter Tryd.func24, Tryd.ntmps24
  go_wp2_with fail
  refine (refNumber_any s 1 31 _ hs).mono ?_
  rintro e w' ⟨rfl, rfl⟩
  rw [← HN.out, ← HX.out]
  go_wp2
  · refine bodyPost_ret (v := .tuple #[.agg #[.int .i64 0, .int .i64 0, .int .i64 0], .int .i64 x]) (by simp [results, Tryd.results24, go_sem]) rfl ⟨?_, by repeat (first | exact Below.refl _ _ | exact hB | refine Below.setCell ?_ (by simp) _ | refine Below.alloc ?_ (by simp) _)⟩
    rw [HD.out, if_neg (by grind)]
  · refine bodyPost_ret (v := .tuple #[.agg #[.int .i64 0, .int .i64 n, .int .i64 0], .int .i64 0]) (by simp [results, Tryd.results24, go_sem]) rfl ⟨?_, by repeat (first | exact Below.refl _ _ | exact hB | refine Below.setCell ?_ (by simp) _ | refine Below.alloc ?_ (by simp) _)⟩
    rw [HD.out, if_pos (by grind)]
set_option maxHeartbeats 1000000 in
theorem refDay_b2 (s : ByteArray) (w : World) (hs : s.size ≤ maxLen) (h : ¬ s.data.toList.take 5 = [108, 97, 115, 116, 45]) (h5 : s.size = 5) :
    Calls Tryd.prog 24 #[.string s] w (DayIs (dayV s.data.toList) w) := by
  obtain ⟨n, hn⟩ : ∃ n, n = numV s.data.toList 1 31 := ⟨_, rfl⟩
  obtain ⟨x, hx⟩ : ∃ x, x = numE s.data.toList 1 31 := ⟨_, rfl⟩
  have HD := Lib.hid (show dayV s.data.toList = if x = 0 then (0, n, 0, 0) else (0, 0, 0, x) by rw [hn, hx]; exact day_plain s.data.toList h (by rw [len_data]; omega))
  have HN := Lib.hid hn
  have HX := Lib.hid hx
  have g1 := seg_beq s 0 5 [108, 97, 115, 116, 45]
  rw [show 5 - 0 = 5 from rfl, List.drop_zero, decide_eq_false h] at g1
  clear h hn hx
  have h6 : (s.size : Int) = 5 := by omega
  clear h5
  go_enter Tryd.func24, Tryd.ntmps24
  go_wp2_with fail
  refine (refNumber_any s 1 31 _ hs).mono ?_
  rintro e w' ⟨rfl, rfl⟩
  rw [← HN.out, ← HX.out]
  go_wp2
  · refine bodyPost_ret (v := .tuple #[.agg #[.int .i64 0, .int .i64 0, .int .i64 0], .int .i64 x]) (by simp [results, Tryd.results24, go_sem]) rfl ⟨?_, by repeat (first | exact Below.refl _ _ | exact hB | refine Below.setCell ?_ (by simp) _ | refine Below.alloc ?_ (by simp) _)⟩
    rw [HD.out, if_neg (by grind)]
  · refine bodyPost_ret (v := .tuple #[.agg #[.int .i64 0, .int .i64 n, .int .i64 0], .int .i64 0]) (by simp [results, Tryd.results24, go_sem]) rfl ⟨?_, by repeat (first | exact Below.refl _ _ | exact hB | refine Below.setCell ?_ (by simp) _ | refine Below.alloc ?_ (by simp) _)⟩
    rw [HD.out, if_pos (by grind)]
set_option maxHeartbeats 1000000 in
theorem refDay_b3 (s : ByteArray) (w : World) (hs : s.size ≤ maxLen) (h : ¬ s.data.toList.take 5 = [108, 97, 115, 116, 45]) (h5 : 5 < s.size) (hw : wkV (s.data.toList.take 3) = 0) :
    Calls Tryd.prog 24 #[.string s] w (DayIs (dayV s.data.toList) w) := by
  obtain ⟨n, hn⟩ : ∃ n, n = numV s.data.toList 1 31 := ⟨_, rfl⟩
  obtain ⟨x, hx⟩ : ∃ x, x = numE s.data.toList 1 31 := ⟨_, rfl⟩
  have HD := Lib.hid (show dayV s.data.toList = if x = 0 then (0, n, 0, 0) else (0, 0, 0, x) by rw [hn, hx]; exact day_plain s.data.toList h (by omega))
  have HN := Lib.hid hn
  have HX := Lib.hid hx
  have g1 := seg_beq s 0 5 [108, 97, 115, 116, 45]
  rw [show 5 - 0 = 5 from rfl, List.drop_zero, decide_eq_false h] at g1
  clear h hn hx
  have HW := Lib.hid (show wkV (s.extract 0 3).data.toList = 0 by rw [Lib.extract_data]; exact hw)
  clear hw
  go_enter Tryd.func24, Tryd.ntmps24
  go_wp2_with fail
  refine (refWeekday_any _ _).mono ?_
  rintro e w1 ⟨rfl, hbel⟩
  rw [HW.out]
  obtain ⟨c0, c1, c2, hf, hB, hz⟩ := res3 w w1 (hbel.mono (by simp))
  clear hbel
  go_wp2_with fail
  refine (refNumber_any s 1 31 _ hs).mono ?_
  rintro e w' ⟨rfl, rfl⟩
  rw [← HN.out, ← HX.out]
  go_wp2
  · refine bodyPost_ret (v := .tuple #[.agg #[.int .i64 0, .int .i64 0, .int .i64 0], .int .i64 x]) (by simp [results, Tryd.results24, go_sem, c0, c1, c2]) rfl ⟨?_, by repeat (first | exact Below.refl _ _ | exact hB | refine Below.setCell ?_ (by simp) _ | refine Below.alloc ?_ (by simp) _)⟩
    rw [HD.out, if_neg (by grind)]
  · refine bodyPost_ret (v := .tuple #[.agg #[.int .i64 0, .int .i64 n, .int .i64 0], .int .i64 0]) (by simp [results, Tryd.results24, go_sem, c0, c1, c2]) rfl ⟨?_, by repeat (first | exact Below.refl _ _ | exact hB | refine Below.setCell ?_ (by simp) _ | refine Below.alloc ?_ (by simp) _)⟩
    rw [HD.out, if_pos (by grind)]
set_option maxHeartbeats 1000000 in
theorem refDay_from (s : ByteArray) (w : World) (hs : s.size ≤ maxLen) (h : ¬ s.data.toList.take 5 = [108, 97, 115, 116, 45]) (h5 : 5 < s.size) (hw : 0 < wkV (s.data.toList.take 3)) (ho : (s.data.toList.drop 3).take 2 = [62, 61]) :
    Calls Tryd.prog 24 #[.string s] w (DayIs (dayV s.data.toList) w) := by
  obtain ⟨d, hd⟩ : ∃ d, d = wkV (s.data.toList.take 3) := ⟨_, rfl⟩
  obtain ⟨n, hn⟩ : ∃ n, n = numV (s.data.toList.drop 5) 1 31 := ⟨_, rfl⟩
  obtain ⟨x, hx⟩ : ∃ x, x = numE (s.data.toList.drop 5) 1 31 := ⟨_, rfl⟩
  have HD := Lib.hid (show dayV s.data.toList = if x = 0 then (2, n, d, 0) else (0, 0, 0, x) by rw [hn, hx, hd]; exact day_op s.data.toList 62 2 h (by rw [len_data]; omega) hw (by decide) ho)
  have g0 := seg_beq s 0 5 [108, 97, 115, 116, 45]
  rw [show 5 - 0 = 5 from rfl, List.drop_zero, decide_eq_false h] at g0
  have g1 := seg_beq s 3 5 [62, 61]
  have g2 := seg_beq s 3 5 [60, 61]
  rw [show 5 - 3 = 2 from rfl, ho] at g1 g2
  rw [show decide (([62, 61] : List UInt8) = [62, 61]) = true from by decide] at g1
  rw [show decide (([62, 61] : List UInt8) = [60, 61]) = false from by decide] at g2
  rw [← hd] at hw
  have HW := Lib.hid (show wkV (s.extract 0 3).data.toList = d by rw [hd, Lib.extract_data]; rfl)
  obtain ⟨r, hr⟩ : ∃ r, r = s.extract 5 s.size := ⟨_, rfl⟩
  have hrs : r.size ≤ maxLen := by
    have h1 : r.data.toList.length = s.data.toList.length - 5 := by rw [hr, Lib.extract_to_end, List.length_drop]
    rw [len_data, len_data] at h1
    omega
  have HNR := Lib.hid (show numV r.data.toList 1 31 = n by rw [hr, Lib.extract_to_end, hn])
  have HXR := Lib.hid (show numE r.data.toList 1 31 = x by rw [hr, Lib.extract_to_end, hx])
  have HR := Lib.hid hr
  clear h ho hd hn hx hr
  go_enter Tryd.func24, Tryd.ntmps24
  go_wp2_with fail
  refine (refWeekday_any _ _).mono ?_
  rintro e w1 ⟨rfl, hbel⟩
  rw [HW.out]
  have hbel1 := hbel.mono (B' := w.heap.size + 1) (by simp)
  obtain ⟨c0, c1, c2, hf, hB, hz⟩ := res3 w w1 hbel1
  have HB1 := Lib.hid hbel1
  clear hbel hbel1
  go_wp2_with fail
  rw [← HR.out]
  refine (refNumber_any r 1 31 _ hrs).mono ?_
  rintro e w' ⟨rfl, rfl⟩
  rw [HNR.out, HXR.out]
  go_wp2_with fail
  · refine bodyPost_ret (v := .tuple #[.agg #[.int .i64 0, .int .i64 0, .int .i64 0], .int .i64 x]) (by simp [results, Tryd.results24, go_sem, c0, c1, c2]) rfl ⟨?_, by repeat (first | exact Below.refl _ _ | exact hB | refine Below.setCell ?_ (by simp) _ | refine Below.alloc ?_ (by simp) _)⟩
    rw [HD.out, if_neg (by grind)]
  · refine (refWeekday_any _ _).mono ?_
    rintro e w2 ⟨rfl, hbel⟩
    rw [HW.out]
    have hbel2 := HB1.out.trans (hbel.mono (B' := w.heap.size + 1) (by omega))
    clear c0 c1 c2 hf hB hz
    obtain ⟨c0, c1, c2, hf, hB, hz⟩ := res3 w w2 hbel2
    clear hbel hbel2
    go_wp2
    refine bodyPost_ret (v := .tuple #[.agg #[.int .i64 2, .int .i64 n, .int .i64 d], .int .i64 0]) (by simp [results, Tryd.results24, go_sem, c0, c1, c2]) rfl ⟨?_, by repeat (first | exact Below.refl _ _ | exact hB | refine Below.setCell ?_ (by simp) _ | refine Below.alloc ?_ (by simp) _)⟩
    rw [HD.out, if_pos (by grind)]
set_option maxHeartbeats 1000000 in
theorem refDay_before (s : ByteArray) (w : World) (hs : s.size ≤ maxLen) (h : ¬ s.data.toList.take 5 = [108, 97, 115, 116, 45]) (h5 : 5 < s.size) (hw : 0 < wkV (s.data.toList.take 3)) (ho : (s.data.toList.drop 3).take 2 = [60, 61]) :
    Calls Tryd.prog 24 #[.string s] w (DayIs (dayV s.data.toList) w) := by
  obtain ⟨d, hd⟩ : ∃ d, d = wkV (s.data.toList.take 3) := ⟨_, rfl⟩
  obtain ⟨n, hn⟩ : ∃ n, n = numV (s.data.toList.drop 5) 1 31 := ⟨_, rfl⟩
  obtain ⟨x, hx⟩ : ∃ x, x = numE (s.data.toList.drop 5) 1 31 := ⟨_, rfl⟩
  have HD := Lib.hid (show dayV s.data.toList = if x = 0 then (3, n, d, 0) else (0, 0, 0, x) by rw [hn, hx, hd]; exact day_op s.data.toList 60 3 h (by rw [len_data]; omega) hw (by decide) ho)
  have g0 := seg_beq s 0 5 [108, 97, 115, 116, 45]
  rw [show 5 - 0 = 5 from rfl, List.drop_zero, decide_eq_false h] at g0
  have g1 := seg_beq s 3 5 [62, 61]
  have g2 := seg_beq s 3 5 [60, 61]
  rw [show 5 - 3 = 2 from rfl, ho] at g1 g2
  rw [show decide (([60, 61] : List UInt8) = [62, 61]) = false from by decide] at g1
  rw [show decide (([60, 61] : List UInt8) = [60, 61]) = true from by decide] at g2
  rw [← hd] at hw
  have HW := Lib.hid (show wkV (s.extract 0 3).data.toList = d by rw [hd, Lib.extract_data]; rfl)
  obtain ⟨r, hr⟩ : ∃ r, r = s.extract 5 s.size := ⟨_, rfl⟩
  have hrs : r.size ≤ maxLen := by
    have h1 : r.data.toList.length = s.data.toList.length - 5 := by rw [hr, Lib.extract_to_end, List.length_drop]
    rw [len_data, len_data] at h1
    omega
  have HNR := Lib.hid (show numV r.data.toList 1 31 = n by rw [hr, Lib.extract_to_end, hn])
  have HXR := Lib.hid (show numE r.data.toList 1 31 = x by rw [hr, Lib.extract_to_end, hx])
  have HR := Lib.hid hr
  clear h ho hd hn hx hr
  go_enter Tryd.func24, Tryd.ntmps24
  go_wp2_with fail
  refine (refWeekday_any _ _).mono ?_
  rintro e w1 ⟨rfl, hbel⟩
  rw [HW.out]
  have hbel1 := hbel.mono (B' := w.heap.size + 1) (by simp)
  obtain ⟨c0, c1, c2, hf, hB, hz⟩ := res3 w w1 hbel1
  have HB1 := Lib.hid hbel1
  clear hbel hbel1
  go_wp2_with fail
  rw [← HR.out]
  refine (refNumber_any r 1 31 _ hrs).mono ?_
  rintro e w' ⟨rfl, rfl⟩
  rw [HNR.out, HXR.out]
  go_wp2_with fail
  · refine bodyPost_ret (v := .tuple #[.agg #[.int .i64 0, .int .i64 0, .int .i64 0], .int .i64 x]) (by simp [results, Tryd.results24, go_sem, c0, c1, c2]) rfl ⟨?_, by repeat (first | exact Below.refl _ _ | exact hB | refine Below.setCell ?_ (by simp) _ | refine Below.alloc ?_ (by simp) _)⟩
    rw [HD.out, if_neg (by grind)]
  · refine (refWeekday_any _ _).mono ?_
    rintro e w2 ⟨rfl, hbel⟩
    rw [HW.out]
    have hbel2 := HB1.out.trans (hbel.mono (B' := w.heap.size + 1) (by omega))
    clear c0 c1 c2 hf hB hz
    obtain ⟨c0, c1, c2, hf, hB, hz⟩ := res3 w w2 hbel2
    clear hbel hbel2
    go_wp2
    refine bodyPost_ret (v := .tuple #[.agg #[.int .i64 3, .int .i64 n, .int .i64 d], .int .i64 0]) (by simp [results, Tryd.results24, go_sem, c0, c1, c2]) rfl ⟨?_, by repeat (first | exact Below.refl _ _ | exact hB | refine Below.setCell ?_ (by simp) _ | refine Below.alloc ?_ (by simp) _)⟩
    rw [HD.out, if_pos (by grind)]
set_option maxHeartbeats 1000000 in
theorem refDay_odd (s : ByteArray) (w : World) (_hs : s.size ≤ maxLen) (h : ¬ s.data.toList.take 5 = [108, 97, 115, 116, 45]) (h5 : 5 < s.size) (hw : 0 < wkV (s.data.toList.take 3)) (ho : ¬ (s.data.toList.drop 3).take 2 = [62, 61]) (ho' : ¬ (s.data.toList.drop 3).take 2 = [60, 61]) :
    Calls Tryd.prog 24 #[.string s] w (DayIs (dayV s.data.toList) w) := by
  have HD := Lib.hid (day_bad s.data.toList h (by rw [len_data]; omega) hw ho ho')
  obtain ⟨d, hd⟩ : ∃ d, d = wkV (s.data.toList.take 3) := ⟨_, rfl⟩
  have g0 := seg_beq s 0 5 [108, 97, 115, 116, 45]
  rw [show 5 - 0 = 5 from rfl, List.drop_zero, decide_eq_false h] at g0
  have g1 := seg_beq s 3 5 [62, 61]
  have g2 := seg_beq s 3 5 [60, 61]
  rw [show 5 - 3 = 2 from rfl, decide_eq_false ho] at g1
  rw [show 5 - 3 = 2 from rfl, decide_eq_false ho'] at g2
  rw [← hd] at hw
  have HW := Lib.hid (show wkV (s.extract 0 3).data.toList = d by rw [hd, Lib.extract_data]; rfl)
  clear h ho ho' hd
  go_enter Tryd.func24, Tryd.ntmps24
  go_wp2_with fail
  refine (refWeekday_any _ _).mono ?_
  rintro e w1 ⟨rfl, hbel⟩
  rw [HW.out]
  obtain ⟨c0, c1, c2, hf, hB, hz⟩ := res3 w w1 (hbel.mono (by simp))
  clear hbel
  go_wp2
  refine bodyPost_ret (v := .tuple #[.agg #[.int .i64 0, .int .i64 0, .int .i64 0], .int .i64 2]) (by simp [results, Tryd.results24, go_sem, c0, c1, c2]) rfl ⟨?_, by repeat (first | exact Below.refl _ _ | exact hB | refine Below.setCell ?_ (by simp) _ | refine Below.alloc ?_ (by simp) _)⟩
  rw [HD.out]
theorem refDay_any (s : ByteArray) (w : World) (hs : s.size ≤ maxLen) :
    Calls Tryd.prog 24 #[.string s] w (DayIs (dayV s.data.toList) w) := by
  by_cases h : s.data.toList.take 5 = [108, 97, 115, 116, 45]
  · refine refDay_last s w hs ?_ h
    have h1 := congrArg List.length h
    rw [List.length_take, len_data] at h1
    simp at h1
    omega
  by_cases h5 : s.size < 5
  · exact refDay_b1 s w hs h h5
  by_cases h5' : s.size = 5
  · exact refDay_b2 s w hs h h5'
  by_cases hw : wkV (s.data.toList.take 3) = 0
  · exact refDay_b3 s w hs h (by omega) hw
  have hw' : 0 < wkV (s.data.toList.take 3) := by have := wkV_bd (s.data.toList.take 3); omega
  by_cases ho : (s.data.toList.drop 3).take 2 = [62, 61]
  · exact refDay_from s w hs h (by omega) hw' ho
  by_cases ho' : (s.data.toList.drop 3).take 2 = [60, 61]
  · exact refDay_before s w hs h (by omega) hw' ho'
  · exact refDay_odd s w hs h (by omega) hw' ho ho'
end Go.Proofs.YtddgfffempgghaaDoor.X
