/- The walks through the weekdays' names and the rules' days. -/
import Derived.Test.YtddgfffempgghaaDoorW14e
import Derived.Test.YtddgfffempgghaaDoorP14c
namespace Go.Proofs.YtddgfffempgghaaDoor.X
open Go.RowKit

theorem weekday_any (s : ByteArray) (w : World) (hm : HasMax w) :
    Calls Tryd.prog 33 #[.string s] w fun e w' => e = .returned (.int .i64 (wkV s.data.toList)) ∧ w = w' := by
  obtain ⟨m, hm⟩ := hm
  have HW := Lib.hid (wk_index s.data.toList)
  rw [len_data] at HW
  have c1 := Tryd.strings_Index ⟨#[109, 111, 110, 32, 116, 117, 101, 32, 119, 101, 100, 32, 116, 104, 117, 32, 102, 114, 105, 32, 115, 97, 116, 32, 115, 117, 110]⟩ s m w (by decide) hm
  obtain ⟨i, hi⟩ : ∃ i, i = Lib.index dayNames s.data.toList := ⟨_, rfl⟩
  rw [← hi] at HW
  have C1 := Lib.hid (show Calls Tryd.prog 47 #[.string ⟨#[109, 111, 110, 32, 116, 117, 101, 32, 119, 101, 100, 32, 116, 104, 117, 32, 102, 114, 105, 32, 115, 97, 116, 32, 115, 117, 110]⟩, .string s] w fun e w' => e = .returned (.int .i64 i) ∧ w' = w by rw [hi]; exact c1)
  have hi1 : -1 ≤ i := by rw [hi]; exact Lib.index_ge _ _
  have hi2 : i ≤ 27 := by rw [hi]; exact index_le _ dayNames
  clear hi c1 hm
  go_enter Tryd.func33, Tryd.ntmps33
  go_wp2_with (go_at_call 47; refine C1.out.mono ?_; rintro e w' ⟨rfl, rfl⟩)
  all_goals
    go_ret
    refine ⟨ret_int ?_, rfl⟩
    rw [HW.out]
    grind
theorem nm_cell (w : World) (j : Nat) (h : j < nmB.length) : (w.alloc (.cells #[.string ⟨#[109, 111, 110]⟩, .string ⟨#[116, 117, 101]⟩, .string ⟨#[119, 101, 100]⟩, .string ⟨#[116, 104, 117]⟩, .string ⟨#[102, 114, 105]⟩, .string ⟨#[115, 97, 116]⟩, .string ⟨#[115, 117, 110]⟩] 9)).cell? ⟨w.heap.size, j, none⟩ = some (.string nmB[j]) := by
  rw [World.cell?_alloc_mark]
  have h7 : j < 7 := h
  have hc : j = 0 ∨ j = 1 ∨ j = 2 ∨ j = 3 ∨ j = 4 ∨ j = 5 ∨ j = 6 := by omega
  rcases hc with rfl | rfl | rfl | rfl | rfl | rfl | rfl <;> rfl
theorem str_eq (s t : ByteArray) : (s.toList == t.toList) = true ↔ s.data.toList = t.data.toList := by
  rw [Lib.toList_data, Lib.toList_data, beq_iff_eq]
set_option maxHeartbeats 400000 in
theorem refWeekday_any (s : ByteArray) (w : World) :
    Calls Tryd.prog 40 #[.string s] w fun e w' => e = .returned (.int .i64 (wkV s.data.toList)) ∧ Below w.heap.size w w' := by
  have HC := Lib.hid (nm_cell w)
  have hB : Below w.heap.size w (w.alloc (.cells #[.string ⟨#[109, 111, 110]⟩, .string ⟨#[116, 117, 101]⟩, .string ⟨#[119, 101, 100]⟩, .string ⟨#[116, 104, 117]⟩, .string ⟨#[102, 114, 105]⟩, .string ⟨#[115, 97, 116]⟩, .string ⟨#[115, 117, 110]⟩] 9)) := (Below.refl _ _).alloc (Nat.le_refl _) _
  go_enter Tryd.func40, Tryd.ntmps40
  go_wp2_with fail
  generalize (w.alloc (.cells #[.string ⟨#[109, 111, 110]⟩, .string ⟨#[116, 117, 101]⟩, .string ⟨#[119, 101, 100]⟩, .string ⟨#[116, 104, 117]⟩, .string ⟨#[102, 114, 105]⟩, .string ⟨#[115, 97, 116]⟩, .string ⟨#[115, 117, 110]⟩] 9)) = W1 at *
  go_loop [4] (fun i => ∃ k : Nat, k ≤ 7 ∧ i = .int .i64 k ∧ Hid (∀ (j : Nat) (h : j < nmB.length), j < k → nmB[j].data.toList ≠ s.data.toList)) (fun i => 7 - (intOf i).toNat)
  case atStart => exact ⟨0, by omega, rfl, fun j h h' => by omega⟩
  case round =>
    obtain ⟨k, hk, rfl, hd⟩ := hrel
    by_cases hlt : k < 7
    · have hc := HC.out k hlt
      obtain ⟨p, hp⟩ : ∃ p, p = nmB[k]'hlt := ⟨_, rfl⟩
      rw [← hp] at hc
      have HP := Lib.hid hp
      have HE := Lib.hid (str_eq p s)
      clear hp
      cases hq : (p.toList == s.toList)
      all_goals
        have HQ := Lib.hid hq
        go_wp2
      · go_round
        case rel =>
          refine ⟨k + 1, by omega, by go_num, fun j h h' => ?_⟩
          by_cases hj : j = k
          · subst hj
            intro h2
            have := HE.out.2 ((congrArg (fun b : ByteArray => b.data.toList) HP.out).trans h2)
            rw [HQ.out] at this
            cases this
          · exact hd.out j h (by omega)
        case measure => simp [intOf]; omega
      · go_ret
        exact ⟨ret_int (wk_hit _ k hlt ((congrArg (fun b : ByteArray => b.data.toList) HP.out).symm.trans (HE.out.1 HQ.out))).symm, hB⟩
    · have hke : k = 7 := by omega
      have HK := Lib.hid (wk_none _ (fun j h => hd.out j h (by rw [hke]; exact h)))
      clear hke
      go_wp2
      go_ret
      exact ⟨ret_int HK.out.symm, hB⟩
theorem bcell {W w1 : World} (hb : Below W.heap.size W w1) : (∀ b o, b < W.heap.size → w1.cell? ⟨b, o, none⟩ = W.cell? ⟨b, o, none⟩) ∧ (∀ b o, b < W.heap.size → w1.frozen? ⟨b, o, none⟩ = W.frozen? ⟨b, o, none⟩) :=
  ⟨fun b o h => hb.cell (p := ⟨b, o, none⟩) h, fun b o h => hb.frozen (p := ⟨b, o, none⟩) h⟩
/-- strings.CutPrefix, whatever the prefix. -/
def CutP (l q : List UInt8) (w : World) (e : Ending) (w' : World) : Prop :=
  ∃ t : ByteArray, ∃ b : Bool, e = .returned (.tuple #[.string t, .bool b]) ∧ b = decide (l.take q.length = q) ∧ t.data.toList = (if b = true then l.drop q.length else l) ∧ w = w'
theorem prefix_take (l q : List UInt8) : Lib.hasPrefix l q = decide (l.take q.length = q) := by
  rw [Lib.hasPrefix, Bool.eq_iff_iff, List.isPrefixOf_iff_prefix, decide_eq_true_eq]
  constructor
  · rintro ⟨r, rfl⟩
    simp
  · intro h
    exact ⟨l.drop q.length, by conv => lhs; lhs; rw [← h]
                               exact List.take_append_drop _ _⟩
theorem cutP (s q : ByteArray) (w : World) :
    Calls Tryd.prog 32 #[.string s, .string q] w (CutP s.data.toList q.data.toList w) := by
  refine (Tryd.strings_CutPrefix s q w).mono ?_
  rintro e w' ⟨rfl, rfl⟩
  refine ⟨_, _, rfl, prefix_take _ _, ?_, rfl⟩
  simp [Lib.trimPrefix]
/-- A day, as it is handed back. -/
def DayIs (p : Int × Int × Int × Int) (w : World) (e : Ending) (w' : World) : Prop :=
  e = .returned (.tuple #[.agg #[.int .i64 p.1, .int .i64 p.2.1, .int .i64 p.2.2.1], .int .i64 p.2.2.2]) ∧ Below w.heap.size w w'
set_option maxHeartbeats 1000000 in
theorem day_last (s : ByteArray) (w : World) (hm : HasMax w) (_hs : s.size ≤ maxLen) (h : s.data.toList.take 5 = [108, 97, 115, 116, 45]) :
    Calls Tryd.prog 13 #[.string s] w (DayIs (dayV s.data.toList) w) := by
  have HD := Lib.hid (show dayV s.data.toList = if wkV (s.data.toList.drop 5) = 0 then (0, 0, 0, 2) else (1, 0, wkV (s.data.toList.drop 5), 0) by rw [dayV, if_pos h])
  have H := Lib.hid h
  clear h
  go_enter Tryd.func13, Tryd.ntmps13
  go_wp2_with fail
  refine (cutP s ⟨#[108, 97, 115, 116, 45]⟩ _).mono ?_
  rintro e w' ⟨t, b, rfl, hb, ht, rfl⟩
  obtain rfl : b = true := by rw [hb]; exact decide_eq_true H.out
  have ht' : t.data.toList = s.data.toList.drop 5 := by rw [ht]; rfl
  obtain ⟨n, hn⟩ : ∃ n, n = wkV t.data.toList := ⟨_, rfl⟩
  have HN := Lib.hid hn
  rw [ht'] at hn
  have HN5 := Lib.hid hn
  clear hn hb ht ht'
  go_wp2_with (go_at_call 33; refine (weekday_any _ _ (hm.below ((Below.refl _ _).alloc (Nat.le_refl _) _))).mono ?_; rintro e w' ⟨rfl, rfl⟩; rw [← HN.out])
  · refine bodyPost_ret (v := .tuple #[.agg #[.int .i64 0, .int .i64 0, .int .i64 0], .int .i64 2]) (by simp [results, Tryd.results13, go_sem]) rfl ⟨?_, (Below.refl _ _).alloc (Nat.le_refl _) _⟩
    rw [HD.out, ← HN5.out, if_pos (by grind)]
  · refine bodyPost_ret (v := .tuple #[.agg #[.int .i64 1, .int .i64 0, .int .i64 n], .int .i64 0]) (by simp [results, Tryd.results13, go_sem]) rfl ⟨?_, (Below.refl _ _).alloc (Nat.le_refl _) _⟩
    rw [HD.out, ← HN5.out, if_neg (by grind)]
theorem day_plain (l : List UInt8) (h : ¬ l.take 5 = [108, 97, 115, 116, 45]) (h' : ¬ (5 < l.length ∧ 0 < wkV (l.take 3))) :
    dayV l = if numE l 1 31 = 0 then (0, numV l 1 31, 0, 0) else (0, 0, 0, numE l 1 31) := by rw [dayV, if_neg h, if_neg h']
set_option maxHeartbeats 1000000 in
theorem day_short (s : ByteArray) (w : World) (_hm : HasMax w) (hs : s.size ≤ maxLen) (h : ¬ s.data.toList.take 5 = [108, 97, 115, 116, 45]) (h5 : s.size < 5) :
    Calls Tryd.prog 13 #[.string s] w (DayIs (dayV s.data.toList) w) := by
  have HD := Lib.hid (day_plain s.data.toList h (by rw [len_data]; omega))
  have H := Lib.hid h
  clear h
  go_enter Tryd.func13, Tryd.ntmps13
  go_wp2_with fail
  refine (cutP s ⟨#[108, 97, 115, 116, 45]⟩ _).mono ?_
  rintro e w' ⟨t, b, rfl, hb, ht, rfl⟩
  obtain rfl : b = false := by rw [hb]; exact decide_eq_false H.out
  clear hb ht
  obtain ⟨n, hn⟩ : ∃ n, n = numV s.data.toList 1 31 := ⟨_, rfl⟩
  obtain ⟨x, hx⟩ : ∃ x, x = numE s.data.toList 1 31 := ⟨_, rfl⟩
  have HN := Lib.hid hn
  have HX := Lib.hid hx
  clear hn hx
  go_wp2_with fail
  refine (number_any s 1 31 _ hs).mono ?_
  rintro e w1 ⟨rfl, hbel⟩
  rw [← HN.out, ← HX.out]
  obtain ⟨hc, hf⟩ := bcell hbel
  have hz : w.heap.size + 1 < w1.heap.size := by have := hbel.size; simp at this; omega
  have hB := (((Below.refl w.heap.size w).alloc (Nat.le_refl _) _).alloc (by simp) _).trans (hbel.mono (by simp; omega))
  have c0 : w1.cell? ⟨w.heap.size, 0, none⟩ = some (.int .i64 0) := by rw [hc _ _ (by simp; omega)]; simp [go_sem]
  have c1 : w1.cell? ⟨w.heap.size, 1, none⟩ = some (.int .i64 0) := by rw [hc _ _ (by simp; omega)]; simp [go_sem]
  have c2 : w1.cell? ⟨w.heap.size, 2, none⟩ = some (.int .i64 0) := by rw [hc _ _ (by simp; omega)]; simp [go_sem]
  go_wp2
  · refine bodyPost_ret (v := .tuple #[.agg #[.int .i64 0, .int .i64 0, .int .i64 0], .int .i64 x]) (by simp [results, Tryd.results13, go_sem, c0, c1, c2]) rfl ⟨?_, by repeat (first | exact hB | refine Below.setCell ?_ (by simp) _)⟩
    rw [HD.out, ← HN.out, ← HX.out, if_neg (by grind)]
  · refine bodyPost_ret (v := .tuple #[.agg #[.int .i64 0, .int .i64 n, .int .i64 0], .int .i64 0]) (by simp [results, Tryd.results13, go_sem, c0, c1, c2]) rfl ⟨?_, by repeat (first | exact hB | refine Below.setCell ?_ (by simp) _)⟩
    rw [HD.out, ← HN.out, ← HX.out, if_pos (by grind)]
set_option maxHeartbeats 1000000 in
theorem day_zero (s : ByteArray) (w : World) (hm : HasMax w) (hs : s.size ≤ maxLen) (h : ¬ s.data.toList.take 5 = [108, 97, 115, 116, 45]) (h5 : 5 ≤ s.size) (hw : wkV (s.data.toList.take 3) = 0) :
    Calls Tryd.prog 13 #[.string s] w (DayIs (dayV s.data.toList) w) := by
  have HD := Lib.hid (day_plain s.data.toList h (by omega))
  have H := Lib.hid h
  clear h
  go_enter Tryd.func13, Tryd.ntmps13
  go_wp2_with fail
  refine (cutP s ⟨#[108, 97, 115, 116, 45]⟩ _).mono ?_
  rintro e w' ⟨t, b, rfl, hb, ht, rfl⟩
  obtain rfl : b = false := by rw [hb]; exact decide_eq_false H.out
  clear hb ht
  obtain ⟨n, hn⟩ : ∃ n, n = numV s.data.toList 1 31 := ⟨_, rfl⟩
  obtain ⟨x, hx⟩ : ∃ x, x = numE s.data.toList 1 31 := ⟨_, rfl⟩
  have HN := Lib.hid hn
  have HX := Lib.hid hx
  have HW := Lib.hid (show wkV (s.extract 0 3).data.toList = 0 by rw [Lib.extract_data]; exact hw)
  clear hn hx hw
  go_wp2_with (go_at_call 33; refine (weekday_any _ _ (hm.below (((Below.refl _ _).alloc (Nat.le_refl _) _).alloc (by simp) _))).mono ?_; rintro e w' ⟨rfl, rfl⟩; rw [HW.out])
  refine (number_any s 1 31 _ hs).mono ?_
  rintro e w1 ⟨rfl, hbel⟩
  rw [← HN.out, ← HX.out]
  obtain ⟨hc, hf⟩ := bcell hbel
  have hz : w.heap.size + 1 < w1.heap.size := by have := hbel.size; simp at this; omega
  have hB := (((Below.refl w.heap.size w).alloc (Nat.le_refl _) _).alloc (by simp) _).trans (hbel.mono (by simp; omega))
  have c0 : w1.cell? ⟨w.heap.size, 0, none⟩ = some (.int .i64 0) := by rw [hc _ _ (by simp; omega)]; simp [go_sem]
  have c1 : w1.cell? ⟨w.heap.size, 1, none⟩ = some (.int .i64 0) := by rw [hc _ _ (by simp; omega)]; simp [go_sem]
  have c2 : w1.cell? ⟨w.heap.size, 2, none⟩ = some (.int .i64 0) := by rw [hc _ _ (by simp; omega)]; simp [go_sem]
  go_wp2
  · refine bodyPost_ret (v := .tuple #[.agg #[.int .i64 0, .int .i64 0, .int .i64 0], .int .i64 x]) (by simp [results, Tryd.results13, go_sem, c0, c1, c2]) rfl ⟨?_, by repeat (first | exact hB | refine Below.setCell ?_ (by simp) _)⟩
    rw [HD.out, ← HN.out, ← HX.out, if_neg (by grind)]
  · refine bodyPost_ret (v := .tuple #[.agg #[.int .i64 0, .int .i64 n, .int .i64 0], .int .i64 0]) (by simp [results, Tryd.results13, go_sem, c0, c1, c2]) rfl ⟨?_, by repeat (first | exact hB | refine Below.setCell ?_ (by simp) _)⟩
    rw [HD.out, ← HN.out, ← HX.out, if_pos (by grind)]
theorem day_op (l : List UInt8) (c : UInt8) (k : Int) (h : ¬ l.take 5 = [108, 97, 115, 116, 45]) (h5 : 5 ≤ l.length) (hw : 0 < wkV (l.take 3)) (hc : c = 62 ∧ k = 2 ∨ c = 60 ∧ k = 3) (ho : (l.drop 3).take 2 = [c, 61]) :
    dayV l = if numE (l.drop 5) 1 31 = 0 then (k, numV (l.drop 5) 1 31, wkV (l.take 3), 0) else (0, 0, 0, numE (l.drop 5) 1 31) := by
  rw [dayV, if_neg h]
  by_cases h6 : 5 < l.length
  · rw [if_pos ⟨h6, hw⟩, ho]
    rcases hc with ⟨rfl, rfl⟩ | ⟨rfl, rfl⟩
    · rw [if_pos rfl]
    · rw [if_neg (by decide), if_pos rfl]
  · have e : l.length = 5 := by omega
    rw [if_neg (by omega), num_five l e hw, List.drop_of_length_le (by omega)]
    rfl
theorem day_bad (l : List UInt8) (h : ¬ l.take 5 = [108, 97, 115, 116, 45]) (h5 : 5 ≤ l.length) (hw : 0 < wkV (l.take 3)) (ho : ¬ (l.drop 3).take 2 = [62, 61]) (ho' : ¬ (l.drop 3).take 2 = [60, 61]) :
    dayV l = (0, 0, 0, 2) := by
  rw [dayV, if_neg h]
  by_cases h6 : 5 < l.length
  · rw [if_pos ⟨h6, hw⟩, if_neg ho, if_neg ho']
  · have e : l.length = 5 := by omega
    rw [if_neg (by omega), num_five l e hw]
    rfl
theorem seg_beq (s : ByteArray) (a b : Nat) (q : List UInt8) : ((s.extract a b).toList == q) = decide ((s.data.toList.drop a).take (b - a) = q) := by
  rw [Lib.toList_data, Lib.extract_data, Bool.eq_iff_iff, beq_iff_eq, decide_eq_true_eq]
set_option maxHeartbeats 1000000 in
theorem day_from (s : ByteArray) (w : World) (hm : HasMax w) (hs : s.size ≤ maxLen) (h : ¬ s.data.toList.take 5 = [108, 97, 115, 116, 45]) (h5 : 5 ≤ s.size) (hw : 0 < wkV (s.data.toList.take 3)) (ho : (s.data.toList.drop 3).take 2 = [62, 61]) :
    Calls Tryd.prog 13 #[.string s] w (DayIs (dayV s.data.toList) w) := by
  have HD := Lib.hid (day_op s.data.toList 62 2 h (by rw [len_data]; exact h5) hw (by decide) ho)
  have H := Lib.hid h
  have g1 := seg_beq s 3 5 [62, 61]
  have g2 := seg_beq s 3 5 [60, 61]
  rw [show 5 - 3 = 2 from rfl, ho] at g1 g2
  rw [show decide (([62, 61] : List UInt8) = [62, 61]) = true from by decide] at g1
  rw [show decide (([62, 61] : List UInt8) = [60, 61]) = false from by decide] at g2
  clear h ho
  obtain ⟨d, hd⟩ : ∃ d, d = wkV (s.data.toList.take 3) := ⟨_, rfl⟩
  rw [← hd] at HD hw
  have HW := Lib.hid (show wkV (s.extract 0 3).data.toList = d by rw [hd, Lib.extract_data]; rfl)
  clear hd
  obtain ⟨r, hr⟩ : ∃ r, r = s.extract 5 s.size := ⟨_, rfl⟩
  have hrs : r.size ≤ maxLen := by
    have h1 : r.data.toList.length = s.data.toList.length - 5 := by rw [hr, Lib.extract_to_end, List.length_drop]
    rw [len_data, len_data] at h1
    omega
  obtain ⟨n, hn⟩ : ∃ n, n = numV (s.data.toList.drop 5) 1 31 := ⟨_, rfl⟩
  obtain ⟨x, hx⟩ : ∃ x, x = numE (s.data.toList.drop 5) 1 31 := ⟨_, rfl⟩
  have hnr : numV r.data.toList 1 31 = n := by rw [hr, Lib.extract_to_end, hn]
  have hxr : numE r.data.toList 1 31 = x := by rw [hr, Lib.extract_to_end, hx]
  have HN := Lib.hid hn
  have HX := Lib.hid hx
  have HNR := Lib.hid hnr
  have HXR := Lib.hid hxr
  have HR := Lib.hid hr
  clear hn hx hnr hxr hr
  go_enter Tryd.func13, Tryd.ntmps13
  go_wp2_with fail
  refine (cutP s ⟨#[108, 97, 115, 116, 45]⟩ _).mono ?_
  rintro e w' ⟨t, b, rfl, hb, ht, rfl⟩
  obtain rfl : b = false := by rw [hb]; exact decide_eq_false H.out
  clear hb ht
  go_wp2_with (go_at_call 33; refine (weekday_any _ _ (hm.below (((Below.refl _ _).alloc (Nat.le_refl _) _).alloc (by simp) _))).mono ?_; rintro e w' ⟨rfl, rfl⟩; rw [HW.out])
  rw [← HR.out]
  refine (number_any r 1 31 _ hrs).mono ?_
  rintro e w1 ⟨rfl, hbel⟩
  rw [HNR.out, HXR.out]
  obtain ⟨hc, hf⟩ := bcell hbel
  have hz : w.heap.size + 1 < w1.heap.size := by have := hbel.size; simp at this; omega
  have hB := (((Below.refl w.heap.size w).alloc (Nat.le_refl _) _).alloc (by simp) _).trans (hbel.mono (by simp; omega))
  have c0 : w1.cell? ⟨w.heap.size, 0, none⟩ = some (.int .i64 0) := by rw [hc _ _ (by simp; omega)]; simp [go_sem]
  have c1 : w1.cell? ⟨w.heap.size, 1, none⟩ = some (.int .i64 0) := by rw [hc _ _ (by simp; omega)]; simp [go_sem]
  have c2 : w1.cell? ⟨w.heap.size, 2, none⟩ = some (.int .i64 0) := by rw [hc _ _ (by simp; omega)]; simp [go_sem]
  go_wp2
  · refine bodyPost_ret (v := .tuple #[.agg #[.int .i64 0, .int .i64 0, .int .i64 0], .int .i64 x]) (by simp [results, Tryd.results13, go_sem, c0, c1, c2]) rfl ⟨?_, by repeat (first | exact hB | refine Below.setCell ?_ (by simp) _)⟩
    rw [HD.out, ← HN.out, ← HX.out, if_neg (by grind)]
  · refine bodyPost_ret (v := .tuple #[.agg #[.int .i64 2, .int .i64 n, .int .i64 d], .int .i64 0]) (by simp [results, Tryd.results13, go_sem, c0, c1, c2]) rfl ⟨?_, by repeat (first | exact hB | refine Below.setCell ?_ (by simp) _)⟩
    rw [HD.out, ← HN.out, ← HX.out, if_pos (by grind)]
set_option maxHeartbeats 1000000 in
theorem day_before (s : ByteArray) (w : World) (hm : HasMax w) (hs : s.size ≤ maxLen) (h : ¬ s.data.toList.take 5 = [108, 97, 115, 116, 45]) (h5 : 5 ≤ s.size) (hw : 0 < wkV (s.data.toList.take 3)) (ho : (s.data.toList.drop 3).take 2 = [60, 61]) :
    Calls Tryd.prog 13 #[.string s] w (DayIs (dayV s.data.toList) w) := by
  have HD := Lib.hid (day_op s.data.toList 60 3 h (by rw [len_data]; exact h5) hw (by decide) ho)
  have H := Lib.hid h
  have g1 := seg_beq s 3 5 [62, 61]
  have g2 := seg_beq s 3 5 [60, 61]
  rw [show 5 - 3 = 2 from rfl, ho] at g1 g2
  rw [show decide (([60, 61] : List UInt8) = [62, 61]) = false from by decide] at g1
  rw [show decide (([60, 61] : List UInt8) = [60, 61]) = true from by decide] at g2
  clear h ho
  obtain ⟨d, hd⟩ : ∃ d, d = wkV (s.data.toList.take 3) := ⟨_, rfl⟩
  rw [← hd] at HD hw
  have HW := Lib.hid (show wkV (s.extract 0 3).data.toList = d by rw [hd, Lib.extract_data]; rfl)
  clear hd
  obtain ⟨r, hr⟩ : ∃ r, r = s.extract 5 s.size := ⟨_, rfl⟩
  have hrs : r.size ≤ maxLen := by
    have h1 : r.data.toList.length = s.data.toList.length - 5 := by rw [hr, Lib.extract_to_end, List.length_drop]
    rw [len_data, len_data] at h1
    omega
  obtain ⟨n, hn⟩ : ∃ n, n = numV (s.data.toList.drop 5) 1 31 := ⟨_, rfl⟩
  obtain ⟨x, hx⟩ : ∃ x, x = numE (s.data.toList.drop 5) 1 31 := ⟨_, rfl⟩
  have hnr : numV r.data.toList 1 31 = n := by rw [hr, Lib.extract_to_end, hn]
  have hxr : numE r.data.toList 1 31 = x := by rw [hr, Lib.extract_to_end, hx]
  have HN := Lib.hid hn
  have HX := Lib.hid hx
  have HNR := Lib.hid hnr
  have HXR := Lib.hid hxr
  have HR := Lib.hid hr
  clear hn hx hnr hxr hr
  go_enter Tryd.func13, Tryd.ntmps13
  go_wp2_with fail
  refine (cutP s ⟨#[108, 97, 115, 116, 45]⟩ _).mono ?_
  rintro e w' ⟨t, b, rfl, hb, ht, rfl⟩
  obtain rfl : b = false := by rw [hb]; exact decide_eq_false H.out
  clear hb ht
  go_wp2_with (go_at_call 33; refine (weekday_any _ _ (hm.below (((Below.refl _ _).alloc (Nat.le_refl _) _).alloc (by simp) _))).mono ?_; rintro e w' ⟨rfl, rfl⟩; rw [HW.out])
  rw [← HR.out]
  refine (number_any r 1 31 _ hrs).mono ?_
  rintro e w1 ⟨rfl, hbel⟩
  rw [HNR.out, HXR.out]
  obtain ⟨hc, hf⟩ := bcell hbel
  have hz : w.heap.size + 1 < w1.heap.size := by have := hbel.size; simp at this; omega
  have hB := (((Below.refl w.heap.size w).alloc (Nat.le_refl _) _).alloc (by simp) _).trans (hbel.mono (by simp; omega))
  have c0 : w1.cell? ⟨w.heap.size, 0, none⟩ = some (.int .i64 0) := by rw [hc _ _ (by simp; omega)]; simp [go_sem]
  have c1 : w1.cell? ⟨w.heap.size, 1, none⟩ = some (.int .i64 0) := by rw [hc _ _ (by simp; omega)]; simp [go_sem]
  have c2 : w1.cell? ⟨w.heap.size, 2, none⟩ = some (.int .i64 0) := by rw [hc _ _ (by simp; omega)]; simp [go_sem]
  go_wp2
  · refine bodyPost_ret (v := .tuple #[.agg #[.int .i64 0, .int .i64 0, .int .i64 0], .int .i64 x]) (by simp [results, Tryd.results13, go_sem, c0, c1, c2]) rfl ⟨?_, by repeat (first | exact hB | refine Below.setCell ?_ (by simp) _)⟩
    rw [HD.out, ← HN.out, ← HX.out, if_neg (by grind)]
  · refine bodyPost_ret (v := .tuple #[.agg #[.int .i64 3, .int .i64 n, .int .i64 d], .int .i64 0]) (by simp [results, Tryd.results13, go_sem, c0, c1, c2]) rfl ⟨?_, by repeat (first | exact hB | refine Below.setCell ?_ (by simp) _)⟩
    rw [HD.out, ← HN.out, ← HX.out, if_pos (by grind)]
set_option maxHeartbeats 1000000 in
theorem day_odd (s : ByteArray) (w : World) (hm : HasMax w) (_hs : s.size ≤ maxLen) (h : ¬ s.data.toList.take 5 = [108, 97, 115, 116, 45]) (h5 : 5 ≤ s.size) (hw : 0 < wkV (s.data.toList.take 3)) (ho : ¬ (s.data.toList.drop 3).take 2 = [62, 61]) (ho' : ¬ (s.data.toList.drop 3).take 2 = [60, 61]) :
    Calls Tryd.prog 13 #[.string s] w (DayIs (dayV s.data.toList) w) := by
  have HD := Lib.hid (day_bad s.data.toList h (by rw [len_data]; exact h5) hw ho ho')
  have H := Lib.hid h
  have g1 := seg_beq s 3 5 [62, 61]
  have g2 := seg_beq s 3 5 [60, 61]
  rw [show 5 - 3 = 2 from rfl, decide_eq_false ho] at g1
  rw [show 5 - 3 = 2 from rfl, decide_eq_false ho'] at g2
  clear h ho ho'
  obtain ⟨d, hd⟩ : ∃ d, d = wkV (s.data.toList.take 3) := ⟨_, rfl⟩
  rw [← hd] at hw
  have HW := Lib.hid (show wkV (s.extract 0 3).data.toList = d by rw [hd, Lib.extract_data]; rfl)
  clear hd
  go_enter Tryd.func13, Tryd.ntmps13
  go_wp2_with fail
  refine (cutP s ⟨#[108, 97, 115, 116, 45]⟩ _).mono ?_
  rintro e w' ⟨t, b, rfl, hb, ht, rfl⟩
  obtain rfl : b = false := by rw [hb]; exact decide_eq_false H.out
  clear hb ht
  go_wp2_with (go_at_call 33; refine (weekday_any _ _ (hm.below (((Below.refl _ _).alloc (Nat.le_refl _) _).alloc (by simp) _))).mono ?_; rintro e w' ⟨rfl, rfl⟩; rw [HW.out])
  refine bodyPost_ret (v := .tuple #[.agg #[.int .i64 0, .int .i64 0, .int .i64 0], .int .i64 2]) (by simp [results, Tryd.results13, go_sem]) rfl ⟨?_, by repeat (first | exact Below.refl _ _ | refine Below.setCell ?_ (by simp) _ | refine Below.alloc ?_ (by simp) _)⟩
  rw [HD.out]
theorem day_any (s : ByteArray) (w : World) (hm : HasMax w) (hs : s.size ≤ maxLen) :
    Calls Tryd.prog 13 #[.string s] w (DayIs (dayV s.data.toList) w) := by
  by_cases h : s.data.toList.take 5 = [108, 97, 115, 116, 45]
  · exact day_last s w hm hs h
  by_cases h5 : s.size < 5
  · exact day_short s w hm hs h h5
  by_cases hw : wkV (s.data.toList.take 3) = 0
  · exact day_zero s w hm hs h (by omega) hw
  have hw' : 0 < wkV (s.data.toList.take 3) := by have := wkV_bd (s.data.toList.take 3); omega
  by_cases ho : (s.data.toList.drop 3).take 2 = [62, 61]
  · exact day_from s w hm hs h (by omega) hw' ho
  by_cases ho' : (s.data.toList.drop 3).take 2 = [60, 61]
  · exact day_before s w hm hs h (by omega) hw' ho'
  · exact day_odd s w hm hs h (by omega) hw' ho ho'
end Go.Proofs.YtddgfffempgghaaDoor.X
