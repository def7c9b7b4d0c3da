/- The walk through the reference's Moment, where the text has a moment's shape. -/
import Derived.Test.YtddgfffempgghaaDoorW14n
namespace Go.Proofs.YtddgfffempgghaaDoor.X
open Go.RowKit

set_option maxHeartbeats 2000000 in
theorem refMoment_good_pos (s : ByteArray) (w : World) (_hs : s.size ≤ maxLen) (h0 : 0 < s.size) (hc : ((s[0].toNat : Int) == 45) = false) (h : momShape (numRest s.data.toList) = true) :
    Calls Tryd.prog 23 #[.string s] w fun e w' => e = .returned (.tuple #[.int .i64 (momV s.data.toList), .int .i64 (momE s.data.toList)]) ∧ Below w.heap.size w w' := by
  have hnb := neg_byte s h0
  rw [hc] at hnb
  have hrest : s.data.toList = numRest s.data.toList := by rw [numRest, if_neg (by rw [hnb]; decide)]
  rw [← hrest] at h
  have HB := Lib.hid hnb
  have HT := Lib.hid hrest
  clear hnb hrest
  have h19 : s.size = 19 := by
    have := of_decide_eq_true h
    rw [len_data] at this
    exact this.1
  have hz : (s.size : Int) = 19 := by omega
  have k4 : 4 < s.size := by omega
  have k7 : 7 < s.size := by omega
  have k10 : 10 < s.size := by omega
  have k13 : 13 < s.size := by omega
  have k16 : 16 < s.size := by omega
  have hsep := shape_sep s h19 k4 k7 k10 k13 k16
  rw [h] at hsep
  have hs4 : ((s[4].toNat : Int) != 45) = false := by grind
  have hs7 : ((s[7].toNat : Int) != 45) = false := by grind
  have hs10 : ((s[10].toNat : Int) != 84) = false := by grind
  have hs13 : ((s[13].toNat : Int) != 58) = false := by grind
  have hs16 : ((s[16].toNat : Int) != 58) = false := by grind
  obtain ⟨f0, hf0⟩ : ∃ f, f = fld s.data.toList 0 := ⟨_, rfl⟩
  have C0 := Lib.hid (fun W => digAt s 0 0 4 W h19 rfl rfl (by decide))
  rw [← hf0] at C0
  obtain ⟨f1, hf1⟩ : ∃ f, f = fld s.data.toList 1 := ⟨_, rfl⟩
  have C1 := Lib.hid (fun W => digAt s 1 5 2 W h19 rfl rfl (by decide))
  rw [← hf1] at C1
  obtain ⟨f2, hf2⟩ : ∃ f, f = fld s.data.toList 2 := ⟨_, rfl⟩
  have C2 := Lib.hid (fun W => digAt s 2 8 2 W h19 rfl rfl (by decide))
  rw [← hf2] at C2
  obtain ⟨f3, hf3⟩ : ∃ f, f = fld s.data.toList 3 := ⟨_, rfl⟩
  have C3 := Lib.hid (fun W => digAt s 3 11 2 W h19 rfl rfl (by decide))
  rw [← hf3] at C3
  obtain ⟨f4, hf4⟩ : ∃ f, f = fld s.data.toList 4 := ⟨_, rfl⟩
  have C4 := Lib.hid (fun W => digAt s 4 14 2 W h19 rfl rfl (by decide))
  rw [← hf4] at C4
  obtain ⟨f5, hf5⟩ : ∃ f, f = fld s.data.toList 5 := ⟨_, rfl⟩
  have C5 := Lib.hid (fun W => digAt s 5 17 2 W h19 rfl rfl (by decide))
  rw [← hf5] at C5
  have hb0 := fld_bd s.data.toList 0
  rw [← hf0] at hb0
  obtain ⟨hb0, hb0'⟩ := hb0
  have hfl : momFlds s.data.toList = decide (0 ≤ f0 ∧ 0 ≤ f1 ∧ 0 ≤ f2 ∧ 0 ≤ f3 ∧ 0 ≤ f4 ∧ 0 ≤ f5) := by rw [momFlds, hf0, hf1, hf2, hf3, hf4, hf5]
  have hok : momOk s.data.toList = (decide (0 ≤ f0 ∧ 0 ≤ f1 ∧ 0 ≤ f2 ∧ 0 ≤ f3 ∧ 0 ≤ f4 ∧ 0 ≤ f5) && !(false && decide (f0 = 0))) := by rw [momOk, ← HT.out, h, hfl, HB.out, ← hf0]; rfl
  have hV : momV s.data.toList = if momOk s.data.toList = true then civilV f0 f1 f2 f3 f4 f5 0 else 0 := by rw [momV, momY, ← HT.out, HB.out, ← hf0, ← hf1, ← hf2, ← hf3, ← hf4, ← hf5]; rfl
  have hE : momE s.data.toList = if momOk s.data.toList = true then civilE f0 f1 f2 f3 f4 f5 0 else 2 := by rw [momE, momY, ← HT.out, HB.out, ← hf0, ← hf1, ← hf2, ← hf3, ← hf4, ← hf5]; rfl
  have HOk := Lib.hid hok
  have HV := Lib.hid hV
  have HE := Lib.hid hE
  clear h h19 hsep hf0 hf1 hf2 hf3 hf4 hf5 hfl hok hV hE
  go_enter Tryd.func23, Tryd.ntmps23
  go_wp2_with (first | (go_at_call_of 35 (Value.int .i64 0); refine (C0.out _).mono ?_; rintro e w1 ⟨rfl, rfl⟩) | (go_at_call_of 35 (Value.int .i64 5); refine (C1.out _).mono ?_; rintro e w1 ⟨rfl, rfl⟩) | (go_at_call_of 35 (Value.int .i64 8); refine (C2.out _).mono ?_; rintro e w1 ⟨rfl, rfl⟩) | (go_at_call_of 35 (Value.int .i64 11); refine (C3.out _).mono ?_; rintro e w1 ⟨rfl, rfl⟩) | (go_at_call_of 35 (Value.int .i64 14); refine (C4.out _).mono ?_; rintro e w1 ⟨rfl, rfl⟩) | (go_at_call_of 35 (Value.int .i64 17); refine (C5.out _).mono ?_; rintro e w1 ⟨rfl, rfl⟩))
  have hB := (Below.refl w.heap.size w).alloc (Nat.le_refl _) (.cells #[.int .i64 f0, .int .i64 f1, .int .i64 f2, .int .i64 f3, .int .i64 f4, .int .i64 f5] 53)
  go_loop [7] (fun i => ∃ k : Nat, k ≤ 6 ∧ i = .int .i64 k ∧ Hid (∀ j, j < k → 0 ≤ #[f0, f1, f2, f3, f4, f5].getD j 0)) (fun i => 6 - (intOf i).toNat)
  case atStart => exact ⟨0, by omega, rfl, fun j h => by omega⟩
  case round =>
    obtain ⟨k, hk, rfl, hpos⟩ := hrel
    by_cases hlt : k < 6
    · have hcase : k = 0 ∨ k = 1 ∨ k = 2 ∨ k = 3 ∨ k = 4 ∨ k = 5 := by omega
      clear hk hlt
      rcases hcase with rfl | rfl | rfl | rfl | rfl | rfl
      · go_wp2
        · go_ret2
          have hv : momOk s.data.toList = false := by rw [HOk.out, decide_eq_false (by omega)]; rfl
          exact ⟨ret_two (by rw [HV.out, if_neg (by rw [hv]; decide)]) (by rw [HE.out, if_neg (by rw [hv]; decide)]), hB⟩
        · go_round
          case rel =>
            refine ⟨0 + 1, by omega, rfl, fun i hi => ?_⟩
            by_cases hi2 : i = 0
            · subst hi2; show 0 ≤ f0; assumption
            · exact hpos.out i (by omega)
          case measure => simp [intOf]
      · go_wp2
        · go_ret2
          have hv : momOk s.data.toList = false := by rw [HOk.out, decide_eq_false (by omega)]; rfl
          exact ⟨ret_two (by rw [HV.out, if_neg (by rw [hv]; decide)]) (by rw [HE.out, if_neg (by rw [hv]; decide)]), hB⟩
        · go_round
          case rel =>
            refine ⟨1 + 1, by omega, rfl, fun i hi => ?_⟩
            by_cases hi2 : i = 1
            · subst hi2; show 0 ≤ f1; assumption
            · exact hpos.out i (by omega)
          case measure => simp [intOf]
      · go_wp2
        · go_ret2
          have hv : momOk s.data.toList = false := by rw [HOk.out, decide_eq_false (by omega)]; rfl
          exact ⟨ret_two (by rw [HV.out, if_neg (by rw [hv]; decide)]) (by rw [HE.out, if_neg (by rw [hv]; decide)]), hB⟩
        · go_round
          case rel =>
            refine ⟨2 + 1, by omega, rfl, fun i hi => ?_⟩
            by_cases hi2 : i = 2
            · subst hi2; show 0 ≤ f2; assumption
            · exact hpos.out i (by omega)
          case measure => simp [intOf]
      · go_wp2
        · go_ret2
          have hv : momOk s.data.toList = false := by rw [HOk.out, decide_eq_false (by omega)]; rfl
          exact ⟨ret_two (by rw [HV.out, if_neg (by rw [hv]; decide)]) (by rw [HE.out, if_neg (by rw [hv]; decide)]), hB⟩
        · go_round
          case rel =>
            refine ⟨3 + 1, by omega, rfl, fun i hi => ?_⟩
            by_cases hi2 : i = 3
            · subst hi2; show 0 ≤ f3; assumption
            · exact hpos.out i (by omega)
          case measure => simp [intOf]
      · go_wp2
        · go_ret2
          have hv : momOk s.data.toList = false := by rw [HOk.out, decide_eq_false (by omega)]; rfl
          exact ⟨ret_two (by rw [HV.out, if_neg (by rw [hv]; decide)]) (by rw [HE.out, if_neg (by rw [hv]; decide)]), hB⟩
        · go_round
          case rel =>
            refine ⟨4 + 1, by omega, rfl, fun i hi => ?_⟩
            by_cases hi2 : i = 4
            · subst hi2; show 0 ≤ f4; assumption
            · exact hpos.out i (by omega)
          case measure => simp [intOf]
      · go_wp2
        · go_ret2
          have hv : momOk s.data.toList = false := by rw [HOk.out, decide_eq_false (by omega)]; rfl
          exact ⟨ret_two (by rw [HV.out, if_neg (by rw [hv]; decide)]) (by rw [HE.out, if_neg (by rw [hv]; decide)]), hB⟩
        · go_round
          case rel =>
            refine ⟨5 + 1, by omega, rfl, fun i hi => ?_⟩
            by_cases hi2 : i = 5
            · subst hi2; show 0 ≤ f5; assumption
            · exact hpos.out i (by omega)
          case measure => simp [intOf]
    · obtain rfl : k = 6 := by omega
      have hp0 : 0 ≤ f0 := hpos.out 0 (by omega)
      have hp1 : 0 ≤ f1 := hpos.out 1 (by omega)
      have hp2 : 0 ≤ f2 := hpos.out 2 (by omega)
      have hp3 : 0 ≤ f3 := hpos.out 3 (by omega)
      have hp4 : 0 ≤ f4 := hpos.out 4 (by omega)
      have hp5 : 0 ≤ f5 := hpos.out 5 (by omega)
      have hv : momOk s.data.toList = true := by rw [HOk.out, decide_eq_true (by omega)]; rfl
      have HOV := Lib.hid hv
      clear hv
      go_wp2_with fail
      refine (refSecs09 _ _ _ _ _ _ _ _).mono ?_
      rintro e w1 ⟨rfl, hbel⟩
      go_wp2
      go_ret2
      refine ⟨ret_two (by rw [HV.out, if_pos HOV.out]) (by rw [HE.out, if_pos HOV.out]), ((Below.refl w.heap.size w).alloc (Nat.le_refl _) _).trans (hbel.mono (B' := w.heap.size) (by simp))⟩
set_option maxHeartbeats 2000000 in
theorem refMoment_good_neg (s : ByteArray) (w : World) (hs : s.size ≤ maxLen) (h0 : 0 < s.size) (hc : ((s[0].toNat : Int) == 45) = true) (h : momShape (numRest s.data.toList) = true) :
    Calls Tryd.prog 23 #[.string s] w fun e w' => e = .returned (.tuple #[.int .i64 (momV s.data.toList), .int .i64 (momE s.data.toList)]) ∧ Below w.heap.size w w' := by
  unfold maxLen at hs
  have hnb := neg_byte s h0
  rw [hc] at hnb
  have hrest : (s.extract 1 s.size).data.toList = numRest s.data.toList := by rw [numRest, if_pos hnb, cut_front]
  have hsz : (s.extract 1 s.size).size = s.size - 1 := cut_size s
  rw [← hrest] at h
  have HB := Lib.hid hnb
  have HT := Lib.hid hrest
  clear hnb hrest
  have h19 : (s.extract 1 s.size).size = 19 := by
    have := of_decide_eq_true h
    rw [len_data] at this
    exact this.1
  have hz : (s.size : Int) = 20 := by omega
  have hz' : ((s.size - 1 : Nat) : Int) = 19 := by omega
  have k4 : 4 < (s.extract 1 s.size).size := by omega
  have k7 : 7 < (s.extract 1 s.size).size := by omega
  have k10 : 10 < (s.extract 1 s.size).size := by omega
  have k13 : 13 < (s.extract 1 s.size).size := by omega
  have k16 : 16 < (s.extract 1 s.size).size := by omega
  have hsep := shape_sep (s.extract 1 s.size) h19 k4 k7 k10 k13 k16
  rw [h] at hsep
  have hs4 : (((s.extract 1 s.size)[4].toNat : Int) != 45) = false := by grind
  have hs7 : (((s.extract 1 s.size)[7].toNat : Int) != 45) = false := by grind
  have hs10 : (((s.extract 1 s.size)[10].toNat : Int) != 84) = false := by grind
  have hs13 : (((s.extract 1 s.size)[13].toNat : Int) != 58) = false := by grind
  have hs16 : (((s.extract 1 s.size)[16].toNat : Int) != 58) = false := by grind
  obtain ⟨f0, hf0⟩ : ∃ f, f = fld (s.extract 1 s.size).data.toList 0 := ⟨_, rfl⟩
  have C0 := Lib.hid (fun W => digAt (s.extract 1 s.size) 0 0 4 W h19 rfl rfl (by decide))
  rw [← hf0] at C0
  obtain ⟨f1, hf1⟩ : ∃ f, f = fld (s.extract 1 s.size).data.toList 1 := ⟨_, rfl⟩
  have C1 := Lib.hid (fun W => digAt (s.extract 1 s.size) 1 5 2 W h19 rfl rfl (by decide))
  rw [← hf1] at C1
  obtain ⟨f2, hf2⟩ : ∃ f, f = fld (s.extract 1 s.size).data.toList 2 := ⟨_, rfl⟩
  have C2 := Lib.hid (fun W => digAt (s.extract 1 s.size) 2 8 2 W h19 rfl rfl (by decide))
  rw [← hf2] at C2
  obtain ⟨f3, hf3⟩ : ∃ f, f = fld (s.extract 1 s.size).data.toList 3 := ⟨_, rfl⟩
  have C3 := Lib.hid (fun W => digAt (s.extract 1 s.size) 3 11 2 W h19 rfl rfl (by decide))
  rw [← hf3] at C3
  obtain ⟨f4, hf4⟩ : ∃ f, f = fld (s.extract 1 s.size).data.toList 4 := ⟨_, rfl⟩
  have C4 := Lib.hid (fun W => digAt (s.extract 1 s.size) 4 14 2 W h19 rfl rfl (by decide))
  rw [← hf4] at C4
  obtain ⟨f5, hf5⟩ : ∃ f, f = fld (s.extract 1 s.size).data.toList 5 := ⟨_, rfl⟩
  have C5 := Lib.hid (fun W => digAt (s.extract 1 s.size) 5 17 2 W h19 rfl rfl (by decide))
  rw [← hf5] at C5
  have hb0 := fld_bd (s.extract 1 s.size).data.toList 0
  rw [← hf0] at hb0
  obtain ⟨hb0, hb0'⟩ := hb0
  have hfl : momFlds (s.extract 1 s.size).data.toList = decide (0 ≤ f0 ∧ 0 ≤ f1 ∧ 0 ≤ f2 ∧ 0 ≤ f3 ∧ 0 ≤ f4 ∧ 0 ≤ f5) := by rw [momFlds, hf0, hf1, hf2, hf3, hf4, hf5]
  have hok : momOk s.data.toList = (decide (0 ≤ f0 ∧ 0 ≤ f1 ∧ 0 ≤ f2 ∧ 0 ≤ f3 ∧ 0 ≤ f4 ∧ 0 ≤ f5) && !(true && decide (f0 = 0))) := by rw [momOk, ← HT.out, h, hfl, HB.out, ← hf0]; rfl
  have hV : momV s.data.toList = if momOk s.data.toList = true then civilV (-f0) f1 f2 f3 f4 f5 0 else 0 := by rw [momV, momY, ← HT.out, HB.out, ← hf0, ← hf1, ← hf2, ← hf3, ← hf4, ← hf5]; rfl
  have hE : momE s.data.toList = if momOk s.data.toList = true then civilE (-f0) f1 f2 f3 f4 f5 0 else 2 := by rw [momE, momY, ← HT.out, HB.out, ← hf0, ← hf1, ← hf2, ← hf3, ← hf4, ← hf5]; rfl
  have HOk := Lib.hid hok
  have HV := Lib.hid hV
  have HE := Lib.hid hE
  clear h h19 hsep hf0 hf1 hf2 hf3 hf4 hf5 hfl hok hV hE
  go_enter Tryd.func23, Tryd.ntmps23
  go_wp2_with (first | (go_at_call_of 35 (Value.int .i64 0); refine (C0.out _).mono ?_; rintro e w1 ⟨rfl, rfl⟩) | (go_at_call_of 35 (Value.int .i64 5); refine (C1.out _).mono ?_; rintro e w1 ⟨rfl, rfl⟩) | (go_at_call_of 35 (Value.int .i64 8); refine (C2.out _).mono ?_; rintro e w1 ⟨rfl, rfl⟩) | (go_at_call_of 35 (Value.int .i64 11); refine (C3.out _).mono ?_; rintro e w1 ⟨rfl, rfl⟩) | (go_at_call_of 35 (Value.int .i64 14); refine (C4.out _).mono ?_; rintro e w1 ⟨rfl, rfl⟩) | (go_at_call_of 35 (Value.int .i64 17); refine (C5.out _).mono ?_; rintro e w1 ⟨rfl, rfl⟩))
  have hB := (Below.refl w.heap.size w).alloc (Nat.le_refl _) (.cells #[.int .i64 f0, .int .i64 f1, .int .i64 f2, .int .i64 f3, .int .i64 f4, .int .i64 f5] 53)
  go_loop [7] (fun i => ∃ k : Nat, k ≤ 6 ∧ i = .int .i64 k ∧ Hid (∀ j, j < k → 0 ≤ #[f0, f1, f2, f3, f4, f5].getD j 0)) (fun i => 6 - (intOf i).toNat)
  case atStart => exact ⟨0, by omega, rfl, fun j h => by omega⟩
  case round =>
    obtain ⟨k, hk, rfl, hpos⟩ := hrel
    by_cases hlt : k < 6
    · have hcase : k = 0 ∨ k = 1 ∨ k = 2 ∨ k = 3 ∨ k = 4 ∨ k = 5 := by omega
      clear hk hlt
      rcases hcase with rfl | rfl | rfl | rfl | rfl | rfl
      · go_wp2
        · go_ret2
          have hv : momOk s.data.toList = false := by rw [HOk.out, decide_eq_false (by omega)]; rfl
          exact ⟨ret_two (by rw [HV.out, if_neg (by rw [hv]; decide)]) (by rw [HE.out, if_neg (by rw [hv]; decide)]), hB⟩
        · go_round
          case rel =>
            refine ⟨0 + 1, by omega, rfl, fun i hi => ?_⟩
            by_cases hi2 : i = 0
            · subst hi2; show 0 ≤ f0; assumption
            · exact hpos.out i (by omega)
          case measure => simp [intOf]
      · go_wp2
        · go_ret2
          have hv : momOk s.data.toList = false := by rw [HOk.out, decide_eq_false (by omega)]; rfl
          exact ⟨ret_two (by rw [HV.out, if_neg (by rw [hv]; decide)]) (by rw [HE.out, if_neg (by rw [hv]; decide)]), hB⟩
        · go_round
          case rel =>
            refine ⟨1 + 1, by omega, rfl, fun i hi => ?_⟩
            by_cases hi2 : i = 1
            · subst hi2; show 0 ≤ f1; assumption
            · exact hpos.out i (by omega)
          case measure => simp [intOf]
      · go_wp2
        · go_ret2
          have hv : momOk s.data.toList = false := by rw [HOk.out, decide_eq_false (by omega)]; rfl
          exact ⟨ret_two (by rw [HV.out, if_neg (by rw [hv]; decide)]) (by rw [HE.out, if_neg (by rw [hv]; decide)]), hB⟩
        · go_round
          case rel =>
            refine ⟨2 + 1, by omega, rfl, fun i hi => ?_⟩
            by_cases hi2 : i = 2
            · subst hi2; show 0 ≤ f2; assumption
            · exact hpos.out i (by omega)
          case measure => simp [intOf]
      · go_wp2
        · go_ret2
          have hv : momOk s.data.toList = false := by rw [HOk.out, decide_eq_false (by omega)]; rfl
          exact ⟨ret_two (by rw [HV.out, if_neg (by rw [hv]; decide)]) (by rw [HE.out, if_neg (by rw [hv]; decide)]), hB⟩
        · go_round
          case rel =>
            refine ⟨3 + 1, by omega, rfl, fun i hi => ?_⟩
            by_cases hi2 : i = 3
            · subst hi2; show 0 ≤ f3; assumption
            · exact hpos.out i (by omega)
          case measure => simp [intOf]
      · go_wp2
        · go_ret2
          have hv : momOk s.data.toList = false := by rw [HOk.out, decide_eq_false (by omega)]; rfl
          exact ⟨ret_two (by rw [HV.out, if_neg (by rw [hv]; decide)]) (by rw [HE.out, if_neg (by rw [hv]; decide)]), hB⟩
        · go_round
          case rel =>
            refine ⟨4 + 1, by omega, rfl, fun i hi => ?_⟩
            by_cases hi2 : i = 4
            · subst hi2; show 0 ≤ f4; assumption
            · exact hpos.out i (by omega)
          case measure => simp [intOf]
      · go_wp2
        · go_ret2
          have hv : momOk s.data.toList = false := by rw [HOk.out, decide_eq_false (by omega)]; rfl
          exact ⟨ret_two (by rw [HV.out, if_neg (by rw [hv]; decide)]) (by rw [HE.out, if_neg (by rw [hv]; decide)]), hB⟩
        · go_round
          case rel =>
            refine ⟨5 + 1, by omega, rfl, fun i hi => ?_⟩
            by_cases hi2 : i = 5
            · subst hi2; show 0 ≤ f5; assumption
            · exact hpos.out i (by omega)
          case measure => simp [intOf]
    · obtain rfl : k = 6 := by omega
      have hp0 : 0 ≤ f0 := hpos.out 0 (by omega)
      have hp1 : 0 ≤ f1 := hpos.out 1 (by omega)
      have hp2 : 0 ≤ f2 := hpos.out 2 (by omega)
      have hp3 : 0 ≤ f3 := hpos.out 3 (by omega)
      have hp4 : 0 ≤ f4 := hpos.out 4 (by omega)
      have hp5 : 0 ≤ f5 := hpos.out 5 (by omega)
      by_cases hz0 : f0 = 0
      · have hz0' : (f0 == 0) = true := by rw [hz0]; rfl
        have HZ := Lib.hid hz0
        clear hz0
        go_wp2
        go_ret2
        have hv : momOk s.data.toList = false := by rw [HOk.out, HZ.out]; simp
        exact ⟨ret_two (by rw [HV.out, if_neg (by rw [hv]; decide)]) (by rw [HE.out, if_neg (by rw [hv]; decide)]), hB⟩
      · have hz0' : (f0 == 0) = false := beq_eq_false_iff_ne.2 hz0
        have hv : momOk s.data.toList = true := by rw [HOk.out, decide_eq_false hz0, decide_eq_true (by omega)]; rfl
        have HOV := Lib.hid hv
        clear hz0 hv
        go_wp2_with fail
        refine (refSecs09 _ _ _ _ _ _ _ _).mono ?_
        rintro e w1 ⟨rfl, hbel⟩
        go_wp2
        go_ret2
        refine ⟨ret_two (by rw [HV.out, if_pos HOV.out]) (by rw [HE.out, if_pos HOV.out]), ((Below.refl w.heap.size w).alloc (Nat.le_refl _) _).trans (hbel.mono (B' := w.heap.size) (by simp))⟩
theorem refMoment_none (s : ByteArray) (w : World) (h0 : ¬ 0 < s.size) :
    Calls Tryd.prog 23 #[.string s] w fun e w' => e = .returned (.tuple #[.int .i64 (momV s.data.toList), .int .i64 (momE s.data.toList)]) ∧ Below w.heap.size w w' := by
  have HL := Lib.hid (neg_none s h0)
  go_enter Tryd.func23, Tryd.ntmps23
  go_wp2
  go_ret2
  exact ⟨by rw [HL.out]; rfl, Below.refl _ _⟩
theorem refMoment_any (s : ByteArray) (w : World) (hs : s.size ≤ maxLen) :
    Calls Tryd.prog 23 #[.string s] w fun e w' => e = .returned (.tuple #[.int .i64 (momV s.data.toList), .int .i64 (momE s.data.toList)]) ∧ Below w.heap.size w w' := by
  by_cases h0 : 0 < s.size
  · cases h : momShape (numRest s.data.toList)
    · cases hc : ((s[0].toNat : Int) == 45)
      · exact refMoment_bad_pos s w hs h0 hc h
      · exact refMoment_bad_neg s w hs h0 hc h
    · cases hc : ((s[0].toNat : Int) == 45)
      · exact refMoment_good_pos s w hs h0 hc h
      · exact refMoment_good_neg s w hs h0 hc h
  · exact refMoment_none s w h0
end Go.Proofs.YtddgfffempgghaaDoor.X
