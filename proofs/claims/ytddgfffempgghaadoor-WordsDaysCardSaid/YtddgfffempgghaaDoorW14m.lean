/- The walk through words.Moment. -/
import Derived.Test.YtddgfffempgghaaDoorP14m
namespace Go.Proofs.YtddgfffempgghaaDoor.X
open Go.RowKit

theorem sep_at (t : ByteArray) (k : Nat) (c : UInt8) (h : k < t.size) : ((t[k].toNat : Int) != (c.toNat : Int)) = !(t.data.toList.getD k 0 == c) := by
  rw [getD_data t k h, bne, Bool.not_inj_iff, Bool.eq_iff_iff, beq_iff_eq, beq_iff_eq, ← UInt8.toNat_inj]
  omega
theorem shape_sep (t : ByteArray) (h19 : t.size = 19) (k4 : 4 < t.size) (k7 : 7 < t.size) (k10 : 10 < t.size) (k13 : 13 < t.size) (k16 : 16 < t.size) : momShape t.data.toList = !(((t[4].toNat : Int) != 45) || (((t[7].toNat : Int) != 45) || (((t[10].toNat : Int) != 84) || (((t[13].toNat : Int) != 58) || ((t[16].toNat : Int) != 58))))) := by
  have h4 := sep_at t 4 45 (by omega)
  have h7 := sep_at t 7 45 (by omega)
  have h10 := sep_at t 10 84 (by omega)
  have h13 := sep_at t 13 58 (by omega)
  have h16 := sep_at t 16 58 (by omega)
  simp only [show ((45 : UInt8).toNat : Int) = 45 from rfl, show ((84 : UInt8).toNat : Int) = 84 from rfl, show ((58 : UInt8).toNat : Int) = 58 from rfl] at h4 h7 h10 h13 h16
  rw [h4, h7, h10, h13, h16, momShape, Bool.eq_iff_iff]
  simp [h19]
set_option maxHeartbeats 1000000 in
theorem moment_bad (s : ByteArray) (w : World) (_hs : s.size ≤ maxLen) (h : momShape (numRest s.data.toList) = false) :
    Calls Tryd.prog 22 #[.string s] w fun e w' => e = .returned (.tuple #[.int .i64 (momV s.data.toList), .int .i64 (momE s.data.toList)]) ∧ Below w.heap.size w w' := by
  have HV := Lib.hid (show momV s.data.toList = 0 by rw [momV, momOk, h]; rfl)
  have HE := Lib.hid (show momE s.data.toList = 2 by rw [momE, momOk, h]; rfl)
  go_enter Tryd.func22, Tryd.ntmps22
  go_wp2_with fail
  refine (cut1 s 45 w).mono ?_
  rintro e w' ⟨t, b, rfl, hb, ht, rfl⟩
  have ht' : t.data.toList = numRest s.data.toList := by rw [ht]; unfold numRest numNeg; rw [hb]
  rw [← ht'] at h
  clear hb ht ht'
  by_cases h19 : t.size = 19
  · have hz : (t.size : Int) = 19 := by omega
    have k4 : 4 < t.size := by omega
    have k7 : 7 < t.size := by omega
    have k10 : 10 < t.size := by omega
    have k13 : 13 < t.size := by omega
    have k16 : 16 < t.size := by omega
    have hsep := shape_sep t h19 k4 k7 k10 k13 k16
    rw [h] at hsep
    have HS := Lib.hid hsep
    clear h h19 hsep
    go_wp2_with fail
    all_goals first
      | (go_ret2; exact ⟨ret_two HV.out.symm HE.out.symm, Below.refl _ _⟩)
      | (exfalso; have := HS.out; grind)
  · have h19' : ((t.size : Int) != 19) = true := by simp; omega
    clear h19 h
    go_wp2
    go_ret2
    exact ⟨ret_two HV.out.symm HE.out.symm, Below.refl _ _⟩
/-- What is left behind the loop. -/
theorem mom_end (y mo d h m s : Int) : civilV y mo d h m s 0 = (if checkClock h m s 0 ≠ 0 then 0 else if checkDate y mo d ≠ 0 then 0 else daysV y mo d * 86400 + nanosV h m s 0 / 1000000000) ∧
    civilE y mo d h m s 0 = (if checkClock h m s 0 ≠ 0 then checkClock h m s 0 else checkDate y mo d) := by
  unfold civilV civilE checkCivil daysV nanosV civilNum
  constructor
  · by_cases h1 : checkClock h m s 0 = 0
    · by_cases h2 : checkDate y mo d = 0
      · simp [h1, h2]; omega
      · simp [h1, h2]
    · simp [h1]
  · rfl
theorem nanos_bd (h m s n : Int) : 0 ≤ nanosV h m s n ∧ nanosV h m s n ≤ 86400000000000 := by
  unfold nanosV
  split
  · have := checkClock_ok h m s n (by assumption); omega
  · omega
theorem days_bd (y m d : Int) : -100000000 ≤ daysV y m d ∧ daysV y m d ≤ 100000000 := by
  unfold daysV
  split
  · obtain ⟨a, b, c, e, f, g, _⟩ := checkDate_ok y m d (by assumption)
    exact dayNum_bd y m d (by omega) (by omega) (by omega) (by omega) (by omega) (by omega)
  · omega
set_option maxHeartbeats 2000000 in
theorem moment_good (s : ByteArray) (w : World) (_hs : s.size ≤ maxLen) (h : momShape (numRest s.data.toList) = true) :
    Calls Tryd.prog 22 #[.string s] w fun e w' => e = .returned (.tuple #[.int .i64 (momV s.data.toList), .int .i64 (momE s.data.toList)]) ∧ Below w.heap.size w w' := by
  have i0 : ∀ w, (Instr.index 53 (.agg #[.int .i64 0, .int .i64 5, .int .i64 8, .int .i64 11, .int .i64 14, .int .i64 17]) (.int .i64 0)).run Tryd.prog w = .ok (.int .i64 0) w := fun _ => by kernel_rfl
  have i1 : ∀ w, (Instr.index 53 (.agg #[.int .i64 0, .int .i64 5, .int .i64 8, .int .i64 11, .int .i64 14, .int .i64 17]) (.int .i64 1)).run Tryd.prog w = .ok (.int .i64 5) w := fun _ => by kernel_rfl
  have i2 : ∀ w, (Instr.index 53 (.agg #[.int .i64 0, .int .i64 5, .int .i64 8, .int .i64 11, .int .i64 14, .int .i64 17]) (.int .i64 2)).run Tryd.prog w = .ok (.int .i64 8) w := fun _ => by kernel_rfl
  have i3 : ∀ w, (Instr.index 53 (.agg #[.int .i64 0, .int .i64 5, .int .i64 8, .int .i64 11, .int .i64 14, .int .i64 17]) (.int .i64 3)).run Tryd.prog w = .ok (.int .i64 11) w := fun _ => by kernel_rfl
  have i4 : ∀ w, (Instr.index 53 (.agg #[.int .i64 0, .int .i64 5, .int .i64 8, .int .i64 11, .int .i64 14, .int .i64 17]) (.int .i64 4)).run Tryd.prog w = .ok (.int .i64 14) w := fun _ => by kernel_rfl
  have i5 : ∀ w, (Instr.index 53 (.agg #[.int .i64 0, .int .i64 5, .int .i64 8, .int .i64 11, .int .i64 14, .int .i64 17]) (.int .i64 5)).run Tryd.prog w = .ok (.int .i64 17) w := fun _ => by kernel_rfl
  go_enter Tryd.func22, Tryd.ntmps22
  go_wp2_with fail
  refine (cut1 s 45 w).mono ?_
  rintro e w' ⟨t, b, rfl, hb, ht, rfl⟩
  have ht' : t.data.toList = numRest s.data.toList := by rw [ht]; unfold numRest numNeg; rw [hb]
  have HB := Lib.hid (show b = numNeg s.data.toList from hb)
  have HT := Lib.hid ht'
  rw [← ht'] at h
  have h19 : t.size = 19 := by
    have := of_decide_eq_true h
    rw [len_data] at this
    exact this.1
  clear hb ht ht'
  have hz : (t.size : Int) = 19 := by omega
  have k4 : 4 < t.size := by omega
  have k7 : 7 < t.size := by omega
  have k10 : 10 < t.size := by omega
  have k13 : 13 < t.size := by omega
  have k16 : 16 < t.size := by omega
  have hsep := shape_sep t h19 k4 k7 k10 k13 k16
  rw [h] at hsep
  have hs4 : ((t[4].toNat : Int) != 45) = false := by grind
  have hs7 : ((t[7].toNat : Int) != 45) = false := by grind
  have hs10 : ((t[10].toNat : Int) != 84) = false := by grind
  have hs13 : ((t[13].toNat : Int) != 58) = false := by grind
  have hs16 : ((t[16].toNat : Int) != 58) = false := by grind
  have HH := Lib.hid h
  have H19 := Lib.hid h19
  clear hsep h
  go_wp2_with fail
  have hA0 : Arr6 w.heap.size (fun _ => 0) (w.alloc (.cells #[.int .i64 0, .int .i64 0, .int .i64 0, .int .i64 0, .int .i64 0, .int .i64 0] 53)) := by
    refine ⟨fun j hj => ?_, fun j => by simp [World.frozen?, World.alloc, -World.alloc_eq], by simp⟩
    rw [World.cell?_alloc_mark]
    have hc : j = 0 ∨ j = 1 ∨ j = 2 ∨ j = 3 ∨ j = 4 ∨ j = 5 := by omega
    rcases hc with rfl | rfl | rfl | rfl | rfl | rfl <;> rfl
  go_loopw [47] (fun i wr => ∃ k : Nat, k ≤ 6 ∧ i = .int .i64 k ∧ Below w.heap.size w wr ∧ Hid (Arr6 w.heap.size (fun j => if j < k then fld t.data.toList j else 0) wr) ∧ Hid (∀ j, j < k → 0 ≤ fld t.data.toList j)) (fun i _ => 6 - (intOf i).toNat)
  case atStart => exact ⟨0, by omega, rfl, (Below.refl _ _).alloc (Nat.le_refl _) _, hA0, fun j h => by omega⟩
  case round =>
    obtain ⟨k, hk, rfl, hbr, hA, hpos⟩ := hrel
    clear hA0
    by_cases hlt : k < 6
    · have hcase : k = 0 ∨ k = 1 ∨ k = 2 ∨ k = 3 ∨ k = 4 ∨ k = 5 := by omega
      clear hk hlt
      rcases hcase with rfl | rfl | rfl | rfl | rfl | rfl
      · obtain ⟨hdv, hdz⟩ := digV_fld t 0 0 4 H19.out rfl rfl (by omega)
        obtain ⟨n, hn⟩ : ∃ n, n = fld t.data.toList 0 := ⟨_, rfl⟩
        rw [← hn] at hdv
        have HN := Lib.hid hn
        have HD := Lib.hid hdv
        clear hn hdv
        go_wp2_with fail
        refine (digits_any _ _ (by unfold maxLen; omega)).mono ?_
        rintro e w1 ⟨rfl, hbel⟩
        rw [HD.out]
        have hA1 := hA.out.below hbel
        have hck : w1.cell? ⟨w.heap.size, 0, none⟩ = some (.int .i64 0) := hA1.1 0 (by omega)
        have hfk : w1.frozen? ⟨w.heap.size, 0, none⟩ = false := hA1.2.1 0
        have hB1 := below_next hbr hbel
        have HS := Lib.hid (hA1.set 0 (by omega) n)
        clear hA1 hbel
        go_wp2
        · go_ret2
          have hv : momOk s.data.toList = false := by
            have := HN.out
            rw [momOk, ← HT.out, show momFlds t.data.toList = false from decide_eq_false (by omega)]; simp
          exact ⟨ret_two (by rw [momV, if_neg (by rw [hv]; decide)]) (by rw [momE, if_neg (by rw [hv]; decide)]), by repeat (first | exact hB1 | refine Below.setCell ?_ (by simp) _)⟩
        · go_roundw
          case rel =>
            refine ⟨0 + 1, by omega, rfl, by repeat (first | exact hB1 | refine Below.setCell ?_ (by simp) _), ?_, ?_⟩
            · have h1 := HS.out
              have h2 : (fun j => if j = 0 then n else if j < 0 then fld t.data.toList j else 0) = (fun j => if j < 0 + 1 then fld t.data.toList j else 0) := by
                funext j
                by_cases hj : j = 0
                · subst hj; rw [if_pos rfl, if_pos (by omega)]; exact HN.out
                · rw [if_neg hj]
                  by_cases hj2 : j < 0
                  · rw [if_pos hj2, if_pos (by omega)]
                  · rw [if_neg hj2, if_neg (by omega)]
              rw [h2] at h1
              exact h1
            · intro j hj
              by_cases hj2 : j = 0
              · rw [hj2, ← HN.out]; assumption
              · exact hpos.out j (by omega)
          case measure => simp [intOf]
      · obtain ⟨hdv, hdz⟩ := digV_fld t 1 5 7 H19.out rfl rfl (by omega)
        obtain ⟨n, hn⟩ : ∃ n, n = fld t.data.toList 1 := ⟨_, rfl⟩
        rw [← hn] at hdv
        have HN := Lib.hid hn
        have HD := Lib.hid hdv
        clear hn hdv
        go_wp2_with fail
        refine (digits_any _ _ (by unfold maxLen; omega)).mono ?_
        rintro e w1 ⟨rfl, hbel⟩
        rw [HD.out]
        have hA1 := hA.out.below hbel
        have hck : w1.cell? ⟨w.heap.size, 1, none⟩ = some (.int .i64 0) := hA1.1 1 (by omega)
        have hfk : w1.frozen? ⟨w.heap.size, 1, none⟩ = false := hA1.2.1 1
        have hB1 := below_next hbr hbel
        have HS := Lib.hid (hA1.set 1 (by omega) n)
        clear hA1 hbel
        go_wp2
        · go_ret2
          have hv : momOk s.data.toList = false := by
            have := HN.out
            rw [momOk, ← HT.out, show momFlds t.data.toList = false from decide_eq_false (by omega)]; simp
          exact ⟨ret_two (by rw [momV, if_neg (by rw [hv]; decide)]) (by rw [momE, if_neg (by rw [hv]; decide)]), by repeat (first | exact hB1 | refine Below.setCell ?_ (by simp) _)⟩
        · go_roundw
          case rel =>
            refine ⟨1 + 1, by omega, rfl, by repeat (first | exact hB1 | refine Below.setCell ?_ (by simp) _), ?_, ?_⟩
            · have h1 := HS.out
              have h2 : (fun j => if j = 1 then n else if j < 1 then fld t.data.toList j else 0) = (fun j => if j < 1 + 1 then fld t.data.toList j else 0) := by
                funext j
                by_cases hj : j = 1
                · subst hj; rw [if_pos rfl, if_pos (by omega)]; exact HN.out
                · rw [if_neg hj]
                  by_cases hj2 : j < 1
                  · rw [if_pos hj2, if_pos (by omega)]
                  · rw [if_neg hj2, if_neg (by omega)]
              rw [h2] at h1
              exact h1
            · intro j hj
              by_cases hj2 : j = 1
              · rw [hj2, ← HN.out]; assumption
              · exact hpos.out j (by omega)
          case measure => simp [intOf]
      · obtain ⟨hdv, hdz⟩ := digV_fld t 2 8 10 H19.out rfl rfl (by omega)
        obtain ⟨n, hn⟩ : ∃ n, n = fld t.data.toList 2 := ⟨_, rfl⟩
        rw [← hn] at hdv
        have HN := Lib.hid hn
        have HD := Lib.hid hdv
        clear hn hdv
        go_wp2_with fail
        refine (digits_any _ _ (by unfold maxLen; omega)).mono ?_
        rintro e w1 ⟨rfl, hbel⟩
        rw [HD.out]
        have hA1 := hA.out.below hbel
        have hck : w1.cell? ⟨w.heap.size, 2, none⟩ = some (.int .i64 0) := hA1.1 2 (by omega)
        have hfk : w1.frozen? ⟨w.heap.size, 2, none⟩ = false := hA1.2.1 2
        have hB1 := below_next hbr hbel
        have HS := Lib.hid (hA1.set 2 (by omega) n)
        clear hA1 hbel
        go_wp2
        · go_ret2
          have hv : momOk s.data.toList = false := by
            have := HN.out
            rw [momOk, ← HT.out, show momFlds t.data.toList = false from decide_eq_false (by omega)]; simp
          exact ⟨ret_two (by rw [momV, if_neg (by rw [hv]; decide)]) (by rw [momE, if_neg (by rw [hv]; decide)]), by repeat (first | exact hB1 | refine Below.setCell ?_ (by simp) _)⟩
        · go_roundw
          case rel =>
            refine ⟨2 + 1, by omega, rfl, by repeat (first | exact hB1 | refine Below.setCell ?_ (by simp) _), ?_, ?_⟩
            · have h1 := HS.out
              have h2 : (fun j => if j = 2 then n else if j < 2 then fld t.data.toList j else 0) = (fun j => if j < 2 + 1 then fld t.data.toList j else 0) := by
                funext j
                by_cases hj : j = 2
                · subst hj; rw [if_pos rfl, if_pos (by omega)]; exact HN.out
                · rw [if_neg hj]
                  by_cases hj2 : j < 2
                  · rw [if_pos hj2, if_pos (by omega)]
                  · rw [if_neg hj2, if_neg (by omega)]
              rw [h2] at h1
              exact h1
            · intro j hj
              by_cases hj2 : j = 2
              · rw [hj2, ← HN.out]; assumption
              · exact hpos.out j (by omega)
          case measure => simp [intOf]
      · obtain ⟨hdv, hdz⟩ := digV_fld t 3 11 13 H19.out rfl rfl (by omega)
        obtain ⟨n, hn⟩ : ∃ n, n = fld t.data.toList 3 := ⟨_, rfl⟩
        rw [← hn] at hdv
        have HN := Lib.hid hn
        have HD := Lib.hid hdv
        clear hn hdv
        go_wp2_with fail
        refine (digits_any _ _ (by unfold maxLen; omega)).mono ?_
        rintro e w1 ⟨rfl, hbel⟩
        rw [HD.out]
        have hA1 := hA.out.below hbel
        have hck : w1.cell? ⟨w.heap.size, 3, none⟩ = some (.int .i64 0) := hA1.1 3 (by omega)
        have hfk : w1.frozen? ⟨w.heap.size, 3, none⟩ = false := hA1.2.1 3
        have hB1 := below_next hbr hbel
        have HS := Lib.hid (hA1.set 3 (by omega) n)
        clear hA1 hbel
        go_wp2
        · go_ret2
          have hv : momOk s.data.toList = false := by
            have := HN.out
            rw [momOk, ← HT.out, show momFlds t.data.toList = false from decide_eq_false (by omega)]; simp
          exact ⟨ret_two (by rw [momV, if_neg (by rw [hv]; decide)]) (by rw [momE, if_neg (by rw [hv]; decide)]), by repeat (first | exact hB1 | refine Below.setCell ?_ (by simp) _)⟩
        · go_roundw
          case rel =>
            refine ⟨3 + 1, by omega, rfl, by repeat (first | exact hB1 | refine Below.setCell ?_ (by simp) _), ?_, ?_⟩
            · have h1 := HS.out
              have h2 : (fun j => if j = 3 then n else if j < 3 then fld t.data.toList j else 0) = (fun j => if j < 3 + 1 then fld t.data.toList j else 0) := by
                funext j
                by_cases hj : j = 3
                · subst hj; rw [if_pos rfl, if_pos (by omega)]; exact HN.out
                · rw [if_neg hj]
                  by_cases hj2 : j < 3
                  · rw [if_pos hj2, if_pos (by omega)]
                  · rw [if_neg hj2, if_neg (by omega)]
              rw [h2] at h1
              exact h1
            · intro j hj
              by_cases hj2 : j = 3
              · rw [hj2, ← HN.out]; assumption
              · exact hpos.out j (by omega)
          case measure => simp [intOf]
      · obtain ⟨hdv, hdz⟩ := digV_fld t 4 14 16 H19.out rfl rfl (by omega)
        obtain ⟨n, hn⟩ : ∃ n, n = fld t.data.toList 4 := ⟨_, rfl⟩
        rw [← hn] at hdv
        have HN := Lib.hid hn
        have HD := Lib.hid hdv
        clear hn hdv
        go_wp2_with fail
        refine (digits_any _ _ (by unfold maxLen; omega)).mono ?_
        rintro e w1 ⟨rfl, hbel⟩
        rw [HD.out]
        have hA1 := hA.out.below hbel
        have hck : w1.cell? ⟨w.heap.size, 4, none⟩ = some (.int .i64 0) := hA1.1 4 (by omega)
        have hfk : w1.frozen? ⟨w.heap.size, 4, none⟩ = false := hA1.2.1 4
        have hB1 := below_next hbr hbel
        have HS := Lib.hid (hA1.set 4 (by omega) n)
        clear hA1 hbel
        go_wp2
        · go_ret2
          have hv : momOk s.data.toList = false := by
            have := HN.out
            rw [momOk, ← HT.out, show momFlds t.data.toList = false from decide_eq_false (by omega)]; simp
          exact ⟨ret_two (by rw [momV, if_neg (by rw [hv]; decide)]) (by rw [momE, if_neg (by rw [hv]; decide)]), by repeat (first | exact hB1 | refine Below.setCell ?_ (by simp) _)⟩
        · go_roundw
          case rel =>
            refine ⟨4 + 1, by omega, rfl, by repeat (first | exact hB1 | refine Below.setCell ?_ (by simp) _), ?_, ?_⟩
            · have h1 := HS.out
              have h2 : (fun j => if j = 4 then n else if j < 4 then fld t.data.toList j else 0) = (fun j => if j < 4 + 1 then fld t.data.toList j else 0) := by
                funext j
                by_cases hj : j = 4
                · subst hj; rw [if_pos rfl, if_pos (by omega)]; exact HN.out
                · rw [if_neg hj]
                  by_cases hj2 : j < 4
                  · rw [if_pos hj2, if_pos (by omega)]
                  · rw [if_neg hj2, if_neg (by omega)]
              rw [h2] at h1
              exact h1
            · intro j hj
              by_cases hj2 : j = 4
              · rw [hj2, ← HN.out]; assumption
              · exact hpos.out j (by omega)
          case measure => simp [intOf]
      · obtain ⟨hdv, hdz⟩ := digV_fld t 5 17 19 H19.out rfl rfl (by omega)
        obtain ⟨n, hn⟩ : ∃ n, n = fld t.data.toList 5 := ⟨_, rfl⟩
        rw [← hn] at hdv
        have HN := Lib.hid hn
        have HD := Lib.hid hdv
        clear hn hdv
        go_wp2_with fail
        refine (digits_any _ _ (by unfold maxLen; omega)).mono ?_
        rintro e w1 ⟨rfl, hbel⟩
        rw [HD.out]
        have hA1 := hA.out.below hbel
        have hck : w1.cell? ⟨w.heap.size, 5, none⟩ = some (.int .i64 0) := hA1.1 5 (by omega)
        have hfk : w1.frozen? ⟨w.heap.size, 5, none⟩ = false := hA1.2.1 5
        have hB1 := below_next hbr hbel
        have HS := Lib.hid (hA1.set 5 (by omega) n)
        clear hA1 hbel
        go_wp2
        · go_ret2
          have hv : momOk s.data.toList = false := by
            have := HN.out
            rw [momOk, ← HT.out, show momFlds t.data.toList = false from decide_eq_false (by omega)]; simp
          exact ⟨ret_two (by rw [momV, if_neg (by rw [hv]; decide)]) (by rw [momE, if_neg (by rw [hv]; decide)]), by repeat (first | exact hB1 | refine Below.setCell ?_ (by simp) _)⟩
        · go_roundw
          case rel =>
            refine ⟨5 + 1, by omega, rfl, by repeat (first | exact hB1 | refine Below.setCell ?_ (by simp) _), ?_, ?_⟩
            · have h1 := HS.out
              have h2 : (fun j => if j = 5 then n else if j < 5 then fld t.data.toList j else 0) = (fun j => if j < 5 + 1 then fld t.data.toList j else 0) := by
                funext j
                by_cases hj : j = 5
                · subst hj; rw [if_pos rfl, if_pos (by omega)]; exact HN.out
                · rw [if_neg hj]
                  by_cases hj2 : j < 5
                  · rw [if_pos hj2, if_pos (by omega)]
                  · rw [if_neg hj2, if_neg (by omega)]
              rw [h2] at h1
              exact h1
            · intro j hj
              by_cases hj2 : j = 5
              · rw [hj2, ← HN.out]; assumption
              · exact hpos.out j (by omega)
          case measure => simp [intOf]
    · obtain rfl : k = 6 := by omega
      obtain ⟨f0, hf0⟩ : ∃ f, f = fld t.data.toList 0 := ⟨_, rfl⟩
      have hp0 : 0 ≤ f0 := by rw [hf0]; exact hpos.out 0 (by omega)
      have HF0 := Lib.hid hf0
      have c0 : wr.cell? ⟨w.heap.size, 0, none⟩ = some (.int .i64 f0) := by rw [hf0]; exact hA.out.1 0 (by omega)
      obtain ⟨f1, hf1⟩ : ∃ f, f = fld t.data.toList 1 := ⟨_, rfl⟩
      have hp1 : 0 ≤ f1 := by rw [hf1]; exact hpos.out 1 (by omega)
      have HF1 := Lib.hid hf1
      have c1 : wr.cell? ⟨w.heap.size, 1, none⟩ = some (.int .i64 f1) := by rw [hf1]; exact hA.out.1 1 (by omega)
      obtain ⟨f2, hf2⟩ : ∃ f, f = fld t.data.toList 2 := ⟨_, rfl⟩
      have hp2 : 0 ≤ f2 := by rw [hf2]; exact hpos.out 2 (by omega)
      have HF2 := Lib.hid hf2
      have c2 : wr.cell? ⟨w.heap.size, 2, none⟩ = some (.int .i64 f2) := by rw [hf2]; exact hA.out.1 2 (by omega)
      obtain ⟨f3, hf3⟩ : ∃ f, f = fld t.data.toList 3 := ⟨_, rfl⟩
      have hp3 : 0 ≤ f3 := by rw [hf3]; exact hpos.out 3 (by omega)
      have HF3 := Lib.hid hf3
      have c3 : wr.cell? ⟨w.heap.size, 3, none⟩ = some (.int .i64 f3) := by rw [hf3]; exact hA.out.1 3 (by omega)
      obtain ⟨f4, hf4⟩ : ∃ f, f = fld t.data.toList 4 := ⟨_, rfl⟩
      have hp4 : 0 ≤ f4 := by rw [hf4]; exact hpos.out 4 (by omega)
      have HF4 := Lib.hid hf4
      have c4 : wr.cell? ⟨w.heap.size, 4, none⟩ = some (.int .i64 f4) := by rw [hf4]; exact hA.out.1 4 (by omega)
      obtain ⟨f5, hf5⟩ : ∃ f, f = fld t.data.toList 5 := ⟨_, rfl⟩
      have hp5 : 0 ≤ f5 := by rw [hf5]; exact hpos.out 5 (by omega)
      have HF5 := Lib.hid hf5
      have c5 : wr.cell? ⟨w.heap.size, 5, none⟩ = some (.int .i64 f5) := by rw [hf5]; exact hA.out.1 5 (by omega)
      have hu0 : f0 ≤ 9999 := by rw [hf0]; exact (fld_bd t.data.toList 0).2
      have hflds : momFlds t.data.toList = true := decide_eq_true ⟨by omega, by omega, by omega, by omega, by omega, by omega⟩
      have hok : momOk s.data.toList = !(b && decide (f0 = 0)) := by rw [hf0, momOk, ← HT.out, HH.out, hflds, ← HB.out]; rfl
      have hV : momV s.data.toList = if momOk s.data.toList = true then civilV (if b = true then -f0 else f0) f1 f2 f3 f4 f5 0 else 0 := by rw [momV, momY, ← HT.out, ← HB.out, hf0, hf1, hf2, hf3, hf4, hf5]
      have hE : momE s.data.toList = if momOk s.data.toList = true then civilE (if b = true then -f0 else f0) f1 f2 f3 f4 f5 0 else 2 := by rw [momE, momY, ← HT.out, ← HB.out, hf0, hf1, hf2, hf3, hf4, hf5]
      have hfr : wr.frozen? ⟨w.heap.size, 0, none⟩ = false := hA.out.2.1 0
      have HA1 := Lib.hid (hA.out.set 0 (by omega) (-f0))
      have HBr := Lib.hid hbr
      clear hf0 hf1 hf2 hf3 hf4 hf5 hflds hp1 hp2 hp3 hp4 hp5
      cases b
      · have HV := Lib.hid (show momV s.data.toList = civilV f0 f1 f2 f3 f4 f5 0 by rw [hV, hok]; rfl)
        have HE := Lib.hid (show momE s.data.toList = civilE f0 f1 f2 f3 f4 f5 0 by rw [hE, hok]; rfl)
        clear hok hV hE hbr
        obtain ⟨k, hk⟩ : ∃ k, k = checkClock f3 f4 f5 0 := ⟨_, rfl⟩
        obtain ⟨x, hx⟩ : ∃ x, x = checkDate f0 f1 f2 := ⟨_, rfl⟩
        obtain ⟨na, hna⟩ : ∃ na, na = nanosV f3 f4 f5 0 := ⟨_, rfl⟩
        obtain ⟨dd, hdd⟩ : ∃ dd, dd = daysV f0 f1 f2 := ⟨_, rfl⟩
        have hnb := nanos_bd f3 f4 f5 0
        have hdb := days_bd f0 f1 f2
        rw [← hna] at hnb
        rw [← hdd] at hdb
        obtain ⟨nb0, nb1⟩ := hnb
        obtain ⟨db0, db1⟩ := hdb
        have hend := mom_end f0 f1 f2 f3 f4 f5
        rw [← hk, ← hx, ← hna, ← hdd] at hend
        have HEnd := Lib.hid hend
        have HK := Lib.hid hk
        have HX := Lib.hid hx
        have HNa := Lib.hid hna
        have HDd := Lib.hid hdd
        clear hend hk hx hna hdd
        go_wp2_with fail
        refine (nanos_any _ _ _ _ _).mono ?_
        rintro e w2 ⟨rfl, hbel⟩
        rw [← HK.out, ← HNa.out]
        have hA2 := hA.out.below hbel
        have e0 : w2.cell? ⟨w.heap.size, 0, none⟩ = some (.int .i64 f0) := by rw [HF0.out]; exact hA2.1 0 (by omega)
        have e1 : w2.cell? ⟨w.heap.size, 1, none⟩ = some (.int .i64 f1) := by rw [HF1.out]; exact hA2.1 1 (by omega)
        have e2 : w2.cell? ⟨w.heap.size, 2, none⟩ = some (.int .i64 f2) := by rw [HF2.out]; exact hA2.1 2 (by omega)
        have hB2 := below_next HBr.out hbel
        clear hA2 hbel
        by_cases hkz : k = 0
        · have hk0 : (k != 0) = false := by rw [hkz]; rfl
          have HKZ := Lib.hid hkz
          clear hkz
          go_wp2_with fail
          refine (days_any _ _ _ _).mono ?_
          rintro e w3 ⟨rfl, hbel⟩
          rw [← HX.out, ← HDd.out]
          have hB3 := below_next hB2 hbel
          clear hbel
          go_wp2
          · go_ret2
            exact ⟨ret_two (by rw [HV.out, HEnd.out.1]; grind) (by rw [HE.out, HEnd.out.2]; grind), hB3⟩
          · go_ret2
            exact ⟨ret_two (by rw [HV.out, HEnd.out.1]; grind) (by rw [HE.out, HEnd.out.2]; grind), hB3⟩
        · have hk0 : (k != 0) = true := by simpa using hkz
          have HKZ := Lib.hid hkz
          clear hkz
          go_wp2
          go_ret2
          exact ⟨ret_two (by rw [HV.out, HEnd.out.1, if_pos HKZ.out]) (by rw [HE.out, HEnd.out.2, if_pos HKZ.out]), hB2⟩
      · by_cases hz0 : f0 = 0
        · have HV := Lib.hid (show momV s.data.toList = 0 by rw [hV, hok, hz0]; rfl)
          have HE := Lib.hid (show momE s.data.toList = 2 by rw [hE, hok, hz0]; rfl)
          have hz0' : (f0 == 0) = true := by rw [hz0]; rfl
          clear hok hV hE hz0
          go_wp2
          go_ret2
          exact ⟨ret_two HV.out.symm HE.out.symm, hbr⟩
        have hz0' : (f0 == 0) = false := beq_eq_false_iff_ne.2 hz0
        have HV := Lib.hid (show momV s.data.toList = civilV (-f0) f1 f2 f3 f4 f5 0 by rw [hV, hok, decide_eq_false hz0]; rfl)
        have HE := Lib.hid (show momE s.data.toList = civilE (-f0) f1 f2 f3 f4 f5 0 by rw [hE, hok, decide_eq_false hz0]; rfl)
        clear hok hV hE hz0 hbr
        obtain ⟨k, hk⟩ : ∃ k, k = checkClock f3 f4 f5 0 := ⟨_, rfl⟩
        obtain ⟨x, hx⟩ : ∃ x, x = checkDate (-f0) f1 f2 := ⟨_, rfl⟩
        obtain ⟨na, hna⟩ : ∃ na, na = nanosV f3 f4 f5 0 := ⟨_, rfl⟩
        obtain ⟨dd, hdd⟩ : ∃ dd, dd = daysV (-f0) f1 f2 := ⟨_, rfl⟩
        have hnb := nanos_bd f3 f4 f5 0
        have hdb := days_bd (-f0) f1 f2
        rw [← hna] at hnb
        rw [← hdd] at hdb
        obtain ⟨nb0, nb1⟩ := hnb
        obtain ⟨db0, db1⟩ := hdb
        have hend := mom_end (-f0) f1 f2 f3 f4 f5
        rw [← hk, ← hx, ← hna, ← hdd] at hend
        have HEnd := Lib.hid hend
        have HK := Lib.hid hk
        have HX := Lib.hid hx
        have HNa := Lib.hid hna
        have HDd := Lib.hid hdd
        clear hend hk hx hna hdd
        go_wp2_with fail
        refine (nanos_any _ _ _ _ _).mono ?_
        rintro e w2 ⟨rfl, hbel⟩
        rw [← HK.out, ← HNa.out]
        have hA2 := HA1.out.below hbel
        have e0 : w2.cell? ⟨w.heap.size, 0, none⟩ = some (.int .i64 (-f0)) := hA2.1 0 (by omega)
        have e1 : w2.cell? ⟨w.heap.size, 1, none⟩ = some (.int .i64 f1) := by rw [HF1.out]; exact hA2.1 1 (by omega)
        have e2 : w2.cell? ⟨w.heap.size, 2, none⟩ = some (.int .i64 f2) := by rw [HF2.out]; exact hA2.1 2 (by omega)
        have hB2 := below_next (HBr.out.setCell (Nat.le_refl _) _) hbel
        clear hA2 hbel
        by_cases hkz : k = 0
        · have hk0 : (k != 0) = false := by rw [hkz]; rfl
          have HKZ := Lib.hid hkz
          clear hkz
          go_wp2_with fail
          refine (days_any _ _ _ _).mono ?_
          rintro e w3 ⟨rfl, hbel⟩
          rw [← HX.out, ← HDd.out]
          have hB3 := below_next hB2 hbel
          clear hbel
          go_wp2
          · go_ret2
            exact ⟨ret_two (by rw [HV.out, HEnd.out.1]; grind) (by rw [HE.out, HEnd.out.2]; grind), hB3⟩
          · go_ret2
            exact ⟨ret_two (by rw [HV.out, HEnd.out.1]; grind) (by rw [HE.out, HEnd.out.2]; grind), hB3⟩
        · have hk0 : (k != 0) = true := by simpa using hkz
          have HKZ := Lib.hid hkz
          clear hkz
          go_wp2
          go_ret2
          exact ⟨ret_two (by rw [HV.out, HEnd.out.1, if_pos HKZ.out]) (by rw [HE.out, HEnd.out.2, if_pos HKZ.out]), hB2⟩
theorem moment_any (s : ByteArray) (w : World) (hs : s.size ≤ maxLen) :
    Calls Tryd.prog 22 #[.string s] w fun e w' => e = .returned (.tuple #[.int .i64 (momV s.data.toList), .int .i64 (momE s.data.toList)]) ∧ Below w.heap.size w w' := by
  cases h : momShape (numRest s.data.toList)
  · exact moment_bad s w hs h
  · exact moment_good s w hs h
end Go.Proofs.YtddgfffempgghaaDoor.X
