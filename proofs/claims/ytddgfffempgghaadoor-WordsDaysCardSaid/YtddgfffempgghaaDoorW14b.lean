/- The walks through the reference's digits and Number. -/
import Derived.Test.YtddgfffempgghaaDoorW14a
namespace Go.Proofs.YtddgfffempgghaaDoor.X
open Go.RowKit

theorem seg_at (s : ByteArray) (a n k : Nat) (hk : k < n) (h : a + n ≤ s.size) : ((s.data.toList.drop a).take n).drop k = (s[a + k]'(by omega)) :: ((s.data.toList.drop a).take n).drop (k + 1) := by
  rw [List.drop_eq_getElem_cons (by rw [List.length_take, List.length_drop, len_data]; omega)]
  congr 1
  rw [List.getElem_take, List.getElem_drop]
  rfl
set_option maxHeartbeats 400000 in
theorem refDigits_any (s : ByteArray) (a n : Nat) (w : World) (h : a + n ≤ s.size) (hs : s.size ≤ maxLen) :
    Calls Tryd.prog 35 #[.string s, .int .i64 a, .int .i64 n] w fun e w' => e = .returned (.int .i64 (valW ((s.data.toList.drop a).take n) 0)) ∧ w = w' := by
  unfold maxLen at hs
  go_enter Tryd.func35, Tryd.ntmps35
  have e1 : decide (s.size < n) = false := by simp; omega
  have e2 : decide ((a : Int) < 0) = false := by simp
  have e3 : decide ((s.size : Int) - (n : Int) < (a : Int)) = false := by simp; omega
  have hseg := Lib.hid (fun k hk => seg_at s a n k hk h)
  go_wp2
  go_loop [7, 8] (fun v i => ∃ (k : Nat) (m : Int), k ≤ n ∧ i = .int .i64 ((a + k : Nat) : Int) ∧ v = .int .i64 m ∧ Hid (valW (((s.data.toList.drop a).take n).drop k) m = valW ((s.data.toList.drop a).take n) 0)) (fun _ i => a + n - (intOf i).toNat)
  case atStart => exact ⟨0, 0, Nat.zero_le _, rfl, rfl, rfl⟩
  case round =>
    obtain ⟨k, m, hk, rfl, rfl, hd⟩ := hrel
    by_cases hlt : k < n
    · obtain ⟨hb0, hb1⟩ := byte_bd (s[a + k]'(by omega))
      have hstep := Lib.hid (hseg.out k hlt)
      go_wp2
      case roundEnd =>
        go_round
        case rel => exact ⟨k + 1, _, by omega, by first | rfl | go_num, rfl, by
          have h1 := hd.out
          rw [hstep.out, valW, if_neg (by omega)] at h1
          exact h1⟩
        case measure => simp [intOf]; omega
      all_goals
        go_ret
        refine ⟨ret_int ?_, rfl⟩
        rw [← hd.out, hstep.out, valW, if_pos (by omega)]
    · have hke : k = n := by omega
      have hd' := Lib.hid (show valW [] m = valW ((s.data.toList.drop a).take n) 0 by rw [← hd.out, hke, List.drop_of_length_le (by rw [List.length_take]; omega)])
      clear hd
      go_wp2
      go_ret
      exact ⟨ret_int (by rw [← hd'.out, valW]), rfl⟩
theorem refDigits_all (s : ByteArray) (w : World) (hs : s.size ≤ maxLen) :
    Calls Tryd.prog 35 #[.string s, .int .i64 0, .int .i64 s.size] w fun e w' => e = .returned (.int .i64 (valW s.data.toList 0)) ∧ w = w' := by
  have h := refDigits_any s 0 s.size w (by omega) hs
  rw [List.drop_zero, List.take_of_length_le (by rw [len_data]; omega)] at h
  exact h
theorem refDigits_at (s : ByteArray) (a n : Int) (w : World) (ha : 0 ≤ a) (hn : 0 ≤ n) (hn' : n ≤ 18) (h : a + n ≤ s.size) (hs : s.size ≤ maxLen) :
    Calls Tryd.prog 35 #[.string s, .int .i64 a, .int .i64 n] w fun e w' => e = .returned (.int .i64 (valL ((s.data.toList.drop a.toNat).take n.toNat) 0)) ∧ w = w' := by
  have h1 := refDigits_any s a.toNat n.toNat w (by omega) hs
  rw [valW_eq _ 0 0 (by rw [List.length_take]; omega) (by omega) (by decide), Int.toNat_of_nonneg ha, Int.toNat_of_nonneg hn] at h1
  exact h1
theorem cut_front (s : ByteArray) : (s.extract 1 s.size).data.toList = s.data.toList.tail := by
  rw [Lib.extract_to_end, List.drop_one]
theorem cut_size (s : ByteArray) : (s.extract 1 s.size).size = s.size - 1 := by
  rw [← len_data, cut_front, List.length_tail, len_data]
theorem neg_byte (s : ByteArray) (h : 0 < s.size) : numNeg s.data.toList = ((s[0].toNat : Int) == 45) := by
  rw [first_byte s h, numNeg]
  have hl := len_data s
  cases hs : s.data.toList with
  | nil => rw [hs] at hl; simp at hl; omega
  | cons c cs =>
    simp only [List.head?_cons, List.headD_cons]
    rw [Bool.eq_iff_iff, beq_iff_eq, beq_iff_eq, Option.some.injEq, ← UInt8.toNat_inj]
    simp
    omega
theorem neg_none (s : ByteArray) (h : ¬ 0 < s.size) : s.data.toList = [] := by
  have hl := len_data s
  exact List.length_eq_zero_iff.1 (by omega)
set_option maxHeartbeats 1000000 in
theorem refNumber_neg (s : ByteArray) (low high : Int) (w : World) (hs : s.size ≤ maxLen) (h0 : 0 < s.size) (hc : ((s[0].toNat : Int) == 45) = true) :
    Calls Tryd.prog 16 #[.string s, .int .i64 low, .int .i64 high] w fun e w' => e = .returned (.tuple #[.int .i64 (numV s.data.toList low high), .int .i64 (numE s.data.toList low high)]) ∧ w = w' := by
      have HR := Lib.hid (num_runsR s.data.toList low high)
      unfold maxLen at hs
      go_enter Tryd.func16, Tryd.ntmps16
      have hnb := neg_byte s h0
      rw [hc] at hnb
      have hrest : numRest s.data.toList = (s.extract 1 s.size).data.toList := by rw [numRest, if_pos hnb, cut_front]
      have hsz := cut_size s
      go_wp2_with fail
      generalize s.extract 1 s.size = t at *
      rw [← hsz]
      have hsz' := Lib.hid hsz
      have ht : t.size ≤ 9223372036854775807 := by omega
      have HN := Lib.hid hnb
      have HT := Lib.hid hrest
      clear hsz hnb hrest hc
      go_wp2_with fail
      refine (refDigits_all t w (by unfold maxLen; omega)).mono ?_
      rintro e w' ⟨rfl, rfl⟩
      obtain ⟨n, hn⟩ : ∃ n, n = valW t.data.toList 0 := ⟨_, rfl⟩
      obtain ⟨hb1, hb2⟩ := valW_bd t.data.toList 0 (by omega) (by omega)
      rw [← hn] at hb1 hb2 ⊢
      have HV := Lib.hid hn
      clear hn
      by_cases ht0 : 0 < t.size
      all_goals
        try have HF := Lib.hid (first_byte t ht0)
        go_wp2
      all_goals
        go_ret2
        have H1 := HR.out
        rw [HT.out, ← HV.out, HN.out, len_data] at H1
        try rw [← HF.out] at H1
        simp only [numRunsR] at H1
        have h1 := congrArg Prod.fst H1
        have h2 := congrArg Prod.snd H1
        refine ⟨ret_two ?_ ?_, rfl⟩ <;> grind
set_option maxHeartbeats 1000000 in
theorem refNumber_pos (s : ByteArray) (low high : Int) (w : World) (hs : s.size ≤ maxLen) (h0 : 0 < s.size) (hc : ((s[0].toNat : Int) == 45) = false) :
    Calls Tryd.prog 16 #[.string s, .int .i64 low, .int .i64 high] w fun e w' => e = .returned (.tuple #[.int .i64 (numV s.data.toList low high), .int .i64 (numE s.data.toList low high)]) ∧ w = w' := by
      have HR := Lib.hid (num_runsR s.data.toList low high)
      unfold maxLen at hs
      go_enter Tryd.func16, Tryd.ntmps16
      have hnb := neg_byte s h0
      rw [hc] at hnb
      have hrest : numRest s.data.toList = s.data.toList := by rw [numRest, if_neg (by rw [hnb]; decide)]
      have HN := Lib.hid hnb
      have HT := Lib.hid hrest
      clear hnb hrest
      go_wp2_with fail
      refine (refDigits_all s w hs).mono ?_
      rintro e w' ⟨rfl, rfl⟩
      obtain ⟨n, hn⟩ : ∃ n, n = valW s.data.toList 0 := ⟨_, rfl⟩
      obtain ⟨hb1, hb2⟩ := valW_bd s.data.toList 0 (by omega) (by omega)
      rw [← hn] at hb1 hb2 ⊢
      have HV := Lib.hid hn
      clear hn
      by_cases ht0 : 0 < s.size
      all_goals
        try have HF := Lib.hid (first_byte s ht0)
        go_wp2
      all_goals
        go_ret2
        have H1 := HR.out
        rw [HT.out, ← HV.out, HN.out, len_data] at H1
        try rw [← HF.out] at H1
        simp only [numRunsR] at H1
        have h1 := congrArg Prod.fst H1
        have h2 := congrArg Prod.snd H1
        refine ⟨ret_two ?_ ?_, rfl⟩ <;> grind
set_option maxHeartbeats 1000000 in
theorem refNumber_none (s : ByteArray) (low high : Int) (w : World) (hs : s.size ≤ maxLen) (h0 : ¬ 0 < s.size) :
    Calls Tryd.prog 16 #[.string s, .int .i64 low, .int .i64 high] w fun e w' => e = .returned (.tuple #[.int .i64 (numV s.data.toList low high), .int .i64 (numE s.data.toList low high)]) ∧ w = w' := by
      have HL := Lib.hid (neg_none s h0)
      unfold maxLen at hs
      go_enter Tryd.func16, Tryd.ntmps16
      go_wp2_with fail
      refine (refDigits_all s w hs).mono ?_
      rintro e w' ⟨rfl, rfl⟩
      go_wp2
      go_ret2
      rw [HL.out]
      exact ⟨ret_two rfl rfl, rfl⟩
theorem refNumber_any (s : ByteArray) (low high : Int) (w : World) (hs : s.size ≤ maxLen) :
    Calls Tryd.prog 16 #[.string s, .int .i64 low, .int .i64 high] w fun e w' => e = .returned (.tuple #[.int .i64 (numV s.data.toList low high), .int .i64 (numE s.data.toList low high)]) ∧ w = w' := by
  by_cases h0 : 0 < s.size
  · by_cases hc : ((s[0].toNat : Int) == 45) = true
    · exact refNumber_neg s low high w hs h0 hc
    · exact refNumber_pos s low high w hs h0 (by simpa using hc)
  · exact refNumber_none s low high w hs h0
end Go.Proofs.YtddgfffempgghaaDoor.X
