/- The walks through words.Offset, Time, Year, and the reference's hms, Offset, Time, Year. -/
import Derived.Test.YtddgfffempgghaaDoorW14c
import Derived.Deep.RegionWith
namespace Go.Proofs.YtddgfffempgghaaDoor.X
open Go.RowKit

set_option maxHeartbeats 400000 in
theorem time_any (s : ByteArray) (w : World) (hm : HasMax w) (hs : s.size < 4294967281) :
    Calls Tryd.prog 20 #[.string s] w fun e w' => e = .returned (.tuple #[.int .i64 (timeV s.data.toList).1, .int .i64 (timeV s.data.toList).2]) ∧ Below w.heap.size w w' := by
  obtain ⟨n, hn⟩ : ∃ n, n = hmsV s.data.toList := ⟨_, rfl⟩
  have HT := Lib.hid (show timeV s.data.toList = if n < 0 then (0, 2) else if 86400 < n then (0, 8) else (n, 0) by rw [hn]; rfl)
  have HN := Lib.hid hn
  clear hn
  go_enter Tryd.func20, Tryd.ntmps20
  go_wp2_with (go_at_call 31; refine (clockOf_any _ _ hm hs).mono ?_; rintro e w1 ⟨rfl, hbel⟩; rw [← HN.out])
  all_goals
    go_ret2
    have h1 := congrArg Prod.fst HT.out
    have h2 := congrArg Prod.snd HT.out
    exact ⟨ret_two (by rw [h1]; grind) (by rw [h2]; grind), hbel⟩
set_option maxHeartbeats 400000 in
theorem offset_any (s : ByteArray) (w : World) (hm : HasMax w) (hs : s.size < 4294967281) :
    Calls Tryd.prog 11 #[.string s] w fun e w' => e = .returned (.tuple #[.int .i64 (offV s.data.toList).1, .int .i64 (offV s.data.toList).2]) ∧ Below w.heap.size w w' := by
  go_enter Tryd.func11, Tryd.ntmps11
  by_cases h0 : 0 < s.size
  · have hne : s.toList.isEmpty = false := by
      have := empty_iff s
      cases h : s.toList.isEmpty
      · rfl
      · rw [h] at this; have := this.1 rfl; omega
    have HT := Lib.hid (offV_runs s.data.toList (s[0].toNat : Int) _ (fun h => by have := len_data s; rw [h] at this; simp at this; omega) (by rw [first_byte s h0]) rfl)
    have hcf := cut_front s
    have hcs := cut_size s
    obtain ⟨hb0, hb1⟩ := byte_bd s[0]
    obtain ⟨n, hn⟩ : ∃ n, n = hmsV s.data.toList.tail := ⟨_, rfl⟩
    have hbd := hmsV_bd s.data.toList.tail
    rw [← hn] at HT hbd
    obtain ⟨hbd0, hbd1⟩ := hbd
    have hN : hmsV (s.extract 1 s.size).data.toList = n := by rw [hcf, hn]
    have HN := Lib.hid hN
    clear hn hcf hN
    go_wp2_with (go_at_call 31; refine (clockOf_any _ _ hm (by omega)).mono ?_; rintro e w1 ⟨rfl, hbel⟩; rw [HN.out])
    all_goals
      go_ret2
      have h1 := congrArg Prod.fst HT.out
      have h2 := congrArg Prod.snd HT.out
      first
        | exact ⟨ret_two (by rw [h1]; grind) (by rw [h2]; grind), hbel⟩
        | exact ⟨ret_two (by rw [h1]; grind) (by rw [h2]; grind), Below.refl _ _⟩
  · have hl := neg_none s h0
    have hne : s.toList.isEmpty = true := (empty_iff s).2 (by omega)
    have HL := Lib.hid hl
    clear hl
    go_wp2
    go_ret2
    exact ⟨by rw [HL.out]; rfl, Below.refl _ _⟩
theorem year_any (s : ByteArray) (w : World) (hs : s.size ≤ maxLen) :
    Calls Tryd.prog 17 #[.string s] w fun e w' => e = .returned (.tuple #[.int .i64 (numV s.data.toList (-9999) 9999), .int .i64 (numE s.data.toList (-9999) 9999)]) ∧ Below w.heap.size w w' := by
  go_enter Tryd.func17, Tryd.ntmps17
  go_wp2_with (go_at_call 15; refine (number_any _ _ _ _ hs).mono ?_; rintro e w1 ⟨rfl, hbel⟩)
  go_ret2
  exact ⟨rfl, hbel⟩
theorem refYear_any (s : ByteArray) (w : World) (hs : s.size ≤ maxLen) :
    Calls Tryd.prog 18 #[.string s] w fun e w' => e = .returned (.tuple #[.int .i64 (numV s.data.toList (-9999) 9999), .int .i64 (numE s.data.toList (-9999) 9999)]) ∧ w = w' := by
  go_enter Tryd.func18, Tryd.ntmps18
  go_wp2_with (go_at_call 16; refine (refNumber_any _ _ _ _ hs).mono ?_; rintro e w1 ⟨rfl, rfl⟩)
  go_ret2
  exact ⟨rfl, rfl⟩
theorem getD_at (s : ByteArray) (k : Nat) (h : k < s.size) : ((s[k].toNat : Int) != 58) = !(s.data.toList.getD k 0 == 58) := by
  rw [getD_data s k h, bne, Bool.not_inj_iff, Bool.eq_iff_iff, beq_iff_eq, beq_iff_eq, ← UInt8.toNat_inj]
  simp
  omega
theorem twoAt (s : ByteArray) (a : Int) (k : Nat) (w : World) (ha : a = k) (h : k + 2 ≤ s.size) (hs : s.size ≤ maxLen) :
    Calls Tryd.prog 35 #[.string s, .int .i64 a, .int .i64 2] w fun e w' => e = .returned (.int .i64 (valL ((s.data.toList.drop k).take 2) 0)) ∧ w = w' := by
  have h1 := refDigits_at s a 2 w (by omega) (by omega) (by omega) (by omega) hs
  rw [show a.toNat = k by omega] at h1
  exact h1
set_option maxHeartbeats 1000000 in
theorem hms_5 (s : ByteArray) (w : World) (hs : s.size ≤ maxLen) (h5 : s.size = 5) :
    Calls Tryd.prog 36 #[.string s] w fun e w' => e = .returned (.int .i64 (hmsV s.data.toList)) ∧ w = w' := by
  have HV := Lib.hid (hms_five s.data.toList (by rw [len_data]; exact h5))
  obtain ⟨ha1, ha2⟩ := take_two_bd s.data.toList 0
  obtain ⟨hb1, hb2⟩ := take_two_bd s.data.toList 3
  have c0 := twoAt s 0 0 w rfl (by omega) hs
  have c3 := twoAt s 3 3 w rfl (by omega) hs
  have hlt2 : 2 < s.size := by omega
  have g2 := getD_at s 2 hlt2
  obtain ⟨a, ha⟩ : ∃ a, a = valL ((s.data.toList.drop 0).take 2) 0 := ⟨_, rfl⟩
  obtain ⟨b, hb⟩ : ∃ b, b = valL ((s.data.toList.drop 3).take 2) 0 := ⟨_, rfl⟩
  rw [← ha] at ha1 ha2 c0 HV
  rw [← hb] at hb1 hb2 c3 HV
  have C0 := Lib.hid c0
  have C3 := Lib.hid c3
  clear ha hb c0 c3
  have hz : (s.size : Int) = 5 := by omega
  clear h5
  by_cases hx : s.data.toList.getD 2 0 = 58
  all_goals
    have HX := Lib.hid hx
    first | (replace g2 : ((s[2].toNat : Int) != 58) = false := by rw [g2, hx]; rfl) | (replace g2 : ((s[2].toNat : Int) != 58) = true := by rw [g2, beq_eq_false_iff_ne.2 hx]; rfl)
    clear hx
    go_enter Tryd.func36, Tryd.ntmps36
    go_wp2_with (first | (go_at_call_of 35 (Value.int .i64 0); refine C0.out.mono ?_; rintro e w1 ⟨rfl, rfl⟩) | (go_at_call_of 35 (Value.int .i64 3); refine C3.out.mono ?_; rintro e w1 ⟨rfl, rfl⟩))
    all_goals
      go_ret
      exact ⟨ret_int (by rw [HV.out]; have := HX.out; grind), rfl⟩
set_option maxHeartbeats 1000000 in
theorem hms_8 (s : ByteArray) (w : World) (hs : s.size ≤ maxLen) (h8 : s.size = 8) :
    Calls Tryd.prog 36 #[.string s] w fun e w' => e = .returned (.int .i64 (hmsV s.data.toList)) ∧ w = w' := by
  have HV := Lib.hid (hms_eight s.data.toList (by rw [len_data]; exact h8))
  obtain ⟨ha1, ha2⟩ := take_two_bd s.data.toList 0
  obtain ⟨hb1, hb2⟩ := take_two_bd s.data.toList 3
  obtain ⟨hd1, hd2⟩ := take_two_bd s.data.toList 6
  have c0 := twoAt s 0 0 w rfl (by omega) hs
  have c3 := twoAt s 3 3 w rfl (by omega) hs
  have c6 := twoAt s 6 6 w rfl (by omega) hs
  have hlt2 : 2 < s.size := by omega
  have hlt5 : 5 < s.size := by omega
  have g2 := getD_at s 2 hlt2
  have g5 := getD_at s 5 hlt5
  obtain ⟨a, ha⟩ : ∃ a, a = valL ((s.data.toList.drop 0).take 2) 0 := ⟨_, rfl⟩
  obtain ⟨b, hb⟩ : ∃ b, b = valL ((s.data.toList.drop 3).take 2) 0 := ⟨_, rfl⟩
  obtain ⟨d, hd⟩ : ∃ d, d = valL ((s.data.toList.drop 6).take 2) 0 := ⟨_, rfl⟩
  rw [← ha] at ha1 ha2 c0 HV
  rw [← hb] at hb1 hb2 c3 HV
  rw [← hd] at hd1 hd2 c6 HV
  have C0 := Lib.hid c0
  have C3 := Lib.hid c3
  have C6 := Lib.hid c6
  clear ha hb hd c0 c3 c6
  have hz : (s.size : Int) = 8 := by omega
  clear h8
  by_cases hx : s.data.toList.getD 2 0 = 58
  all_goals
    have HX := Lib.hid hx
    first | (replace g2 : ((s[2].toNat : Int) != 58) = false := by rw [g2, hx]; rfl) | (replace g2 : ((s[2].toNat : Int) != 58) = true := by rw [g2, beq_eq_false_iff_ne.2 hx]; rfl)
    clear hx
    by_cases hy : s.data.toList.getD 5 0 = 58
    all_goals
      have HY := Lib.hid hy
      first | (replace g5 : ((s[5].toNat : Int) != 58) = false := by rw [g5, hy]; rfl) | (replace g5 : ((s[5].toNat : Int) != 58) = true := by rw [g5, beq_eq_false_iff_ne.2 hy]; rfl)
      clear hy
      go_enter Tryd.func36, Tryd.ntmps36
      go_wp2_with (first | (go_at_call_of 35 (Value.int .i64 0); refine C0.out.mono ?_; rintro e w1 ⟨rfl, rfl⟩) | (go_at_call_of 35 (Value.int .i64 3); refine C3.out.mono ?_; rintro e w1 ⟨rfl, rfl⟩) | (go_at_call_of 35 (Value.int .i64 6); refine C6.out.mono ?_; rintro e w1 ⟨rfl, rfl⟩))
      all_goals
        go_ret
        exact ⟨ret_int (by rw [HV.out]; have := HX.out; have := HY.out; grind), rfl⟩
theorem hms_any (s : ByteArray) (w : World) (hs : s.size ≤ maxLen) :
    Calls Tryd.prog 36 #[.string s] w fun e w' => e = .returned (.int .i64 (hmsV s.data.toList)) ∧ w = w' := by
  by_cases h5 : s.size = 5
  · exact hms_5 s w hs h5
  · by_cases h8 : s.size = 8
    · exact hms_8 s w hs h8
    · have HL := Lib.hid (hms_else s.data.toList (by rw [len_data]; exact h5) (by rw [len_data]; exact h8))
      have e1 : ((s.size : Int) != 5) = true := by simp; omega
      have e2 : ((s.size : Int) != 8) = true := by simp; omega
      clear h5 h8
      go_enter Tryd.func36, Tryd.ntmps36
      go_wp2
      go_ret
      exact ⟨ret_int HL.out.symm, rfl⟩
end Go.Proofs.YtddgfffempgghaaDoor.X
