/- Chapter 14's laws: the walks. -/
import Derived.Test.YtddgfffempgghaaDoorW14q
namespace Go.Proofs.YtddgfffempgghaaDoor.X
open Go.RowKit

theorem ofNat_toNat (k : Int) (h0 : 0 ≤ k) (h1 : k ≤ 255) : ((UInt8.ofNat k.toNat).toNat : Int) = k := by
  rw [UInt8.toNat_ofNat']
  have : k.toNat % 256 = k.toNat := Nat.mod_eq_of_lt (by omega)
  omega
theorem two_list (k : Int) (h0 : 0 ≤ k) (h1 : k ≤ 99) : ∃ a b : UInt8, (twoV k).data.toList = [a, b] ∧ valL [a, b] 0 = k := by
  refine ⟨UInt8.ofNat (48 + k / 10).toNat, UInt8.ofNat (48 + k % 10).toNat, rfl, ?_⟩
  rw [valL_two, ofNat_toNat _ (by omega) (by omega), ofNat_toNat _ (by omega) (by omega), if_pos (by omega)]
  omega
theorem show_hms (n : Int) (h0 : 0 ≤ n) (h1 : n ≤ 359999) : hmsV (showT n).data.toList = n := by
  obtain ⟨a, b, e1, v1⟩ := two_list (n / 3600) (by omega) (by omega)
  obtain ⟨c, d, e2, v2⟩ := two_list (n / 60 % 60) (by omega) (by omega)
  obtain ⟨x, y, e3, v3⟩ := two_list (n % 60) (by omega) (by omega)
  unfold showT
  split
  · rename_i h
    have : ((twoV (n / 3600) ++ ⟨#[58]⟩ ++ twoV (n / 60 % 60)) ++ (⟨#[58]⟩ ++ twoV (n % 60)) : ByteArray).data.toList = [a, b, 58, c, d, 58, x, y] := by
      simp [ByteArray.data_append, e1, e2, e3]
    rw [this]
    simp only [hmsV, v1, v2, v3]
    rw [if_pos ⟨trivial, trivial, by omega, by omega, by omega, by omega, by omega⟩]
    omega
  · rename_i h
    have : (twoV (n / 3600) ++ ⟨#[58]⟩ ++ twoV (n / 60 % 60) : ByteArray).data.toList = [a, b, 58, c, d] := by
      simp [ByteArray.data_append, e1, e2]
    rw [this]
    simp only [hmsV, v1, v2]
    rw [if_pos ⟨trivial, by omega, by omega, by omega⟩]
    omega
theorem off_back (n : Int) (h0 : -64800 ≤ n) (h1 : n ≤ 64800) : offV (showO n).data.toList = (n, 0) := by
  unfold showO
  split
  · rename_i h
    have : (⟨#[45]⟩ ++ showT (-n) : ByteArray).data.toList = 45 :: (showT (-n)).data.toList := by simp [ByteArray.data_append]
    rw [this]
    simp only [offV, show_hms (-n) (by omega) (by omega)]
    rw [if_neg (by decide), if_neg (by omega), if_neg (by omega), if_pos trivial]
    simp
  · rename_i h
    have : (⟨#[43]⟩ ++ showT n : ByteArray).data.toList = 43 :: (showT n).data.toList := by simp [ByteArray.data_append]
    rw [this]
    simp only [offV, show_hms n (by omega) (by omega)]
    rw [if_neg (by decide), if_neg (by rintro (h | ⟨_, h⟩); omega; exact absurd h (by decide)), if_neg (by omega), if_neg (by decide)]
theorem showO_size (n : Int) : (showO n).size ≤ 9 := by
  unfold showO
  have h := showT_size n
  have h' := showT_size (-n)
  have e1 : (⟨#[45]⟩ : ByteArray).size = 1 := rfl
  have e2 : (⟨#[43]⟩ : ByteArray).size = 1 := rfl
  split <;> simp only [ByteArray.size_append, e1, e2] <;> omega
theorem beq_self_list (l : List UInt8) : (l == l) = true := by simp
set_option maxHeartbeats 1000000 in
theorem wordsOffsets_walk (n : Int) (w : World) (hm : HasMax w) :
    Calls Tryd.prog 3 #[.int .i64 n] w fun e w' => e = .returned (.bool true) ∧ Below w.heap.size w w' := by
  by_cases hr : n < -64800 ∨ 64800 < n
  · have C1 := Lib.hid (fun W => showOffset_any n W)
    have C2 := Lib.hid (fun W => refShowOffset_any n W)
    rw [show showOS n = ⟨#[]⟩ by rw [showOS, if_pos hr], show showOE n = 8 by rw [showOE, if_pos hr]] at C1 C2
    clear hr
    go_enter Tryd.func3, Tryd.ntmps3
    go_wp2_with fail
    refine (C1.out w).mono ?_
    rintro e w1 ⟨rfl, hb1⟩
    go_wp2_with fail
    refine (C2.out w1).mono ?_
    rintro e w2 ⟨rfl, hb2⟩
    have hB2 := below_next hb1 hb2
    have hm2 := hm.below hB2
    clear hb1 hb2
    go_wp2_with fail
    refine (awake_any w2 hm2).mono ?_
    rintro e w3 ⟨rfl, hb3⟩
    have hB3 := below_next hB2 hb3
    clear hb3
    go_wp2
    go_ret
    exact ⟨rfl, hB3⟩
  · have C1 := Lib.hid (fun W => showOffset_any n W)
    have C2 := Lib.hid (fun W => refShowOffset_any n W)
    have hz := showO_size n
    have hoff := off_back n (by omega) (by omega)
    rw [show showOS n = showO n by rw [showOS, if_neg hr], show showOE n = 0 by rw [showOE, if_neg hr]] at C1 C2
    obtain ⟨t, ht⟩ : ∃ t, t = showO n := ⟨_, rfl⟩
    rw [← ht] at C1 C2 hz hoff
    have C3 := Lib.hid (fun W (h : HasMax W) => offset_any t W h (by omega))
    rw [hoff] at C3
    have hne : (t.toList != t.toList) = false := by simp
    clear hr hoff ht
    go_enter Tryd.func3, Tryd.ntmps3
    go_wp2_with fail
    refine (C1.out w).mono ?_
    rintro e w1 ⟨rfl, hb1⟩
    go_wp2_with fail
    refine (C2.out w1).mono ?_
    rintro e w2 ⟨rfl, hb2⟩
    have hB2 := below_next hb1 hb2
    have hm2 := hm.below hB2
    clear hb1 hb2
    go_wp2_with fail
    refine (C3.out w2 hm2).mono ?_
    rintro e w3 ⟨rfl, hb3⟩
    have hB3 := below_next hB2 hb3
    have hm3 := hm2.below hb3
    clear hb3
    go_wp2_with fail
    refine (awake_any w3 hm3).mono ?_
    rintro e w4 ⟨rfl, hb4⟩
    have hB4 := below_next hB3 hb4
    clear hb4
    go_wp2
    go_ret
    exact ⟨rfl, hB4⟩
theorem small_any (s : ByteArray) (w : World) :
    Calls Tryd.prog 14 #[.string s] w fun e w' => e = .returned (.bool (decide ((s.size : Int) ≤ 2000))) ∧ w = w' := by
  go_enter Tryd.func14, Tryd.ntmps14
  go_wp2
  go_ret
  exact ⟨by first | rfl | simp, rfl⟩
end Go.Proofs.YtddgfffempgghaaDoor.X
