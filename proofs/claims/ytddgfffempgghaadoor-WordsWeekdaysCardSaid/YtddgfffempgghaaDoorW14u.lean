/- Chapter 14's law WordsWeekdays: at every input the law's function answers true and changes no memory that was there before. Condition: the library's variable MaxLen holds some integer. -/
import Derived.Test.YtddgfffempgghaaDoorW14t
namespace Go.Proofs.YtddgfffempgghaaDoor.X
open Go.RowKit
/-- A weekday's name. -/
def wkB (k : Int) : ByteArray := nmB.getD (k - 1).toNat ⟨#[]⟩
theorem refWeekdays_any (k : Int) (w : World) (h0 : 1 ≤ k) (h1 : k ≤ 7) :
    Calls Tryd.prog 12 #[.int .i64 k] w fun e w' => e = .returned (.string (wkB k)) ∧ Below w.heap.size w w' := by
  have hk : k = 1 ∨ k = 2 ∨ k = 3 ∨ k = 4 ∨ k = 5 ∨ k = 6 ∨ k = 7 := by omega
  rcases hk with rfl | rfl | rfl | rfl | rfl | rfl | rfl
  all_goals
    go_enter Tryd.func12, Tryd.ntmps12
    go_wp2
    go_ret
    exact ⟨rfl, (Below.refl _ _).alloc (Nat.le_refl _) _⟩
theorem run_one (c : Int) (W : World) :
    (convert 33 9 (.slice (some ⟨W.heap.size, 0, none⟩) 1 1)).run Tryd.prog (W.alloc (.cells #[.int .u8 c] 5)) = .ok (.string (strOfNums [c])) (W.alloc (.cells #[.int .u8 c] 5)) := by
  refine run_convert_bytes_arg _ 33 5 Tryd.underlying33 Tryd.underlying5 W.heap.size 0 1 1 [c] rfl (fun i hi => ?_) 9 Tryd.underlying9
  rw [World.cell?_alloc_mark]
  match i, hi with
  | 0, _ => rfl
def dig1 (n : Int) : ByteArray := strOfNums [wrap64 (48 + n.tmod 10) % 256]
def dig2 (n : Int) : ByteArray := strOfNums [wrap64 (48 + wrap64 (n.tdiv 10)) % 256] ++ strOfNums [wrap64 (48 + n.tmod 10) % 256]
/-- What the day of the texts of weekday k and number N is, N being the digits of n. -/
def DayText (k n : Int) (N : ByteArray) : Prop :=
  N.size ≤ 2 ∧ dayV (wkB k ++ ⟨#[62, 61]⟩ ++ N).data.toList = (2, n, k, 0) ∧ dayV (wkB k ++ ⟨#[60, 61]⟩ ++ N).data.toList = (3, n, k, 0) ∧ dayV N.data.toList = (0, n, 0, 0)
instance (k n : Int) (N : ByteArray) : Decidable (DayText k n N) := by unfold DayText; infer_instance
theorem dayText1 : ∀ i : Fin 7, ∀ j : Fin 9, DayText ((i.val : Int) + 1) ((j.val : Int) + 1) (dig1 ((j.val : Int) + 1)) := by decide +kernel
theorem dayText2 : ∀ i : Fin 7, ∀ j : Fin 22, DayText ((i.val : Int) + 1) ((j.val : Int) + 10) (dig2 ((j.val : Int) + 10)) := by decide +kernel
theorem dayLast : ∀ i : Fin 7, dayV ((⟨#[108, 97, 115, 116, 45]⟩ : ByteArray) ++ wkB ((i.val : Int) + 1)).data.toList = (1, 0, (i.val : Int) + 1, 0) ∧ (wkB ((i.val : Int) + 1)).size = 3 := by decide +kernel
theorem day_text1 (k n : Int) (hk : 1 ≤ k ∧ k ≤ 7) (h0 : 1 ≤ n) (h1 : n < 10) : DayText k n (dig1 n) := by
  have := dayText1 ⟨(k - 1).toNat, by omega⟩ ⟨(n - 1).toNat, by omega⟩
  rwa [show (((k - 1).toNat : Nat) : Int) + 1 = k by omega, show (((n - 1).toNat : Nat) : Int) + 1 = n by omega] at this
theorem day_text2 (k n : Int) (hk : 1 ≤ k ∧ k ≤ 7) (h0 : 10 ≤ n) (h1 : n ≤ 31) : DayText k n (dig2 n) := by
  have := dayText2 ⟨(k - 1).toNat, by omega⟩ ⟨(n - 10).toNat, by omega⟩
  rwa [show (((k - 1).toNat : Nat) : Int) + 1 = k by omega, show (((n - 10).toNat : Nat) : Int) + 10 = n by omega] at this
theorem day_lastT (k : Int) (hk : 1 ≤ k ∧ k ≤ 7) : dayV ((⟨#[108, 97, 115, 116, 45]⟩ : ByteArray) ++ wkB k).data.toList = (1, 0, k, 0) ∧ (wkB k).size = 3 := by
  have := dayLast ⟨(k - 1).toNat, by omega⟩
  rwa [show (((k - 1).toNat : Nat) : Int) + 1 = k by omega] at this
/-- A text that is no weekday's name, behind last-, is no day. -/
theorem day_oddT (s : ByteArray) (h : ∀ j : Int, 1 ≤ j → j ≤ 7 → (wkB j).data.toList ≠ s.data.toList) : (dayV ((⟨#[108, 97, 115, 116, 45]⟩ : ByteArray) ++ s).data.toList).2.2.2 = 2 := by
  have e : ((⟨#[108, 97, 115, 116, 45]⟩ : ByteArray) ++ s).data.toList = [108, 97, 115, 116, 45] ++ s.data.toList := by simp [ByteArray.data_append]
  have hw : wkV s.data.toList = 0 := by
    have h1 := h 1 (by omega) (by omega)
    have h2 := h 2 (by omega) (by omega)
    have h3 := h 3 (by omega) (by omega)
    have h4 := h 4 (by omega) (by omega)
    have h5 := h 5 (by omega) (by omega)
    have h6 := h 6 (by omega) (by omega)
    have h7 := h 7 (by omega) (by omega)
    unfold wkV
    rw [if_neg (fun x => h1 (by rw [x]; rfl)), if_neg (fun x => h2 (by rw [x]; rfl)), if_neg (fun x => h3 (by rw [x]; rfl)), if_neg (fun x => h4 (by rw [x]; rfl)), if_neg (fun x => h5 (by rw [x]; rfl)), if_neg (fun x => h6 (by rw [x]; rfl)), if_neg (fun x => h7 (by rw [x]; rfl))]
  rw [e, dayV, if_pos (by simp), List.drop_left' (by rfl), if_pos hw]
theorem wk_small (x : Int) (_hx : -9223372036854775808 ≤ x ∧ x ≤ 9223372036854775807) : 1 ≤ wrap64 (wrap64 ((IntKind.u64.wrap x).tmod 7) + 1) ∧ wrap64 (wrap64 ((IntKind.u64.wrap x).tmod 7) + 1) ≤ 7 := by
  rw [IntKind.wrap_u64, Int.tmod_eq_emod_of_nonneg (by omega)]
  unfold wrap64
  omega
theorem nn_small (x : Int) (_hx : -9223372036854775808 ≤ x ∧ x ≤ 9223372036854775807) : 1 ≤ wrap64 (wrap64 ((IntKind.u64.wrap x).tmod 31) + 1) ∧ wrap64 (wrap64 ((IntKind.u64.wrap x).tmod 31) + 1) ≤ 31 := by
  rw [IntKind.wrap_u64, Int.tmod_eq_emod_of_nonneg (by omega)]
  unfold wrap64
  omega
set_option maxHeartbeats 1000000 in
theorem wordsWeekdays_walk (x y : Int) (odd : ByteArray) (w : World) (hm : HasMax w) (hx : -9223372036854775808 ≤ x ∧ x ≤ 9223372036854775807) (hy : -9223372036854775808 ≤ y ∧ y ≤ 9223372036854775807) (_hs : odd.size ≤ maxLen) :
    Calls Tryd.prog 4 #[.int .i64 x, .int .i64 y, .string odd] w fun e w' => e = .returned (.bool true) ∧ Below w.heap.size w w' := by
  have kb := run_one
  have bx := Lib.hid (wk_small x hx)
  have bn := Lib.hid (nn_small y hy)
  obtain ⟨k, hk⟩ : ∃ k, k = wrap64 (wrap64 ((IntKind.u64.wrap x).tmod 7) + 1) := ⟨_, rfl⟩
  obtain ⟨n, hn⟩ : ∃ n, n = wrap64 (wrap64 ((IntKind.u64.wrap y).tmod 31) + 1) := ⟨_, rfl⟩
  rw [← hk] at bx
  rw [← hn] at bn
  go_enter Tryd.func4, Tryd.ntmps4
  go_wp2_with fail
  rw [← hk, ← hn]
  clear hk hn
  refine (refWeekdays_any k w bx.out.1 bx.out.2).mono ?_
  rintro e w1 ⟨rfl, hb1⟩
  have hm1 := hm.below hb1
  obtain ⟨hlast, hz⟩ := day_lastT k bx.out
  have C1 := Lib.hid (fun (W : World) (h : HasMax W) => day_any (⟨#[108, 97, 115, 116, 45]⟩ ++ wkB k) W h (by unfold maxLen; rw [ByteArray.size_append, hz]; decide))
  rw [hlast] at C1
  clear hlast
  have C0 := Lib.hid (fun (W : World) (h : HasMax W) (hs : odd.size ≤ 2000) => day_any (⟨#[108, 97, 115, 116, 45]⟩ ++ odd) W h (by unfold maxLen; rw [ByteArray.size_append]; have : (⟨#[108, 97, 115, 116, 45]⟩ : ByteArray).size = 5 := rfl; omega))
  have HO := Lib.hid (day_oddT odd)
  have hk := Lib.hid bx.out
  have z2 : (⟨#[62, 61]⟩ : ByteArray).size = 2 := rfl
  have z2' : (⟨#[60, 61]⟩ : ByteArray).size = 2 := rfl
  have q1 := fun W => eqDay 9998 W 1 0 k 1 0 k
  have q2 := fun W => eqDay 9998 W 2 n k 2 n k
  have q3 := fun W => eqDay 9998 W 3 n k 3 n k
  have q4 := fun W => eqDay 9998 W 0 n 0 0 n 0
  rw [show ((1 : Int) == 1 && ((0 : Int) == 0 && k == k)) = true by simp] at q1
  rw [show ((2 : Int) == 2 && (n == n && k == k)) = true by simp] at q2
  rw [show ((3 : Int) == 3 && (n == n && k == k)) = true by simp] at q3
  rw [show ((0 : Int) == 0 && (n == n && (0 : Int) == 0)) = true by simp] at q4
  by_cases h10 : 10 ≤ n
  · have hd : decide (n ≥ 10) = true := decide_eq_true h10
    have hd' : decide (10 ≤ n) = true := decide_eq_true h10
    have HT := day_text2 k n bx.out h10 bn.out.2
    have kb2 := run_one (wrap64 (48 + wrap64 (n.tdiv 10)) % 256) (w1.alloc (.cells #[.int .u8 (wrap64 (48 + n.tmod 10) % 256)] 5))
    rw [show (w1.alloc (.cells #[.int .u8 (wrap64 (48 + n.tmod 10) % 256)] 5)).heap.size = w1.heap.size + 1 by simp] at kb2
    clear h10
    obtain ⟨N, hN⟩ : ∃ N, N = dig2 n := ⟨_, rfl⟩
    rw [← hN] at HT
    unfold dig2 at hN
    obtain ⟨hNz, ht2, ht3, ht4⟩ := HT
    have C2 := Lib.hid (fun (W : World) (h : HasMax W) => day_any (wkB k ++ ⟨#[62, 61]⟩ ++ N) W h (by unfold maxLen; rw [ByteArray.size_append, ByteArray.size_append, hz, z2]; omega))
    have C3 := Lib.hid (fun (W : World) (h : HasMax W) => day_any (wkB k ++ ⟨#[60, 61]⟩ ++ N) W h (by unfold maxLen; rw [ByteArray.size_append, ByteArray.size_append, hz, z2']; omega))
    have C4 := Lib.hid (fun (W : World) (h : HasMax W) => day_any N W h (by unfold maxLen; omega))
    rw [ht2] at C2
    rw [ht3] at C3
    rw [ht4] at C4
    clear ht2 ht3 ht4
    go_wp2_with fail
    all_goals first | (exfalso; omega) | skip
    rw [← hN]
    clear hN
    have hBa := Below.alloc hb1 (by first | exact hb1.size | omega) (.cells #[.int .u8 (wrap64 (48 + n.tmod 10) % 256)] 5)
    have hBa := Below.alloc hBa (by have := hb1.size; simp; omega) (.cells #[.int .u8 (wrap64 (48 + wrap64 (n.tdiv 10)) % 256)] 5)
    refine (C1.out _ (hm.below hBa)).mono ?_
    rintro e w2 ⟨rfl, hb2⟩
    have hm2 := (hm.below (below_next hBa hb2)).below (below_new w2 (.cells #[.int .i64 1, .int .i64 0, .int .i64 k] 35))
    have hB2 := below_next (below_next hBa hb2) (below_new w2 (.cells #[.int .i64 1, .int .i64 0, .int .i64 k] 35))
    have R2 := Row3.new w2 1 0 k 35
    clear hb2
    go_wp2_with fail
    all_goals first | (exfalso; omega) | skip
    refine (C2.out _ hm2).mono ?_
    rintro e w3 ⟨rfl, hb3⟩
    have hm3 := (hm.below (below_next hB2 hb3)).below (below_new w3 (.cells #[.int .i64 2, .int .i64 n, .int .i64 k] 35))
    have hB3 := below_next (below_next hB2 hb3) (below_new w3 (.cells #[.int .i64 2, .int .i64 n, .int .i64 k] 35))
    have R2' := (R2.below hb3).below (below_new w3 (.cells #[.int .i64 2, .int .i64 n, .int .i64 k] 35))
    have R3 := Row3.new w3 2 n k 35
    clear hb3
    go_wp2_with fail
    all_goals first | (exfalso; omega) | skip
    refine (C3.out _ hm3).mono ?_
    rintro e w4 ⟨rfl, hb4⟩
    have hm4 := (hm.below (below_next hB3 hb4)).below (below_new w4 (.cells #[.int .i64 3, .int .i64 n, .int .i64 k] 35))
    have hB4 := below_next (below_next hB3 hb4) (below_new w4 (.cells #[.int .i64 3, .int .i64 n, .int .i64 k] 35))
    have R2'' := (R2'.below hb4).below (below_new w4 (.cells #[.int .i64 3, .int .i64 n, .int .i64 k] 35))
    have R3' := (R3.below hb4).below (below_new w4 (.cells #[.int .i64 3, .int .i64 n, .int .i64 k] 35))
    have R4 := Row3.new w4 3 n k 35
    clear hb4
    go_wp2_with fail
    refine (C4.out _ hm4).mono ?_
    rintro e w5 ⟨rfl, hb5⟩
    have hm5 := (hm.below (below_next hB4 hb5)).below (below_new w5 (.cells #[.int .i64 0, .int .i64 n, .int .i64 0] 35))
    have hB5 := below_next (below_next hB4 hb5) (below_new w5 (.cells #[.int .i64 0, .int .i64 n, .int .i64 0] 35))
    have R2''' := (R2''.below hb5).below (below_new w5 (.cells #[.int .i64 0, .int .i64 n, .int .i64 0] 35))
    have R3'' := (R3'.below hb5).below (below_new w5 (.cells #[.int .i64 0, .int .i64 n, .int .i64 0] 35))
    have R4' := (R4.below hb5).below (below_new w5 (.cells #[.int .i64 0, .int .i64 n, .int .i64 0] 35))
    have R5 := Row3.new w5 0 n 0 35
    clear hb5
    obtain ⟨c00, c01, c02, c03⟩ := R2'''
    obtain ⟨c10, c11, c12, c13⟩ := R3''
    obtain ⟨c20, c21, c22, c23⟩ := R4'
    obtain ⟨c30, c31, c32, c33⟩ := R5
    clear C1 C2 C3 C4
    go_wp2_with fail
    all_goals first | (exfalso; omega) | skip
    clear q1 q2 q3 q4 c00 c01 c02 c03 c10 c11 c12 c13 c20 c21 c22 c23 c30 c31 c32 c33
    go_loopw [17] (fun i wr => ∃ m : Nat, 1 ≤ m ∧ m ≤ 8 ∧ i = .int .i64 m ∧ Below w.heap.size w wr ∧ Hid (HasMax wr ∧ ∀ j : Int, 1 ≤ j → j < m → (wkB j).data.toList ≠ odd.data.toList)) (fun i _ => 8 - (intOf i).toNat)
    case atStart => exact ⟨1, by omega, by omega, rfl, hB5, ⟨hm5, fun j h h' => by omega⟩⟩
    case round =>
      obtain ⟨m, hm0, hm8, rfl, hB, hH⟩ := hrel
      by_cases hlt : m ≤ 7
      · have hdl : decide ((m : Int) ≤ 7) = true := decide_eq_true (by omega)
        go_wp2_with fail
        refine (refWeekdays_any m _ (by omega) (by omega)).mono ?_
        rintro e w6 ⟨rfl, hb6⟩
        have hB6 := below_next hB hb6
        have HM6 := Lib.hid (hH.out.1.below hb6)
        have HE := Lib.hid (str_eq odd (wkB m))
        clear hb6
        cases hq : (odd.toList == (wkB m).toList)
        · have HQ := Lib.hid hq
          go_wp2_with fail
          go_roundw
          case rel =>
            refine ⟨m + 1, by omega, by omega, by go_num, hB6, ⟨HM6.out, fun j h h' => ?_⟩⟩
            by_cases hj : j = m
            · subst hj
              intro h2
              have := HE.out.2 h2.symm
              rw [HQ.out] at this
              cases this
            · exact hH.out.2 j h (by omega)
          case measure => simp [intOf]; omega
        · go_wp2_with fail
          refine (awake_any _ HM6.out).mono ?_
          rintro e w7 ⟨rfl, hb7⟩
          have hB7 := below_next hB6 hb7
          clear hb7
          go_wp2
          go_ret
          exact ⟨rfl, hB7⟩
      · have hke : m = 8 := by omega
        subst hke
        have H2 := Lib.hid (HO.out (fun j h h' => hH.out.2 j h (by omega)))
        have HM := Lib.hid hH.out.1
        by_cases hr : odd.size ≤ 2000
        · have hdr := dlen odd hr
          obtain ⟨a1, a2, a3, a4, ha⟩ : ∃ a1 a2 a3 a4, dayV ((⟨#[108, 97, 115, 116, 45]⟩ : ByteArray) ++ odd).data.toList = (a1, a2, a3, a4) := ⟨_, _, _, _, rfl⟩
          have C := Lib.hid (fun (W : World) (h : HasMax W) => C0.out W h hr)
          rw [ha] at C H2
          obtain rfl : a4 = 2 := H2.out
          clear ha H2
          go_wp2_with fail
          refine (small_any odd _).mono ?_
          rintro e w6 ⟨rfl, rfl⟩
          rw [hdr]
          go_wp2_with fail
          all_goals first | (exfalso; omega) | skip
          refine (C.out _ HM.out).mono ?_
          rintro e w6 ⟨rfl, hb6⟩
          have HM6 := Lib.hid ((HM.out.below hb6).below (below_new w6 (.cells #[.int .i64 a1, .int .i64 a2, .int .i64 a3] 35)))
          have hB6 := below_next (below_next hB hb6) (below_new w6 (.cells #[.int .i64 a1, .int .i64 a2, .int .i64 a3] 35))
          clear hb6
          go_wp2_with fail
          refine (awake_any _ HM6.out).mono ?_
          rintro e w7 ⟨rfl, hb7⟩
          have hB7 := below_next hB6 hb7
          clear hb7
          go_wp2
          go_ret
          exact ⟨rfl, hB7⟩
        · have hdr := dlen' odd hr
          clear H2
          go_wp2_with fail
          refine (small_any odd _).mono ?_
          rintro e w6 ⟨rfl, rfl⟩
          rw [hdr]
          go_wp2_with fail
          refine (awake_any _ HM.out).mono ?_
          rintro e w7 ⟨rfl, hb7⟩
          have hB7 := below_next hB hb7
          clear hb7
          go_wp2
          go_ret
          exact ⟨rfl, hB7⟩
  · have hd : decide (n ≥ 10) = false := decide_eq_false h10
    have hd' : decide (10 ≤ n) = false := decide_eq_false h10
    have HT := day_text1 k n bx.out bn.out.1 (by omega)
    clear h10
    obtain ⟨N, hN⟩ : ∃ N, N = dig1 n := ⟨_, rfl⟩
    rw [← hN] at HT
    unfold dig1 at hN
    obtain ⟨hNz, ht2, ht3, ht4⟩ := HT
    have C2 := Lib.hid (fun (W : World) (h : HasMax W) => day_any (wkB k ++ ⟨#[62, 61]⟩ ++ N) W h (by unfold maxLen; rw [ByteArray.size_append, ByteArray.size_append, hz, z2]; omega))
    have C3 := Lib.hid (fun (W : World) (h : HasMax W) => day_any (wkB k ++ ⟨#[60, 61]⟩ ++ N) W h (by unfold maxLen; rw [ByteArray.size_append, ByteArray.size_append, hz, z2']; omega))
    have C4 := Lib.hid (fun (W : World) (h : HasMax W) => day_any N W h (by unfold maxLen; omega))
    rw [ht2] at C2
    rw [ht3] at C3
    rw [ht4] at C4
    clear ht2 ht3 ht4
    go_wp2_with fail
    all_goals first | (exfalso; omega) | skip
    rw [← hN]
    clear hN
    have hBa := Below.alloc hb1 (by first | exact hb1.size | omega) (.cells #[.int .u8 (wrap64 (48 + n.tmod 10) % 256)] 5)
    refine (C1.out _ (hm.below hBa)).mono ?_
    rintro e w2 ⟨rfl, hb2⟩
    have hm2 := (hm.below (below_next hBa hb2)).below (below_new w2 (.cells #[.int .i64 1, .int .i64 0, .int .i64 k] 35))
    have hB2 := below_next (below_next hBa hb2) (below_new w2 (.cells #[.int .i64 1, .int .i64 0, .int .i64 k] 35))
    have R2 := Row3.new w2 1 0 k 35
    clear hb2
    go_wp2_with fail
    all_goals first | (exfalso; omega) | skip
    refine (C2.out _ hm2).mono ?_
    rintro e w3 ⟨rfl, hb3⟩
    have hm3 := (hm.below (below_next hB2 hb3)).below (below_new w3 (.cells #[.int .i64 2, .int .i64 n, .int .i64 k] 35))
    have hB3 := below_next (below_next hB2 hb3) (below_new w3 (.cells #[.int .i64 2, .int .i64 n, .int .i64 k] 35))
    have R2' := (R2.below hb3).below (below_new w3 (.cells #[.int .i64 2, .int .i64 n, .int .i64 k] 35))
    have R3 := Row3.new w3 2 n k 35
    clear hb3
    go_wp2_with fail
    all_goals first | (exfalso; omega) | skip
    refine (C3.out _ hm3).mono ?_
    rintro e w4 ⟨rfl, hb4⟩
    have hm4 := (hm.below (below_next hB3 hb4)).below (below_new w4 (.cells #[.int .i64 3, .int .i64 n, .int .i64 k] 35))
    have hB4 := below_next (below_next hB3 hb4) (below_new w4 (.cells #[.int .i64 3, .int .i64 n, .int .i64 k] 35))
    have R2'' := (R2'.below hb4).below (below_new w4 (.cells #[.int .i64 3, .int .i64 n, .int .i64 k] 35))
    have R3' := (R3.below hb4).below (below_new w4 (.cells #[.int .i64 3, .int .i64 n, .int .i64 k] 35))
    have R4 := Row3.new w4 3 n k 35
    clear hb4
    go_wp2_with fail
    refine (C4.out _ hm4).mono ?_
    rintro e w5 ⟨rfl, hb5⟩
    have hm5 := (hm.below (below_next hB4 hb5)).below (below_new w5 (.cells #[.int .i64 0, .int .i64 n, .int .i64 0] 35))
    have hB5 := below_next (below_next hB4 hb5) (below_new w5 (.cells #[.int .i64 0, .int .i64 n, .int .i64 0] 35))
    have R2''' := (R2''.below hb5).below (below_new w5 (.cells #[.int .i64 0, .int .i64 n, .int .i64 0] 35))
    have R3'' := (R3'.below hb5).below (below_new w5 (.cells #[.int .i64 0, .int .i64 n, .int .i64 0] 35))
    have R4' := (R4.below hb5).below (below_new w5 (.cells #[.int .i64 0, .int .i64 n, .int .i64 0] 35))
    have R5 := Row3.new w5 0 n 0 35
    clear hb5
    obtain ⟨c00, c01, c02, c03⟩ := R2'''
    obtain ⟨c10, c11, c12, c13⟩ := R3''
    obtain ⟨c20, c21, c22, c23⟩ := R4'
    obtain ⟨c30, c31, c32, c33⟩ := R5
    clear C1 C2 C3 C4
    go_wp2_with fail
    all_goals first | (exfalso; omega) | skip
    clear q1 q2 q3 q4 c00 c01 c02 c03 c10 c11 c12 c13 c20 c21 c22 c23 c30 c31 c32 c33
    go_loopw [17] (fun i wr => ∃ m : Nat, 1 ≤ m ∧ m ≤ 8 ∧ i = .int .i64 m ∧ Below w.heap.size w wr ∧ Hid (HasMax wr ∧ ∀ j : Int, 1 ≤ j → j < m → (wkB j).data.toList ≠ odd.data.toList)) (fun i _ => 8 - (intOf i).toNat)
    case atStart => exact ⟨1, by omega, by omega, rfl, hB5, ⟨hm5, fun j h h' => by omega⟩⟩
    case round =>
      obtain ⟨m, hm0, hm8, rfl, hB, hH⟩ := hrel
      by_cases hlt : m ≤ 7
      · have hdl : decide ((m : Int) ≤ 7) = true := decide_eq_true (by omega)
        go_wp2_with fail
        refine (refWeekdays_any m _ (by omega) (by omega)).mono ?_
        rintro e w6 ⟨rfl, hb6⟩
        have hB6 := below_next hB hb6
        have HM6 := Lib.hid (hH.out.1.below hb6)
        have HE := Lib.hid (str_eq odd (wkB m))
        clear hb6
        cases hq : (odd.toList == (wkB m).toList)
        · have HQ := Lib.hid hq
          go_wp2_with fail
          go_roundw
          case rel =>
            refine ⟨m + 1, by omega, by omega, by go_num, hB6, ⟨HM6.out, fun j h h' => ?_⟩⟩
            by_cases hj : j = m
            · subst hj
              intro h2
              have := HE.out.2 h2.symm
              rw [HQ.out] at this
              cases this
            · exact hH.out.2 j h (by omega)
          case measure => simp [intOf]; omega
        · go_wp2_with fail
          refine (awake_any _ HM6.out).mono ?_
          rintro e w7 ⟨rfl, hb7⟩
          have hB7 := below_next hB6 hb7
          clear hb7
          go_wp2
          go_ret
          exact ⟨rfl, hB7⟩
      · have hke : m = 8 := by omega
        subst hke
        have H2 := Lib.hid (HO.out (fun j h h' => hH.out.2 j h (by omega)))
        have HM := Lib.hid hH.out.1
        by_cases hr : odd.size ≤ 2000
        · have hdr := dlen odd hr
          obtain ⟨a1, a2, a3, a4, ha⟩ : ∃ a1 a2 a3 a4, dayV ((⟨#[108, 97, 115, 116, 45]⟩ : ByteArray) ++ odd).data.toList = (a1, a2, a3, a4) := ⟨_, _, _, _, rfl⟩
          have C := Lib.hid (fun (W : World) (h : HasMax W) => C0.out W h hr)
          rw [ha] at C H2
          obtain rfl : a4 = 2 := H2.out
          clear ha H2
          go_wp2_with fail
          refine (small_any odd _).mono ?_
          rintro e w6 ⟨rfl, rfl⟩
          rw [hdr]
          go_wp2_with fail
          all_goals first | (exfalso; omega) | skip
          refine (C.out _ HM.out).mono ?_
          rintro e w6 ⟨rfl, hb6⟩
          have HM6 := Lib.hid ((HM.out.below hb6).below (below_new w6 (.cells #[.int .i64 a1, .int .i64 a2, .int .i64 a3] 35)))
          have hB6 := below_next (below_next hB hb6) (below_new w6 (.cells #[.int .i64 a1, .int .i64 a2, .int .i64 a3] 35))
          clear hb6
          go_wp2_with fail
          refine (awake_any _ HM6.out).mono ?_
          rintro e w7 ⟨rfl, hb7⟩
          have hB7 := below_next hB6 hb7
          clear hb7
          go_wp2
          go_ret
          exact ⟨rfl, hB7⟩
        · have hdr := dlen' odd hr
          clear H2
          go_wp2_with fail
          refine (small_any odd _).mono ?_
          rintro e w6 ⟨rfl, rfl⟩
          rw [hdr]
          go_wp2_with fail
          refine (awake_any _ HM.out).mono ?_
          rintro e w7 ⟨rfl, hb7⟩
          have hB7 := below_next hB hb7
          clear hb7
          go_wp2
          go_ret
          exact ⟨rfl, hB7⟩
end Go.Proofs.YtddgfffempgghaaDoor.X
