/- Chapter 23, walk: the reference's Parse gives the same items, or the same error. Condition: a string as long as one may be. -/
import Derived.Test.YtiopcifglfocpaaDoorP23c
namespace Go.Proofs.YtiopcifglfocpaaDoor.X
open Go.RowKit Go.Maps
theorem dig_none : ∀ c : Fin 256, (49 ≤ c.val ∧ c.val ≤ 57) → itK c.val = 0 := by decide +kernel
theorem below_own {B : Nat} {w W : World} {v : Value} {T : TypeId} {n : Nat} {xs : List Value} (h : w.ownsRow B T 3 v n xs) (hg : w.grownBy W v.ownBlock) (hB : B ≤ w.heap.size) : Below B w W :=
  ⟨hg.os, hg.tape, hg.output, hg.size, fun i hi => hg.block i (by omega) (fun e => by have := h.lt i e.symm; omega)⟩
def RInv (s0 : ByteArray) (B : Nat) (w0 : World) (k : Nat) (t : ByteArray) (v : Value) (wr : World) : Prop :=
  ∃ l, wr.ownsRow B 32 3 v l.length (itsC l) ∧ Below w0.heap.size w0 wr ∧ noText l ∧ parsV (s0.data.toList.drop k) (fl l t) = parsV s0.data.toList [] ∧ l.length + (if t.size = 0 then 0 else 1) ≤ k ∧ t.size ≤ k
theorem rinv_new {s : ByteArray} {w0 w6 : World} {L1 : List Itm} {x : Itm} {t' : ByteArray} {v : Value} {k : Nat} (h : w6.ownsRow w0.heap.size 32 3 v (L1 ++ [x]).length (itsC (L1 ++ [x]))) (hb : Below w0.heap.size w0 w6) (hx : x.1 ≠ 0) (ht : t'.size = 0) (hp : parsV (s.data.toList.drop k) (L1 ++ [x]) = parsV s.data.toList []) (hl : L1.length + 1 ≤ k) : RInv s w0.heap.size w0 k t' v w6 :=
  ⟨_, h, hb, noText_app _ _ hx, by rw [fl_empty _ _ ht]; exact hp, by rw [if_pos ht]; simp; omega, by omega⟩
set_option maxRecDepth 20000 in
set_option maxHeartbeats 2000000 in
theorem refParse_good (s : ByteArray) (w : World) (hl : s.size ≤ 128) (hp : plainL s.data.toList = true) :
    Calls Tryd.prog 11 #[.string s] w (ParseIs s.data.toList w) := by
  have hg : decide ((s.size : Int) > 128) = false := decide_eq_false (by omega)
  have hl0 : ¬ 128 < s.data.toList.length := by rw [len_list]; omega
  have hp0 : ¬ plainL s.data.toList = false := by rw [hp]; decide
  have HE := Lib.hid (fun l (h : some l = parsV s.data.toList []) => (show parseE s.data.toList = if 32 < l.length then 1 else 0 by rw [parseE, if_neg hl0, if_neg hp0, ← h]))
  have HL := Lib.hid (fun l (h : some l = parsV s.data.toList []) => (show parseL s.data.toList = if 32 < l.length then [] else l by rw [parseL, if_neg hl0, if_neg hp0, ← h]))
  have HN := Lib.hid (fun (h : none = parsV s.data.toList []) => (show parseE s.data.toList = 2 ∧ parseL s.data.toList = [] by rw [parseE, parseL, if_neg hl0, if_neg hp0, ← h, if_neg hl0, if_neg hp0]; exact ⟨rfl, rfl⟩))
  clear hl0 hp0
  go_enter Tryd.func11, Tryd.ntmps11
  go_wp2_with fail
  refine (refPlain_any s w (by unfold maxLen; omega)).mono ?_
  rintro e w1 ⟨rfl, rfl⟩
  rw [hp]
  go_wp2_with fail
  go_loopw [4, 5, 6] (fun v tv iv wr => ∃ (k : Nat) (t : ByteArray) (a : Option Addr) (n c : Nat), k ≤ s.size ∧ iv = .int .i64 k ∧ tv = .string t ∧ v = .slice a n c ∧ Hid (RInv s w.heap.size w k t (.slice a n c) wr)) (fun _ _ iv _ => s.size - (intOf iv).toNat)
  case atStart => exact ⟨0, ByteArray.empty, none, 0, 0, by omega, rfl, rfl, rfl, [], World.ownsRow_nil _ _ _ _, Below.refl _ _, by intro x hx; simp at hx, by rw [fl_empty _ _ rfl]; rfl, by simp, by simp⟩
  case round =>
    obtain ⟨k, t, a, n, c, hk, rfl, rfl, rfl, HR⟩ := hrel
    by_cases hlt : k < s.size
    · by_cases hc : s[k] = 37
      · obtain ⟨l, hown, hB, hnt, hpe, hln, htk⟩ := HR.out
        obtain ⟨i0, hi0, hz0, hz1, hz2⟩ := info_parts infoItem
        obtain rfl : n = l.length := by
          rcases hown.2 with ⟨hv, h0⟩ | ⟨g, cap, _, hv, _⟩
          · rw [h0]; cases hv; rfl
          · cases hv; rfl
        have hB0 := hB.size
        have hcb : ((s[k].toNat : Int) != 37) = false := by rw [hc]; rfl
        by_cases h1 : k + 1 < s.size
        · by_cases h2 : s[k + 1] = 37
          · have h2b : ((s[k + 1].toNat : Int) == 37) = true := by rw [h2]; rfl
            have HN := Lib.hid (show RInv s w.heap.size w (k + 2) (t ++ ⟨#[37]⟩) (.slice a l.length c) wr from
              ⟨l, hown, hB, hnt, by rw [← step_two s k l t h1 hnt hc h2]; exact hpe, by split at hln <;> split <;> omega, by rw [ByteArray.size_append]; have : (⟨#[37]⟩ : ByteArray).size = 1 := rfl; omega⟩)
            have hov : ¬ 9223372036854775807 < t.size + 1 := by omega
            clear hown hpe hnt hc h2 HR HE HL
            go_wp2_with fail
            go_roundw
            case rel => exact ⟨k + 2, _, a, l.length, c, by omega, by go_num, rfl, rfl, HN⟩
            case measure => simp [intOf]; omega
          · have h2b : ((s[k + 1].toNat : Int) == 37) = false := by
              rw [beq_eq_false_iff_ne]
              intro h
              exact h2 (UInt8.toNat_inj.1 (by have : (37 : UInt8).toNat = 37 := rfl; omega))
            have hst := step_one s k (fl l t) h1 hc h2
            rw [hpe] at hst
            have hdr := drop_byte s (k + 1) h1
            have hone : oneV (s.data.toList.drop (k + 1)) = if itK s[k + 1].toNat ≠ 0 then (itK s[k + 1].toNat, itN s[k + 1].toNat, 1) else if (49 ≤ s[k + 1].toNat ∧ s[k + 1].toNat ≤ 57) ∧ (s.data.toList.drop (k + 2)).take 1 = [102] then (7, (s[k + 1].toNat : Int) - 48, 2) else (0, 0, 0) := by rw [hdr]; rfl
            have hdig := dig_none ⟨s[k + 1].toNat, s[k + 1].toNat_lt⟩
            simp only at hdig
            clear hpe hdr h2 HR HE HL
            by_cases ht : t.size = 0
            · have htn : t.data.toList = [] := List.eq_nil_of_length_eq_zero (by rw [len_list]; exact ht)
              obtain ⟨e1, e2, e3⟩ := empty_test t htn
              clear htn
              rw [fl_empty l t ht] at hst
              by_cases hf : (49 ≤ s[k + 1].toNat ∧ s[k + 1].toNat ≤ 57) ∧ (s.data.toList.drop (k + 2)).take 1 = [102]
              · have hk0 := hdig hf.1
                have hv : oneV (s.data.toList.drop (k + 1)) = ((7 : Int), (s[k + 1].toNat : Int) - 48, (2 : Int)) := by rw [hone, if_neg (by simp [hk0]), if_pos hf]
                rw [hv, if_neg (show ¬ ((2 : Int) = 0) by decide)] at hst
                have h3 : k + 1 + 1 < s.size := by
                  have := congrArg List.length hf.2
                  rw [List.length_take, List.length_drop, len_list] at this; simp at this; omega
                have h3b : ((s[k + 1 + 1].toNat : Int) == 102) = true := by
                  have h4 := hf.2
                  rw [drop_byte s (k + 2) h3] at h4
                  simp at h4
                  rw [h4]; rfl
                obtain ⟨⟨d1, d2⟩, _⟩ := hf
                obtain ⟨C, hC⟩ : ∃ C, C = s[k + 1].toNat := ⟨_, rfl⟩
                have HST := Lib.hid hst
                clear hst hone hdig hk0 HN hv
                go_wp2_with (first
                  | (at_builtin; refine wpList_append_own_at _ rfl _ _ 22 rfl w.heap.size 32 i0 (.agg #[.int .i64 0, .int .i64 0, .string ⟨#[]⟩]) 3 32 Tryd.underlying22 hi0 hz0 hz1 hz2 rfl (by decide) _ _ _ rfl (hown.alloc _) ⟨wr.heap.size, 0, none⟩ 1 1 [.int .i64 7, .int .i64 ((s[k + 1].toNat : Int) - 48), .string ⟨#[]⟩] rfl rfl (cell_three_new _ _ _ _ _) (by intro u hu; simp at hu; rcases hu with rfl | rfl | rfl <;> rfl) (by unfold maxLen; omega) (by omega) (by simp; omega) ?_; intro v'' w6 hown2 hgrow2 hnil2 hloc2; obtain ⟨g2, cap2, hv2⟩ := Go.Joins.ownsRow_form hown2 (by omega); subst hv2)
                  | go_in)
                go_roundw
                case rel =>
                  refine ⟨k + 3, _, _, _, _, by omega, by go_num, rfl, rfl, ?_⟩
                  refine rinv_new (L1 := l) (x := (7, (s[k + 1].toNat : Int) - 48, ⟨#[]⟩)) ?_ (hB.trans (below_own hown ((World.grownBy_alloc _ _ _).trans hgrow2) hB0)) (show (7 : Int) ≠ 0 by decide) ht (by rw [HST.out]; rfl) (by simp; omega)
                  have h := hown2
                  simp only [itsC, List.flatMap_append, List.flatMap_cons, List.flatMap_nil, itC, List.length_append, List.length_cons, List.length_nil, List.append_nil] at h ⊢
                  exact h
                case measure => simp [intOf]; omega
              · have hcases : (s[k + 1].toNat < 49) ∨ (49 ≤ s[k + 1].toNat ∧ 57 < s[k + 1].toNat) ∨ (49 ≤ s[k + 1].toNat ∧ s[k + 1].toNat ≤ 57 ∧ ¬ k + 1 + 1 < s.size) ∨ (49 ≤ s[k + 1].toNat ∧ s[k + 1].toNat ≤ 57 ∧ ∃ h : k + 1 + 1 < s.size, ((s[k + 1 + 1].toNat : Int) == 102) = false) := by
                  by_cases d1 : s[k + 1].toNat < 49
                  · exact .inl d1
                  · by_cases d2 : 57 < s[k + 1].toNat
                    · exact .inr (.inl ⟨by omega, d2⟩)
                    · by_cases d3 : k + 1 + 1 < s.size
                      · refine .inr (.inr (.inr ⟨by omega, by omega, d3, ?_⟩))
                        rw [beq_eq_false_iff_ne]
                        intro h
                        refine hf ⟨⟨by omega, by omega⟩, ?_⟩
                        rw [drop_byte s (k + 2) d3]
                        have h5 : s[k + 1 + 1] = 102 := UInt8.toNat_inj.1 (by have : (102 : UInt8).toNat = 102 := rfl; omega)
                        have h6 : s[k + 2] = 102 := h5
                        simp [h6]
                      · exact .inr (.inr (.inl ⟨by omega, by omega, d3⟩))
                have hv : oneV (s.data.toList.drop (k + 1)) = if itK s[k + 1].toNat ≠ 0 then (itK s[k + 1].toNat, itN s[k + 1].toNat, (1 : Int)) else ((0 : Int), (0 : Int), (0 : Int)) := by rw [hone, if_neg hf]
                clear hone hf hdig
                have CI := Lib.hid (fun W => refItem_any s[k + 1] W)
                unfold ItemIs itemV at CI
                obtain ⟨K, hK⟩ : ∃ K, K = itK s[k + 1].toNat := ⟨_, rfl⟩
                obtain ⟨N, hN⟩ : ∃ N, N = itN s[k + 1].toNat := ⟨_, rfl⟩
                rw [← hK, ← hN] at CI hv
                clear hK hN
                by_cases hK0 : K = 0
                · rw [if_neg (by simp [hK0])] at hv
                  rw [hv, if_pos (show (0 : Int) = 0 from rfl)] at hst
                  have bK : (K != 0) = false := by rw [hK0]; rfl
                  rw [bK] at CI
                  obtain ⟨q1, q2⟩ := HN.out hst.symm
                  have h1' := Lib.hid q1
                  have h2' := Lib.hid q2
                  clear q1 q2 hst hv hK0 bK HN
                  rcases hcases with d1 | ⟨d1, d2⟩ | ⟨d1, d2, d3⟩ | ⟨d1, d2, d3, d4⟩
                  all_goals
                    go_wp2_with (first
                      | fail
                      | fail)
                    refine (CI.out _).mono ?_
                    rintro e w5 ⟨rfl, hb5⟩
                    have hB5 := hB.trans (hb5.mono hB0)
                    have hB5z := hB5.size
                    clear hb5
                    go_wp2
                    go_ret2
                    exact ⟨.slice none 0 0, by rw [h1'.out]; rfl, by rw [h2'.out]; exact World.ownsRow_nil _ _ _ _, hB5.alloc (by omega) _⟩
                · rw [if_pos hK0] at hv
                  rw [hv, if_neg (show ¬ ((1 : Int) = 0) by decide)] at hst
                  have bK : (K != 0) = true := by rw [bne_iff_ne]; exact hK0
                  rw [bK] at CI
                  have HST := Lib.hid hst
                  clear hst hv bK HN
                  rcases hcases with d1 | ⟨d1, d2⟩ | ⟨d1, d2, d3⟩ | ⟨d1, d2, d3, d4⟩
                  all_goals
                    go_wp2_with (first
                      | fail
                      | fail)
                    refine (CI.out _).mono ?_
                    rintro e w5 ⟨rfl, hb5⟩
                    have hB5 := hB.trans (hb5.mono hB0)
                    have hB5z := hB5.size
                    have hown5 := hown.kept (w' := w5) (row := none) ⟨hb5.os, hb5.tape, hb5.output, hb5.size, fun j hj _ => hb5.block j hj⟩ (by generalize Value.ownBlock _ = b; cases b <;> simp)
                    have hnew := cell_three_new (w5.alloc (.cells #[.int .i64 K, .int .i64 N, .string ⟨#[]⟩] 32)) (.int .i64 K) (.int .i64 N) (.string ⟨#[]⟩) 32
                    rw [show (w5.alloc (.cells #[.int .i64 K, .int .i64 N, .string ⟨#[]⟩] 32)).heap.size = w5.heap.size + 1 by simp] at hnew
                    clear hb5
                    go_wp2_with (first
                      | (at_builtin; refine wpList_append_own_at _ rfl _ _ 22 rfl w.heap.size 32 i0 (.agg #[.int .i64 0, .int .i64 0, .string ⟨#[]⟩]) 3 32 Tryd.underlying22 hi0 hz0 hz1 hz2 rfl (by decide) _ _ _ rfl ((hown5.alloc _).alloc _) ⟨w5.heap.size + 1, 0, none⟩ 1 1 [.int .i64 K, .int .i64 N, .string ⟨#[]⟩] rfl rfl (hnew) (by intro u hu; simp at hu; rcases hu with rfl | rfl | rfl <;> rfl) (by unfold maxLen; omega) (by omega) (by simp; omega) ?_; intro v'' w6 hown2 hgrow2 hnil2 hloc2; obtain ⟨g2, cap2, hv2⟩ := Go.Joins.ownsRow_form hown2 (by omega); subst hv2)
                      | go_in)
                    go_roundw
                    case rel =>
                      refine ⟨k + 2, _, _, _, _, by omega, by go_num, rfl, rfl, ?_⟩
                      refine rinv_new (L1 := l) (x := (K, N, ⟨#[]⟩)) ?_ (hB5.trans (below_own hown5 (((World.grownBy_alloc _ _ _).trans (World.grownBy_alloc _ _ _)).trans hgrow2) hB5z)) hK0 ht (by rw [HST.out]; rfl) (by simp; omega)
                      have h := hown2
                      simp only [itsC, List.flatMap_append, List.flatMap_cons, List.flatMap_nil, itC, List.length_append, List.length_cons, List.length_nil, List.append_nil] at h ⊢
                      exact h
                    case measure => simp [intOf]; omega
            · obtain ⟨e1, e2, e3⟩ := cons_test t (fun h => ht (by rw [← len_list, h]; rfl))
              rw [fl_full l t ht] at hst
              rw [if_neg ht] at hln
              by_cases hf : (49 ≤ s[k + 1].toNat ∧ s[k + 1].toNat ≤ 57) ∧ (s.data.toList.drop (k + 2)).take 1 = [102]
              · have hk0 := hdig hf.1
                have hv : oneV (s.data.toList.drop (k + 1)) = ((7 : Int), (s[k + 1].toNat : Int) - 48, (2 : Int)) := by rw [hone, if_neg (by simp [hk0]), if_pos hf]
                rw [hv, if_neg (show ¬ ((2 : Int) = 0) by decide)] at hst
                have h3 : k + 1 + 1 < s.size := by
                  have := congrArg List.length hf.2
                  rw [List.length_take, List.length_drop, len_list] at this; simp at this; omega
                have h3b : ((s[k + 1 + 1].toNat : Int) == 102) = true := by
                  have h4 := hf.2
                  rw [drop_byte s (k + 2) h3] at h4
                  simp at h4
                  rw [h4]; rfl
                obtain ⟨⟨d1, d2⟩, _⟩ := hf
                obtain ⟨C, hC⟩ : ∃ C, C = s[k + 1].toNat := ⟨_, rfl⟩
                have HST := Lib.hid hst
                clear hst hone hdig hk0 HN hv
                go_wp2_with (first
                  | (at_builtin; refine wpList_append_own_at _ rfl _ _ 22 rfl w.heap.size 32 i0 (.agg #[.int .i64 0, .int .i64 0, .string ⟨#[]⟩]) 3 32 Tryd.underlying22 hi0 hz0 hz1 hz2 rfl (by decide) _ _ _ rfl (hown.alloc _) ⟨wr.heap.size, 0, none⟩ 1 1 [.int .i64 0, .int .i64 0, .string t] rfl rfl (cell_three_new _ _ _ _ _) (by intro u hu; simp at hu; rcases hu with rfl | rfl | rfl <;> rfl) (by unfold maxLen; omega) (by omega) (by simp; omega) ?_; intro v' w4 hown1 hgrow hnil hloc; obtain ⟨g', cap', hv'⟩ := Go.Joins.ownsRow_form hown1 (by omega); subst hv'; have hBF := hB.trans (below_own hown ((World.grownBy_alloc wr _ _).trans hgrow) hB0); have hBz := hBF.size)
                  | (at_builtin; refine wpList_append_own_at _ rfl _ _ 22 rfl w.heap.size 32 i0 (.agg #[.int .i64 0, .int .i64 0, .string ⟨#[]⟩]) 3 32 Tryd.underlying22 hi0 hz0 hz1 hz2 rfl (by decide) _ _ _ rfl (hown1.alloc _) ⟨w4.heap.size, 0, none⟩ 1 1 [.int .i64 7, .int .i64 ((s[k + 1].toNat : Int) - 48), .string ⟨#[]⟩] rfl rfl (cell_three_new _ _ _ _ _) (by intro u hu; simp at hu; rcases hu with rfl | rfl | rfl <;> rfl) (by unfold maxLen; omega) (by omega) (by simp; omega) ?_; intro v'' w6 hown2 hgrow2 hnil2 hloc2; obtain ⟨g2, cap2, hv2⟩ := Go.Joins.ownsRow_form hown2 (by omega); subst hv2)
                  | go_in)
                go_roundw
                case rel =>
                  refine ⟨k + 3, _, _, _, _, by omega, by go_num, rfl, rfl, ?_⟩
                  refine rinv_new (L1 := (l ++ [((0 : Int), (0 : Int), t)])) (x := (7, (s[k + 1].toNat : Int) - 48, ⟨#[]⟩)) ?_ (hBF.trans (below_own hown1 ((World.grownBy_alloc _ _ _).trans hgrow2) hBz)) (show (7 : Int) ≠ 0 by decide) rfl (by rw [HST.out]; rfl) (by simp; omega)
                  have h := hown2
                  simp only [itsC, List.flatMap_append, List.flatMap_cons, List.flatMap_nil, itC, List.length_append, List.length_cons, List.length_nil, List.append_nil, List.append_assoc] at h ⊢
                  exact h
                case measure => simp [intOf]; omega
              · have hcases : (s[k + 1].toNat < 49) ∨ (49 ≤ s[k + 1].toNat ∧ 57 < s[k + 1].toNat) ∨ (49 ≤ s[k + 1].toNat ∧ s[k + 1].toNat ≤ 57 ∧ ¬ k + 1 + 1 < s.size) ∨ (49 ≤ s[k + 1].toNat ∧ s[k + 1].toNat ≤ 57 ∧ ∃ h : k + 1 + 1 < s.size, ((s[k + 1 + 1].toNat : Int) == 102) = false) := by
                  by_cases d1 : s[k + 1].toNat < 49
                  · exact .inl d1
                  · by_cases d2 : 57 < s[k + 1].toNat
                    · exact .inr (.inl ⟨by omega, d2⟩)
                    · by_cases d3 : k + 1 + 1 < s.size
                      · refine .inr (.inr (.inr ⟨by omega, by omega, d3, ?_⟩))
                        rw [beq_eq_false_iff_ne]
                        intro h
                        refine hf ⟨⟨by omega, by omega⟩, ?_⟩
                        rw [drop_byte s (k + 2) d3]
                        have h5 : s[k + 1 + 1] = 102 := UInt8.toNat_inj.1 (by have : (102 : UInt8).toNat = 102 := rfl; omega)
                        have h6 : s[k + 2] = 102 := h5
                        simp [h6]
                      · exact .inr (.inr (.inl ⟨by omega, by omega, d3⟩))
                have hv : oneV (s.data.toList.drop (k + 1)) = if itK s[k + 1].toNat ≠ 0 then (itK s[k + 1].toNat, itN s[k + 1].toNat, (1 : Int)) else ((0 : Int), (0 : Int), (0 : Int)) := by rw [hone, if_neg hf]
                clear hone hf hdig
                have CI := Lib.hid (fun W => refItem_any s[k + 1] W)
                unfold ItemIs itemV at CI
                obtain ⟨K, hK⟩ : ∃ K, K = itK s[k + 1].toNat := ⟨_, rfl⟩
                obtain ⟨N, hN⟩ : ∃ N, N = itN s[k + 1].toNat := ⟨_, rfl⟩
                rw [← hK, ← hN] at CI hv
                clear hK hN
                by_cases hK0 : K = 0
                · rw [if_neg (by simp [hK0])] at hv
                  rw [hv, if_pos (show (0 : Int) = 0 from rfl)] at hst
                  have bK : (K != 0) = false := by rw [hK0]; rfl
                  rw [bK] at CI
                  obtain ⟨q1, q2⟩ := HN.out hst.symm
                  have h1' := Lib.hid q1
                  have h2' := Lib.hid q2
                  clear q1 q2 hst hv hK0 bK HN
                  rcases hcases with d1 | ⟨d1, d2⟩ | ⟨d1, d2, d3⟩ | ⟨d1, d2, d3, d4⟩
                  all_goals
                    go_wp2_with (first
                      | (at_builtin; refine wpList_append_own_at _ rfl _ _ 22 rfl w.heap.size 32 i0 (.agg #[.int .i64 0, .int .i64 0, .string ⟨#[]⟩]) 3 32 Tryd.underlying22 hi0 hz0 hz1 hz2 rfl (by decide) _ _ _ rfl (hown.alloc _) ⟨wr.heap.size, 0, none⟩ 1 1 [.int .i64 0, .int .i64 0, .string t] rfl rfl (cell_three_new _ _ _ _ _) (by intro u hu; simp at hu; rcases hu with rfl | rfl | rfl <;> rfl) (by unfold maxLen; omega) (by omega) (by simp; omega) ?_; intro v' w4 hown1 hgrow hnil hloc; obtain ⟨g', cap', hv'⟩ := Go.Joins.ownsRow_form hown1 (by omega); subst hv'; have hBF := hB.trans (below_own hown ((World.grownBy_alloc wr _ _).trans hgrow) hB0); have hBz := hBF.size)
                      | fail)
                    refine (CI.out _).mono ?_
                    rintro e w5 ⟨rfl, hb5⟩
                    have hB5 := hBF.trans (hb5.mono hBz)
                    have hB5z := hB5.size
                    clear hb5
                    go_wp2
                    go_ret2
                    exact ⟨.slice none 0 0, by rw [h1'.out]; rfl, by rw [h2'.out]; exact World.ownsRow_nil _ _ _ _, hB5.alloc (by omega) _⟩
                · rw [if_pos hK0] at hv
                  rw [hv, if_neg (show ¬ ((1 : Int) = 0) by decide)] at hst
                  have bK : (K != 0) = true := by rw [bne_iff_ne]; exact hK0
                  rw [bK] at CI
                  have HST := Lib.hid hst
                  clear hst hv bK HN
                  rcases hcases with d1 | ⟨d1, d2⟩ | ⟨d1, d2, d3⟩ | ⟨d1, d2, d3, d4⟩
                  all_goals
                    go_wp2_with (first
                      | (at_builtin; refine wpList_append_own_at _ rfl _ _ 22 rfl w.heap.size 32 i0 (.agg #[.int .i64 0, .int .i64 0, .string ⟨#[]⟩]) 3 32 Tryd.underlying22 hi0 hz0 hz1 hz2 rfl (by decide) _ _ _ rfl (hown.alloc _) ⟨wr.heap.size, 0, none⟩ 1 1 [.int .i64 0, .int .i64 0, .string t] rfl rfl (cell_three_new _ _ _ _ _) (by intro u hu; simp at hu; rcases hu with rfl | rfl | rfl <;> rfl) (by unfold maxLen; omega) (by omega) (by simp; omega) ?_; intro v' w4 hown1 hgrow hnil hloc; obtain ⟨g', cap', hv'⟩ := Go.Joins.ownsRow_form hown1 (by omega); subst hv'; have hBF := hB.trans (below_own hown ((World.grownBy_alloc wr _ _).trans hgrow) hB0); have hBz := hBF.size)
                      | fail)
                    refine (CI.out _).mono ?_
                    rintro e w5 ⟨rfl, hb5⟩
                    have hB5 := hBF.trans (hb5.mono hBz)
                    have hB5z := hB5.size
                    have hown5 := hown1.kept (w' := w5) (row := none) ⟨hb5.os, hb5.tape, hb5.output, hb5.size, fun j hj _ => hb5.block j hj⟩ (by generalize Value.ownBlock _ = b; cases b <;> simp)
                    have hnew := cell_three_new (w5.alloc (.cells #[.int .i64 K, .int .i64 N, .string ⟨#[]⟩] 32)) (.int .i64 K) (.int .i64 N) (.string ⟨#[]⟩) 32
                    rw [show (w5.alloc (.cells #[.int .i64 K, .int .i64 N, .string ⟨#[]⟩] 32)).heap.size = w5.heap.size + 1 by simp] at hnew
                    clear hb5
                    go_wp2_with (first
                      | (at_builtin; refine wpList_append_own_at _ rfl _ _ 22 rfl w.heap.size 32 i0 (.agg #[.int .i64 0, .int .i64 0, .string ⟨#[]⟩]) 3 32 Tryd.underlying22 hi0 hz0 hz1 hz2 rfl (by decide) _ _ _ rfl ((hown5.alloc _).alloc _) ⟨w5.heap.size + 1, 0, none⟩ 1 1 [.int .i64 K, .int .i64 N, .string ⟨#[]⟩] rfl rfl (hnew) (by intro u hu; simp at hu; rcases hu with rfl | rfl | rfl <;> rfl) (by unfold maxLen; omega) (by omega) (by simp; omega) ?_; intro v'' w6 hown2 hgrow2 hnil2 hloc2; obtain ⟨g2, cap2, hv2⟩ := Go.Joins.ownsRow_form hown2 (by omega); subst hv2)
                      | go_in)
                    go_roundw
                    case rel =>
                      refine ⟨k + 2, _, _, _, _, by omega, by go_num, rfl, rfl, ?_⟩
                      refine rinv_new (L1 := (l ++ [((0 : Int), (0 : Int), t)])) (x := (K, N, ⟨#[]⟩)) ?_ (hB5.trans (below_own hown5 (((World.grownBy_alloc _ _ _).trans (World.grownBy_alloc _ _ _)).trans hgrow2) hB5z)) hK0 rfl (by rw [HST.out]; rfl) (by simp; omega)
                      have h := hown2
                      simp only [itsC, List.flatMap_append, List.flatMap_cons, List.flatMap_nil, itC, List.length_append, List.length_cons, List.length_nil, List.append_nil, List.append_assoc] at h ⊢
                      exact h
                    case measure => simp [intOf]; omega
        · have hsz : k + 1 = s.size := by omega
          have hb1 : decide ((k : Int) + 1 < s.size) = false := decide_eq_false (by omega)
          have hb2 : decide ((k : Int) + 1 ≥ s.size) = true := decide_eq_true (by omega)
          rw [step_end s k _ hsz hc] at hpe
          obtain ⟨q1, q2⟩ := HN.out hpe
          have h1 := Lib.hid q1
          have h2 := Lib.hid q2
          clear q1 q2 hpe hc HR HE HL HN
          by_cases ht : t.size = 0
          · have htn : t.data.toList = [] := List.eq_nil_of_length_eq_zero (by rw [len_list]; exact ht)
            obtain ⟨e1, e2, e3⟩ := empty_test t htn
            clear htn
            go_wp2
            go_ret2
            exact ⟨.slice none 0 0, by rw [h1.out]; rfl, by rw [h2.out]; exact World.ownsRow_nil _ _ _ _, hB⟩
          · obtain ⟨e1, e2, e3⟩ := cons_test t (fun h => ht (by rw [← len_list, h]; rfl))
            rw [if_neg ht] at hln
            go_wp2_with (first
              | (at_builtin; refine wpList_append_own_at _ rfl _ _ 22 rfl w.heap.size 32 i0 (.agg #[.int .i64 0, .int .i64 0, .string ⟨#[]⟩]) 3 32 Tryd.underlying22 hi0 hz0 hz1 hz2 rfl (by decide) _ _ _ rfl (hown.alloc _) ⟨wr.heap.size, 0, none⟩ 1 1 [.int .i64 0, .int .i64 0, .string t] rfl rfl (cell_three_new _ _ _ _ _) (by intro u hu; simp at hu; rcases hu with rfl | rfl | rfl <;> rfl) (by unfold maxLen; omega) (by omega) (by simp; omega) ?_; intro v' w4 hown1 hgrow hnil hloc; obtain ⟨g', cap', hv'⟩ := Go.Joins.ownsRow_form hown1 (by omega); subst hv'; have hBF := hB.trans (below_own hown ((World.grownBy_alloc wr _ _).trans hgrow) hB0); have hBz := hBF.size)
              | go_in)
            go_ret2
            exact ⟨.slice none 0 0, by rw [h1.out]; rfl, by rw [h2.out]; exact World.ownsRow_nil _ _ _ _, hBF⟩
      · have hcb : ((s[k].toNat : Int) != 37) = true := by
          rw [bne_iff_ne]
          intro h
          exact hc (UInt8.toNat_inj.1 (by have : (37 : UInt8).toNat = 37 := rfl; omega))
        have hz : (s.extract k (k + 1)).size = 1 := by rw [ByteArray.size_extract]; omega
        have htk : t.size ≤ k := by obtain ⟨l, _, _, _, _, _, h⟩ := HR.out; exact h
        have HN := Lib.hid (show RInv s w.heap.size w (k + 1) (t ++ s.extract k (k + 1)) (.slice a n c) wr by
          obtain ⟨l, h1, h2, h3, h4, h5, h6⟩ := HR.out
          refine ⟨l, h1, h2, h3, by rw [← step_byte s k l t hlt h3 hc]; exact h4, ?_, by rw [ByteArray.size_append]; omega⟩
          rw [if_neg (by rw [ByteArray.size_append]; omega)]
          split at h5 <;> omega)
        have hsl : ∀ W, (Instr.slice 9 (.string s) (some (.int .i64 (k : Int))) (some (.int .i64 ((k : Int) + 1))) none).run Tryd.prog W = .ok (.string (s.extract k (k + 1))) W := fun W => by
          rw [run_slice_string W 9 s .i64 .i64 (k : Int) ((k : Int) + 1) Tryd.underlying9 (by omega) (by omega) (by omega)]
          rw [show ((k : Int)).toNat = k by omega, show ((k : Int) + 1).toNat = k + 1 by omega]
        obtain ⟨u, hu⟩ : ∃ u, u = s.extract k (k + 1) := ⟨_, rfl⟩
        rw [← hu] at hsl hz HN
        have hov : ¬ 9223372036854775807 < t.size + u.size := by omega
        clear hu hc hz htk
        go_wp2_with fail
        go_roundw
        case rel => exact ⟨k + 1, _, a, n, c, by omega, by go_num, rfl, rfl, HN⟩
        case measure => simp [intOf]; omega
    · have hke : k = s.size := by omega
      obtain ⟨l, hown, hB, hnt, hpe, hln, htk⟩ := HR.out
      rw [hke, List.drop_eq_nil_of_le (by rw [len_list]; omega), parsV_nil] at hpe
      have HE1 := HE.out _ hpe
      have HL1 := HL.out _ hpe
      obtain ⟨i0, hi0, hz0, hz1, hz2⟩ := info_parts infoItem
      obtain rfl : n = l.length := by
        rcases hown.2 with ⟨hv, h0⟩ | ⟨g, cap, _, hv, _⟩
        · rw [h0]; cases hv; rfl
        · cases hv; rfl
      have hB0 := hB.size
      clear hke hpe HR HN HE HL
      by_cases ht : t.size = 0
      · rw [fl_empty l t ht] at HE1 HL1
        have htn : t.data.toList = [] := List.eq_nil_of_length_eq_zero (by rw [len_list]; exact ht)
        obtain ⟨e1, e2, e3⟩ := empty_test t htn
        have HO := Lib.hid hown
        clear htn hown
        by_cases h32 : 32 < l.length
        · rw [if_pos h32] at HE1 HL1
          have h1 := Lib.hid HE1
          have h2 := Lib.hid HL1
          clear HE1 HL1
          go_wp2
          go_ret2
          exact ⟨.slice none 0 0, by rw [h1.out]; rfl, by rw [h2.out]; exact World.ownsRow_nil _ _ _ _, hB⟩
        · rw [if_neg h32] at HE1 HL1
          have h1 := Lib.hid HE1
          have h2 := Lib.hid HL1
          clear HE1 HL1
          go_wp2
          go_ret2
          exact ⟨.slice a l.length c, by rw [h1.out]; rfl, by rw [h2.out]; exact HO.out, hB⟩
      · rw [fl_full l t ht] at HE1 HL1
        obtain ⟨e1, e2, e3⟩ := cons_test t (fun h => ht (by rw [← len_list, h]; rfl))
        rw [if_neg ht] at hln
        rw [show (l ++ [((0 : Int), (0 : Int), t)]).length = l.length + 1 by simp] at HE1 HL1
        by_cases h32 : 32 < l.length + 1
        · rw [if_pos h32] at HE1 HL1
          have h1 := Lib.hid HE1
          have h2 := Lib.hid HL1
          clear HE1 HL1
          go_wp2_with (first
            | (at_builtin; refine wpList_append_own_at _ rfl _ _ 22 rfl w.heap.size 32 i0 (.agg #[.int .i64 0, .int .i64 0, .string ⟨#[]⟩]) 3 32 Tryd.underlying22 hi0 hz0 hz1 hz2 rfl (by decide) _ _ _ rfl (hown.alloc _) ⟨wr.heap.size, 0, none⟩ 1 1 [.int .i64 0, .int .i64 0, .string t] rfl rfl (cell_three_new _ _ _ _ _) (by intro u hu; simp at hu; rcases hu with rfl | rfl | rfl <;> rfl) (by unfold maxLen; omega) (by omega) (by simp; omega) ?_; intro v' w4 hown1 hgrow hnil hloc; obtain ⟨g', cap', hv'⟩ := Go.Joins.ownsRow_form hown1 (by omega); subst hv')
            | go_in)
          go_ret2
          exact ⟨.slice none 0 0, by rw [h1.out]; rfl, by rw [h2.out]; exact World.ownsRow_nil _ _ _ _, hB.trans (below_own hown ((World.grownBy_alloc wr _ _).trans hgrow) hB0)⟩
        · rw [if_neg h32] at HE1 HL1
          have h1 := Lib.hid HE1
          have h2 := Lib.hid HL1
          clear HE1 HL1
          go_wp2_with (first
            | (at_builtin; refine wpList_append_own_at _ rfl _ _ 22 rfl w.heap.size 32 i0 (.agg #[.int .i64 0, .int .i64 0, .string ⟨#[]⟩]) 3 32 Tryd.underlying22 hi0 hz0 hz1 hz2 rfl (by decide) _ _ _ rfl (hown.alloc _) ⟨wr.heap.size, 0, none⟩ 1 1 [.int .i64 0, .int .i64 0, .string t] rfl rfl (cell_three_new _ _ _ _ _) (by intro u hu; simp at hu; rcases hu with rfl | rfl | rfl <;> rfl) (by unfold maxLen; omega) (by omega) (by simp; omega) ?_; intro v' w4 hown1 hgrow hnil hloc; obtain ⟨g', cap', hv'⟩ := Go.Joins.ownsRow_form hown1 (by omega); subst hv')
            | go_in)
          go_ret2
          refine ⟨.slice (some ⟨g', 0, none⟩) (l.length + 1) cap', by rw [h1.out]; rfl, ?_, hB.trans (below_own hown ((World.grownBy_alloc wr _ _).trans hgrow) hB0)⟩
          rw [h2.out, show [Value.int .i64 0, .int .i64 0, .string t] = itsC [(0, 0, t)] from rfl, ← itsC_append] at *
          unfold ItemsAre
          simpa using hown1
end Go.Proofs.YtiopcifglfocpaaDoor.X
