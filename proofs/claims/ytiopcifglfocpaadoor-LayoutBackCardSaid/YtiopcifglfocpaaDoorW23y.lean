/- Chapter 23, walk of the law LayoutMore. Conditions: a slice that reads as items, as long as one may be; the library's variable MaxLen holds a number. -/
import Derived.Test.YtiopcifglfocpaaDoorW23x
namespace Go.Proofs.YtiopcifglfocpaaDoor.X
open Go.RowKit Go.Maps
def lessL (l : List Itm) : List Itm := l.filter fun x => decide (x.1 ≠ 1)
theorem lessL_take (l : List Itm) (k : Nat) (h : k < l.length) : lessL (l.take (k + 1)) = if l[k].1 ≠ 1 then lessL (l.take k) ++ [l[k]] else lessL (l.take k) := by
  unfold lessL
  rw [List.take_succ_eq_append_getElem h, List.filter_append]
  split
  · rename_i h1; simp [h1]
  · rename_i h1; simp [h1]
theorem less_bd (l : List Itm) : (lessL l).length ≤ l.length ∧ textN (lessL l) ≤ textN l := by
  induction l with
  | nil => exact ⟨Nat.le_refl _, Nat.le_refl _⟩
  | cons x r ih =>
    by_cases h : x.1 ≠ 1
    · have e : lessL (x :: r) = x :: lessL r := by simp [lessL, h]
      rw [e]
      simp only [List.length_cons]
      have t1 : textN (x :: lessL r) = x.2.2.size + textN (lessL r) := by simp [textN]
      have t2 : textN (x :: r) = x.2.2.size + textN r := by simp [textN]
      omega
    · have e : lessL (x :: r) = lessL r := by simp [lessL, h]
      rw [e]
      have t2 : textN (x :: r) = x.2.2.size + textN r := by simp [textN]
      simp only [List.length_cons]
      omega
theorem less_not (l : List Itm) : complV (lessL l) = false := by
  have : hasK (lessL l) 1 = false := by
    unfold hasK lessL
    rw [List.any_eq_false]
    intro x hx
    have := (List.mem_filter.1 hx).2
    simp at this
    simp [this]
  have h2 := need_not (lessL l) 1 (by omega) (by omega) this
  rw [complV, h2, Bool.and_false, Bool.and_false]
theorem nil_not : complV [] = false := less_not []
def moreL (l : List Itm) : List Itm := (0, 0, ⟨#[120]⟩) :: l
theorem more_ok (l : List Itm) (h : complV l = true) (h32 : l.length < 32) (hf : ∀ x, l.head? = some x → x.1 ≠ 0) : (checkE (moreL l) = 0 ∧ complV (moreL l) = true) ∨ (checkE (moreL l) = 1 ∧ complV (moreL l) = false) := by
  have h' := h
  rw [complV] at h'
  simp only [Bool.and_eq_true, decide_eq_true_eq] at h'
  obtain ⟨h0, hE, hN⟩ := h'
  obtain ⟨k1, k2, k3⟩ := check_ok h0
  have hck : chk (-1) (moreL l) = true := by
    unfold moreL
    rw [chk, show okI (0, 0, ⟨#[120]⟩) = true from rfl]
    cases l with
    | nil => rfl
    | cons x r =>
      have := hf x rfl
      rw [chk] at k2 ⊢
      simp only [Bool.and_eq_true] at k2
      rw [k2.1.1, k2.2]
      simp [this]
  have hlen : (moreL l).length = l.length + 1 := rfl
  by_cases h128 : 128 < (showL (moreL l)).length
  · have he : checkE (moreL l) = 1 := by rw [checkE, if_neg (by omega), if_neg (by simp [hck]), if_pos h128]
    exact .inr ⟨he, by rw [complV, he]; rfl⟩
  · have he : checkE (moreL l) = 0 := by rw [checkE, if_neg (by omega), if_neg (by simp [hck]), if_neg h128]
    refine .inl ⟨he, ?_⟩
    rw [complV, he]
    have hE2 : endsAll (moreL l) = true := by
      unfold moreL
      rw [endsAll, hE, endsV_same _ _ (by rfl)]; rfl
    have hN2 : needK.all (hasK (moreL l)) = true := by
      rw [List.all_eq_true] at hN ⊢
      intro q hq
      have := hN q hq
      unfold hasK moreL at *
      rw [List.any_cons, this, Bool.or_true]
    rw [hE2, hN2]; rfl
theorem itsC_one (l : List Itm) : ∀ u ∈ itsC l, u.oneCell' = true := by
  intro u hu
  unfold itsC at hu
  rw [List.mem_flatMap] at hu
  obtain ⟨x, _, hx⟩ := hu
  simp [itC] at hx
  rcases hx with rfl | rfl | rfl <;> rfl
theorem reads_cells {b o c n : Nat} {l : List Itm} {w W : World} (h : ReadsL (.slice (some ⟨b, o, none⟩) n c) l w) (hB : Below w.heap.size w W) : ∀ j u, (itsC l)[j]? = some u → W.cell? ((⟨b, o, none⟩ : Addr).add j) = some u := by
  obtain ⟨a', c', hv, hc⟩ := h
  cases hv
  intro j u hj
  have hjl : j < l.length * 3 := by
    have := (List.getElem?_eq_some_iff.1 hj).1
    rw [itsC_len] at this; exact this
  obtain ⟨b', o', ha, hcc⟩ := hc j hjl
  cases ha
  rw [hj] at hcc
  rw [show (⟨b, o, none⟩ : Addr).add j = ⟨b, o + j, none⟩ by unfold Addr.add; split <;> simp_all]
  exact (hB.cell (p := ⟨b, o + j, none⟩) (World.block_lt_of_cell? w _ hcc)).trans hcc
theorem compl_bd {l : List Itm} (h : complV l = true) : textN l ≤ 128 := by
  rw [complV] at h
  simp only [Bool.and_eq_true, decide_eq_true_eq] at h
  obtain ⟨k1, k2, k3⟩ := check_ok h.1
  exact Nat.le_trans (textN_show l (chk_ok _ _ k2)) k3
set_option maxHeartbeats 4000000 in
theorem layoutMore_walk (v : Value) (l : List Itm) (w : World) (h : ReadsL v l w) (hm : HasMax w) (hl : l.length ≤ 140737488355328) (hs : ∀ x ∈ l, x.2.2.size ≤ 140737488355328) :
    Calls Tryd.prog 5 #[v] w fun e w' => e = .returned (.bool true) ∧ Below w.heap.size w w' := by
  have HM := Lib.hid hm
  have HR := Lib.hid h
  have CF := Lib.hid (few_any v l w h hl hs)
  obtain ⟨a, c, hv, hc⟩ := h
  cases hf : fewB l
  · rw [hf] at CF
    subst hv
    clear hc hm hl hs hf
    go_enter Tryd.func5, Tryd.ntmps5
    go_wp2_with fail
    refine CF.out.mono ?_
    rintro e w1 ⟨rfl, rfl⟩
    go_wp2_with fail
    refine (awake_any _ HM.out).mono ?_
    rintro e w2 ⟨rfl, hb2⟩
    go_wp2
    go_ret
    exact ⟨rfl, hb2⟩
  · obtain ⟨f1, f2⟩ := few_bd hf
    rw [hf] at CF
    have CC := Lib.hid (fun W h hm => complete_any v l W h hm f1 f2)
    cases hco : complV l
    · rw [hco] at CC
      subst hv
      clear hc hm hl hs hf f1 f2 hco
      go_enter Tryd.func5, Tryd.ntmps5
      go_wp2_with fail
      refine CF.out.mono ?_
      rintro e w1 ⟨rfl, rfl⟩
      go_wp2_with fail
      refine (CC.out _ HR.out HM.out).mono ?_
      rintro e w2 ⟨rfl, hB2⟩
      go_wp2_with fail
      refine (awake_any _ (HM.out.below hB2)).mono ?_
      rintro e w3 ⟨rfl, hb3⟩
      have hB3 := below_then hB2 hb3
      clear hb3 hB2
      go_wp2
      go_ret
      exact ⟨rfl, hB3⟩
    · rw [hco] at CC
      by_cases h32 : 32 ≤ l.length
      · subst hv
        have hd : decide ((l.length : Int) ≥ 32) = true := decide_eq_true (by omega)
        clear hc hm hl hs hf f2 hco
        go_enter Tryd.func5, Tryd.ntmps5
        go_wp2_with fail
        refine CF.out.mono ?_
        rintro e w1 ⟨rfl, rfl⟩
        go_wp2_with fail
        refine (CC.out _ HR.out HM.out).mono ?_
        rintro e w2 ⟨rfl, hB2⟩
        go_wp2_with fail
        refine (awake_any _ (HM.out.below hB2)).mono ?_
        rintro e w3 ⟨rfl, hb3⟩
        have hB3 := below_then hB2 hb3
        clear hb3 hB2
        go_wp2
        go_ret
        exact ⟨rfl, hB3⟩
      · have hpos : 0 < l.length := by
          rcases Nat.eq_zero_or_pos l.length with h0 | h0
          · rw [List.length_eq_zero_iff] at h0
            rw [h0, nil_not] at hco; cases hco
          · exact h0
        have hl32 : l.length ≤ 31 := by omega
        have HC := Lib.hid hc
        have HT := Lib.hid f2
        have HCO := Lib.hid hco
        obtain ⟨i0, hi0, hz0, hz1, hz2⟩ := info_parts infoItem
        subst hv
        clear hc hm hl hs hf f1 f2 hco h32
        go_enter Tryd.func5, Tryd.ntmps5
        go_wp2_with fail
        refine CF.out.mono ?_
        rintro e w1 ⟨rfl, rfl⟩
        go_wp2_with fail
        refine (CC.out _ HR.out HM.out).mono ?_
        rintro e w2 ⟨rfl, hB2⟩
        go_wp2_with fail
        go_loopw [3, 4] (fun s i wr => ∃ (k n cp : Nat) (ad : Option Addr), k ≤ l.length ∧ i = .int .i64 k ∧ s = .slice ad n cp ∧ Below w.heap.size w wr ∧ n ≤ k ∧ Hid (n = (lessL (l.take k)).length ∧ wr.ownsRow w.heap.size 32 3 (.slice ad n cp) n (itsC (lessL (l.take k))))) (fun _ i _ => l.length - (intOf i).toNat)
        case atStart => exact ⟨0, 0, 0, none, by omega, rfl, rfl, hB2, by omega, rfl, World.ownsRow_nil _ _ _ _⟩
        case round =>
          obtain ⟨k, n, cp, ad, hk, rfl, rfl, hB, hnk, HO⟩ := hrel
          by_cases hlt : k < l.length
          · obtain ⟨b, o, ha, c0, c1, c2⟩ := cells_at HC.out hB k hlt
            subst ha
            have hlt' := lessL_take l k hlt
            have hparts : itC l[k] = [.int .i64 l[k].1, .int .i64 l[k].2.1, .string l[k].2.2] := rfl
            obtain ⟨q, hq⟩ : ∃ q, q = l[k].1 := ⟨_, rfl⟩
            obtain ⟨m, hm⟩ : ∃ m, m = l[k].2.1 := ⟨_, rfl⟩
            obtain ⟨t, ht⟩ : ∃ t, t = l[k].2.2 := ⟨_, rfl⟩
            rw [← hq] at c0 hparts hlt'
            rw [← hm] at c1 hparts
            rw [← ht] at c2 hparts
            have HLT := Lib.hid hlt'
            have HP := Lib.hid hparts
            clear hlt' hparts hq hm ht
            have hBz := hB.size
            by_cases h1 : q = 1
            · have hN := Lib.hid (show lessL (l.take (k + 1)) = lessL (l.take k) by rw [HLT.out, if_neg (by simp [h1])])
              have b1 : (q != 1) = false := by rw [h1]; rfl
              clear h1
              go_wp2_with fail
              go_roundw
              case rel => exact ⟨k + 1, n, cp, ad, by omega, by go_num, rfl, hB, by omega, by rw [hN.out]; exact HO.out.1, by rw [hN.out]; exact HO.out.2⟩
              case measure => simp [intOf]; omega
            · have hN := Lib.hid (show lessL (l.take (k + 1)) = lessL (l.take k) ++ [l[k]] by rw [HLT.out, if_pos h1])
              have b1 : (q != 1) = true := by rw [bne_iff_ne]; exact h1
              have hown := HO.out.2
              obtain ⟨X, hX⟩ : ∃ X, X = itsC (lessL (l.take k)) := ⟨_, rfl⟩
              rw [← hX] at hown
              have HX := Lib.hid hX
              clear h1 hX
              go_wp2_with (first
                | (at_builtin; refine wpList_append_own_at _ rfl _ _ 22 rfl w.heap.size 32 i0 (.agg #[.int .i64 0, .int .i64 0, .string ⟨#[]⟩]) 3 32 Tryd.underlying22 hi0 hz0 hz1 hz2 rfl (by decide) _ _ _ rfl (hown.alloc _) ⟨wr.heap.size, 0, none⟩ 1 1 [.int .i64 q, .int .i64 m, .string t] rfl rfl (cell_three_new _ _ _ _ _) (by intro u hu; simp at hu; rcases hu with rfl | rfl | rfl <;> rfl) (by unfold maxLen; omega) (by omega) (by simp; omega) ?_; intro v' w4 hown1 hgrow hnil hloc; obtain ⟨g', cap', hv'⟩ := Go.Joins.ownsRow_form hown1 (by omega); subst hv'; have hBF := hB.trans (below_own hown ((World.grownBy_alloc wr _ _).trans hgrow) hB.size))
                | fail)
              have HF := Lib.hid (show n + 1 = (lessL (l.take (k + 1))).length ∧ w4.ownsRow w.heap.size 32 3 (.slice (some ⟨g', 0, none⟩) (n + 1) cap') (n + 1) (itsC (lessL (l.take (k + 1)))) by
                rw [hN.out]
                refine ⟨by rw [List.length_append, ← HO.out.1]; rfl, ?_⟩
                rw [itsC_append, ← HX.out, show itsC [l[k]] = itC l[k] by simp [itsC], HP.out]
                exact hown1)
              clear hown hown1 hgrow hnil hloc
              go_wp2_with fail
              go_roundw
              case rel => exact ⟨k + 1, n + 1, cap', _, by omega, by go_num, rfl, hBF, by omega, HF.out⟩
              case measure => simp [intOf]; omega
          · have hke : k = l.length := by omega
            have hO := HO.out
            rw [hke, List.take_length] at hO
            obtain ⟨hn, hown⟩ := hO
            have hlb := less_bd l
            have hT := HT.out
            have hnot := less_not l
            obtain ⟨S, hS⟩ : ∃ S, S = lessL l := ⟨_, rfl⟩
            rw [← hS] at hn hown hlb hnot
            have CL := Lib.hid (fun v W h hm => complete_any v S W h hm (by omega) (by omega))
            rw [hnot] at CL
            subst hn
            have HRS := Lib.hid (ReadsL.own hown)
            clear hlb hT hnot hown hS hke HO
            go_wp2_with fail
            refine (CL.out _ _ HRS.out (HM.out.below hB)).mono ?_
            rintro e w3 ⟨rfl, hb3⟩
            have hB3 := below_then hB hb3
            clear hb3 hB CL HRS
            obtain ⟨b, o, ha, c0, c1, c2⟩ := cells_at HC.out hB3 0 hpos
            subst ha
            rw [Nat.zero_mul, Nat.add_zero] at c0
            by_cases h0 : l[0].1 = 0
            · rw [h0] at c0
              have hd : decide ((l.length : Int) > 0) = true := decide_eq_true (by omega)
              have hne : ((l.length : Int) == 0) = false := by rw [beq_eq_false_iff_ne]; omega
              clear h0 c1 c2
              go_wp2_with fail
              refine (awake_any _ (HM.out.below hB3)).mono ?_
              rintro e w4 ⟨rfl, hb4⟩
              have hB4 := below_then hB3 hb4
              clear hb4 hB3
              go_wp2
              go_ret
              exact ⟨rfl, hB4⟩
            · have hmore := more_ok l HCO.out (by omega) (by
                intro x hx
                rw [List.head?_eq_getElem?, List.getElem?_eq_getElem hpos] at hx
                cases hx; exact h0)
              have hne : ((l.length : Int) == 0) = false := by rw [beq_eq_false_iff_ne]; omega
              obtain ⟨q, hq⟩ : ∃ q, q = l[0].1 := ⟨_, rfl⟩
              rw [← hq] at c0 h0
              have b0 : (q == 0) = false := by simpa using h0
              have hT := compl_bd HCO.out
              have hmt : textN (moreL l) = 1 + textN l := by simp [textN, moreL]; rfl
              have hml : (moreL l).length = l.length + 1 := rfl
              have CM := Lib.hid (fun v W h hm => complete_any v (moreL l) W h hm (by omega) (by omega))
              have CK := Lib.hid (fun v W h hm => check_any v (moreL l) W h hm (by omega) (by omega))
              have hown0 := World.ownsRow_lit (base := w.heap.size) (e := 32) (size := 3) w3 #[.int .i64 0, .int .i64 0, .string ⟨#[120]⟩] 1 hB3.size (by unfold maxLen; omega) rfl
              have hnews := reads_cells HR.out (hB3.trans ((below_one w3 (.cells #[.int .i64 0, .int .i64 0, .string ⟨#[120]⟩] 32)).mono hB3.size))
              have hxs : itsC [(0, 0, ⟨#[120]⟩)] ++ itsC l = itsC (moreL l) := by rw [← itsC_append]; rfl
              have HXS := Lib.hid hxs
              have hil := itsC_len l
              have hio := itsC_one l
              obtain ⟨X, hX⟩ : ∃ X, X = itsC l := ⟨_, rfl⟩
              rw [← hX] at hnews hil hio HXS
              have HNW := Lib.hid hnews
              have HIL := Lib.hid hil
              have HIO := Lib.hid hio
              have HMR := Lib.hid hmore
              have HML := Lib.hid hml
              obtain ⟨Mo, hMo⟩ : ∃ Mo, Mo = moreL l := ⟨_, rfl⟩
              rw [← hMo] at HXS HMR HML CM CK
              clear hnews hil hio hX hmore hml hmt hT hMo h0 hxs hq c1 c2
              go_wp2_with (first
                | (at_builtin; refine wpList_append_own_at _ rfl _ _ 22 rfl w.heap.size 32 i0 (.agg #[.int .i64 0, .int .i64 0, .string ⟨#[]⟩]) 3 32 Tryd.underlying22 hi0 hz0 hz1 hz2 rfl (by decide) _ _ _ rfl hown0 ⟨b, o, none⟩ l.length c X rfl HIL.out HNW.out HIO.out (by unfold maxLen; omega) (by omega) (by have := hB3.size; simp; omega) ?_; intro v' w4 hown1 hgrow hnil hloc; obtain ⟨g', cap', hv'⟩ := Go.Joins.ownsRow_form hown1 (by omega); subst hv')
                | fail)
              have hBF := below_grown (hB3.alloc hB3.size (.cells #[.int .i64 0, .int .i64 0, .string ⟨#[120]⟩] 32)) hgrow hB3.size
              have HRM := Lib.hid (ReadsL.own (w := w4) (B := w.heap.size) (v := .slice (some ⟨g', 0, none⟩) (1 + l.length) cap') (l := Mo) (by rw [HML.out, ← HXS.out, Nat.add_comm l.length 1]; exact hown1))
              clear hown1 hgrow hnil hloc hown0 hB3
              have CM1 := CM.out _ _ HRM.out (HM.out.below hBF)
              rcases HMR.out with ⟨m1, m2⟩ | ⟨m1, m2⟩
              · rw [m2] at CM1
                clear m1 m2
                go_wp2_with fail
                refine CM1.mono ?_
                rintro e w5 ⟨rfl, hb5⟩
                have hB5 := below_then hBF hb5
                clear hb5 hBF CM1
                go_wp2_with fail
                refine (awake_any _ (HM.out.below hB5)).mono ?_
                rintro e w6 ⟨rfl, hb6⟩
                have hB6 := below_then hB5 hb6
                clear hb6 hB5
                go_wp2
                go_ret
                exact ⟨rfl, hB6⟩
              · rw [m2] at CM1
                have CK1 := fun W (hb : Below w4.heap.size w4 W) => CK.out _ _ (HRM.out.kept hb) ((HM.out.below hBF).below hb)
                rw [m1] at CK1
                have CK2 := Lib.hid CK1
                clear m1 m2 CK1
                go_wp2_with fail
                refine CM1.mono ?_
                rintro e w5 ⟨rfl, hb5⟩
                have CK3 := CK2.out _ hb5
                have hB5 := below_then hBF hb5
                clear hb5 hBF CM1 CK2
                go_wp2_with fail
                refine CK3.mono ?_
                rintro e w6 ⟨rfl, hb6⟩
                have hB6 := below_then hB5 hb6
                clear hb6 hB5 CK3
                go_wp2_with fail
                refine (awake_any _ (HM.out.below hB6)).mono ?_
                rintro e w7 ⟨rfl, hb7⟩
                have hB7 := below_then hB6 hb7
                clear hb7 hB6
                go_wp2
                go_ret
                exact ⟨rfl, hB7⟩
end Go.Proofs.YtiopcifglfocpaaDoor.X
