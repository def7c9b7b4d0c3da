/- Chapter 23, walk: both Checks and Shows: what is wrong with items; their text. Conditions: the slice reads as items; their texts are short in all. -/
import Derived.Test.YtiopcifglfocpaaDoorW23p
namespace Go.Proofs.YtiopcifglfocpaaDoor.X
open Go.RowKit Go.Maps
set_option maxHeartbeats 4000000 in
theorem check_any (v : Value) (l : List Itm) (w : World) (h : ReadsL v l w) (hm : HasMax w) (hl : l.length ≤ 5000) (hs : textN l ≤ 5000) :
    Calls Tryd.prog 17 #[v] w fun e w' => e = .returned (.int .i64 (checkE l)) ∧ Below w.heap.size w w' := by
  have HRD := Lib.hid h
  obtain ⟨a, c, hv, hc⟩ := h
  by_cases h32 : 32 < l.length
  · have HV := Lib.hid (show checkE l = 1 by rw [checkE, if_pos h32])
    subst hv
    clear hc
    go_enter Tryd.func17, Tryd.ntmps17
    go_wp2
    go_ret
    exact ⟨by rw [HV.out]; rfl, Below.refl _ _⟩
  · have HC := Lib.hid hc
    have HM := Lib.hid hm
    have HT := Lib.hid hs
    have hl32 : l.length ≤ 32 := by omega
    have HH := Lib.hid (show checkE l = if chk (-1) l = false then 5 else if 128 < (showL l).length then 1 else 0 by rw [checkE, if_neg h32])
    obtain ⟨Z, hZ⟩ : ∃ Z : ByteArray, Z = ⟨(showL l).toArray⟩ := ⟨_, rfl⟩
    have HZ := Lib.hid (show Z.size = (showL l).length by rw [hZ, arr_size])
    have CS := Lib.hid (fun W h hm ho => show_any v l W h hm hl ho hs)
    rw [← hZ] at CS
    subst hv
    clear hc hm hs h32 hl hZ
    go_enter Tryd.func17, Tryd.ntmps17
    go_wp2_with fail
    go_loopw [3, 11] (fun ws i wr => ∃ k : Nat, k ≤ l.length ∧ i = .int .i64 k ∧ ws = .int .i64 (wasK l k) ∧ Below w.heap.size w wr ∧ Hid (chk (-1) l = chk (wasK l k) (l.drop k))) (fun _ i _ => l.length - (intOf i).toNat)
    case atStart => exact ⟨0, by omega, rfl, rfl, Below.refl _ _, rfl⟩
    case round =>
      obtain ⟨k, hk, rfl, rfl, hB, hK⟩ := hrel
      by_cases hlt : k < l.length
      · obtain ⟨b, o, ha, c0, c1, c2⟩ := cells_at HC.out hB k hlt
        subst ha
        have hd := chk_drop l k hlt
        rw [← hK.out] at hd
        have htm := textN_mem l l[k] (List.getElem_mem hlt)
        have hT := HT.out
        have hwas : wasK l (k + 1) = l[k].1 := by simp [wasK, hlt]
        obtain ⟨s, hs⟩ : ∃ s, s = wasK l k := ⟨_, rfl⟩
        rw [← hs] at hd ⊢
        obtain ⟨M, hM⟩ : ∃ M, M = okI l[k] := ⟨_, rfl⟩
        have hMM : M = mayB l[k].1 l[k].2.1 l[k].2.2.data.toList := hM
        rw [← hM] at hd
        obtain ⟨q, hq⟩ : ∃ q, q = l[k].1 := ⟨_, rfl⟩
        obtain ⟨n, hn⟩ : ∃ n, n = l[k].2.1 := ⟨_, rfl⟩
        obtain ⟨t, ht⟩ : ∃ t, t = l[k].2.2 := ⟨_, rfl⟩
        rw [← hq, ← hn, ← ht] at hMM
        rw [← hq] at c0 hd hwas
        rw [← hn] at c1
        rw [← ht] at c2 htm
        have CM := Lib.hid (fun W => may_any q n t W (by unfold maxLen; omega))
        rw [← hMM] at CM
        have HW := Lib.hid hwas
        have HD := Lib.hid hd
        clear hs hM hMM hq hn ht hd htm hT hwas
        have hB1 := hB.trans ((below_one wr (.cells #[.int .i64 q, .int .i64 n, .string t] 32)).mono hB.size)
        have HR1 := Lib.hid (Row3i.new wr q n t 32)
        go_wp2_with fail
        refine (CM.out _).mono ?_
        rintro e w2 ⟨rfl, hb2⟩
        have hB2 := hB1.trans (hb2.mono (by have := hB1.size; omega))
        obtain ⟨d0, d1, d2, _, _, _, _⟩ := HR1.out.below hb2
        clear hb2 CM HR1 c0 c1 c2
        cases M
        · have HV := Lib.hid (show checkE l = 5 by rw [HH.out, HD.out]; rfl)
          clear HD
          go_wp2
          go_ret
          exact ⟨by rw [HV.out]; rfl, hB2⟩
        · by_cases h0 : q = 0
          · by_cases hw : s = 0
            · have HV := Lib.hid (show checkE l = 5 by rw [HH.out, HD.out, h0, hw]; rfl)
              subst h0
              subst hw
              clear HD
              go_wp2
              go_ret
              exact ⟨by rw [HV.out]; rfl, hB2⟩
            · have HN := Lib.hid (show chk (-1) l = chk (wasK l (k + 1)) (l.drop (k + 1)) by rw [HD.out]; simp [hw])
              have HQ := Lib.hid (show (0 : Int) = wasK l (k + 1) by rw [HW.out, h0])
              subst h0
              have bw : (s == 0) = false := by simpa using hw
              clear HD hw
              go_wp2
              go_roundw
              case rel => exact ⟨k + 1, by omega, by go_num, by rw [← HQ.out], hB2, HN⟩
              case measure => simp [intOf]; omega
          · have HN := Lib.hid (show chk (-1) l = chk (wasK l (k + 1)) (l.drop (k + 1)) by rw [HD.out]; simp [h0])
            have b0 : (q == 0) = false := by simpa using h0
            clear HD h0
            go_wp2
            go_roundw
            case rel => exact ⟨k + 1, by omega, by go_num, by rw [HW.out], hB2, HN⟩
            case measure => simp [intOf]; omega
      · have hke : k = l.length := by omega
        have hck : chk (-1) l = true := by rw [hK.out, hke, List.drop_length]; rfl
        have CS2 := CS.out wr (HRD.out.kept hB) (HM.out.below hB) (chk_ok _ _ hck)
        have HV := Lib.hid (show checkE l = if 128 < Z.size then 1 else 0 by rw [HH.out, hck, HZ.out]; rfl)
        clear hke hck
        go_wp2_with fail
        refine CS2.mono ?_
        rintro e w2 ⟨rfl, hb2⟩
        have hB2 := hB.trans (hb2.mono hB.size)
        clear hb2 CS2
        by_cases hz : 128 < Z.size
        · have HVV := Lib.hid (show checkE l = 1 by rw [HV.out, if_pos hz])
          go_wp2
          go_ret
          exact ⟨by rw [HVV.out]; rfl, hB2⟩
        · have HVV := Lib.hid (show checkE l = 0 by rw [HV.out, if_neg hz])
          go_wp2
          go_ret
          exact ⟨by rw [HVV.out]; rfl, hB2⟩
end Go.Proofs.YtiopcifglfocpaaDoor.X
