/- Chapter 23, walk: the reference's Check; both Shows. Conditions: the slice reads as items; their texts are short in all. -/
import Derived.Test.YtiopcifglfocpaaDoorW23q
namespace Go.Proofs.YtiopcifglfocpaaDoor.X
open Go.RowKit Go.Maps
set_option maxHeartbeats 4000000 in
theorem refCheck_any (v : Value) (l : List Itm) (w : World) (h : ReadsL v l w) (hl : l.length ≤ 5000) (hs : textN l ≤ 5000) :
    Calls Tryd.prog 34 #[v] w fun e w' => e = .returned (.int .i64 (checkE l)) ∧ Below w.heap.size w w' := by
  have HRD := Lib.hid h
  obtain ⟨a, c, hv, hc⟩ := h
  by_cases h32 : 32 < l.length
  · have HV := Lib.hid (show checkE l = 1 by rw [checkE, if_pos h32])
    subst hv
    clear hc
    go_enter Tryd.func34, Tryd.ntmps34
    go_wp2
    go_ret
    exact ⟨by rw [HV.out]; rfl, Below.refl _ _⟩
  · have HC := Lib.hid hc
    have HT := Lib.hid hs
    have hl32 : l.length ≤ 32 := by omega
    have HH := Lib.hid (show checkE l = if chk (-1) l = false then 5 else if 128 < (showL l).length then 1 else 0 by rw [checkE, if_neg h32])
    obtain ⟨Z, hZ⟩ : ∃ Z : ByteArray, Z = ⟨(showL l).toArray⟩ := ⟨_, rfl⟩
    have HZ := Lib.hid (show Z.size = (showL l).length by rw [hZ, arr_size])
    have CS := Lib.hid (fun W h ho => refShow_any v l W h hl ho hs)
    rw [← hZ] at CS
    subst hv
    clear hc hs h32 hl hZ
    go_enter Tryd.func34, Tryd.ntmps34
    go_wp2_with fail
    go_loopw [3] (fun i wr => ∃ k : Nat, k ≤ l.length ∧ i = .int .i64 k ∧ Below w.heap.size w wr ∧ Hid (chk (-1) l = chk (wasK l k) (l.drop k))) (fun i _ => l.length - (intOf i).toNat)
    case atStart => exact ⟨0, by omega, rfl, Below.refl _ _, rfl⟩
    case round =>
      obtain ⟨k, hk, rfl, hB, hK⟩ := hrel
      by_cases hlt : k < l.length
      · obtain ⟨b, o, ha, c0, c1, c2⟩ := cells_at HC.out hB k hlt
        subst ha
        have hd := chk_drop l k hlt
        rw [← hK.out] at hd
        have htm := textN_mem l l[k] (List.getElem_mem hlt)
        have hT := HT.out
        obtain ⟨s, hs⟩ : ∃ s, s = wasK l k := ⟨_, rfl⟩
        rw [← hs] at hd
        obtain ⟨M, hM⟩ : ∃ M, M = okI l[k] := ⟨_, rfl⟩
        have hMM : mayE l[k].1 l[k].2.1 l[k].2.2.data.toList = if M = true then 0 else 5 := by rw [hM]; rfl
        rw [← hM] at hd
        obtain ⟨q, hq⟩ : ∃ q, q = l[k].1 := ⟨_, rfl⟩
        obtain ⟨n, hn⟩ : ∃ n, n = l[k].2.1 := ⟨_, rfl⟩
        obtain ⟨t, ht⟩ : ∃ t, t = l[k].2.2 := ⟨_, rfl⟩
        rw [← hq, ← hn, ← ht] at hMM
        rw [← hq] at c0 hd
        rw [← hn] at c1
        rw [← ht] at c2 htm
        have CM := Lib.hid (fun W => refMay_any q n t W (by unfold maxLen; omega))
        rw [hMM] at CM
        have HD := Lib.hid hd
        have HS := Lib.hid hs
        have HCK := Lib.hid (fun j W (hj : j < l.length) hB => cells_at (W := W) HC.out hB j hj)
        clear hs hM hMM hn ht hd htm hT
        have HQ := Lib.hid hq
        clear hq
        go_wp2_with fail
        refine (CM.out _).mono ?_
        rintro e w2 ⟨rfl, hb2⟩
        have hB2 := hB.trans (hb2.mono hB.size)
        have d0 := (hb2.cell (p := ⟨b, o + k * 3, none⟩) (World.block_lt_of_cell? _ _ c0)).trans c0
        clear hb2 CM c0 c1 c2
        cases M
        · have HV := Lib.hid (show checkE l = 5 by rw [HH.out, HD.out]; rfl)
          rw [show (if false = true then (0 : Int) else 5) = 5 from rfl]
          clear HD
          go_wp2
          go_ret
          exact ⟨by rw [HV.out]; rfl, hB2⟩
        · rw [show (if true = true then (0 : Int) else 5) = 0 from rfl]
          have hcase : k = 0 ∨ ∃ j, k = j + 1 := by
            cases k with
            | zero => exact .inl rfl
            | succ j => exact .inr ⟨j, rfl⟩
          rcases hcase with rfl | ⟨j, rfl⟩
          · have HLT := Lib.hid hlt
            have HN := Lib.hid (show chk (-1) l = chk (wasK l 1) (l.drop 1) by rw [HD.out, HS.out]; simp [wasK])
            clear HD
            go_wp2
            go_roundw
            case rel => exact ⟨1, HLT.out, by go_num, hB2, HN⟩
            case measure => have := HLT.out; simp [intOf]; omega
          · obtain ⟨b', o', ha', p0, p1, p2⟩ := cells_at HC.out hB2 j (by omega)
            cases ha'
            have hsj : s = (l[j]'(by omega)).1 := by rw [HS.out]; simp [wasK, show j < l.length by omega]
            rw [← hsj] at p0
            clear p1 p2 hsj
            by_cases h0 : q = 0
            · by_cases hw : s = 0
              · have HV := Lib.hid (show checkE l = 5 by rw [HH.out, HD.out, h0, hw]; rfl)
                subst h0
                subst hw
                clear HD
                go_wp2
                go_ret
                exact ⟨by rw [HV.out]; rfl, hB2⟩
              · have HN := Lib.hid (show chk (-1) l = chk (wasK l (j + 1 + 1)) (l.drop (j + 1 + 1)) by rw [HD.out]; simp [hw])
                subst h0
                have bw : (s == 0) = false := by simpa using hw
                clear HD hw
                go_wp2
                go_roundw
                case rel => exact ⟨j + 1 + 1, by omega, by go_num, hB2, HN⟩
                case measure => simp [intOf]; omega
            · have HN := Lib.hid (show chk (-1) l = chk (wasK l (j + 1 + 1)) (l.drop (j + 1 + 1)) by rw [HD.out]; simp [h0])
              have b0 : (q == 0) = false := by simpa using h0
              clear HD h0
              go_wp2
              go_roundw
              case rel => exact ⟨j + 1 + 1, by omega, by go_num, hB2, HN⟩
              case measure => simp [intOf]; omega
      · have hke : k = l.length := by omega
        have hck : chk (-1) l = true := by rw [hK.out, hke, List.drop_length]; rfl
        have hok := chk_ok _ _ hck
        have CS2 := CS.out wr (HRD.out.kept hB) hok
        have HV := Lib.hid (show checkE l = if 128 < Z.size then 1 else 0 by rw [HH.out, hck, HZ.out]; rfl)
        have HX := Lib.hid (show textN l ≤ Z.size by rw [HZ.out]; exact textN_show l hok)
        clear hke hck hok
        go_wp2_with fail
        go_loop [4, 5] (fun n i => ∃ k : Nat, ∃ m : Int, k ≤ l.length ∧ i = .int .i64 k ∧ n = .int .i64 m ∧ 0 ≤ m ∧ m ≤ 5000 ∧ Hid (m = (textN (l.take k) : Nat))) (fun _ i => l.length - (intOf i).toNat)
        case atStart => exact ⟨0, 0, by omega, rfl, rfl, by omega, by omega, rfl⟩
        case round =>
          obtain ⟨k, m, hk, rfl, rfl, m0, m1, hm⟩ := hrel
          by_cases hlt : k < l.length
          · obtain ⟨b, o, ha, c0, c1, c2⟩ := cells_at HC.out hB k hlt
            subst ha
            have h1 := textN_take l k hlt
            have h2 := textN_le l (k + 1)
            have h3 := hm.out
            have h4 := HT.out
            obtain ⟨z, hzz⟩ : ∃ z, z = l[k].2.2 := ⟨_, rfl⟩
            rw [← hzz] at c2 h1
            have HN := Lib.hid (show m + (z.size : Int) = (textN (l.take (k + 1)) : Nat) by omega)
            have hN5 : m + (z.size : Int) ≤ 5000 := by omega
            clear hzz h1 h2 h3 h4
            go_wp2
            go_round
            case rel => exact ⟨k + 1, m + z.size, by omega, by go_num, by go_num, by omega, hN5, HN⟩
            case measure => simp [intOf]; omega
          · have hmt := hm.out
            rw [List.take_of_length_le (by omega)] at hmt
            have hX := HX.out
            by_cases h128 : 128 < m
            · have HVV := Lib.hid (show checkE l = 1 by rw [HV.out, if_pos (by omega)])
              clear hmt hX
              go_wp2
              go_ret
              exact ⟨by rw [HVV.out]; rfl, hB⟩
            · clear hmt hX
              go_wp2_with fail
              refine CS2.mono ?_
              rintro e w2 ⟨rfl, hb2⟩
              have hB2 := hB.trans (hb2.mono hB.size)
              clear hb2 CS2
              by_cases hz : 128 < Z.size
              · have HVV := Lib.hid (show checkE l = 1 by rw [HV.out, if_pos hz])
                go_wp2
                go_ret
                exact ⟨by rw [HVV.out]; rfl, hB2⟩
              · have HVV := Lib.hid (show checkE l = 0 by rw [HV.out, if_neg hz])
                go_wp2
                go_ret
                exact ⟨by rw [HVV.out]; rfl, hB2⟩
def showV (l : List Itm) : ByteArray := if checkE l = 0 then ⟨(showL l).toArray⟩ else ⟨#[]⟩
theorem check_ok {l : List Itm} (h : checkE l = 0) : l.length ≤ 32 ∧ chk (-1) l = true ∧ (showL l).length ≤ 128 := by
  unfold checkE at h
  split at h
  · omega
  · split at h
    · omega
    · split at h
      · omega
      · exact ⟨by omega, by simpa using ‹¬ chk (-1) l = false›, by omega⟩
theorem showPV_any (v : Value) (l : List Itm) (w : World) (h : ReadsL v l w) (hm : HasMax w) (hl : l.length ≤ 5000) (hs : textN l ≤ 5000) :
    Calls Tryd.prog 18 #[v] w fun e w' => e = .returned (.tuple #[.string (showV l), .int .i64 (checkE l)]) ∧ Below w.heap.size w w' := by
  have CC := Lib.hid (check_any v l w h hm hl hs)
  by_cases h0 : checkE l = 0
  · have hok := chk_ok _ _ (check_ok h0).2.1
    have CS := Lib.hid (fun W hb => show_any v l W (h.kept hb) (hm.below hb) hl hok hs)
    have HV := Lib.hid (show showV l = ⟨(showL l).toArray⟩ by rw [showV, if_pos h0])
    rw [h0] at CC ⊢
    obtain ⟨Z, hZ⟩ : ∃ Z : ByteArray, Z = ⟨(showL l).toArray⟩ := ⟨_, rfl⟩
    rw [← hZ] at CS HV
    clear h hm hl hs h0 hok hZ
    go_enter Tryd.func18, Tryd.ntmps18
    go_wp2_with fail
    refine CC.out.mono ?_
    rintro e w1 ⟨rfl, hB1⟩
    have CS1 := Lib.hid (CS.out w1 hB1)
    go_wp2_with fail
    refine CS1.out.mono ?_
    rintro e w2 ⟨rfl, hb2⟩
    have hB2 := below_then hB1 hb2
    clear hb2 hB1
    go_wp2
    go_ret2
    exact ⟨by rw [HV.out]; rfl, hB2⟩
  · have HV := Lib.hid (show showV l = ⟨#[]⟩ by rw [showV, if_neg h0])
    obtain ⟨E, hE⟩ : ∃ E, E = checkE l := ⟨_, rfl⟩
    rw [← hE] at CC h0 ⊢
    have b0 : (E != 0) = true := by rw [bne_iff_ne]; exact h0
    clear h hm hl hs h0 hE
    go_enter Tryd.func18, Tryd.ntmps18
    go_wp2_with fail
    refine CC.out.mono ?_
    rintro e w1 ⟨rfl, hB1⟩
    go_wp2
    go_ret2
    exact ⟨by rw [HV.out]; rfl, hB1⟩
theorem refShowPV_any (v : Value) (l : List Itm) (w : World) (h : ReadsL v l w) (hl : l.length ≤ 5000) (hs : textN l ≤ 5000) :
    Calls Tryd.prog 19 #[v] w fun e w' => e = .returned (.tuple #[.string (showV l), .int .i64 (checkE l)]) ∧ Below w.heap.size w w' := by
  have CC := Lib.hid (refCheck_any v l w h hl hs)
  by_cases h0 : checkE l = 0
  · have hok := chk_ok _ _ (check_ok h0).2.1
    have CS := Lib.hid (fun W hb => refShow_any v l W (h.kept hb) hl hok hs)
    have HV := Lib.hid (show showV l = ⟨(showL l).toArray⟩ by rw [showV, if_pos h0])
    rw [h0] at CC ⊢
    obtain ⟨Z, hZ⟩ : ∃ Z : ByteArray, Z = ⟨(showL l).toArray⟩ := ⟨_, rfl⟩
    rw [← hZ] at CS HV
    clear h hl hs h0 hok hZ
    go_enter Tryd.func19, Tryd.ntmps19
    go_wp2_with fail
    refine CC.out.mono ?_
    rintro e w1 ⟨rfl, hB1⟩
    have CS1 := Lib.hid (CS.out w1 hB1)
    go_wp2_with fail
    refine CS1.out.mono ?_
    rintro e w2 ⟨rfl, hb2⟩
    have hB2 := below_then hB1 hb2
    clear hb2 hB1
    go_wp2
    go_ret2
    exact ⟨by rw [HV.out]; rfl, hB2⟩
  · have HV := Lib.hid (show showV l = ⟨#[]⟩ by rw [showV, if_neg h0])
    obtain ⟨E, hE⟩ : ∃ E, E = checkE l := ⟨_, rfl⟩
    rw [← hE] at CC h0 ⊢
    have b0 : (E != 0) = true := by rw [bne_iff_ne]; exact h0
    clear h hl hs h0 hE
    go_enter Tryd.func19, Tryd.ntmps19
    go_wp2_with fail
    refine CC.out.mono ?_
    rintro e w1 ⟨rfl, hB1⟩
    go_wp2
    go_ret2
    exact ⟨by rw [HV.out]; rfl, hB1⟩
end Go.Proofs.YtiopcifglfocpaaDoor.X
