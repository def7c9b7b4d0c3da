/- Chapter 23, walk: the reference's Complete. Conditions: the slice reads as items; their texts are short in all. -/
import Derived.Test.YtiopcifglfocpaaDoorW23t
import Derived.StillTailTactics
import Derived.IntWalk
namespace Go.Proofs.YtiopcifglfocpaaDoor.X
open Go.RowKit Go.Maps
/-- A row of nineteen bools: which kinds were told. -/
def HasA (b : Nat) (l : List Itm) (w : World) : Prop :=
  b < w.heap.size ∧ ∀ j : Nat, j < 19 → w.cell? ⟨b, j, none⟩ = some (.bool (hasK l j)) ∧ w.frozen? ⟨b, j, none⟩ = false
theorem HasA.below {b : Nat} {l : List Itm} {w w' : World} (h : HasA b l w) (hb : Below w.heap.size w w') : HasA b l w' :=
  ⟨Nat.lt_of_lt_of_le h.1 hb.size, fun j hj => ⟨(hb.cell (p := ⟨b, j, none⟩) h.1).trans (h.2 j hj).1, (hb.frozen (p := ⟨b, j, none⟩) h.1).trans (h.2 j hj).2⟩⟩
theorem HasA.store {b : Nat} {l l' : List Itm} {w : World} (h : HasA b l w) (Q : Nat) (hQ : Q < 19) (hl : ∀ j : Nat, hasK l' j = (hasK l j || decide (Q = j))) : HasA b l' (w.setCell ⟨b, Q, none⟩ (.bool true)) := by
  refine ⟨by simp [World.setCell]; exact h.1, fun j hj => ⟨?_, by rw [World.frozen?_setCell]; exact (h.2 j hj).2⟩⟩
  by_cases e : j = Q
  · subst e
    rw [World.cell?_setCell_same _ _ _ (h.2 j hj).1, hl]
    simp
  · rw [World.cell?_setCell_other _ _ _ _ (by simp), (h.2 j hj).1, hl, decide_eq_false (fun h => e h.symm), Bool.or_false]
theorem HasA.new (w : World) : HasA w.heap.size [] (w.alloc (.cells #[.bool false, .bool false, .bool false, .bool false, .bool false, .bool false, .bool false, .bool false, .bool false, .bool false, .bool false, .bool false, .bool false, .bool false, .bool false, .bool false, .bool false, .bool false, .bool false] 57)) := by
  refine ⟨by simp, fun j hj => ⟨?_, frozen_of_row _ _ _ _ _ (Go.heap_alloc_new w _)⟩⟩
  rw [World.cell?_alloc_mark]
  have hc : j = 0 ∨ j = 1 ∨ j = 2 ∨ j = 3 ∨ j = 4 ∨ j = 5 ∨ j = 6 ∨ j = 7 ∨ j = 8 ∨ j = 9 ∨ j = 10 ∨ j = 11 ∨ j = 12 ∨ j = 13 ∨ j = 14 ∨ j = 15 ∨ j = 16 ∨ j = 17 ∨ j = 18 := by omega
  rcases hc with rfl | rfl | rfl | rfl | rfl | rfl | rfl | rfl | rfl | rfl | rfl | rfl | rfl | rfl | rfl | rfl | rfl | rfl | rfl <;> rfl
theorem hasK_told (l : List Itm) (k : Nat) (h : k < l.length) (ht : tells l[k] = true) (Q : Nat) (hQ : l[k].1 = Q) : ∀ j : Nat, hasK (l.take (k + 1)) j = (hasK (l.take k) j || decide (Q = j)) := by
  intro j
  rw [hasK_take l k h, ht, hQ, Bool.true_and]
  congr 1
  simp only [decide_eq_decide]; omega
theorem hasK_kept (l : List Itm) (k : Nat) (h : k < l.length) (ht : tells l[k] = false) (b : Nat) (w : World) (hA : HasA b (l.take k) w) : HasA b (l.take (k + 1)) w :=
  ⟨hA.1, fun j hj => ⟨by rw [(hA.2 j hj).1, hasK_take l k h, ht]; simp, (hA.2 j hj).2⟩⟩
theorem need_all (l : List Itm) (h : ∀ j : Nat, 1 ≤ j → j < 9 → hasK l j = true) : needK.all (hasK l) = true := by
  simp only [needK, List.all_cons, List.all_nil, Bool.and_true, Bool.and_eq_true]
  exact ⟨h 1 (by omega) (by omega), h 2 (by omega) (by omega), h 3 (by omega) (by omega), h 4 (by omega) (by omega), h 5 (by omega) (by omega), h 6 (by omega) (by omega), h 7 (by omega) (by omega), h 8 (by omega) (by omega)⟩
theorem need_not (l : List Itm) (k : Nat) (h1 : 1 ≤ k) (h9 : k < 9) (h : hasK l k = false) : needK.all (hasK l) = false := by
  rw [List.all_eq_false]
  refine ⟨k, ?_, by rw [h]; decide⟩
  have : k = 1 ∨ k = 2 ∨ k = 3 ∨ k = 4 ∨ k = 5 ∨ k = 6 ∨ k = 7 ∨ k = 8 := by omega
  rcases this with rfl | rfl | rfl | rfl | rfl | rfl | rfl | rfl <;> decide
set_option maxHeartbeats 8000000 in
theorem refComplete_any (v : Value) (l : List Itm) (w : World) (h : ReadsL v l w) (hl : l.length ≤ 5000) (hs : textN l ≤ 5000) :
    Calls Tryd.prog 20 #[v] w fun e w' => e = .returned (.bool (complV l)) ∧ Below w.heap.size w w' := by
  have CC := Lib.hid (refCheck_any v l w h hl hs)
  have HRD := Lib.hid h
  obtain ⟨a, c, hv, hc⟩ := h
  by_cases h0 : checkE l = 0
  · obtain ⟨hl32, hck, _⟩ := check_ok h0
    have hok := chk_ok _ _ hck
    have HOK := Lib.hid hok
    have HV := Lib.hid (show complV l = (endsAll l && needK.all (hasK l)) by rw [complV, decide_eq_true h0]; rfl)
    have HC := Lib.hid hc
    have HT := Lib.hid hs
    rw [h0] at CC
    subst hv
    clear hc hs h0 hl hck hok
    go_enter Tryd.func20, Tryd.ntmps20
    go_wp2_with fail
    refine CC.out.mono ?_
    rintro e w1 ⟨rfl, hB1⟩
    have HN0 := Lib.hid (HasA.new w1)
    go_wp2_with fail
    go_loopw [4] (fun i wr => ∃ k : Nat, k ≤ l.length ∧ i = .int .i64 k ∧ Hid (HasA w1.heap.size (l.take k) wr) ∧ Below w.heap.size w wr ∧ Hid (endsAll l = endsAll (l.drop k))) (fun i _ => l.length - (intOf i).toNat)
    case atStart => exact ⟨0, by omega, rfl, HN0.out, hB1.alloc (by have := hB1.size; omega) _, rfl⟩
    case round =>
      obtain ⟨k, hk, rfl, HA, hB, hE⟩ := hrel
      by_cases hlt : k < l.length
      · obtain ⟨b, o, ha, c0, c1, c2⟩ := cells_at HC.out hB k hlt
        subst ha
        have hed := endsAll_drop l k hlt
        rw [← hE.out] at hed
        have hkd := ok_kind _ (HOK.out l[k] (List.getElem_mem hlt))
        have htm := textN_mem l l[k] (List.getElem_mem hlt)
        have hTT := HT.out
        have htl : tells l[k] = (decide (l[k].1 ≠ 7) || decide (l[k].2.1 = 9)) := rfl
        have htold := hasK_told l k hlt
        have hkept := hasK_kept l k hlt
        obtain ⟨Q, hQ⟩ : ∃ Q : Nat, l[k].1 = Q := ⟨l[k].1.toNat, by omega⟩
        have CW := Lib.hid (fun W => refWidth_any l[k].1 l[k].2.1 l[k].2.2 W (by unfold maxLen; omega))
        unfold WidIs at CW
        obtain ⟨x, hx⟩ : ∃ x, x = l[k] := ⟨_, rfl⟩
        rw [← hx] at CW c0 c1 c2 hed htl htold hkept hkd hQ
        clear htm hTT
        obtain ⟨A, hA⟩ : ∃ A, A = (widV x.1 x.2.1 x.2.2.data.toList).1 := ⟨_, rfl⟩
        obtain ⟨B, hB'⟩ : ∃ B, B = (widV x.1 x.2.1 x.2.2.data.toList).2 := ⟨_, rfl⟩
        rw [← hA, ← hB'] at CW
        have HAB := Lib.hid (And.intro hA hB')
        have HX := Lib.hid hx
        clear hA hB' hx
        obtain ⟨q, n, t⟩ := x
        dsimp only at CW c0 c1 c2 htl htold hkept hkd hQ
        subst hQ
        have HED := Lib.hid hed
        have hQ18 : Q < 19 := by omega
        obtain ⟨a0, a1⟩ := HA.out.2 Q hQ18
        have hne := Lib.hid HA.out.1
        have HTL := Lib.hid htl
        have HTO := Lib.hid htold
        have HKE := Lib.hid hkept
        clear hed htl htold hkept hkd
        have hparts : (Q ≠ 7 ∧ tells ((Q : Int), n, t) = true) ∨ (Q = 7 ∧ n = 9 ∧ tells ((Q : Int), n, t) = true) ∨ (Q = 7 ∧ n ≠ 9 ∧ tells ((Q : Int), n, t) = false) := by
          rw [HTL.out]
          by_cases e7 : Q = 7
          · by_cases e9 : n = 9
            · exact .inr (.inl ⟨e7, e9, by rw [e9]; simp⟩)
            · exact .inr (.inr ⟨e7, e9, by rw [e7]; simp [e9]⟩)
          · exact .inl ⟨e7, by simp; omega⟩
        rcases hparts with ⟨e7, ht⟩ | ⟨e7, e9, ht⟩ | ⟨e7, e9, ht⟩
        · have b7 : ((Q : Int) != 7) = true := by rw [bne_iff_ne]; omega
          have HA3 := Lib.hid (HA.out.store Q hQ18 (HTO.out ht Q rfl))
          have hB3 := hB.setCell (show w.heap.size ≤ (⟨w1.heap.size, Q, none⟩ : Addr).block from hB1.size) (.bool true)
          obtain ⟨_, _, e1, d0, d1, d2⟩ := cells_at HC.out hB3 k hlt
          cases e1
          rw [← HX.out] at d0 d1 d2
          dsimp only at d0 d1 d2
          clear e7 ht HTO HKE HTL
          go_wp2_with fail
          refine (CW.out _).mono ?_
          rintro e w3 ⟨rfl, hb3⟩
          have hB4 := hB3.trans (hb3.mono hB3.size)
          have HA4 := Lib.hid (HA3.out.below hb3)
          obtain ⟨_, _, e1, f0, f1, f2⟩ := cells_at HC.out hB4 k hlt
          cases e1
          rw [← HX.out] at f0 f1 f2
          dsimp only at f0 f1 f2
          obtain ⟨hA, hB'⟩ := HAB.out
          clear HA3 hB3 hb3 CW hB HA a0 a1 c0 c1 c2 HX
          try clear d0 d1 d2
          by_cases hAB : A = B
          · have bAB : (A != B) = false := by rw [bne_eq_false_iff_eq]; exact hAB
            have HN := Lib.hid (show endsAll l = endsAll (l.drop (k + 1)) by
              rw [HED.out, endsV_same _ _ (by rw [← hA, ← hB']; exact hAB), Bool.true_and])
            clear hA hB' hAB HED HAB
            go_wp2_with fail
            go_quiet (fail)
            go_wp2
            go_roundw
            case rel => exact ⟨k + 1, by omega, by go_num, HA4.out, below_drewN' hB4 _, HN⟩
            case measure => simp [intOf]; omega
          · have bAB : (A != B) = true := by rw [bne_iff_ne]; exact hAB
            by_cases hlast : k + 1 = l.length
            · have HF := Lib.hid (show complV l = false by
                rw [HV.out, HED.out, hlast, List.drop_length, endsV_last _ (by rw [← hA, ← hB']; exact hAB)]; rfl)
              have bl : ((k : Int) + 1 == (l.length : Int)) = true := by rw [beq_iff_eq]; omega
              clear hA hB' hAB HED HAB hlast
              go_wp2_with fail
              go_quiet (fail)
              go_wp2
              go_ret
              exact ⟨by rw [HF.out]; rfl, below_drewN' hB4 _⟩
            · have hn1 : k + 1 < l.length := by omega
              have bl : ((k : Int) + 1 == (l.length : Int)) = false := by rw [beq_eq_false_iff_ne]; omega
              obtain ⟨_, _, e1, g0, g1, g2⟩ := cells_at HC.out hB4 (k + 1) hn1
              cases e1
              have hdr : l.drop (k + 1) = l[k + 1] :: l.drop (k + 2) := List.drop_eq_getElem_cons hn1
              have hoy := HOK.out l[k + 1] (List.getElem_mem hn1)
              obtain ⟨y, hy⟩ : ∃ y, y = l[k + 1] := ⟨_, rfl⟩
              rw [← hy] at g0 g1 g2 hdr hoy
              clear hy
              obtain ⟨z, yn, s⟩ := y
              dsimp only at g0 g1 g2
              by_cases hz : z = 0
              · have hpos : 0 < s.size := ok_cons (z, yn, s) hoy hz
                have hev : endsV ((Q : Int), n, t) (l.drop (k + 1)) = !holdsB (Q : Int) s[0] := by
                  rw [hdr, endsV_text _ (z, yn, s) _ (by rw [← hA, ← hB']; exact hAB) hz]; dsimp only; rw [head_at _ hpos]
                have bz : (z != 0) = false := by rw [hz]; rfl
                have CHo := Lib.hid (fun W => refHolds_any (Q : Int) n t s[0] W)
                have HEV := Lib.hid (show endsAll l = (!holdsB (Q : Int) s[0] && endsAll (l.drop (k + 1))) by rw [HED.out, hev])
                obtain ⟨G, hG⟩ : ∃ G, G = holdsB (Q : Int) s[0] := ⟨_, rfl⟩
                rw [← hG] at CHo HEV
                clear hA hB' hAB HED HAB hlast hdr hoy hz hev hG
                have hwr : IntKind.i64.wrap ((k : Int) + 1) = (k : Int) + 1 := IntWalk.i64_in _ (by omega)
                have hwn : ((k : Int) + 1).toNat = k + 1 := by omega
                have hwz : (0 : Int) ≤ (k : Int) + 1 := by omega
                have hwl : (k : Int) + 1 < (l.length : Int) := by omega
                have G0 : ({ heap := w3.heap, tape := w3.tape, drawn := w3.drawn + 1, os := w3.os, output := w3.output } : World).cell? ⟨b, o + (k + 1) * 3, none⟩ = _ := g0
                have G2 : ({ heap := w3.heap, tape := w3.tape, drawn := w3.drawn + 1, os := w3.os, output := w3.output } : World).cell? ⟨b, o + (k + 1) * 3 + 2, none⟩ = _ := g2
                have F0 : ({ heap := w3.heap, tape := w3.tape, drawn := w3.drawn + 1, os := w3.os, output := w3.output } : World).cell? ⟨b, o + k * 3, none⟩ = _ := f0
                have F1 : ({ heap := w3.heap, tape := w3.tape, drawn := w3.drawn + 1, os := w3.os, output := w3.output } : World).cell? ⟨b, o + k * 3 + 1, none⟩ = _ := f1
                have F2 : ({ heap := w3.heap, tape := w3.tape, drawn := w3.drawn + 1, os := w3.os, output := w3.output } : World).cell? ⟨b, o + k * 3 + 2, none⟩ = _ := f2
                go_wp2_with fail
                go_still_tail 30, (by kernel_rfl)
                clear hwr hwn hwz hwl G0 G2 F0 F1 F2 g0 g1 g2 f0 f1 f2
                change wpList _ _ _ _ _ w3.drew
                have hB5 : Below w.heap.size w w3.drew := ⟨hB4.os, hB4.tape, hB4.output, hB4.size, hB4.block⟩
                have hA5 : HasA w1.heap.size (l.take (k + 1)) w3.drew := HA4.out
                generalize w3.drew = w5 at hB5 hA5 ⊢
                have HA5 := Lib.hid hA5
                clear hA5 HA4 hB4
                go_wp2_with fail
                refine (CHo.out _).mono ?_
                rintro e w6 ⟨rfl, hb6⟩
                have hB6 := hB5.trans (hb6.mono hB5.size)
                have HA6 := Lib.hid (HA5.out.below hb6)
                clear hb6 CHo HA5 hB5
                cases G
                · have HN := Lib.hid (show endsAll l = endsAll (l.drop (k + 1)) by rw [HEV.out]; rfl)
                  clear HEV
                  go_wp2_with fail
                  go_roundw
                  case rel => exact ⟨k + 1, by omega, by go_num, HA6.out, hB6, HN⟩
                  case measure => simp [intOf]; omega
                · have HF := Lib.hid (show complV l = false by rw [HV.out, HEV.out]; rfl)
                  clear HEV
                  go_wp2_with fail
                  go_ret
                  exact ⟨by rw [HF.out]; rfl, hB6⟩
              · have HF := Lib.hid (show complV l = false by
                  rw [HV.out, HED.out, hdr, endsV_dir _ (z, yn, s) _ (by rw [← hA, ← hB']; exact hAB) hz]; rfl)
                have bz : (z != 0) = true := by rw [bne_iff_ne]; exact hz
                clear hA hB' hAB HED HAB hlast hdr hoy hz
                go_wp2_with fail
                go_quiet (fail)
                go_wp2
                go_ret
                exact ⟨by rw [HF.out]; rfl, below_drewN' hB4 _⟩
        · have b7 : ((Q : Int) != 7) = false := by rw [bne_eq_false_iff_eq]; omega
          have b9 : (n == 9) = true := by rw [beq_iff_eq]; exact e9
          have HA3 := Lib.hid (HA.out.store Q hQ18 (HTO.out ht Q rfl))
          have hB3 := hB.setCell (show w.heap.size ≤ (⟨w1.heap.size, Q, none⟩ : Addr).block from hB1.size) (.bool true)
          obtain ⟨_, _, e1, d0, d1, d2⟩ := cells_at HC.out hB3 k hlt
          cases e1
          rw [← HX.out] at d0 d1 d2
          dsimp only at d0 d1 d2
          clear e7 e9 ht HTO HKE HTL
          go_wp2_with fail
          refine (CW.out _).mono ?_
          rintro e w3 ⟨rfl, hb3⟩
          have hB4 := hB3.trans (hb3.mono hB3.size)
          have HA4 := Lib.hid (HA3.out.below hb3)
          obtain ⟨_, _, e1, f0, f1, f2⟩ := cells_at HC.out hB4 k hlt
          cases e1
          rw [← HX.out] at f0 f1 f2
          dsimp only at f0 f1 f2
          obtain ⟨hA, hB'⟩ := HAB.out
          clear HA3 hB3 hb3 CW hB HA a0 a1 c0 c1 c2 HX
          try clear d0 d1 d2
          by_cases hAB : A = B
          · have bAB : (A != B) = false := by rw [bne_eq_false_iff_eq]; exact hAB
            have HN := Lib.hid (show endsAll l = endsAll (l.drop (k + 1)) by
              rw [HED.out, endsV_same _ _ (by rw [← hA, ← hB']; exact hAB), Bool.true_and])
            clear hA hB' hAB HED HAB
            go_wp2_with fail
            go_quiet (fail)
            go_wp2
            go_roundw
            case rel => exact ⟨k + 1, by omega, by go_num, HA4.out, below_drewN' hB4 _, HN⟩
            case measure => simp [intOf]; omega
          · have bAB : (A != B) = true := by rw [bne_iff_ne]; exact hAB
            by_cases hlast : k + 1 = l.length
            · have HF := Lib.hid (show complV l = false by
                rw [HV.out, HED.out, hlast, List.drop_length, endsV_last _ (by rw [← hA, ← hB']; exact hAB)]; rfl)
              have bl : ((k : Int) + 1 == (l.length : Int)) = true := by rw [beq_iff_eq]; omega
              clear hA hB' hAB HED HAB hlast
              go_wp2_with fail
              go_quiet (fail)
              go_wp2
              go_ret
              exact ⟨by rw [HF.out]; rfl, below_drewN' hB4 _⟩
            · have hn1 : k + 1 < l.length := by omega
              have bl : ((k : Int) + 1 == (l.length : Int)) = false := by rw [beq_eq_false_iff_ne]; omega
              obtain ⟨_, _, e1, g0, g1, g2⟩ := cells_at HC.out hB4 (k + 1) hn1
              cases e1
              have hdr : l.drop (k + 1) = l[k + 1] :: l.drop (k + 2) := List.drop_eq_getElem_cons hn1
              have hoy := HOK.out l[k + 1] (List.getElem_mem hn1)
              obtain ⟨y, hy⟩ : ∃ y, y = l[k + 1] := ⟨_, rfl⟩
              rw [← hy] at g0 g1 g2 hdr hoy
              clear hy
              obtain ⟨z, yn, s⟩ := y
              dsimp only at g0 g1 g2
              by_cases hz : z = 0
              · have hpos : 0 < s.size := ok_cons (z, yn, s) hoy hz
                have hev : endsV ((Q : Int), n, t) (l.drop (k + 1)) = !holdsB (Q : Int) s[0] := by
                  rw [hdr, endsV_text _ (z, yn, s) _ (by rw [← hA, ← hB']; exact hAB) hz]; dsimp only; rw [head_at _ hpos]
                have bz : (z != 0) = false := by rw [hz]; rfl
                have CHo := Lib.hid (fun W => refHolds_any (Q : Int) n t s[0] W)
                have HEV := Lib.hid (show endsAll l = (!holdsB (Q : Int) s[0] && endsAll (l.drop (k + 1))) by rw [HED.out, hev])
                obtain ⟨G, hG⟩ : ∃ G, G = holdsB (Q : Int) s[0] := ⟨_, rfl⟩
                rw [← hG] at CHo HEV
                clear hA hB' hAB HED HAB hlast hdr hoy hz hev hG
                have hwr : IntKind.i64.wrap ((k : Int) + 1) = (k : Int) + 1 := IntWalk.i64_in _ (by omega)
                have hwn : ((k : Int) + 1).toNat = k + 1 := by omega
                have hwz : (0 : Int) ≤ (k : Int) + 1 := by omega
                have hwl : (k : Int) + 1 < (l.length : Int) := by omega
                have G0 : ({ heap := w3.heap, tape := w3.tape, drawn := w3.drawn + 1, os := w3.os, output := w3.output } : World).cell? ⟨b, o + (k + 1) * 3, none⟩ = _ := g0
                have G2 : ({ heap := w3.heap, tape := w3.tape, drawn := w3.drawn + 1, os := w3.os, output := w3.output } : World).cell? ⟨b, o + (k + 1) * 3 + 2, none⟩ = _ := g2
                have F0 : ({ heap := w3.heap, tape := w3.tape, drawn := w3.drawn + 1, os := w3.os, output := w3.output } : World).cell? ⟨b, o + k * 3, none⟩ = _ := f0
                have F1 : ({ heap := w3.heap, tape := w3.tape, drawn := w3.drawn + 1, os := w3.os, output := w3.output } : World).cell? ⟨b, o + k * 3 + 1, none⟩ = _ := f1
                have F2 : ({ heap := w3.heap, tape := w3.tape, drawn := w3.drawn + 1, os := w3.os, output := w3.output } : World).cell? ⟨b, o + k * 3 + 2, none⟩ = _ := f2
                go_wp2_with fail
                go_still_tail 30, (by kernel_rfl)
                clear hwr hwn hwz hwl G0 G2 F0 F1 F2 g0 g1 g2 f0 f1 f2
                change wpList _ _ _ _ _ w3.drew
                have hB5 : Below w.heap.size w w3.drew := ⟨hB4.os, hB4.tape, hB4.output, hB4.size, hB4.block⟩
                have hA5 : HasA w1.heap.size (l.take (k + 1)) w3.drew := HA4.out
                generalize w3.drew = w5 at hB5 hA5 ⊢
                have HA5 := Lib.hid hA5
                clear hA5 HA4 hB4
                go_wp2_with fail
                refine (CHo.out _).mono ?_
                rintro e w6 ⟨rfl, hb6⟩
                have hB6 := hB5.trans (hb6.mono hB5.size)
                have HA6 := Lib.hid (HA5.out.below hb6)
                clear hb6 CHo HA5 hB5
                cases G
                · have HN := Lib.hid (show endsAll l = endsAll (l.drop (k + 1)) by rw [HEV.out]; rfl)
                  clear HEV
                  go_wp2_with fail
                  go_roundw
                  case rel => exact ⟨k + 1, by omega, by go_num, HA6.out, hB6, HN⟩
                  case measure => simp [intOf]; omega
                · have HF := Lib.hid (show complV l = false by rw [HV.out, HEV.out]; rfl)
                  clear HEV
                  go_wp2_with fail
                  go_ret
                  exact ⟨by rw [HF.out]; rfl, hB6⟩
              · have HF := Lib.hid (show complV l = false by
                  rw [HV.out, HED.out, hdr, endsV_dir _ (z, yn, s) _ (by rw [← hA, ← hB']; exact hAB) hz]; rfl)
                have bz : (z != 0) = true := by rw [bne_iff_ne]; exact hz
                clear hA hB' hAB HED HAB hlast hdr hoy hz
                go_wp2_with fail
                go_quiet (fail)
                go_wp2
                go_ret
                exact ⟨by rw [HF.out]; rfl, below_drewN' hB4 _⟩
        · have b7 : ((Q : Int) != 7) = false := by rw [bne_eq_false_iff_eq]; omega
          have b9 : (n == 9) = false := by rw [beq_eq_false_iff_ne]; exact e9
          have HA3 := Lib.hid (HKE.out ht _ _ HA.out)
          have hB3 := hB
          clear e7 e9 ht HTO HKE HTL
          go_wp2_with fail
          refine (CW.out _).mono ?_
          rintro e w3 ⟨rfl, hb3⟩
          have hB4 := hB3.trans (hb3.mono hB3.size)
          have HA4 := Lib.hid (HA3.out.below hb3)
          obtain ⟨_, _, e1, f0, f1, f2⟩ := cells_at HC.out hB4 k hlt
          cases e1
          rw [← HX.out] at f0 f1 f2
          dsimp only at f0 f1 f2
          obtain ⟨hA, hB'⟩ := HAB.out
          clear HA3 hB3 hb3 CW hB HA a0 a1 c0 c1 c2 HX
          try clear d0 d1 d2
          by_cases hAB : A = B
          · have bAB : (A != B) = false := by rw [bne_eq_false_iff_eq]; exact hAB
            have HN := Lib.hid (show endsAll l = endsAll (l.drop (k + 1)) by
              rw [HED.out, endsV_same _ _ (by rw [← hA, ← hB']; exact hAB), Bool.true_and])
            clear hA hB' hAB HED HAB
            go_wp2_with fail
            go_quiet (fail)
            go_wp2
            go_roundw
            case rel => exact ⟨k + 1, by omega, by go_num, HA4.out, below_drewN' hB4 _, HN⟩
            case measure => simp [intOf]; omega
          · have bAB : (A != B) = true := by rw [bne_iff_ne]; exact hAB
            by_cases hlast : k + 1 = l.length
            · have HF := Lib.hid (show complV l = false by
                rw [HV.out, HED.out, hlast, List.drop_length, endsV_last _ (by rw [← hA, ← hB']; exact hAB)]; rfl)
              have bl : ((k : Int) + 1 == (l.length : Int)) = true := by rw [beq_iff_eq]; omega
              clear hA hB' hAB HED HAB hlast
              go_wp2_with fail
              go_quiet (fail)
              go_wp2
              go_ret
              exact ⟨by rw [HF.out]; rfl, below_drewN' hB4 _⟩
            · have hn1 : k + 1 < l.length := by omega
              have bl : ((k : Int) + 1 == (l.length : Int)) = false := by rw [beq_eq_false_iff_ne]; omega
              obtain ⟨_, _, e1, g0, g1, g2⟩ := cells_at HC.out hB4 (k + 1) hn1
              cases e1
              have hdr : l.drop (k + 1) = l[k + 1] :: l.drop (k + 2) := List.drop_eq_getElem_cons hn1
              have hoy := HOK.out l[k + 1] (List.getElem_mem hn1)
              obtain ⟨y, hy⟩ : ∃ y, y = l[k + 1] := ⟨_, rfl⟩
              rw [← hy] at g0 g1 g2 hdr hoy
              clear hy
              obtain ⟨z, yn, s⟩ := y
              dsimp only at g0 g1 g2
              by_cases hz : z = 0
              · have hpos : 0 < s.size := ok_cons (z, yn, s) hoy hz
                have hev : endsV ((Q : Int), n, t) (l.drop (k + 1)) = !holdsB (Q : Int) s[0] := by
                  rw [hdr, endsV_text _ (z, yn, s) _ (by rw [← hA, ← hB']; exact hAB) hz]; dsimp only; rw [head_at _ hpos]
                have bz : (z != 0) = false := by rw [hz]; rfl
                have CHo := Lib.hid (fun W => refHolds_any (Q : Int) n t s[0] W)
                have HEV := Lib.hid (show endsAll l = (!holdsB (Q : Int) s[0] && endsAll (l.drop (k + 1))) by rw [HED.out, hev])
                obtain ⟨G, hG⟩ : ∃ G, G = holdsB (Q : Int) s[0] := ⟨_, rfl⟩
                rw [← hG] at CHo HEV
                clear hA hB' hAB HED HAB hlast hdr hoy hz hev hG
                have hwr : IntKind.i64.wrap ((k : Int) + 1) = (k : Int) + 1 := IntWalk.i64_in _ (by omega)
                have hwn : ((k : Int) + 1).toNat = k + 1 := by omega
                have hwz : (0 : Int) ≤ (k : Int) + 1 := by omega
                have hwl : (k : Int) + 1 < (l.length : Int) := by omega
                have G0 : ({ heap := w3.heap, tape := w3.tape, drawn := w3.drawn + 1, os := w3.os, output := w3.output } : World).cell? ⟨b, o + (k + 1) * 3, none⟩ = _ := g0
                have G2 : ({ heap := w3.heap, tape := w3.tape, drawn := w3.drawn + 1, os := w3.os, output := w3.output } : World).cell? ⟨b, o + (k + 1) * 3 + 2, none⟩ = _ := g2
                have F0 : ({ heap := w3.heap, tape := w3.tape, drawn := w3.drawn + 1, os := w3.os, output := w3.output } : World).cell? ⟨b, o + k * 3, none⟩ = _ := f0
                have F1 : ({ heap := w3.heap, tape := w3.tape, drawn := w3.drawn + 1, os := w3.os, output := w3.output } : World).cell? ⟨b, o + k * 3 + 1, none⟩ = _ := f1
                have F2 : ({ heap := w3.heap, tape := w3.tape, drawn := w3.drawn + 1, os := w3.os, output := w3.output } : World).cell? ⟨b, o + k * 3 + 2, none⟩ = _ := f2
                go_wp2_with fail
                go_still_tail 30, (by kernel_rfl)
                clear hwr hwn hwz hwl G0 G2 F0 F1 F2 g0 g1 g2 f0 f1 f2
                change wpList _ _ _ _ _ w3.drew
                have hB5 : Below w.heap.size w w3.drew := ⟨hB4.os, hB4.tape, hB4.output, hB4.size, hB4.block⟩
                have hA5 : HasA w1.heap.size (l.take (k + 1)) w3.drew := HA4.out
                generalize w3.drew = w5 at hB5 hA5 ⊢
                have HA5 := Lib.hid hA5
                clear hA5 HA4 hB4
                go_wp2_with fail
                refine (CHo.out _).mono ?_
                rintro e w6 ⟨rfl, hb6⟩
                have hB6 := hB5.trans (hb6.mono hB5.size)
                have HA6 := Lib.hid (HA5.out.below hb6)
                clear hb6 CHo HA5 hB5
                cases G
                · have HN := Lib.hid (show endsAll l = endsAll (l.drop (k + 1)) by rw [HEV.out]; rfl)
                  clear HEV
                  go_wp2_with fail
                  go_roundw
                  case rel => exact ⟨k + 1, by omega, by go_num, HA6.out, hB6, HN⟩
                  case measure => simp [intOf]; omega
                · have HF := Lib.hid (show complV l = false by rw [HV.out, HEV.out]; rfl)
                  clear HEV
                  go_wp2_with fail
                  go_ret
                  exact ⟨by rw [HF.out]; rfl, hB6⟩
              · have HF := Lib.hid (show complV l = false by
                  rw [HV.out, HED.out, hdr, endsV_dir _ (z, yn, s) _ (by rw [← hA, ← hB']; exact hAB) hz]; rfl)
                have bz : (z != 0) = true := by rw [bne_iff_ne]; exact hz
                clear hA hB' hAB HED HAB hlast hdr hoy hz
                go_wp2_with fail
                go_quiet (fail)
                go_wp2
                go_ret
                exact ⟨by rw [HF.out]; rfl, below_drewN' hB4 _⟩
      · have hke : k = l.length := by omega
        have hcE : endsAll l = true := by rw [hE.out, hke, List.drop_length]; rfl
        have hA := HA.out
        rw [hke, List.take_length] at hA
        have HAA := Lib.hid hA
        have HVV := Lib.hid (show complV l = needK.all (hasK l) by rw [HV.out, hcE]; rfl)
        clear hke hcE hA HA HV
        go_wp2_with fail
        go_loop [7] (fun i => ∃ j : Nat, 1 ≤ j ∧ j ≤ 9 ∧ i = .int .i64 j ∧ Hid (∀ z : Nat, 1 ≤ z → z < j → hasK l z = true)) (fun i => 9 - (intOf i).toNat)
        case atStart => exact ⟨1, by omega, by omega, rfl, fun z h1 h2 => by omega⟩
        case round =>
          obtain ⟨j, j1, j9, rfl, hJ⟩ := hrel
          by_cases hj : j ≤ 8
          · obtain ⟨a0, a1⟩ := HAA.out.2 j (by omega)
            have hd : decide ((j : Int) ≤ 8) = true := decide_eq_true (by omega)
            obtain ⟨H, hH⟩ : ∃ H, H = hasK l j := ⟨_, rfl⟩
            rw [← hH] at a0
            cases H
            · have HVF := Lib.hid (show complV l = false by rw [HVV.out]; exact need_not l j j1 (by omega) hH.symm)
              clear hH
              go_wp2_with fail
              go_ret
              exact ⟨by rw [HVF.out]; rfl, hB⟩
            · have HN := Lib.hid (show ∀ z : Nat, 1 ≤ z → z < j + 1 → hasK l z = true by
                intro z h1 h2
                by_cases e : z = j
                · subst e; exact hH.symm
                · exact hJ.out z h1 (by omega))
              clear hH
              go_wp2_with fail
              go_round
              case rel => exact ⟨j + 1, by omega, by omega, by go_num, HN⟩
              case measure => simp [intOf]; omega
          · have hj9 : j = 9 := by omega
            have HVT := Lib.hid (show complV l = true by rw [HVV.out]; exact need_all l (fun z h1 h2 => hJ.out z h1 (by omega)))
            have hd : decide ((j : Int) ≤ 8) = false := decide_eq_false (by omega)
            clear hj9
            go_wp2_with fail
            go_ret
            exact ⟨by rw [HVT.out]; rfl, hB⟩
  · have HV := Lib.hid (show complV l = false by rw [complV, decide_eq_false h0]; rfl)
    obtain ⟨E, hE⟩ : ∃ E, E = checkE l := ⟨_, rfl⟩
    rw [← hE] at CC h0
    have b0 : (E != 0) = true := by rw [bne_iff_ne]; exact h0
    subst hv
    clear hc hl hs h0 hE
    go_enter Tryd.func20, Tryd.ntmps20
    go_wp2_with fail
    refine CC.out.mono ?_
    rintro e w1 ⟨rfl, hB1⟩
    go_wp2
    go_ret
    exact ⟨by rw [HV.out]; rfl, hB1⟩
end Go.Proofs.YtiopcifglfocpaaDoor.X
