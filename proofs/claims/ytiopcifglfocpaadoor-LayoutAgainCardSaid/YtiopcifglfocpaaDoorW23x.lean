/- Chapter 23, walks of the laws LayoutAgain, LayoutBack and LayoutShows. Conditions: a string as long as one may be; a slice that reads as items, as long as one may be; the library's variable MaxLen holds a number. -/
import Derived.Test.YtiopcifglfocpaaDoorP23e
namespace Go.Proofs.YtiopcifglfocpaaDoor.X
open Go.RowKit Go.Maps
theorem str_list (s : ByteArray) (l : List UInt8) (h : l = s.data.toList) : (⟨l.toArray⟩ : ByteArray) = s := by subst h; exact list_bytes s
set_option maxHeartbeats 1000000 in
theorem layoutAgain_walk (s : ByteArray) (w : World) (hm : HasMax w) (hs : s.size ≤ maxLen) :
    Calls Tryd.prog 8 #[.string s] w fun e w' => e = .returned (.bool true) ∧ Below w.heap.size w w' := by
  have HM := Lib.hid hm
  have CP := Lib.hid (fun W => (parse_any s W hs).mono fun _ _ h => par_of h)
  unfold ParR at CP
  by_cases h0 : parseE s.data.toList = 0
  · obtain ⟨k1, k2⟩ := read_ok _ h0
    obtain ⟨k3, k4, k5⟩ := check_ok k1
    rw [k2, len_list] at k5
    have htx := textN_show _ (chk_ok _ _ k4)
    rw [k2, len_list] at htx
    have hsv : showV (parseL s.data.toList) = s := by rw [showV, if_pos k1, k2, list_bytes]
    obtain ⟨L, hLL⟩ : ∃ L, L = parseL s.data.toList := ⟨_, rfl⟩
    rw [h0, ← hLL] at CP
    rw [← hLL] at k1 k3 htx hsv
    have CS := Lib.hid (fun v W h hm => showPV_any v L W h hm (by omega) (by omega))
    rw [k1, hsv] at CS
    have CK := Lib.hid (fun v W h hm => check_any v L W h hm (by omega) (by omega))
    rw [k1] at CK
    have CI := Lib.hid (fun v v' W h1 h2 => items_any v v' L L W h1 h2 (by unfold maxLen; omega) (by unfold maxLen; omega))
    rw [decide_eq_true (show L = L from rfl)] at CI
    clear hm hLL h0 k1 k2 k3 k4 htx hsv hs
    go_enter Tryd.func8, Tryd.ntmps8
    go_wp2_with fail
    refine (CP.out _).mono ?_
    rintro e w1 ⟨a, c, rfl, hr1, hB1⟩
    have HR1 := Lib.hid hr1
    clear hr1
    go_wp2_with fail
    refine (CS.out _ _ HR1.out (HM.out.below hB1)).mono ?_
    rintro e w2 ⟨rfl, hb2⟩
    have hB2 := below_then hB1 hb2
    have HR2 := Lib.hid (HR1.out.kept hb2)
    clear hb2 hB1 HR1
    go_wp2_with fail
    refine (CP.out _).mono ?_
    rintro e w3 ⟨a3, c3, rfl, hr3, hb3⟩
    have hB3 := below_then hB2 hb3
    have HR3 := Lib.hid (HR2.out.kept hb3)
    have HQ3 := Lib.hid hr3
    clear hb3 hB2 HR2 hr3
    go_wp2_with fail
    refine (CI.out _ _ _ HR3.out HQ3.out).mono ?_
    rintro e w4 ⟨rfl, hb4⟩
    have hB4 := below_then hB3 hb4
    have HR4 := Lib.hid (HR3.out.kept hb4)
    clear hb4 hB3 HR3
    go_wp2_with fail
    refine (CK.out _ _ HR4.out (HM.out.below hB4)).mono ?_
    rintro e w5 ⟨rfl, hb5⟩
    have hB5 := below_then hB4 hb5
    clear hb5 hB4
    go_wp2_with fail
    refine (awake_any _ (HM.out.below hB5)).mono ?_
    rintro e w6 ⟨rfl, hb6⟩
    have hB6 := below_then hB5 hb6
    clear hb6 hB5
    go_wp2
    go_ret
    exact ⟨rfl, hB6⟩
  · have hL := read_none _ h0
    obtain ⟨E, hE⟩ : ∃ E, E = parseE s.data.toList := ⟨_, rfl⟩
    rw [hL, ← hE] at CP
    rw [← hE] at h0
    have bE : (E != 0) = true := by rw [bne_iff_ne]; exact h0
    clear hm hL hE h0 hs
    go_enter Tryd.func8, Tryd.ntmps8
    go_wp2_with fail
    refine (CP.out _).mono ?_
    rintro e w1 ⟨a, c, rfl, _, hB1⟩
    rw [List.length_nil]
    go_wp2_with fail
    refine (awake_any _ (HM.out.below hB1)).mono ?_
    rintro e w2 ⟨rfl, hb2⟩
    have hB2 := below_then hB1 hb2
    clear hb2 hB1
    go_wp2
    go_ret
    exact ⟨rfl, hB2⟩
theorem few_bd {l : List Itm} (h : fewB l = true) : l.length ≤ 5000 ∧ textN l ≤ 5000 := by
  unfold fewB at h
  rw [decide_eq_true_eq] at h
  omega
set_option maxHeartbeats 1000000 in
theorem layoutBack_walk (v : Value) (l : List Itm) (w : World) (h : ReadsL v l w) (hm : HasMax w) (hl : l.length ≤ 140737488355328) (hs : ∀ x ∈ l, x.2.2.size ≤ 140737488355328) :
    Calls Tryd.prog 7 #[v] w fun e w' => e = .returned (.bool true) ∧ Below w.heap.size w w' := by
  have HM := Lib.hid hm
  have HR := Lib.hid h
  have CF := Lib.hid (few_any v l w h hl hs)
  cases hf : fewB l
  · rw [hf] at CF
    clear h hm hl hs hf
    go_enter Tryd.func7, Tryd.ntmps7
    go_wp2_with fail
    refine CF.out.mono ?_
    rintro e w1 ⟨rfl, rfl⟩
    go_wp2_with fail
    refine (awake_any _ HM.out).mono ?_
    rintro e w2 ⟨rfl, hb2⟩
    go_wp2
    go_ret
    exact ⟨rfl, hb2⟩
  · obtain ⟨f1, f2⟩ := few_bd hf
    rw [hf] at CF
    have CS := Lib.hid (fun W h hm => showPV_any v l W h hm f1 f2)
    by_cases h0 : checkE l = 0
    · obtain ⟨r1, r2⟩ := read_back l h0
      obtain ⟨k3, k4, k5⟩ := check_ok h0
      have hz : showV l = ⟨(showL l).toArray⟩ := by rw [showV, if_pos h0]
      obtain ⟨Z, hZ⟩ : ∃ Z, Z = showV l := ⟨_, rfl⟩
      have hZl : Z.data.toList = showL l := by rw [hZ, hz]
      have hZs : Z.size ≤ 128 := by rw [size_list Z _ hZl]; exact k5
      have CP := Lib.hid (fun W => (parse_any Z W (by unfold maxLen; omega)).mono fun _ _ h => par_of h)
      unfold ParR at CP
      rw [hZl, r1, r2] at CP
      rw [h0, ← hZ] at CS
      have CI := Lib.hid (fun v v' W h1 h2 => items_any v v' l l W h1 h2 (by unfold maxLen; omega) (by unfold maxLen; omega))
      rw [decide_eq_true (show l = l from rfl)] at CI
      clear h hm hl hs hf f1 f2 h0 r1 r2 k3 k4 k5 hz hZ hZl hZs
      go_enter Tryd.func7, Tryd.ntmps7
      go_wp2_with fail
      refine CF.out.mono ?_
      rintro e w1 ⟨rfl, rfl⟩
      go_wp2_with fail
      refine (CS.out _ HR.out HM.out).mono ?_
      rintro e w2 ⟨rfl, hB2⟩
      go_wp2_with fail
      refine (CP.out _).mono ?_
      rintro e w3 ⟨a3, c3, rfl, hr3, hb3⟩
      have hB3 := below_then hB2 hb3
      have HR3 := Lib.hid hr3
      clear hb3 hB2 hr3
      go_wp2_with fail
      refine (CI.out _ _ _ (HR.out.kept hB3) HR3.out).mono ?_
      rintro e w4 ⟨rfl, hb4⟩
      have hB4 := below_then hB3 hb4
      clear hb4 hB3
      go_wp2_with fail
      refine (awake_any _ (HM.out.below hB4)).mono ?_
      rintro e w6 ⟨rfl, hb6⟩
      have hB6 := below_then hB4 hb6
      clear hb6 hB4
      go_wp2
      go_ret
      exact ⟨rfl, hB6⟩
    · have hz : showV l = ⟨#[]⟩ := by rw [showV, if_neg h0]
      obtain ⟨E, hE⟩ : ∃ E, E = checkE l := ⟨_, rfl⟩
      rw [hz, ← hE] at CS
      rw [← hE] at h0
      have bE : (E != 0) = true := by rw [bne_iff_ne]; exact h0
      clear h hm hl hs hf f1 f2 h0 hz hE
      go_enter Tryd.func7, Tryd.ntmps7
      go_wp2_with fail
      refine CF.out.mono ?_
      rintro e w1 ⟨rfl, rfl⟩
      go_wp2_with fail
      refine (CS.out _ HR.out HM.out).mono ?_
      rintro e w2 ⟨rfl, hB2⟩
      go_wp2_with fail
      refine (awake_any _ (HM.out.below hB2)).mono ?_
      rintro e w6 ⟨rfl, hb6⟩
      have hB6 := below_then hB2 hb6
      clear hb6 hB2
      go_wp2
      go_ret
      exact ⟨rfl, hB6⟩
set_option maxHeartbeats 1000000 in
theorem layoutShows_walk (v : Value) (l : List Itm) (w : World) (h : ReadsL v l w) (hm : HasMax w) (hl : l.length ≤ 140737488355328) (hs : ∀ x ∈ l, x.2.2.size ≤ 140737488355328) :
    Calls Tryd.prog 6 #[v] w fun e w' => e = .returned (.bool true) ∧ Below w.heap.size w w' := by
  have HM := Lib.hid hm
  have HR := Lib.hid h
  have CF := Lib.hid (few_any v l w h hl hs)
  cases hf : fewB l
  · rw [hf] at CF
    clear h hm hl hs hf
    go_enter Tryd.func6, Tryd.ntmps6
    go_wp2_with fail
    refine CF.out.mono ?_
    rintro e w1 ⟨rfl, rfl⟩
    go_wp2_with fail
    refine (awake_any _ HM.out).mono ?_
    rintro e w2 ⟨rfl, hb2⟩
    go_wp2
    go_ret
    exact ⟨rfl, hb2⟩
  · obtain ⟨f1, f2⟩ := few_bd hf
    rw [hf] at CF
    have CS := Lib.hid (fun W h hm => showPV_any v l W h hm f1 f2)
    have CR := Lib.hid (fun W h => refShowPV_any v l W h f1 f2)
    have CK := Lib.hid (fun W h hm => check_any v l W h hm f1 f2)
    have CC := Lib.hid (fun W h hm => complete_any v l W h hm f1 f2)
    have CD := Lib.hid (fun W h => refComplete_any v l W h f1 f2)
    obtain ⟨Z, hZ⟩ : ∃ Z, Z = showV l := ⟨_, rfl⟩
    obtain ⟨E, hE⟩ : ∃ E, E = checkE l := ⟨_, rfl⟩
    obtain ⟨B, hB⟩ : ∃ B, B = complV l := ⟨_, rfl⟩
    rw [← hZ, ← hE] at CS CR
    rw [← hE] at CK
    rw [← hB] at CC CD
    clear h hm hl hs hf f1 f2 hZ hE hB
    go_enter Tryd.func6, Tryd.ntmps6
    go_wp2_with fail
    refine CF.out.mono ?_
    rintro e w1 ⟨rfl, rfl⟩
    go_wp2_with fail
    refine (CS.out _ HR.out HM.out).mono ?_
    rintro e w2 ⟨rfl, hB2⟩
    go_wp2_with fail
    refine (CR.out _ (HR.out.kept hB2)).mono ?_
    rintro e w3 ⟨rfl, hb3⟩
    have hB3 := below_then hB2 hb3
    clear hb3 hB2
    go_wp2_with fail
    refine (CK.out _ (HR.out.kept hB3) (HM.out.below hB3)).mono ?_
    rintro e w4 ⟨rfl, hb4⟩
    have hB4 := below_then hB3 hb4
    clear hb4 hB3
    go_wp2_with fail
    refine (CC.out _ (HR.out.kept hB4) (HM.out.below hB4)).mono ?_
    rintro e w5 ⟨rfl, hb5⟩
    have hB5 := below_then hB4 hb5
    clear hb5 hB4
    go_wp2_with fail
    refine (CD.out _ (HR.out.kept hB5)).mono ?_
    rintro e w6 ⟨rfl, hb6⟩
    have hB6 := below_then hB5 hb6
    clear hb6 hB5
    go_wp2_with fail
    refine (awake_any _ (HM.out.below hB6)).mono ?_
    rintro e w7 ⟨rfl, hb7⟩
    have hB7 := below_then hB6 hb7
    clear hb7 hB6
    go_wp2
    go_ret
    exact ⟨rfl, hB7⟩
end Go.Proofs.YtiopcifglfocpaaDoor.X
