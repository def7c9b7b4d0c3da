/- Chapter 23, walks of the laws LayoutParses and LayoutWidths. Conditions: a string as long as one may be; the library's variable MaxLen holds a number. -/
import Derived.Test.YtiopcifglfocpaaDoorW23v
namespace Go.Proofs.YtiopcifglfocpaaDoor.X
open Go.RowKit Go.Maps
def ParR (s : List UInt8) (w : World) (e : Ending) (w' : World) : Prop :=
  ∃ a c, e = .returned (.tuple #[.slice a (parseL s).length c, .int .i64 (parseE s)]) ∧ ReadsL (.slice a (parseL s).length c) (parseL s) w' ∧ Below w.heap.size w w'
theorem par_of {s : List UInt8} {w : World} {e : Ending} {w' : World} (h : ParseIs s w e w') : ParR s w e w' := by
  obtain ⟨v, rfl, ho, hb⟩ := h
  have hr := ReadsL.own ho
  have hr' := hr
  obtain ⟨a, c, hv, _⟩ := hr'
  subst hv
  exact ⟨a, c, rfl, hr, hb⟩
theorem parseL_len (s : List UInt8) : (parseL s).length ≤ 32 := by
  unfold parseL
  repeat (first | omega | (simp only [List.length_nil]; omega) | split)
theorem layoutParses_walk (s : ByteArray) (w : World) (hm : HasMax w) (hs : s.size ≤ maxLen) :
    Calls Tryd.prog 3 #[.string s] w fun e w' => e = .returned (.bool true) ∧ Below w.heap.size w w' := by
  have HM := Lib.hid hm
  have CP := Lib.hid (fun W => (parse_any s W hs).mono fun _ _ h => par_of h)
  have CR := Lib.hid (fun W => (refParse_any s W hs).mono fun _ _ h => par_of h)
  unfold ParR at CP CR
  have hL := parseL_len s.data.toList
  have hEE := Lib.hid (fun h => show parseE s.data.toList = 1 by rw [parseE, if_pos (show 128 < s.data.toList.length by rw [len_list]; exact h)])
  obtain ⟨L, hLL⟩ : ∃ L, L = parseL s.data.toList := ⟨_, rfl⟩
  obtain ⟨E, hE⟩ : ∃ E, E = parseE s.data.toList := ⟨_, rfl⟩
  rw [← hLL, ← hE] at CP CR
  rw [← hLL] at hL
  rw [← hE] at hEE
  have CI := Lib.hid (fun v v' W h1 h2 => items_any v v' L L W h1 h2 (by unfold maxLen; omega) (by unfold maxLen; omega))
  rw [decide_eq_true (show L = L from rfl)] at CI
  unfold maxLen at hs
  clear hm hLL hE
  by_cases h5 : 5000 < s.size
  · obtain rfl := hEE.out (by omega)
    go_enter Tryd.func3, Tryd.ntmps3
    go_wp2_with fail
    refine (CP.out _).mono ?_
    rintro e w1 ⟨a, c, rfl, _, hb1⟩
    go_wp2_with fail
    refine (awake_any _ (HM.out.below hb1)).mono ?_
    rintro e w2 ⟨rfl, hb2⟩
    have hB2 := below_then hb1 hb2
    clear hb1 hb2
    go_wp2
    go_ret
    exact ⟨rfl, hB2⟩
  · go_enter Tryd.func3, Tryd.ntmps3
    go_wp2_with fail
    refine (CP.out _).mono ?_
    rintro e w1 ⟨a, c, rfl, hr1, hb1⟩
    have HR1 := Lib.hid hr1
    clear hr1
    go_wp2_with fail
    refine (CR.out _).mono ?_
    rintro e w2 ⟨a2, c2, rfl, hr2, hb2⟩
    have hB2 := below_then hb1 hb2
    have HR2 := Lib.hid hr2
    have HR1' := Lib.hid (HR1.out.kept hb2)
    clear hr2 hb2 hb1
    go_wp2_with fail
    refine (CI.out _ _ _ HR1'.out HR2.out).mono ?_
    rintro e w3 ⟨rfl, hb3⟩
    have hB3 := below_then hB2 hb3
    clear hb3 hB2
    go_wp2_with fail
    refine (awake_any _ (HM.out.below hB3)).mono ?_
    rintro e w4 ⟨rfl, hb4⟩
    have hB4 := below_then hB3 hb4
    clear hb4 hB3
    go_wp2
    go_ret
    exact ⟨rfl, hB4⟩
theorem layoutWidths_walk (k n : Int) (t : ByteArray) (w : World) (hm : HasMax w) (hs : t.size ≤ maxLen) :
    Calls Tryd.prog 4 #[.agg #[.int .i64 k, .int .i64 n, .string t]] w fun e w' => e = .returned (.bool true) ∧ Below w.heap.size w w' := by
  have HM := Lib.hid hm
  have CW := Lib.hid (fun W => width_any k n t W hs)
  have CR := Lib.hid (fun W => refWidth_any k n t W hs)
  unfold WidIs at CW CR
  obtain ⟨A, hA⟩ : ∃ A, A = (widV k n t.data.toList).1 := ⟨_, rfl⟩
  obtain ⟨B, hB⟩ : ∃ B, B = (widV k n t.data.toList).2 := ⟨_, rfl⟩
  rw [← hA, ← hB] at CW CR
  unfold maxLen at hs
  have hR := Lib.hid (Row3i.new w k n t 32)
  have hB0 := below_one w (.cells #[.int .i64 k, .int .i64 n, .string t] 32)
  clear hm hA hB
  by_cases h5 : 5000 < t.size
  · go_enter Tryd.func4, Tryd.ntmps4
    go_wp2_with fail
    refine (awake_any _ (HM.out.below hB0)).mono ?_
    rintro e w2 ⟨rfl, hb2⟩
    have hB2 := hB0.trans (hb2.mono (by simp))
    clear hb2 hB0
    go_wp2
    go_ret
    exact ⟨rfl, hB2⟩
  · go_enter Tryd.func4, Tryd.ntmps4
    go_wp2_with fail
    refine (CW.out _).mono ?_
    rintro e w1 ⟨rfl, hb1⟩
    have hB1 := hB0.trans (hb1.mono (by simp))
    obtain ⟨c0, c1, c2, _, _, _, _⟩ := hR.out.below hb1
    clear hb1 hB0
    go_wp2_with fail
    refine (CR.out _).mono ?_
    rintro e w2 ⟨rfl, hb2⟩
    have hB2 := below_then hB1 hb2
    clear hb2 hB1 c0 c1 c2
    go_wp2_with fail
    refine (awake_any _ (HM.out.below hB2)).mono ?_
    rintro e w4 ⟨rfl, hb4⟩
    have hB4 := below_then hB2 hb4
    clear hb4 hB2
    go_wp2
    go_ret
    exact ⟨rfl, hB4⟩
end Go.Proofs.YtiopcifglfocpaaDoor.X
