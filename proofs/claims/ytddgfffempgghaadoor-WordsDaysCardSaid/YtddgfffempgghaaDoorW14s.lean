/- Chapter 14's laws WordsNumbers and WordsTimes: at every input the law's function answers true and changes no memory that was there before. Condition: the library's variable MaxLen holds some integer. -/
import Derived.Test.YtddgfffempgghaaDoorW14r
namespace Go.Proofs.YtddgfffempgghaaDoor.X
open Go.RowKit
theorem dlen (s : ByteArray) (h : s.size ≤ 2000) : decide ((s.size : Int) ≤ 2000) = true := by simp; omega
theorem dlen' (s : ByteArray) (h : ¬ s.size ≤ 2000) : decide ((s.size : Int) ≤ 2000) = false := by simp; omega
set_option maxHeartbeats 1000000 in
theorem wordsNumbers_walk (s : ByteArray) (low high : Int) (w : World) (hm : HasMax w) (hs : s.size ≤ maxLen) :
    Calls Tryd.prog 5 #[.string s, .int .i64 low, .int .i64 high] w fun e w' => e = .returned (.bool true) ∧ Below w.heap.size w w' := by
  by_cases hr : s.size ≤ 2000
  · have hd := dlen s hr
    have hlt : s.size < 4294967281 := by omega
    have C1 := Lib.hid (fun (W : World) => number_any s low high W hs)
    have C2 := Lib.hid (fun (W : World) => refNumber_any s low high W hs)
    have C3 := Lib.hid (fun (W : World) => year_any s W hs)
    have C4 := Lib.hid (fun (W : World) => refYear_any s W hs)
    clear hr
    go_enter Tryd.func5, Tryd.ntmps5
    go_wp2_with fail
    refine (small_any s w).mono ?_
    rintro e w0 ⟨rfl, rfl⟩
    rw [hd]
    clear hd hlt hs
    go_wp2_with fail
    refine ((C1.out w)).mono ?_
    rintro e w1 ⟨rfl, hb1⟩
    have hm1 := hm.below hb1
    have hB1 := hb1
    clear hb1
    go_wp2_with fail
    refine ((C2.out w1)).mono ?_
    rintro e w2 ⟨rfl, rfl⟩
    go_wp2_with fail
    refine ((C3.out w1)).mono ?_
    rintro e w3 ⟨rfl, hb3⟩
    have hm3 := hm1.below hb3
    have hB3 := below_next hB1 hb3
    clear hb3 hB1 hm1
    go_wp2_with fail
    refine ((C4.out w3)).mono ?_
    rintro e w4 ⟨rfl, rfl⟩
    go_wp2_with fail
    refine (awake_any w3 hm3).mono ?_
    rintro e w5 ⟨rfl, hb5⟩
    have hm5 := hm3.below hb5
    have hB5 := below_next hB3 hb5
    clear hb5 hB3 hm3
    go_wp2
    go_ret
    exact ⟨rfl, hB5⟩
  · have hd := dlen' s hr
    clear hr hs
    go_enter Tryd.func5, Tryd.ntmps5
    go_wp2_with fail
    refine (small_any s w).mono ?_
    rintro e w1 ⟨rfl, rfl⟩
    rw [hd]
    go_wp2_with fail
    refine (awake_any w hm).mono ?_
    rintro e w2 ⟨rfl, hB⟩
    go_wp2
    go_ret
    exact ⟨rfl, hB⟩
set_option maxHeartbeats 1000000 in
theorem wordsTimes_walk (s : ByteArray) (w : World) (hm : HasMax w) (hs : s.size ≤ maxLen) :
    Calls Tryd.prog 6 #[.string s] w fun e w' => e = .returned (.bool true) ∧ Below w.heap.size w w' := by
  by_cases hr : s.size ≤ 2000
  · have hd := dlen s hr
    have hlt : s.size < 4294967281 := by omega
    have C1 := Lib.hid (fun (W : World) (h : HasMax W) => offset_any s W h hlt)
    have C2 := Lib.hid (fun (W : World) => refOffset_any s W hs)
    have C3 := Lib.hid (fun (W : World) (h : HasMax W) => time_any s W h hlt)
    have C4 := Lib.hid (fun (W : World) => refTime_any s W hs)
    have C5 := Lib.hid (fun (W : World) => moment_any s W hs)
    have C6 := Lib.hid (fun (W : World) => refMoment_any s W hs)
    clear hr
    go_enter Tryd.func6, Tryd.ntmps6
    go_wp2_with fail
    refine (small_any s w).mono ?_
    rintro e w0 ⟨rfl, rfl⟩
    rw [hd]
    clear hd hlt hs
    go_wp2_with fail
    refine ((C1.out w hm)).mono ?_
    rintro e w1 ⟨rfl, hb1⟩
    have hm1 := hm.below hb1
    have hB1 := hb1
    clear hb1
    go_wp2_with fail
    refine ((C2.out w1)).mono ?_
    rintro e w2 ⟨rfl, rfl⟩
    go_wp2_with fail
    refine ((C3.out w1 hm1)).mono ?_
    rintro e w3 ⟨rfl, hb3⟩
    have hm3 := hm1.below hb3
    have hB3 := below_next hB1 hb3
    clear hb3 hB1 hm1
    go_wp2_with fail
    refine ((C4.out w3)).mono ?_
    rintro e w4 ⟨rfl, rfl⟩
    go_wp2_with fail
    refine ((C5.out w3)).mono ?_
    rintro e w5 ⟨rfl, hb5⟩
    have hm5 := hm3.below hb5
    have hB5 := below_next hB3 hb5
    clear hb5 hB3 hm3
    go_wp2_with fail
    refine ((C6.out w5)).mono ?_
    rintro e w6 ⟨rfl, hb6⟩
    have hm6 := hm5.below hb6
    have hB6 := below_next hB5 hb6
    clear hb6 hB5 hm5
    go_wp2_with fail
    refine (awake_any w6 hm6).mono ?_
    rintro e w7 ⟨rfl, hb7⟩
    have hm7 := hm6.below hb7
    have hB7 := below_next hB6 hb7
    clear hb7 hB6 hm6
    go_wp2
    go_ret
    exact ⟨rfl, hB7⟩
  · have hd := dlen' s hr
    clear hr hs
    go_enter Tryd.func6, Tryd.ntmps6
    go_wp2_with fail
    refine (small_any s w).mono ?_
    rintro e w1 ⟨rfl, rfl⟩
    rw [hd]
    go_wp2_with fail
    refine (awake_any w hm).mono ?_
    rintro e w2 ⟨rfl, hB⟩
    go_wp2
    go_ret
    exact ⟨rfl, hB⟩
end Go.Proofs.YtddgfffempgghaaDoor.X
