/- Chapter 14's law WordsDays: at every input the law's function answers true and changes no memory that was there before. Condition: the library's variable MaxLen holds some integer. -/
import Derived.Test.YtddgfffempgghaaDoorW14s
namespace Go.Proofs.YtddgfffempgghaaDoor.X
open Go.RowKit
set_option maxHeartbeats 1000000 in
theorem wordsDays_walk (s : ByteArray) (w : World) (hm : HasMax w) (hs : s.size ≤ maxLen) :
    Calls Tryd.prog 7 #[.string s] w fun e w' => e = .returned (.bool true) ∧ Below w.heap.size w w' := by
  by_cases hr : s.size ≤ 2000
  · have hd := dlen s hr
    obtain ⟨x, y, z, e0, hxyz⟩ : ∃ x y z e0, dayV s.data.toList = (x, y, z, e0) := ⟨_, _, _, _, rfl⟩
    have C1 := Lib.hid (fun (W : World) (h : HasMax W) => day_any s W h hs)
    have C2 := Lib.hid (fun (W : World) => refDay_any s W hs)
    have C3 := Lib.hid (fun (W : World) => abbr_any s W hs)
    have C4 := Lib.hid (fun (W : World) => refAbbr_any s W hs)
    have C5 := Lib.hid (fun (W : World) => name_any s W hs)
    have C6 := Lib.hid (fun (W : World) => refName_any s W hs)
    rw [hxyz] at C1 C2
    have heq := fun W => eqDay 9998 W x y z x y z
    have e3 : (x == x && (y == y && z == z)) = true := by simp
    rw [e3] at heq
    clear hr hxyz e3
    go_enter Tryd.func7, Tryd.ntmps7
    go_wp2_with fail
    refine (small_any s w).mono ?_
    rintro e w0 ⟨rfl, rfl⟩
    rw [hd]
    clear hd hs
    go_wp2_with fail
    refine (C1.out w hm).mono ?_
    rintro e w1 ⟨rfl, hb1⟩
    have hm1 := (hm.below hb1).below (below_new w1 (.cells #[.int .i64 x, .int .i64 y, .int .i64 z] 35))
    have hB1 := below_next hb1 (below_new w1 (.cells #[.int .i64 x, .int .i64 y, .int .i64 z] 35))
    have hR := Row3.new w1 x y z 35
    clear hb1 hm
    go_wp2_with fail
    refine (C2.out _).mono ?_
    rintro e w2 ⟨rfl, hb2⟩
    have hm2 := (hm1.below hb2).below (below_new w2 (.cells #[.int .i64 x, .int .i64 y, .int .i64 z] 35))
    have hB2 := below_next (below_next hB1 hb2) (below_new w2 (.cells #[.int .i64 x, .int .i64 y, .int .i64 z] 35))
    have hR2 := (hR.below hb2).below (below_new w2 (.cells #[.int .i64 x, .int .i64 y, .int .i64 z] 35))
    have hS2 := Row3.new w2 x y z 35
    obtain ⟨r0, r1, r2, _⟩ := hR2
    obtain ⟨s0, s1, s2, _⟩ := hS2
    clear hB1 hb2 hm1 hR
    go_wp2_with fail
    refine (C3.out _).mono ?_
    rintro e w3 ⟨rfl, hb3⟩
    have hm3 := hm2.below hb3
    have hB3 := below_next hB2 hb3
    clear hb3 hm2 hB2 r0 r1 r2 s0 s1 s2
    go_wp2_with fail
    refine (C4.out _).mono ?_
    rintro e w4 ⟨rfl, rfl⟩
    go_wp2_with fail
    refine (C5.out _).mono ?_
    rintro e w5 ⟨rfl, hb5⟩
    have hm5 := hm3.below hb5
    have hB5 := below_next hB3 hb5
    clear hb5 hm3 hB3
    go_wp2_with fail
    refine (C6.out _).mono ?_
    rintro e w6 ⟨rfl, rfl⟩
    go_wp2_with fail
    refine (awake_any _ hm5).mono ?_
    rintro e w7 ⟨rfl, hb7⟩
    have hB7 := below_next hB5 hb7
    clear hb7
    go_wp2
    go_ret
    exact ⟨rfl, hB7⟩
  · have hd := dlen' s hr
    clear hr hs
    go_enter Tryd.func7, Tryd.ntmps7
    go_wp2_with fail
    refine (small_any s w).mono ?_
    rintro e w1 ⟨rfl, rfl⟩
    rw [hd]
    go_wp2_with fail
    refine (awake_any w hm).mono ?_
    rintro e w2 ⟨rfl, hB⟩
    go_wp2
    go_ret
    exact ⟨rfl, hB⟩
end Go.Proofs.YtddgfffempgghaaDoor.X
