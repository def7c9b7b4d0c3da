/- Chapter 14's examples: the walk through awake. -/
import Derived.Test.YtddgfffempgghaaDoorW14o
import Derived.Test.YtddgfffempgghaaDoorW14p
namespace Go.Proofs.YtddgfffempgghaaDoor.X
open Go.RowKit

/-- Three numbers in a row of their own. -/
def Row3 (B : Nat) (a b c : Int) (w : World) : Prop :=
  w.cell? ⟨B, 0, none⟩ = some (.int .i64 a) ∧ w.cell? ⟨B, 1, none⟩ = some (.int .i64 b) ∧ w.cell? ⟨B, 2, none⟩ = some (.int .i64 c) ∧ B < w.heap.size
theorem Row3.below {B : Nat} {a b c : Int} {w w1 : World} (h : Row3 B a b c w) (hb : Below w.heap.size w w1) : Row3 B a b c w1 :=
  ⟨(hb.cell (p := ⟨B, 0, none⟩) h.2.2.2).trans h.1, (hb.cell (p := ⟨B, 1, none⟩) h.2.2.2).trans h.2.1, (hb.cell (p := ⟨B, 2, none⟩) h.2.2.2).trans h.2.2.1, Nat.lt_of_lt_of_le h.2.2.2 hb.size⟩
theorem Row3.new (w : World) (a b c : Int) (T : TypeId) : Row3 w.heap.size a b c (w.alloc (.cells #[.int .i64 a, .int .i64 b, .int .i64 c] T)) :=
  ⟨by rw [World.cell?_alloc_mark]; rfl, by rw [World.cell?_alloc_mark]; rfl, by rw [World.cell?_alloc_mark]; rfl, by simp⟩
theorem below_new (w : World) (o : Obj) : Below w.heap.size w (w.alloc o) := (Below.refl _ _).alloc (Nat.le_refl _) _
theorem eqDay (d : Nat) (w : World) (x0 x1 x2 y0 y1 y2 : Int) :
    (Op.equalIn (d + 2) 35 (.agg #[.int .i64 x0, .int .i64 x1, .int .i64 x2]) (.agg #[.int .i64 y0, .int .i64 y1, .int .i64 y2])).run Tryd.prog w = .ok (x0 == y0 && (x1 == y1 && x2 == y2)) w := by
  unfold Op.equalIn
  simp [go_sem, part]
  by_cases h0 : x0 = y0
  · by_cases h1 : x1 = y1
    · by_cases h2 : x2 = y2
      · simp [h0, h1, h2]
      · simp [h0, h1, h2]
    · simp [h0, h1]
  · simp [h0]
set_option maxHeartbeats 1000000 in
theorem awake_any (w : World) (hm : HasMax w) :
    Calls Tryd.prog 10 #[] w fun e w' => e = .returned (.bool true) ∧ Below w.heap.size w w' := by
  have C1 := Lib.hid (fun (W : World) (h : HasMax W) => offset_any ⟨#[45, 48, 53, 58, 51, 48]⟩ W h (by decide))
  rw [show offV (⟨#[45, 48, 53, 58, 51, 48]⟩ : ByteArray).data.toList = (-19800, 0) from by decide] at C1
  have C2 := Lib.hid (fun (W : World) (h : HasMax W) => offset_any ⟨#[43, 49, 57, 58, 48, 48]⟩ W h (by decide))
  rw [show offV (⟨#[43, 49, 57, 58, 48, 48]⟩ : ByteArray).data.toList = (0, 8) from by decide] at C2
  have C3 := Lib.hid (fun (W : World) (h : HasMax W) => day_any ⟨#[115, 117, 110, 62, 61, 56]⟩ W h (by unfold maxLen; decide))
  rw [show dayV (⟨#[115, 117, 110, 62, 61, 56]⟩ : ByteArray).data.toList = (2, 8, 7, 0) from by decide] at C3
  have C4 := Lib.hid (fun (W : World) (h : HasMax W) => day_any ⟨#[108, 97, 115, 116, 45, 102, 114, 105]⟩ W h (by unfold maxLen; decide))
  rw [show dayV (⟨#[108, 97, 115, 116, 45, 102, 114, 105]⟩ : ByteArray).data.toList = (1, 0, 5, 0) from by decide] at C4
  have C5 := Lib.hid (fun (W : World) => moment_any ⟨#[50, 48, 50, 52, 45, 48, 50, 45, 51, 48, 84, 48, 48, 58, 48, 48, 58, 48, 48]⟩ W (by unfold maxLen; decide))
  rw [show momE (⟨#[50, 48, 50, 52, 45, 48, 50, 45, 51, 48, 84, 48, 48, 58, 48, 48, 58, 48, 48]⟩ : ByteArray).data.toList = 7 from by decide] at C5
  have C6 := Lib.hid (fun (W : World) => showOffset_any 3600 W)
  rw [show showOS 3600 = ⟨#[43, 48, 49, 58, 48, 48]⟩ from by decide, show showOE 3600 = 0 from by decide] at C6
  have heq := eqDay 9998
  go_enter Tryd.func10, Tryd.ntmps10
  go_wp2_with fail
  refine (C1.out w hm).mono ?_
  rintro e w1 ⟨rfl, hb1⟩
  have hm1 := hm.below hb1
  go_wp2_with fail
  refine (C2.out w1 hm1).mono ?_
  rintro e w2 ⟨rfl, hb2⟩
  have hm2 := hm1.below hb2
  have hB2 := below_next hb1 hb2
  clear hb1 hb2 hm1
  go_wp2_with fail
  refine (C3.out w2 hm2).mono ?_
  rintro e w3 ⟨rfl, hb3⟩
  have hm3 := (hm2.below hb3).below (below_new w3 (.cells #[.int .i64 2, .int .i64 8, .int .i64 7] 35))
  have hB3 := below_next (below_next hB2 hb3) (below_new w3 (.cells #[.int .i64 2, .int .i64 8, .int .i64 7] 35))
  have hR := Row3.new w3 2 8 7 35
  clear hB2 hb3 hm2
  go_wp2_with fail
  refine (C4.out _ hm3).mono ?_
  rintro e w4 ⟨rfl, hb4⟩
  have hB4 := below_next (below_next hB3 hb4) (below_new w4 (.cells #[.int .i64 1, .int .i64 0, .int .i64 5] 35))
  have hR4 := (hR.below hb4).below (below_new w4 (.cells #[.int .i64 1, .int .i64 0, .int .i64 5] 35))
  have hS := Row3.new w4 1 0 5 35
  clear hB3 hb4 hm3 hR
  go_wp2_with fail
  refine (C5.out _).mono ?_
  rintro e w5 ⟨rfl, hb5⟩
  have hB5 := below_next hB4 hb5
  have hR5 := hR4.below hb5
  have hS5 := hS.below hb5
  clear hB4 hb5 hR4 hS
  go_wp2_with fail
  refine (C6.out _).mono ?_
  rintro e w6 ⟨rfl, hb6⟩
  have hB6 := below_next hB5 hb6
  obtain ⟨r0, r1, r2, _⟩ := hR5.below hb6
  obtain ⟨s0, s1, s2, _⟩ := hS5.below hb6
  clear hB5 hb6 hR5 hS5
  go_wp2
  go_ret
  exact ⟨rfl, hB6⟩
end Go.Proofs.YtddgfffempgghaaDoor.X
