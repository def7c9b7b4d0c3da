/- Chapter 23, walk: layout.letter finds an item's letter by a range over the letters' map, whatever the order. Condition: an item's text as long as a string may be. -/
import Derived.Test.YtiopcifglfocpaaDoorW23j
namespace Go.Proofs.YtiopcifglfocpaaDoor.X
open Go.RowKit Go.Maps
/-- The letter of an item, 0: it has none. -/
def lettV (k n : Int) (t : List UInt8) : Int := if t = [] ∧ k ≠ 7 ∧ mayB k n [] = true ∧ 1 ≤ k then letC k n else 0
theorem keys_of (x : Int) (kl : Lit) (h : keyOf Tryd.prog 5 (.int .u8 x) = some kl) : kl = .int .u8 x ∧ 0 ≤ x ∧ x ≤ 255 := by
  obtain ⟨y, e, rfl, hw⟩ := Go.Maps.keyOf_int_inv Tryd.underlying5 h
  cases e
  refine ⟨rfl, ?_⟩
  simpa [Lit.wf, IntKind.min, IntKind.max, IntKind.signed, IntKind.bits] using hw
theorem let_back : ∀ c : Fin 256, itK c.val ≠ 0 → mayB (itK c.val) (itN c.val) [] = true ∧ itK c.val ≠ 7 ∧ 1 ≤ itK c.val ∧ letC (itK c.val) (itN c.val) = (c.val : Int) := by decide +kernel
theorem let_none : ∀ c : Fin 256, itK c.val = 0 → chkD (letD.atKey (.int .u8 (c.val : Int)) (itemD 99 0 [])) 99 0 = true := by decide +kernel
theorem let_forth : ∀ k : Fin 19, ∀ n : Fin 4, (k.val ≠ 7 ∧ mayB (k.val : Int) (n.val : Int) [] = true ∧ 1 ≤ k.val) → 0 ≤ letC (k.val : Int) (n.val : Int) ∧ letC (k.val : Int) (n.val : Int) ≤ 255 ∧ Maps.has letD (.int .u8 (letC (k.val : Int) (n.val : Int))) = true ∧ chkD (letD.atKey (.int .u8 (letC (k.val : Int) (n.val : Int))) (itemD 0 0 [])) (k.val : Int) (n.val : Int) = true := by decide +kernel
theorem may_bd (k n : Int) (h : k ≠ 7 ∧ mayB k n [] = true ∧ 1 ≤ k) : k ≤ 18 ∧ 0 ≤ n ∧ n ≤ 3 := by
  obtain ⟨h7, hm, h1⟩ := h
  unfold mayB at hm
  rw [if_neg (by omega), if_neg h7] at hm
  split at hm
  · rename_i h
    simp at hm
    omega
  · simp at hm
    omega
theorem lett_hit (x : Int) (h0 : 0 ≤ x) (h1 : x ≤ 255) (k n : Int) (t : List UInt8) (d : DataW Unit) (hat : ∀ zd, letD.atKey (.int .u8 x) zd = d) (hd : d = itemD k n t) : lettV k n t = x := by
  subst hd
  have hx : (((⟨x.toNat, by omega⟩ : Fin 256).val : Nat) : Int) = x := by show ((x.toNat : Nat) : Int) = x; omega
  have e1 := chkD_eq (let_has ⟨x.toNat, by omega⟩).2
  rw [hx, hat] at e1
  by_cases hk : itK x.toNat = 0
  · have e2 := chkD_eq (let_none ⟨x.toNat, by omega⟩ hk)
    rw [hx, hat, e1] at e2
    simp only [itemD, DataW.agg.injEq, List.cons.injEq, DataW.lit.injEq, Lit.int.injEq] at e2
    have := e2.1.2
    rw [hk] at this
    exact absurd this (by decide)
  · obtain ⟨b1, b2, b3, b4⟩ := let_back ⟨x.toNat, by omega⟩ hk
    simp only [itemD, DataW.agg.injEq, List.cons.injEq, DataW.lit.injEq, Lit.int.injEq, Lit.string.injEq, true_and, and_true] at e1
    obtain ⟨rfl, rfl, rfl⟩ := e1
    rw [lettV, if_pos ⟨rfl, b2, b1, b3⟩, b4, hx]
theorem lett_miss (k n : Int) (t : List UInt8) (h : ∀ x : Int, 0 ≤ x → x ≤ 255 → Maps.has letD (.int .u8 x) = true → letD.atKey (.int .u8 x) (itemD 0 0 []) ≠ itemD k n t) : lettV k n t = 0 := by
  rw [lettV]
  split
  · rename_i hc
    obtain ⟨rfl, h7, hm, h1⟩ := hc
    obtain ⟨b1, b2, b3⟩ := may_bd k n ⟨h7, hm, h1⟩
    have hk : (((⟨k.toNat, by omega⟩ : Fin 19).val : Nat) : Int) = k := by show ((k.toNat : Nat) : Int) = k; omega
    have hn : (((⟨n.toNat, by omega⟩ : Fin 4).val : Nat) : Int) = n := by show ((n.toNat : Nat) : Int) = n; omega
    have hf := let_forth ⟨k.toNat, by omega⟩ ⟨n.toNat, by omega⟩ ⟨by show k.toNat ≠ 7; omega, by rw [hk, hn]; exact hm, by show 1 ≤ k.toNat; omega⟩
    rw [hk, hn] at hf
    exact absurd (chkD_eq hf.2.2.2) (h _ hf.1 hf.2.1 hf.2.2.1)
  · rfl
set_option maxHeartbeats 2000000 in
theorem letter_any (k n : Int) (t : ByteArray) (w : World) :
    Calls Tryd.prog 42 #[.agg #[.int .i64 k, .int .i64 n, .string t]] w fun e w' => e = .returned (.int .u8 (lettV k n t.data.toList)) ∧ Below w.heap.size w w' := by
  go_enter Tryd.func42, Tryd.ntmps42
  go_wp2_with fail
  refine (letters_any _).mono ?_
  rintro e w1 ⟨rfl, hm1, hb1⟩
  have hB1 := (below_one w (.cells #[.int .i64 k, .int .i64 n, .string t] 32)).trans (hb1.mono (by simp))
  have hR := (Row3i.new w k n t 32).below hb1
  rw [show (w.alloc (.cells #[.int .i64 k, .int .i64 n, .string t] 32)).heap.size = w.heap.size + 1 by simp] at hm1
  clear hb1
  go_wp2_with (first | (at_range; refine wpList_range_own _ rfl _ 42 rfl 5 32 law8 Tryd.underlying42 itemR (w.heap.size + 1) 30 letD rfl hm1 ?_; intro w0 hrg0 hg0 hs0) | fail)
  go_frame
  have hB0 : Below w.heap.size w w0 := hB1.trans ⟨hg0.os, hg0.tape, hg0.output, hg0.size, fun j hj => hg0.block j (by have := hB1.size; omega) (by simp)⟩
  have hR0 := hR.below (w1 := w0) ⟨hg0.os, hg0.tape, hg0.output, hg0.size, fun j hj => hg0.block j hj (by simp)⟩
  go_loopw [3] (fun _ wr => ∃ left cnt, wr.ranges Tryd.prog 5 itemR (w.heap.size + 1) w1.heap.size 30 letD left cnt ∧ Below w.heap.size w wr ∧ Hid (Row3i w.heap.size k n t wr) ∧ Hid (∀ x : Int, 0 ≤ x → x ≤ 255 → Maps.has letD (.int .u8 x) = true → left (.int .u8 x) = false → letD.atKey (.int .u8 x) (itemD 0 0 []) ≠ itemD k n t.data.toList)) (fun _ wr => wr.rangeLeft (w.heap.size + 1) w1.heap.size)
  case atStart => exact ⟨_, _, hrg0, hB0, hR0, fun x _ _ h1 h2 => by rw [h1] at h2; cases h2⟩
  case round =>
    obtain ⟨left, cnt, hrg, hB, hRw, hI⟩ := hrel
    go_wp2_with (first | (at_next; refine wpList_next_ranges _ rfl _ rfl 5 law8 itemR (Value.int .u8) (fun p : Itm => itemV p.1 p.2.1 p.2.2) (fun key kl h => by obtain ⟨x, rfl, _⟩ := Go.Maps.keyOf_int_inv Tryd.underlying5 h; exact ⟨x, rfl⟩) (fun v y h => by obtain ⟨k, n, t, rfl, _⟩ := itemR_inv h; exact ⟨(k, n, t), rfl⟩) (w.heap.size + 1) w1.heap.size 30 letD left cnt rfl hrg ?_ ?_) | fail)
    · intro hc0 hl0
      have HV := Lib.hid (lett_miss k n t.data.toList (fun x h0 h1 hh => hI.out x h0 h1 hh (hl0 _)))
      clear hl0
      go_wp2
      go_ret
      exact ⟨by rw [HV.out]; rfl, hB⟩
    · intro x q1 q2 q3 kl d ps w2 cnt2 hkey hlk hv hat hrg2 hlt2 hg2 hs2 hen
      obtain ⟨rfl, x0, x1⟩ := keys_of x kl hkey
      have hvd := Option.some.inj ((itemR_mk q1 q2 q3).symm.trans hv)
      obtain rfl : itemD q1 q2 q3.data.toList = d := congrArg Prod.fst hvd
      have hB2 := below_grown hB hg2 (by have := hB1.size; omega)
      have hRw2 : Row3i w.heap.size k n t w2 := by
        obtain ⟨h0, h1, h2, f0, f1, f2, hz⟩ := hRw.out
        have hbk := hg2.block w.heap.size hz (by have := hm1.lt; intro e; have := Option.some.inj e; omega)
        exact ⟨(World.cell?_of_block (a := ⟨w.heap.size, 0, none⟩) hbk).trans h0, (World.cell?_of_block (a := ⟨w.heap.size, 1, none⟩) hbk).trans h1, (World.cell?_of_block (a := ⟨w.heap.size, 2, none⟩) hbk).trans h2, (World.frozen?_of_block (a := ⟨w.heap.size, 0, none⟩) hbk).trans f0, (World.frozen?_of_block (a := ⟨w.heap.size, 1, none⟩) hbk).trans f1, (World.frozen?_of_block (a := ⟨w.heap.size, 2, none⟩) hbk).trans f2, by omega⟩
      simp only [itemV] at hen
      have heq := fun W => eqItem 9998 W q1 q2 k n q3 t
      have HS := Lib.hid (sameI_iff (q1, q2, q3) (k, n, t))
      rw [show (q1 == k && (q2 == n && (q3.toList == t.toList))) = sameI (q1, q2, q3) (k, n, t) from rfl] at heq
      have HRW := Lib.hid (hRw2.below (below_one w2 (.cells #[.int .i64 q1, .int .i64 q2, .string q3] 32)))
      have hrr := hRw2.below (below_one w2 (.cells #[.int .i64 q1, .int .i64 q2, .string q3] 32))
      obtain ⟨r0, r1, r2, _⟩ := hrr
      have hB3 := hB2.alloc (by have := hB2.size; omega) (.cells #[.int .i64 q1, .int .i64 q2, .string q3] 32)
      cases hs : sameI (q1, q2, q3) (k, n, t)
      · rw [hs] at heq
        have HJ := Lib.hid (show ∀ z : Int, 0 ≤ z → z ≤ 255 → Maps.has letD (.int .u8 z) = true → (left (.int .u8 z) && !(Lit.int .u8 z).sameKey (.int .u8 x)) = false → letD.atKey (.int .u8 z) (itemD 0 0 []) ≠ itemD k n t.data.toList by
          intro z z0 z1 hh hl
          rw [Bool.and_eq_false_iff] at hl
          rcases hl with hl | hl
          · exact hI.out z z0 z1 hh hl
          · have hz : z = x := by
              simpa [Lit.sameKey] using hl
            subst hz
            rw [hat]
            intro e
            have : sameI (q1, q2, q3) (k, n, t) = true := by
              simp only [itemD, DataW.agg.injEq, List.cons.injEq, DataW.lit.injEq, Lit.int.injEq, Lit.string.injEq, true_and, and_true] at e
              obtain ⟨rfl, rfl, e⟩ := e
              exact HS.out.2 (by rw [show q3 = t from ByteArray.ext (Array.toList_inj.1 e)])
            rw [hs] at this; cases this)
        have hrg3 := hrg2.kept (World.grownBy_alloc w2 (.cells #[.int .i64 q1, .int .i64 q2, .string q3] 32) none) (by simp) (by simp)
        clear hs
        go_wp2
        go_roundw
        case rel => exact ⟨_, cnt2, hrg3, hB3, HRW.out, HJ.out⟩
        case measure =>
          rw [hrg3.left_eq, hrg.left_eq]
          omega
      · rw [hs] at heq
        have HE := Lib.hid (show itemD q1 q2 q3.data.toList = itemD k n t.data.toList by
          have := HS.out.1 hs
          cases this; rfl)
        have HV := Lib.hid (lett_hit x x0 x1 k n t.data.toList _ hat HE.out)
        clear hs
        go_wp2
        go_ret
        exact ⟨by rw [HV.out]; rfl, hB3⟩
end Go.Proofs.YtiopcifglfocpaaDoor.X
