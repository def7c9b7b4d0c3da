/- Chapter 23, walk: layout.letters lays a map of its own that reads as one given datum: each letter's item. No condition. -/
import Derived.Test.YtiopcifglfocpaaDoorW23a
import Derived.Lib.SmallJoins
import Derived.Maps.OwnOps
import Derived.Maps.OwnSet
import Derived.Maps.RangeWalk
namespace Go.Proofs.YtiopcifglfocpaaDoor.X
open Go.RowKit Go.Maps
/-- An item as a value, and as a map's element reads. -/
def itemV (k n : Int) (t : ByteArray) : Value := .agg #[.int .i64 k, .int .i64 n, .string t]
def itemD (k n : Int) (t : List UInt8) : DataW Unit := .agg [.lit (.int .i64 k), .lit (.int .i64 n), .lit (.string t)]
def itemR : Value → Option (DataW Unit × List MemPlace)
  | .agg a => match a.toList with
    | [.int .i64 k, .int .i64 n, .string t] => some (itemD k n t.data.toList, [])
    | _ => none
  | _ => none
theorem itemR_mk (k n : Int) (t : ByteArray) : itemR (itemV k n t) = some (itemD k n t.data.toList, []) := rfl
theorem itemR_inv {v : Value} {z : DataW Unit × List MemPlace} (h : itemR v = some z) : ∃ k n t, v = itemV k n t ∧ z = (itemD k n t.data.toList, []) := by
  unfold itemR at h
  split at h
  · rename_i a
    split at h
    · rename_i k n t e
      refine ⟨k, n, t, ?_, (Option.some.inj h).symm⟩
      have : a = #[.int .i64 k, .int .i64 n, .string t] := by rw [← Array.toArray_toList (xs := a), e]
      rw [this]; rfl
    · cases h
  · cases h
theorem itemR_eq {v : Value} {k n : Int} {t : ByteArray} {ps : List MemPlace} (h : itemR v = some (itemD k n t.data.toList, ps)) : v = itemV k n t := by
  obtain ⟨k', n', t', rfl, e⟩ := itemR_inv h
  simp only [itemD, Prod.mk.injEq, DataW.agg.injEq, List.cons.injEq, DataW.lit.injEq, Lit.int.injEq, Lit.string.injEq, true_and, and_true] at e
  obtain ⟨⟨rfl, rfl, e⟩, _⟩ := e
  rw [show t = t' from ByteArray.ext (Array.toList_inj.1 e)]
/-- The first letters, in their order. -/
def letB : List Int := [89, 109, 100, 72, 77, 83, 102, 122, 106, 71, 86, 117, 63, 63, 73, 112, 90, 101]
def firstD : Nat → DataW Unit
  | 0 => .map []
  | k + 1 => (firstD k).put (.int .u8 (letB.getD k 0)) (itemD (k + 1) 0 [])
def letD : DataW Unit :=
  (((((((firstD 18).del (.int .u8 102)).del (.int .u8 63)).put (.int .u8 98) (itemD 13 3 [])).put (.int .u8 66) (itemD 13 0 [])).put (.int .u8 97) (itemD 14 3 [])).put (.int .u8 65) (itemD 14 0 []))
theorem law8 : Keyed Tryd.prog 5 := int_keyed Tryd.underlying5
theorem u8_wf (n : Int) (h0 : 0 ≤ n) (h1 : n ≤ 255) : (Lit.int .u8 n).wf = true := by
  simp [Lit.wf, IntKind.min, IntKind.max, IntKind.signed, IntKind.bits]; omega
theorem key8 (n : Int) (h0 : 0 ≤ n) (h1 : n ≤ 255) : keyOf Tryd.prog 5 (.int .u8 n) = some (.int .u8 n) := keyOf_int_mk Tryd.underlying5 (u8_wf n h0 h1)
theorem letB_bd : ∀ k : Nat, 0 ≤ letB.getD k 0 ∧ letB.getD k 0 ≤ 255 := by
  intro k
  by_cases h : k < 18
  · have : ∀ j : Fin 18, 0 ≤ letB.getD j.val 0 ∧ letB.getD j.val 0 ≤ 255 := by decide
    exact this ⟨k, h⟩
  · rw [List.getD_eq_getElem?_getD, List.getElem?_eq_none (by simp [letB]; omega)]
    simp
theorem let_cell (w : World) (j : Nat) (h : j < 18) : (w.alloc (.cells #[.int .u8 89, .int .u8 109, .int .u8 100, .int .u8 72, .int .u8 77, .int .u8 83, .int .u8 102, .int .u8 122, .int .u8 106, .int .u8 71, .int .u8 86, .int .u8 117, .int .u8 63, .int .u8 63, .int .u8 73, .int .u8 112, .int .u8 90, .int .u8 101] 5 (18, 19))).cell? ⟨w.heap.size, j, none⟩ = some (.int .u8 (letB.getD j 0)) := by
  rw [World.cell?_alloc_mark]
  have hc : j = 0 ∨ j = 1 ∨ j = 2 ∨ j = 3 ∨ j = 4 ∨ j = 5 ∨ j = 6 ∨ j = 7 ∨ j = 8 ∨ j = 9 ∨ j = 10 ∨ j = 11 ∨ j = 12 ∨ j = 13 ∨ j = 14 ∨ j = 15 ∨ j = 16 ∨ j = 17 := by omega
  rcases hc with rfl | rfl | rfl | rfl | rfl | rfl | rfl | rfl | rfl | rfl | rfl | rfl | rfl | rfl | rfl | rfl | rfl | rfl <;> rfl
theorem below_grown {a b c : World} {r : Nat} (h : Below a.heap.size a b) (hg : b.grownBy c (some r)) (hr : a.heap.size ≤ r) : Below a.heap.size a c :=
  ⟨hg.os.trans h.os, hg.tape.trans h.tape, hg.output.trans h.output, Nat.le_trans h.size hg.size, fun i hi => (hg.block i (Nat.lt_of_lt_of_le hi h.size) (by simp; omega)).trans (h.block i hi)⟩
set_option maxHeartbeats 1000000 in
theorem letters_any (w : World) :
    Calls Tryd.prog 22 #[] w fun e w' => e = .returned (.map (some w.heap.size)) ∧ w'.ownsMap Tryd.prog 5 itemR w.heap.size 30 letD ∧ Below w.heap.size w w' := by
  have hmm := @run_makeMap Tryd.prog
  have e1 : (w.alloc (.map #[] 0)).heap.size = w.heap.size + 1 := by simp
  have hcv := Go.Joins.run_convert_bytes_const_at (P := Tryd.prog) (w.alloc (.map #[] 0)) 61 5 #[.int .u8 89, .int .u8 109, .int .u8 100, .int .u8 72, .int .u8 77, .int .u8 83, .int .u8 102, .int .u8 122, .int .u8 106, .int .u8 71, .int .u8 86, .int .u8 117, .int .u8 63, .int .u8 63, .int .u8 73, .int .u8 112, .int .u8 90, .int .u8 101] 18 18 (w.heap.size + 1) e1.symm Tryd.underlying61 Tryd.underlying5
  have hc0 := let_cell (w.alloc (.map #[] 0))
  rw [e1] at hc0
  have hown0 := (World.ownsMap_made w Tryd.prog 5 itemR).alloc (.cells #[.int .u8 89, .int .u8 109, .int .u8 100, .int .u8 72, .int .u8 77, .int .u8 83, .int .u8 102, .int .u8 122, .int .u8 106, .int .u8 71, .int .u8 86, .int .u8 117, .int .u8 63, .int .u8 63, .int .u8 73, .int .u8 112, .int .u8 90, .int .u8 101] 5 (18, 19))
  have HC := Lib.hid hc0
  have HO := Lib.hid hown0
  clear hc0 hown0 e1
  go_enter Tryd.func22, Tryd.ntmps22
  go_wp2_with fail
  go_loopw [8] (fun i wr => ∃ k : Nat, k ≤ 18 ∧ i = .int .i64 k ∧ Hid (wr.ownsMap Tryd.prog 5 itemR w.heap.size k (firstD k) ∧ Below w.heap.size w wr ∧ ∀ j, j < 18 → wr.cell? ⟨w.heap.size + 1, j, none⟩ = some (.int .u8 (letB.getD j 0)))) (fun i _ => 18 - (intOf i).toNat)
  case atStart => exact ⟨0, by omega, rfl, HO.out, by repeat (first | exact Below.refl _ _ | refine Below.alloc ?_ (by simp <;> omega) _), HC.out⟩
  case round =>
    obtain ⟨k, hk, rfl, HH⟩ := hrel
    by_cases hlt : k < 18
    · have hc := HH.out.2.2 k hlt
      have hb := letB_bd k
      obtain ⟨c, hcc⟩ : ∃ c, c = letB.getD k 0 := ⟨_, rfl⟩
      rw [← hcc] at hc hb
      have HCC := Lib.hid hcc
      clear hcc
      go_wp2_with (first | (at_mapUpdate; refine wpList_mapUpdate_own _ rfl _ _ _ 42 rfl 5 32 law8 Tryd.underlying42 itemR w.heap.size k (firstD k) rfl HH.out.1 (by unfold maxLen; omega) _ _ (.int .u8 c) rfl rfl (key8 c hb.1 hb.2) (itemD (k + 1) 0 []) [] (itemR_mk (k + 1) 0 ⟨#[]⟩) ?_; intro w1 hown1 hgrow1) | go_in)
      go_roundw
      case rel =>
        refine ⟨k + 1, by omega, by go_num, ?_, below_grown HH.out.2.1 hgrow1 (Nat.le_refl _), fun j hj => hgrow1.cell (HH.out.2.2 j hj) (by simp)⟩
        rw [firstD, ← HCC.out]
        exact hown1
      case measure => simp [intOf]; omega
    · have hke : k = 18 := by omega
      subst hke
      have hO := HH.out.1
      have hB := HH.out.2.1
      go_wp2_with (first
        | (at_delete; refine wpList_delete_own _ rfl _ _ 42 5 rfl 32 law8 Tryd.underlying42 itemR w.heap.size 18 (firstD 18) rfl hO _ (.int .u8 102) rfl (key8 102 (by decide) (by decide)) ?_; intro w1 hO1 ht1)
        | (at_delete; refine wpList_delete_own _ rfl _ _ 42 5 rfl 32 law8 Tryd.underlying42 itemR w.heap.size 18 ((firstD 18).del (.int .u8 102)) rfl hO1 _ (.int .u8 63) rfl (key8 63 (by decide) (by decide)) ?_; intro w2 hO2 ht2)
        | (at_mapUpdate; refine wpList_mapUpdate_own _ rfl _ _ _ 42 rfl 5 32 law8 Tryd.underlying42 itemR w.heap.size 18 (((firstD 18).del (.int .u8 102)).del (.int .u8 63)) rfl hO2 (by unfold maxLen; omega) _ _ (.int .u8 98) rfl rfl (key8 98 (by decide) (by decide)) (itemD 13 3 []) [] (itemR_mk 13 3 ⟨#[]⟩) ?_; intro w3 hO3 hg3)
        | (at_mapUpdate; refine wpList_mapUpdate_own _ rfl _ _ _ 42 rfl 5 32 law8 Tryd.underlying42 itemR w.heap.size 19 ((((firstD 18).del (.int .u8 102)).del (.int .u8 63)).put (.int .u8 98) (itemD 13 3 [])) rfl hO3 (by unfold maxLen; omega) _ _ (.int .u8 66) rfl rfl (key8 66 (by decide) (by decide)) (itemD 13 0 []) [] (itemR_mk 13 0 ⟨#[]⟩) ?_; intro w4 hO4 hg4)
        | (at_mapUpdate; refine wpList_mapUpdate_own _ rfl _ _ _ 42 rfl 5 32 law8 Tryd.underlying42 itemR w.heap.size 20 (((((firstD 18).del (.int .u8 102)).del (.int .u8 63)).put (.int .u8 98) (itemD 13 3 [])).put (.int .u8 66) (itemD 13 0 [])) rfl hO4 (by unfold maxLen; omega) _ _ (.int .u8 97) rfl rfl (key8 97 (by decide) (by decide)) (itemD 14 3 []) [] (itemR_mk 14 3 ⟨#[]⟩) ?_; intro w5 hO5 hg5)
        | (at_mapUpdate; refine wpList_mapUpdate_own _ rfl _ _ _ 42 rfl 5 32 law8 Tryd.underlying42 itemR w.heap.size 21 ((((((firstD 18).del (.int .u8 102)).del (.int .u8 63)).put (.int .u8 98) (itemD 13 3 [])).put (.int .u8 66) (itemD 13 0 [])).put (.int .u8 97) (itemD 14 3 [])) rfl hO5 (by unfold maxLen; omega) _ _ (.int .u8 65) rfl rfl (key8 65 (by decide) (by decide)) (itemD 14 0 []) [] (itemR_mk 14 0 ⟨#[]⟩) ?_; intro w6 hO6 hg6)
        | go_in)
      go_ret
      have b1 := below_grown hB ht1.grown (Nat.le_refl _)
      have b2 := below_grown b1 ht2.grown (Nat.le_refl _)
      have b3 := below_grown b2 hg3 (Nat.le_refl _)
      have b4 := below_grown b3 hg4 (Nat.le_refl _)
      have b5 := below_grown b4 hg5 (Nat.le_refl _)
      have b6 := below_grown b5 hg6 (Nat.le_refl _)
      exact ⟨rfl, hO6.mono (by omega), b6⟩
end Go.Proofs.YtiopcifglfocpaaDoor.X
