/- Chapter 23, walks: few, and both shows: items as a text. Conditions: the slice reads as items; each may be; their texts are short. -/
import Derived.Test.YtiopcifglfocpaaDoorP23d
import Derived.Test.YtiopcifglfocpaaDoorSh
namespace Go.Proofs.YtiopcifglfocpaaDoor.X
open Go.RowKit Go.Maps
/-- The library's variable MaxLen holds a number. -/
def HasMax (w : World) : Prop := ∃ m, w.cell? ⟨0, 0, none⟩ = some (.int .i64 m)
theorem HasMax.below {w w' : World} (h : HasMax w) (hb : Below w.heap.size w w') : HasMax w' := by
  obtain ⟨m, hm⟩ := h
  exact ⟨m, (hb.cell (World.block_lt_of_cell? _ _ hm)).trans hm⟩
theorem cells_at {a : Option Addr} {l : List Itm} {w W : World} (hc : ∀ j, j < l.length * 3 → ∃ b o, a = some ⟨b, o, none⟩ ∧ w.cell? ⟨b, o + j, none⟩ = (itsC l)[j]?) (hB : Below w.heap.size w W) (k : Nat) (hk : k < l.length) :
    ∃ b o, a = some ⟨b, o, none⟩ ∧ W.cell? ⟨b, o + k * 3, none⟩ = some (.int .i64 (l[k]).1) ∧ W.cell? ⟨b, o + k * 3 + 1, none⟩ = some (.int .i64 (l[k]).2.1) ∧ W.cell? ⟨b, o + k * 3 + 2, none⟩ = some (.string (l[k]).2.2) := by
  obtain ⟨b, o, ha, c0⟩ := hc (k * 3) (by omega)
  subst ha
  obtain ⟨_, _, e1, c1⟩ := hc (k * 3 + 1) (by omega)
  cases e1
  obtain ⟨_, _, e1, c2⟩ := hc (k * 3 + 2) (by omega)
  cases e1
  obtain ⟨x0, x1, x2⟩ := itsC_at l k hk
  rw [x0] at c0; rw [x1, ← Nat.add_assoc] at c1; rw [x2, ← Nat.add_assoc] at c2
  exact ⟨b, o, rfl, (hB.cell (p := ⟨b, o + k * 3, none⟩) (World.block_lt_of_cell? w _ c0)).trans c0, (hB.cell (p := ⟨b, o + k * 3 + 1, none⟩) (World.block_lt_of_cell? w _ c1)).trans c1, (hB.cell (p := ⟨b, o + k * 3 + 2, none⟩) (World.block_lt_of_cell? w _ c2)).trans c2⟩
/-- Whether the items are few. -/
def fewB (l : List Itm) : Bool := decide (l.length + textN l < 5000)
set_option maxHeartbeats 1000000 in
theorem few_any (v : Value) (l : List Itm) (w : World) (h : ReadsL v l w) (hl : l.length ≤ 140737488355328) (hs : ∀ x ∈ l, x.2.2.size ≤ 140737488355328) :
    Calls Tryd.prog 15 #[v] w fun e w' => e = .returned (.bool (fewB l)) ∧ w = w' := by
  obtain ⟨a, c, hv, hc⟩ := h
  subst hv
  have HC := Lib.hid hc
  have HS := Lib.hid hs
  clear hc hs
  go_enter Tryd.func15, Tryd.ntmps15
  go_wp2_with fail
  go_loop [3, 4] (fun n i => ∃ k : Nat, ∃ m : Int, k ≤ l.length ∧ i = .int .i64 k ∧ n = .int .i64 m ∧ 0 ≤ m ∧ m ≤ 281474976720656 ∧ Hid (m = ((l.length + textN (l.take k) : Nat) : Int))) (fun _ i => l.length - (intOf i).toNat)
  case atStart => exact ⟨0, (l.length : Int), by omega, rfl, rfl, by omega, by omega, by show (l.length : Int) = _; simp [textN]⟩
  case round =>
    obtain ⟨k, m, hk, rfl, rfl, m0, m1, ht⟩ := hrel
    by_cases hlt : k < l.length
    · by_cases hf : m < 5000
      · obtain ⟨b, o, ha, c0, c1, c2⟩ := cells_at HC.out (Below.refl _ _) k hlt
        subst ha
        have hz := HS.out l[k] (List.getElem_mem hlt)
        have HT := Lib.hid (textN_take l k hlt)
        obtain ⟨z, hzz⟩ : ∃ z, z = l[k].2.2 := ⟨_, rfl⟩
        rw [← hzz] at c2 hz
        have HZ := Lib.hid hzz
        clear hzz
        go_wp2
        go_round
        case rel => exact ⟨k + 1, m + z.size, by omega, by go_num, by go_num, by omega, by omega, by show m + (z.size : Int) = _; rw [HT.out, ht.out, HZ.out]; omega⟩
        case measure => simp [intOf]; omega
      · have hv := Lib.hid (show fewB l = false from decide_eq_false (by have := textN_le l k; have := ht.out; omega))
        go_wp2
        go_ret
        exact ⟨by rw [hv.out]; rfl, rfl⟩
    · have hv := Lib.hid (show fewB l = decide (m < 5000) by
        have h1 := ht.out
        rw [List.take_of_length_le (by omega)] at h1
        unfold fewB; simp only [decide_eq_decide]; omega)
      by_cases hf : m < 5000
      all_goals
        go_wp2
        go_ret
        exact ⟨by rw [hv.out]; first | (rw [decide_eq_true (show m < 5000 by omega)]; rfl) | (rw [decide_eq_false (show ¬ m < 5000 by omega)]; rfl), rfl⟩
end Go.Proofs.YtiopcifglfocpaaDoor.X
