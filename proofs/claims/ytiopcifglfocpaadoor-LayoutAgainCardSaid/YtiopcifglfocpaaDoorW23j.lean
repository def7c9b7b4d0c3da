/- Chapter 23, walk: the reference's Items tells whether two slices read as the same items. Condition: both read as items. -/
import Derived.Test.YtiopcifglfocpaaDoorW23i
namespace Go.Proofs.YtiopcifglfocpaaDoor.X
open Go.RowKit Go.Maps
/-- A slice that reads as these items. -/
def ReadsL (v : Value) (l : List Itm) (w : World) : Prop :=
  ∃ a c, v = .slice a l.length c ∧ ∀ j, j < l.length * 3 → ∃ b o, a = some ⟨b, o, none⟩ ∧ w.cell? ⟨b, o + j, none⟩ = (itsC l)[j]?
theorem ReadsL.own {w : World} {B : Nat} {v : Value} {l : List Itm} (h : w.ownsRow B 32 3 v l.length (itsC l)) : ReadsL v l w := by
  rcases h.2 with ⟨hv, h0⟩ | ⟨g, cap, cur, hv, _⟩
  · exact ⟨none, 0, by rw [hv, h0], fun j hj => by omega⟩
  · refine ⟨_, cap, hv, fun j hj => ⟨g, 0, rfl, ?_⟩⟩
    have hj' : j < (itsC l).length := by rw [itsC_len]; exact hj
    have := h.cells (g := g) (by rw [hv]; rfl) j _ (List.getElem?_eq_getElem hj')
    rw [show (⟨g, 0, none⟩ : Addr).add j = ⟨g, 0 + j, none⟩ by unfold Addr.add; split <;> simp_all] at this
    rw [this, List.getElem?_eq_getElem hj']
theorem ReadsL.kept {w W : World} {v : Value} {l : List Itm} (h : ReadsL v l w) (hb : Below w.heap.size w W) : ReadsL v l W := by
  obtain ⟨a, c, hv, hc⟩ := h
  refine ⟨a, c, hv, fun j hj => ?_⟩
  obtain ⟨b, o, ha, hcell⟩ := hc j hj
  refine ⟨b, o, ha, ?_⟩
  have hj' : j < (itsC l).length := by rw [itsC_len]; exact hj
  rw [List.getElem?_eq_getElem hj'] at hcell ⊢
  exact (hb.cell (p := ⟨b, o + j, none⟩) (World.block_lt_of_cell? w _ hcell)).trans hcell
theorem itsC_at (l : List Itm) (i : Nat) (h : i < l.length) : (itsC l)[i * 3]? = some (.int .i64 (l[i]).1) ∧ (itsC l)[i * 3 + 1]? = some (.int .i64 (l[i]).2.1) ∧ (itsC l)[i * 3 + 2]? = some (.string (l[i]).2.2) := by
  have e : l = l.take i ++ (l[i] :: l.drop (i + 1)) := by rw [← List.drop_eq_getElem_cons h, List.take_append_drop]
  have hl : (itsC (l.take i)).length = i * 3 := by rw [itsC_len, List.length_take]; omega
  have e2 : itsC l = itsC (l.take i) ++ ([.int .i64 (l[i]).1, .int .i64 (l[i]).2.1, .string (l[i]).2.2] ++ itsC (l.drop (i + 1))) := by
    conv => lhs; rw [e]
    rw [itsC_append]; rfl
  rw [e2]
  refine ⟨?_, ?_, ?_⟩ <;> (rw [List.getElem?_append_right (by omega), hl]; simp)
theorem eqItem (d : Nat) (w : World) (k n k' n' : Int) (t t' : ByteArray) :
    (Op.equalIn (d + 2) 32 (.agg #[.int .i64 k, .int .i64 n, .string t]) (.agg #[.int .i64 k', .int .i64 n', .string t'])).run Tryd.prog w = .ok (k == k' && (n == n' && (t.toList == t'.toList))) w := by
  unfold Op.equalIn
  simp [go_sem, part]
  by_cases h0 : k = k'
  · by_cases h1 : n = n'
    · by_cases h2 : t.toList = t'.toList
      · simp [h0, h1, h2]
      · have : (t.toList == t'.toList) = false := by rw [beq_eq_false_iff_ne]; exact h2
        simp [h0, h1, h2, this]
    · simp [h0, h1]
  · simp [h0]
theorem bytes_ext {s t : ByteArray} (h : s.toList = t.toList) : s = t := by
  rw [Lib.toList_data, Lib.toList_data] at h
  exact ByteArray.ext (Array.toList_inj.1 h)
/-- Whether two items are one. -/
def sameI (x y : Itm) : Bool := x.1 == y.1 && (x.2.1 == y.2.1 && (x.2.2.toList == y.2.2.toList))
theorem sameI_iff (x y : Itm) : sameI x y = true ↔ x = y := by
  obtain ⟨k, n, t⟩ := x
  obtain ⟨k', n', t'⟩ := y
  simp only [sameI, Bool.and_eq_true, beq_iff_eq, Prod.mk.injEq]
  constructor
  · rintro ⟨h1, h2, h3⟩; exact ⟨h1, h2, bytes_ext h3⟩
  · rintro ⟨h1, h2, h3⟩; exact ⟨h1, h2, by rw [h3]⟩
set_option maxHeartbeats 2000000 in
theorem items_any (v v' : Value) (l m : List Itm) (w : World) (h1 : ReadsL v l w) (h2 : ReadsL v' m w) (hl : l.length ≤ maxLen) (hm : m.length ≤ maxLen) :
    Calls Tryd.prog 12 #[v, v'] w fun e w' => e = .returned (.bool (decide (l = m))) ∧ Below w.heap.size w w' := by
  unfold maxLen at hl hm
  obtain ⟨a, c, hv, hc⟩ := h1
  obtain ⟨a', c', hv', hc'⟩ := h2
  subst hv
  subst hv'
  by_cases hlen : l.length = m.length
  · have HC := Lib.hid hc
    have HC' := Lib.hid hc'
    have hne : ((l.length : Int) != (m.length : Int)) = false := by rw [hlen]; simp
    clear hc hc'
    go_enter Tryd.func12, Tryd.ntmps12
    go_wp2_with fail
    go_loopw [5] (fun i wr => ∃ k : Nat, k ≤ l.length ∧ i = .int .i64 k ∧ Below w.heap.size w wr ∧ Hid (l.take k = m.take k)) (fun i _ => l.length - (intOf i).toNat)
    case atStart => exact ⟨0, by omega, rfl, Below.refl _ _, rfl⟩
    case round =>
      obtain ⟨k, hk, rfl, hB, hd⟩ := hrel
      by_cases hlt : k < l.length
      · have hlt' : k < m.length := by omega
        obtain ⟨b, o, ha, c0⟩ := HC.out (k * 3) (by omega)
        subst ha
        obtain ⟨_, _, e1, c1⟩ := HC.out (k * 3 + 1) (by omega)
        cases e1
        obtain ⟨_, _, e1, c2⟩ := HC.out (k * 3 + 2) (by omega)
        cases e1
        obtain ⟨b', o', ha, d0⟩ := HC'.out (k * 3) (by omega)
        subst ha
        obtain ⟨_, _, e1, d1⟩ := HC'.out (k * 3 + 1) (by omega)
        cases e1
        obtain ⟨_, _, e1, d2⟩ := HC'.out (k * 3 + 2) (by omega)
        cases e1
        obtain ⟨x0, x1, x2⟩ := itsC_at l k hlt
        obtain ⟨y0, y1, y2⟩ := itsC_at m k hlt'
        rw [x0] at c0; rw [x1, ← Nat.add_assoc] at c1; rw [x2, ← Nat.add_assoc] at c2
        rw [y0] at d0; rw [y1, ← Nat.add_assoc] at d1; rw [y2, ← Nat.add_assoc] at d2
        replace c0 := (hB.cell (p := ⟨b, o + k * 3, none⟩) (World.block_lt_of_cell? w _ c0)).trans c0
        replace c1 := (hB.cell (p := ⟨b, o + k * 3 + 1, none⟩) (World.block_lt_of_cell? w _ c1)).trans c1
        replace c2 := (hB.cell (p := ⟨b, o + k * 3 + 2, none⟩) (World.block_lt_of_cell? w _ c2)).trans c2
        replace d0 := (hB.cell (p := ⟨b', o' + k * 3, none⟩) (World.block_lt_of_cell? w _ d0)).trans d0
        replace d1 := (hB.cell (p := ⟨b', o' + k * 3 + 1, none⟩) (World.block_lt_of_cell? w _ d1)).trans d1
        replace d2 := (hB.cell (p := ⟨b', o' + k * 3 + 2, none⟩) (World.block_lt_of_cell? w _ d2)).trans d2
        have heq := fun W => eqItem 9998 W l[k].1 l[k].2.1 m[k].1 m[k].2.1 l[k].2.2 m[k].2.2
        have HS := Lib.hid (sameI_iff l[k] m[k])
        rw [show (l[k].1 == m[k].1 && (l[k].2.1 == m[k].2.1 && (l[k].2.2.toList == m[k].2.2.toList))) = sameI l[k] m[k] from rfl] at heq
        clear x0 x1 x2 y0 y1 y2
        cases hs : sameI l[k] m[k]
        · rw [hs] at heq
          have hne2 := Lib.hid (show decide (l = m) = false from decide_eq_false (fun e => by
            have : sameI l[k] m[k] = true := HS.out.2 (by subst e; rfl)
            rw [hs] at this; cases this))
          clear hs
          go_wp2_with fail
          go_quiet (fail)
          go_wp2
          go_ret
          exact ⟨by rw [hne2.out]; rfl, below_drewN' hB _⟩
        · rw [hs] at heq
          have hkk := Lib.hid (show l.take (k + 1) = m.take (k + 1) by
            rw [List.take_succ_eq_append_getElem hlt, List.take_succ_eq_append_getElem hlt', hd.out, HS.out.1 hs])
          clear hs
          go_wp2_with fail
          go_quiet (fail)
          go_wp2
          go_roundw
          case rel => exact ⟨k + 1, by omega, by go_num, below_drewN' hB _, hkk⟩
          case measure => simp [intOf]; omega
      · have hke : k = l.length := by omega
        have hv := Lib.hid (show decide (l = m) = true from decide_eq_true (by
          have h := hd.out
          rw [hke, List.take_length, hlen, List.take_length] at h
          exact h))
        clear hke
        go_wp2
        go_ret
        exact ⟨by rw [hv.out]; rfl, hB⟩
  · have hv := Lib.hid (show decide (l = m) = false from decide_eq_false (fun e => hlen (by rw [e])))
    have hne : ((l.length : Int) != (m.length : Int)) = true := by rw [bne_iff_ne]; omega
    clear hc hc'
    go_enter Tryd.func12, Tryd.ntmps12
    go_wp2
    go_ret
    exact ⟨by rw [hv.out]; rfl, Below.refl _ _⟩
end Go.Proofs.YtiopcifglfocpaaDoor.X
