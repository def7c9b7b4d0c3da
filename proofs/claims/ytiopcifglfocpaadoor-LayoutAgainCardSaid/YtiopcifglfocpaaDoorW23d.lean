/- Chapter 23, walk: layout.Parse's closure: a text joins the last item if that is a text, else it is a new item. Conditions: the list is the call's own and small, the text is small. -/
import Derived.Test.YtiopcifglfocpaaDoorW23c
import Derived.Maps.AppendAt
import Derived.Laws.OwnMore
import Derived.OwnWalk
import Derived.OneCell
namespace Go.Proofs.YtiopcifglfocpaaDoor.X
open Go.RowKit Go.Maps
/-- Items: kind, number, text. -/
abbrev Itm := Int × Int × ByteArray
def itC (x : Itm) : List Value := [.int .i64 x.1, .int .i64 x.2.1, .string x.2.2]
def itsC (l : List Itm) : List Value := l.flatMap itC
theorem itsC_len (l : List Itm) : (itsC l).length = l.length * 3 := by
  induction l with
  | nil => rfl
  | cons x r ih => simp only [itsC, List.flatMap_cons, List.length_append, List.length_cons] at *; rw [ih]; simp [itC]; omega
theorem itsC_append (l m : List Itm) : itsC (l ++ m) = itsC l ++ itsC m := by simp [itsC]
theorem itsC_last (r : List Itm) (x : Itm) : (itsC (r ++ [x]))[r.length * 3]? = some (.int .i64 x.1) ∧ (itsC (r ++ [x]))[r.length * 3 + 1]? = some (.int .i64 x.2.1) ∧ (itsC (r ++ [x]))[r.length * 3 + 2]? = some (.string x.2.2) := by
  rw [itsC_append]
  refine ⟨?_, ?_, ?_⟩ <;> (rw [List.getElem?_append_right (by rw [itsC_len]; omega), itsC_len]; simp [itsC, itC])
theorem itsC_set (r : List Itm) (x : Itm) (t : ByteArray) : (itsC (r ++ [x])).set (r.length * 3 + 2) (.string t) = itsC (r ++ [(x.1, x.2.1, t)]) := by
  rw [itsC_append, itsC_append, List.set_append_right _ _ (by rw [itsC_len]; omega), itsC_len]
  simp [itsC, itC]
/-- A variable in block L holds a slice of the call's own that reads as these items. -/
def OwnL (L : Nat) (l : List Itm) (w : World) : Prop :=
  ∃ v, w.cell? ⟨L, 0, none⟩ = some v ∧ w.frozen? ⟨L, 0, none⟩ = false ∧ w.ownsRow (L + 1) 32 3 v l.length (itsC l)
def addText (l : List Itm) (t : ByteArray) : List Itm :=
  match l.getLast? with
  | some x => if x.1 = 0 then l.dropLast ++ [(x.1, x.2.1, x.2.2 ++ t)] else l ++ [(0, 0, t)]
  | none => [(0, 0, t)]
theorem infoItem : (Tryd.prog.info? 32).map (fun i => (i.zero, i.size, i.bytes)) = some (some (.agg #[.int .i64 0, .int .i64 0, .string ⟨#[]⟩]), 3, 32) := by kernel_rfl
theorem cell_three_new (w : World) (a b c : Value) (t : TypeId) : ∀ j u, [a, b, c][j]? = some u → (w.alloc (.cells #[a, b, c] t)).cell? ((⟨w.heap.size, 0, none⟩ : Addr).add j) = some u := by
  intro j u hj
  match j, hj with
  | 0, hj => simp at hj; subst hj; simp [Addr.add]
  | 1, hj => simp at hj; subst hj; simp [Addr.add]
  | 2, hj => simp at hj; subst hj; simp [Addr.add]
theorem below_row {L : Nat} {w W : World} {v : Value} {T : TypeId} {n : Nat} {xs : List Value} (h : w.ownsRow (L + 1) T 3 v n xs) (hg : w.grownBy W v.ownBlock) (hL : L < w.heap.size) : Below L w W :=
  ⟨hg.os, hg.tape, hg.output, hg.size, fun i hi => hg.block i (by omega) (fun e => by have := h.lt i e.symm; omega)⟩
set_option maxHeartbeats 1000000 in
theorem text_new (L : Nat) (l : List Itm) (t : ByteArray) (w : World) (ho : OwnL L l w) (hl : l.length ≤ 1000) (hx : ∀ x, l.getLast? = some x → x.1 ≠ 0) :
    Calls Tryd.prog 23 #[.string t, .pointer (some ⟨L, 0, none⟩)] w fun e w' => e = .returned (.tuple #[]) ∧ OwnL L (l ++ [(0, 0, t)]) w' ∧ Below L w w' := by
  obtain ⟨v, hc, hf, hown⟩ := ho
  have hL : L < w.heap.size := World.block_lt_of_cell? w _ hc
  obtain ⟨i0, hi, hz0, hz1, hz2⟩ := info_parts infoItem
  rcases List.eq_nil_or_concat l with rfl | ⟨r, x, rfl⟩
  · rcases hown.2 with ⟨hv, _⟩ | ⟨g, cap, cur, hv, hg, _⟩
    · subst hv
      have hne : some L ≠ Value.ownBlock (.slice none 0 0) := by
        simp [Value.ownBlock]
      simp only [List.length_nil] at hc hown hne
      go_enter Tryd.func23, Tryd.ntmps23
      go_wp2_with (first
      | (at_builtin; refine wpList_append_own_at _ rfl _ _ 22 rfl (L + 1) 32 i0 (.agg #[.int .i64 0, .int .i64 0, .string ⟨#[]⟩]) 3 32 Tryd.underlying22 hi hz0 hz1 hz2 rfl (by decide) _ _ _ rfl (hown.alloc _) ⟨w.heap.size, 0, none⟩ 1 1 [.int .i64 0, .int .i64 0, .string t] rfl rfl (cell_three_new _ _ _ _ _) (by intro u hu; simp at hu; rcases hu with rfl | rfl | rfl <;> rfl) (by unfold maxLen; omega) (by omega) (by simp; omega) ?_; intro v' w1 hown1 hgrow hnil hloc; obtain ⟨g', cap', hv'⟩ := Go.Joins.ownsRow_form hown1 (by omega); subst hv'; have hall := (World.grownBy_alloc w _ _).trans hgrow; have hcL := hall.cell hc hne; have hfL := (World.frozen?_of_block (hall.block L hL hne)).trans hf)
        | go_in)
      go_end0
      refine ⟨rfl, ⟨_, World.cell?_setCell_same _ _ _ hcL, by rw [World.frozen?_setCell]; exact hfL, ?_⟩, ?_⟩
      · refine ownsRow_setCell_below ?_ (by simp) _
        simpa [itsC, itC] using hown1
      · exact (below_row hown hall hL).setCell (Nat.le_refl _) _
    · subst hv
      have hne : some L ≠ Value.ownBlock (.slice (some ⟨g, 0, none⟩) ([] : List Itm).length cap) := by
        simp [Value.ownBlock]
        omega
      simp only [List.length_nil] at hc hown hne
      go_enter Tryd.func23, Tryd.ntmps23
      go_wp2_with (first
      | (at_builtin; refine wpList_append_own_at _ rfl _ _ 22 rfl (L + 1) 32 i0 (.agg #[.int .i64 0, .int .i64 0, .string ⟨#[]⟩]) 3 32 Tryd.underlying22 hi hz0 hz1 hz2 rfl (by decide) _ _ _ rfl (hown.alloc _) ⟨w.heap.size, 0, none⟩ 1 1 [.int .i64 0, .int .i64 0, .string t] rfl rfl (cell_three_new _ _ _ _ _) (by intro u hu; simp at hu; rcases hu with rfl | rfl | rfl <;> rfl) (by unfold maxLen; omega) (by omega) (by simp; omega) ?_; intro v' w1 hown1 hgrow hnil hloc; obtain ⟨g', cap', hv'⟩ := Go.Joins.ownsRow_form hown1 (by omega); subst hv'; have hall := (World.grownBy_alloc w _ _).trans hgrow; have hcL := hall.cell hc hne; have hfL := (World.frozen?_of_block (hall.block L hL hne)).trans hf)
        | go_in)
      go_end0
      refine ⟨rfl, ⟨_, World.cell?_setCell_same _ _ _ hcL, by rw [World.frozen?_setCell]; exact hfL, ?_⟩, ?_⟩
      · refine ownsRow_setCell_below ?_ (by simp) _
        simpa [itsC, itC] using hown1
      · exact (below_row hown hall hL).setCell (Nat.le_refl _) _
  · rw [List.concat_eq_append] at *
    have hx0 : (x.1 == 0) = false := by simpa using hx x (by simp)
    obtain ⟨g, cap, hv⟩ := Go.Joins.ownsRow_form hown (by simp)
    subst hv
    have ck := hown.cells (g := g) rfl _ _ (itsC_last r x).1
    rw [show (⟨g, 0, none⟩ : Addr).add (r.length * 3) = ⟨g, r.length * 3, none⟩ by unfold Addr.add; split <;> simp_all] at ck
    obtain ⟨N, hN⟩ : ∃ N, N = itsC (r ++ [x]) := ⟨_, rfl⟩
    rw [← hN] at hown
    obtain ⟨X, hX⟩ : ∃ X, X = x.1 := ⟨_, rfl⟩
    rw [← hX] at ck hx0
    rw [show (r ++ [x]).length = r.length + 1 by simp] at *
    clear hX hx
    have hne : some L ≠ (Value.slice (some ⟨g, 0, none⟩) (r.length + 1) cap).ownBlock := by
      have := (hown.lt g rfl).1
      simp [Value.ownBlock]; omega
    go_enter Tryd.func23, Tryd.ntmps23
    go_wp2_with (first
      | (at_builtin; (refine wpList_append_own_at _ rfl _ _ 22 rfl (L + 1) 32 i0 (.agg #[.int .i64 0, .int .i64 0, .string ⟨#[]⟩]) 3 32 Tryd.underlying22 hi hz0 hz1 hz2 rfl (by decide) _ _ _ rfl (hown.alloc _) ⟨w.heap.size, 0, none⟩ 1 1 [.int .i64 0, .int .i64 0, .string t] rfl rfl (cell_three_new _ _ _ _ _) (by intro u hu; simp at hu; rcases hu with rfl | rfl | rfl <;> rfl) (by unfold maxLen; omega) (by omega) (by simp; omega) ?_); intro v' w1 hown1 hgrow hnil hloc; obtain ⟨g', cap', hv'⟩ := Go.Joins.ownsRow_form hown1 (by omega); subst hv'; have hall := (World.grownBy_alloc w _ _).trans hgrow; have hcL := hall.cell hc hne; have hfL := (World.frozen?_of_block (hall.block L hL hne)).trans hf)
      | go_in)
    go_end0
    refine ⟨rfl, ⟨_, World.cell?_setCell_same _ _ _ hcL, by rw [World.frozen?_setCell]; exact hfL, ?_⟩, ?_⟩
    · refine ownsRow_setCell_below ?_ (by simp) _
      rw [hN, show [Value.int .i64 0, .int .i64 0, .string t] = itsC [(0, 0, t)] from rfl, ← itsC_append] at hown1
      simpa using hown1
    · exact (below_row hown hall hL).setCell (Nat.le_refl _) _
set_option maxHeartbeats 1000000 in
theorem text_join (L : Nat) (r : List Itm) (x : Itm) (t : ByteArray) (w : World) (ho : OwnL L (r ++ [x]) w) (hl : r.length ≤ 1000) (hx : x.1 = 0) (hs : x.2.2.size + t.size ≤ 1000) :
    Calls Tryd.prog 23 #[.string t, .pointer (some ⟨L, 0, none⟩)] w fun e w' => e = .returned (.tuple #[]) ∧ OwnL L (r ++ [(x.1, x.2.1, x.2.2 ++ t)]) w' ∧ Below L w w' := by
  obtain ⟨v, hc, hf, hown⟩ := ho
  have hL : L < w.heap.size := World.block_lt_of_cell? w _ hc
  obtain ⟨g, cap, hv⟩ := Go.Joins.ownsRow_form hown (by simp)
  subst hv
  have ck := hown.cells (g := g) rfl _ _ (itsC_last r x).1
  have ct := hown.cells (g := g) rfl _ _ (itsC_last r x).2.2
  have hft := hown.frozenAt (r.length * 3 + 2)
  rw [show (⟨g, 0, none⟩ : Addr).add (r.length * 3) = ⟨g, r.length * 3, none⟩ by unfold Addr.add; split <;> simp_all, hx] at ck
  rw [show (⟨g, 0, none⟩ : Addr).add (r.length * 3 + 2) = ⟨g, r.length * 3 + 2, none⟩ by unfold Addr.add; split <;> simp_all] at ct
  have hg := (hown.lt g rfl).1
  have hst := hown.stored (r.length * 3 + 2) (.string (x.2.2 ++ t))
  rw [itsC_set] at hst
  rw [show (r ++ [x]).length = r.length + 1 by simp] at *
  obtain ⟨y, hy⟩ : ∃ y, y = x.2.2 := ⟨_, rfl⟩
  rw [← hy] at ct hs
  have HST := Lib.hid hst
  have HY := Lib.hid hy
  clear hst hy hown
  go_enter Tryd.func23, Tryd.ntmps23
  go_wp2
  go_end0
  rw [HY.out]
  refine ⟨rfl, ⟨_, (World.cell?_setCell_other _ _ _ _ (by simp <;> omega)).trans hc, by rw [World.frozen?_setCell]; exact hf, ?_⟩, ?_⟩
  · have := HST.out.1
    simpa using this
  · exact (Below.refl L w).setCell (by simp <;> omega) _
/-- A text: whatever the list. -/
theorem text_any (L : Nat) (l : List Itm) (t : ByteArray) (w : World) (ho : OwnL L l w) (hl : l.length ≤ 1000) (hs : ∀ x ∈ l, x.2.2.size + t.size ≤ 1000) :
    Calls Tryd.prog 23 #[.string t, .pointer (some ⟨L, 0, none⟩)] w fun e w' => e = .returned (.tuple #[]) ∧ OwnL L (addText l t) w' ∧ Below L w w' := by
  rcases List.eq_nil_or_concat l with rfl | ⟨r, x, rfl⟩
  · exact text_new L [] t w ho hl (by simp)
  · rw [List.concat_eq_append] at *
    by_cases hx : x.1 = 0
    · have := text_join L r x t w ho (by simp at hl; omega) hx (hs x (by simp))
      simpa [addText, hx] using this
    · have := text_new L (r ++ [x]) t w ho hl (by simpa using hx)
      simpa [addText, hx] using this
end Go.Proofs.YtiopcifglfocpaaDoor.X
