/- Plain laws: weekdays' names, a rule's days. -/
import Derived.Lib.IndexLaws
import Derived.Test.YtddgfffempgghaaDoorP14b
namespace Go.Proofs.YtddgfffempgghaaDoor.X

def dayNames : List UInt8 := [109, 111, 110, 32, 116, 117, 101, 32, 119, 101, 100, 32, 116, 104, 117, 32, 102, 114, 105, 32, 115, 97, 116, 32, 115, 117, 110]
/-- A name's weekday; 0: it is none. -/
def wkV (l : List UInt8) : Int :=
  if l = [109, 111, 110] then 1 else if l = [116, 117, 101] then 2 else if l = [119, 101, 100] then 3 else if l = [116, 104, 117] then 4
  else if l = [102, 114, 105] then 5 else if l = [115, 97, 116] then 6 else if l = [115, 117, 110] then 7 else 0
theorem index_occ (sub : List UInt8) : ∀ (s : List UInt8) (i : Nat), Lib.index s sub = i → Lib.occAt s sub i = true
  | [], i, h => by
    unfold Lib.index at h
    split at h
    · rename_i h1
      obtain rfl : i = 0 := by omega
      rw [List.isEmpty_iff] at h1
      subst h1; rfl
    · omega
  | b :: l, i, h => by
    unfold Lib.index at h
    split at h
    · rename_i h1
      obtain rfl : i = 0 := by omega
      simpa [Lib.occAt] using h1
    · split at h
      · omega
      · cases i with
        | zero => have := Lib.index_ge l sub; rename_i h2; simp at h2; omega
        | succ i =>
          have := index_occ sub l i (by omega)
          simpa [Lib.occAt] using this
theorem wk_index (l : List UInt8) : wkV l = if l.length ≠ 3 ∨ Lib.index dayNames l < 0 ∨ ¬ Lib.index dayNames l % 4 = 0 then 0 else Lib.index dayNames l / 4 + 1 := by
  by_cases h : wkV l = 0
  · rw [h]
    by_cases hl : l.length ≠ 3 ∨ Lib.index dayNames l < 0 ∨ ¬ Lib.index dayNames l % 4 = 0
    · rw [if_pos hl]
    · exfalso
      have h3 : l.length = 3 := by omega
      obtain ⟨i, hi⟩ : ∃ i : Nat, Lib.index dayNames l = i := ⟨(Lib.index dayNames l).toNat, by omega⟩
      have ho := index_occ l dayNames i hi
      have hr : i ≤ 24 := by
        rcases Lib.occAt_room ho with h4 | h4
        · rw [h3, show dayNames.length = 27 from rfl] at h4; omega
        · rw [h4] at h3; simp at h3
      have hm : i % 4 = 0 := by omega
      rw [Lib.occAt_iff_take _ _ _ (by rw [h3, show dayNames.length = 27 from rfl]; omega), h3, beq_iff_eq] at ho
      have hi' : i = 0 ∨ i = 4 ∨ i = 8 ∨ i = 12 ∨ i = 16 ∨ i = 20 ∨ i = 24 := by omega
      rcases hi' with rfl | rfl | rfl | rfl | rfl | rfl | rfl <;> (rw [← ho] at h; exact absurd h (by decide))
  · have hc : l = [109, 111, 110] ∨ l = [116, 117, 101] ∨ l = [119, 101, 100] ∨ l = [116, 104, 117] ∨ l = [102, 114, 105] ∨ l = [115, 97, 116] ∨ l = [115, 117, 110] := by
      unfold wkV at h
      grind
    rcases hc with rfl | rfl | rfl | rfl | rfl | rfl | rfl <;> decide
theorem wkV_bd (l : List UInt8) : 0 ≤ wkV l ∧ wkV l ≤ 7 := by unfold wkV; grind
theorem index_le (sub : List UInt8) : ∀ s : List UInt8, Lib.index s sub ≤ s.length
  | [] => by unfold Lib.index; split <;> simp
  | b :: l => by
    have := index_le sub l
    unfold Lib.index
    split
    · simp; omega
    · split <;> simp <;> omega
def nmB : List ByteArray := [⟨#[109, 111, 110]⟩, ⟨#[116, 117, 101]⟩, ⟨#[119, 101, 100]⟩, ⟨#[116, 104, 117]⟩, ⟨#[102, 114, 105]⟩, ⟨#[115, 97, 116]⟩, ⟨#[115, 117, 110]⟩]
theorem wk_hit (l : List UInt8) (k : Nat) (h : k < nmB.length) (he : nmB[k].data.toList = l) : wkV l = k + 1 := by
  have h7 : k < 7 := h
  have hc : k = 0 ∨ k = 1 ∨ k = 2 ∨ k = 3 ∨ k = 4 ∨ k = 5 ∨ k = 6 := by omega
  rcases hc with rfl | rfl | rfl | rfl | rfl | rfl | rfl <;> (subst he; simp only [nmB, List.getElem_cons_zero, List.getElem_cons_succ]; decide)
theorem wk_none (l : List UInt8) (h : ∀ (k : Nat) (h : k < nmB.length), nmB[k].data.toList ≠ l) : wkV l = 0 := by
  have h0 := h 0 (by decide)
  have h1 := h 1 (by decide)
  have h2 := h 2 (by decide)
  have h3 := h 3 (by decide)
  have h4 := h 4 (by decide)
  have h5 := h 5 (by decide)
  have h6 := h 6 (by decide)
  simp only [nmB, List.getElem_cons_zero, List.getElem_cons_succ, ne_eq] at h0 h1 h2 h3 h4 h5 h6
  unfold wkV
  grind

/-- A rule's day: kind, number, weekday, error. -/
def dayV (l : List UInt8) : Int × Int × Int × Int :=
  if l.take 5 = [108, 97, 115, 116, 45] then (if wkV (l.drop 5) = 0 then (0, 0, 0, 2) else (1, 0, wkV (l.drop 5), 0))
  else if 5 < l.length ∧ 0 < wkV (l.take 3) then
    (if (l.drop 3).take 2 = [62, 61] then (if numE (l.drop 5) 1 31 = 0 then (2, numV (l.drop 5) 1 31, wkV (l.take 3), 0) else (0, 0, 0, numE (l.drop 5) 1 31))
     else if (l.drop 3).take 2 = [60, 61] then (if numE (l.drop 5) 1 31 = 0 then (3, numV (l.drop 5) 1 31, wkV (l.take 3), 0) else (0, 0, 0, numE (l.drop 5) 1 31))
     else (0, 0, 0, 2))
  else if numE l 1 31 = 0 then (0, numV l 1 31, 0, 0) else (0, 0, 0, numE l 1 31)
theorem num_five (l : List UInt8) (h : l.length = 5) (hw : 0 < wkV (l.take 3)) : numE l 1 31 = 2 := by
  match l, h with
  | [a, b, c, d, e], _ =>
    have ha : a = 109 ∨ a = 116 ∨ a = 119 ∨ a = 102 ∨ a = 115 := by
      unfold wkV at hw
      simp only [List.take_succ_cons, List.take_zero, List.cons.injEq, and_true] at hw
      grind
    have hn : numOk [a, b, c, d, e] = false := by
      rcases ha with rfl | rfl | rfl | rfl | rfl <;> simp [numOk, numRest, numNeg, valL]
    rw [numE, hn]; rfl
end Go.Proofs.YtddgfffempgghaaDoor.X
