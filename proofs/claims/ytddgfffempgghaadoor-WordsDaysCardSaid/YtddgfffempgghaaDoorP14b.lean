/- Plain laws: a text cut at colons; hours, minutes, seconds. -/
import Derived.Lib.SplitLaws
import Derived.Test.YtddgfffempgghaaDoorP14
namespace Go.Proofs.YtddgfffempgghaaDoor.X

/-- A text cut at each c. -/
def spC (c : UInt8) : List UInt8 → List (List UInt8)
  | [] => [[]]
  | x :: xs => if x = c then [] :: spC c xs else (x :: (spC c xs).headD []) :: (spC c xs).tail
theorem spC_ne (c : UInt8) (l : List UInt8) : spC c l ≠ [] := by
  cases l with
  | nil => simp [spC]
  | cons x xs => rw [spC]; split <;> simp
theorem splitK_one (c : UInt8) : ∀ (n : Nat) (l : List UInt8), l.length ≤ n → Lib.splitK [c] 0 (Lib.count l [c]) l = spC c l := by
  intro n
  induction n with
  | zero =>
    intro l h
    obtain rfl : l = [] := List.length_eq_zero_iff.1 (by omega)
    rfl
  | succ n ih =>
    intro l h
    cases l with
    | nil => rfl
    | cons x xs =>
      by_cases hx : x = c
      · subst hx
        rw [Lib.count_cons_eq, Nat.add_comm, Lib.splitK, spC, if_pos rfl, Lib.index_one]
        simp only [Lib.indexByte, beq_self_eq_true, if_true]
        rw [if_neg (by decide)]
        simp only [Int.toNat_zero, Nat.add_zero, List.take_zero, Nat.zero_add, List.length_singleton, List.drop_succ_cons, List.drop_zero]
        rw [ih xs (by simp at h; omega)]
      · rw [Lib.count_cons_ne x c xs hx, spC, if_neg hx]
        have h1 := ih xs (by simp at h; omega)
        rw [← h1]
        cases hk : Lib.count xs [c] with
        | zero => rfl
        | succ k =>
          rw [Lib.splitK, Lib.splitK, Lib.index_one, Lib.index_one]
          have hge := Lib.indexByte_ge xs c
          have hxc : (x == c) = false := by simpa using hx
          by_cases hm : Lib.indexByte xs c = -1
          · simp [Lib.indexByte, hxc, hm]
          · have hi : Lib.indexByte (x :: xs) c = Lib.indexByte xs c + 1 := by
              rw [Lib.indexByte, hxc]; simp [hm]
            have e1 : (Lib.indexByte xs c + 1 == -1) = false := by simp; omega
            have e2 : (Lib.indexByte xs c == -1) = false := by simp; omega
            have e3 : (Lib.indexByte xs c + 1).toNat = (Lib.indexByte xs c).toNat + 1 := by omega
            rw [hi, e1, e2, e3]
            simp
theorem spC_cases (c : UInt8) (l : List UInt8) : (c ∉ l ∧ spC c l = [l]) ∨ ∃ p q, l = p ++ c :: q ∧ c ∉ p ∧ spC c l = p :: spC c q := by
  induction l with
  | nil => exact .inl ⟨by simp, rfl⟩
  | cons x xs ih =>
    by_cases hx : x = c
    · subst hx
      exact .inr ⟨[], xs, rfl, by simp, by rw [spC, if_pos rfl]⟩
    · rcases ih with ⟨h1, h2⟩ | ⟨p, q, h1, h2, h3⟩
      · exact .inl ⟨by simp [h1, Ne.symm hx], by rw [spC, if_neg hx, h2]; rfl⟩
      · exact .inr ⟨x :: p, q, by rw [h1]; rfl, by simp [h2, Ne.symm hx], by rw [spC, if_neg hx, h3]; rfl⟩
theorem spC_len (c : UInt8) (n : Nat) : ∀ l : List UInt8, l.length ≤ n → ∀ p ∈ spC c l, p.length ≤ n := by
  induction n with
  | zero =>
    intro l h p hp
    obtain rfl : l = [] := List.length_eq_zero_iff.1 (by omega)
    simp [spC] at hp
    simp [hp]
  | succ n ih =>
    intro l h p hp
    rcases spC_cases c l with ⟨_, h1⟩ | ⟨q, r, h1, _, h3⟩
    · rw [h1] at hp
      simp at hp
      rw [hp]; exact h
    · rw [h3] at hp
      have hl : l.length = q.length + r.length + 1 := by rw [h1]; simp; omega
      rcases List.mem_cons.1 hp with h4 | h4
      · rw [h4]; omega
      · have := ih r (by omega) p h4
        omega

/-- words.clockOf's loop over the parts. -/
def clkL : List (List UInt8) → Nat → Int → Int
  | [], _, n => n
  | p :: ps, i, n => if p.length ≠ 2 ∨ valL p 0 < 0 ∨ 0 < i ∧ 59 < valL p 0 then -1 else clkL ps (i + 1) (n * 60 + valL p 0)
def clkV (l : List UInt8) : Int :=
  if (spC 58 l).length ≠ 2 ∧ (spC 58 l).length ≠ 3 then -1
  else if clkL (spC 58 l) 0 0 < 0 then -1 else if (spC 58 l).length = 2 then clkL (spC 58 l) 0 0 * 60 else clkL (spC 58 l) 0 0
/-- The reference's hms. -/
def hmsV (l : List UInt8) : Int :=
  match l with
  | [a, b, x, c, d] => if x = 58 ∧ 0 ≤ valL [a, b] 0 ∧ 0 ≤ valL [c, d] 0 ∧ valL [c, d] 0 ≤ 59 then 3600 * valL [a, b] 0 + 60 * valL [c, d] 0 else -1
  | [a, b, x, c, d, y, e, f] => if x = 58 ∧ y = 58 ∧ 0 ≤ valL [a, b] 0 ∧ 0 ≤ valL [c, d] 0 ∧ 0 ≤ valL [e, f] 0 ∧ valL [c, d] 0 ≤ 59 ∧ valL [e, f] 0 ≤ 59 then 3600 * valL [a, b] 0 + 60 * valL [c, d] 0 + valL [e, f] 0 else -1
  | _ => -1
theorem valL_two (a b : UInt8) : valL [a, b] 0 = if 48 ≤ (a.toNat : Int) ∧ (a.toNat : Int) ≤ 57 ∧ 48 ≤ (b.toNat : Int) ∧ (b.toNat : Int) ≤ 57 then ((a.toNat : Int) - 48) * 10 + ((b.toNat : Int) - 48) else -1 := by
  simp only [valL]
  grind
theorem ne_colon (a b : UInt8) (h : 0 ≤ valL [a, b] 0) : a ≠ 58 ∧ b ≠ 58 := by
  rw [valL_two] at h
  split at h
  · rename_i hc
    constructor
    · rintro rfl; simp at hc
    · rintro rfl; simp at hc
  · omega
theorem spC_two (c a b : UInt8) (r : List UInt8) (ha : a ≠ c) (hb : b ≠ c) : spC c (a :: b :: r) = (a :: b :: (spC c r).headD []) :: (spC c r).tail := by
  rw [spC, if_neg ha, spC, if_neg hb]; rfl
theorem two_of {α : Type} (l : List α) (h : l.length = 2) : ∃ a b, l = [a, b] := by
  match l, h with
  | [a, b], _ => exact ⟨a, b, rfl⟩
theorem clk_hms (l : List UInt8) : clkV l = hmsV l := by
  by_cases h : clkV l = -1
  · rw [h]
    by_cases h2 : hmsV l = -1
    · rw [h2]
    · exfalso
      unfold hmsV at h2
      split at h2
      · rename_i a b x c d
        split at h2
        · rename_i hc
          obtain ⟨rfl, h3, h4, h5⟩ := hc
          have e1 := ne_colon _ _ h3
          have e2 := ne_colon _ _ h4
          have : spC 58 [a, b, 58, c, d] = [[a, b], [c, d]] := by
            rw [spC_two _ _ _ _ e1.1 e1.2, spC, if_pos rfl, spC_two _ _ _ _ e2.1 e2.2]; rfl
          rw [clkV, this] at h
          simp only [clkL] at h
          grind
        · exact h2 rfl
      · rename_i a b x c d y e f
        split at h2
        · rename_i hc
          obtain ⟨rfl, rfl, h3, h4, h5, h6, h7⟩ := hc
          have e1 := ne_colon _ _ h3
          have e2 := ne_colon _ _ h4
          have e3 := ne_colon _ _ h5
          have : spC 58 [a, b, 58, c, d, 58, e, f] = [[a, b], [c, d], [e, f]] := by
            rw [spC_two _ _ _ _ e1.1 e1.2, spC, if_pos rfl, spC_two _ _ _ _ e2.1 e2.2, spC, if_pos rfl, spC_two _ _ _ _ e3.1 e3.2]; rfl
          rw [clkV, this] at h
          simp only [clkL] at h
          grind
        · exact h2 rfl
      · exact h2 rfl
  · unfold clkV at h ⊢
    rcases spC_cases 58 l with ⟨_, h1⟩ | ⟨p, q, h1, h2, h3⟩
    · rw [h1] at h; simp at h
    · rw [h3] at h ⊢
      rcases spC_cases 58 q with ⟨_, k1⟩ | ⟨p2, q2, k1, k2, k3⟩
      · rw [k1] at h ⊢
        simp only [clkL, List.length_cons, List.length_nil] at h ⊢
        by_cases hp : p.length = 2
        · by_cases hq : q.length = 2
          · obtain ⟨a, b, rfl⟩ := two_of p hp
            obtain ⟨c, d, rfl⟩ := two_of q hq
            rw [h1]
            simp only [List.cons_append, List.nil_append, hmsV]
            grind
          · grind
        · grind
      · rw [k3] at h ⊢
        rcases spC_cases 58 q2 with ⟨_, m1⟩ | ⟨p3, q3, m1, m2, m3⟩
        · rw [m1] at h ⊢
          simp only [clkL, List.length_cons, List.length_nil] at h ⊢
          by_cases hp : p.length = 2
          · by_cases hq : p2.length = 2
            · by_cases hr : q2.length = 2
              · obtain ⟨a, b, rfl⟩ := two_of p hp
                obtain ⟨c, d, rfl⟩ := two_of p2 hq
                obtain ⟨e, f, rfl⟩ := two_of q2 hr
                rw [h1, k1]
                simp only [List.cons_append, List.nil_append, hmsV]
                grind
              · grind
            · grind
          · grind
        · exfalso
          rw [m3] at h
          have := List.length_pos_iff.2 (spC_ne 58 q3)
          simp only [List.length_cons] at h
          rw [if_pos (by omega)] at h
          exact h rfl
theorem hmsV_bd (l : List UInt8) : -1 ≤ hmsV l ∧ hmsV l ≤ 360000 := by
  unfold hmsV
  split
  · split
    · simp only [valL_two] at *; grind
    · omega
  · split
    · simp only [valL_two] at *; grind
    · omega
  · omega
/-- An offset's text; a time's. -/
def offV (l : List UInt8) : Int × Int :=
  match l with
  | [] => (0, 2)
  | c :: r => if c ≠ 43 ∧ c ≠ 45 then (0, 2) else if hmsV r < 0 ∨ hmsV r = 0 ∧ c = 45 then (0, 2) else if 64800 < hmsV r then (0, 8) else (if c = 45 then - hmsV r else hmsV r, 0)
def timeV (l : List UInt8) : Int × Int := if hmsV l < 0 then (0, 2) else if 86400 < hmsV l then (0, 8) else (hmsV l, 0)
theorem offV_runs (l : List UInt8) (c n : Int) (hl : l ≠ []) (hc : c = ((l.headD 0).toNat : Int)) (hn : n = hmsV l.tail) :
    offV l = if c ≠ 43 ∧ c ≠ 45 then (0, 2) else if n < 0 ∨ n = 0 ∧ c = 45 then (0, 2) else if 64800 < n then (0, 8) else (if c = 45 then -n else n, 0) := by
  cases l with
  | nil => exact absurd rfl hl
  | cons d r =>
    simp only [List.headD_cons, List.tail_cons] at hc hn
    have e1 : d = 43 ↔ c = 43 := by rw [hc, ← UInt8.toNat_inj]; simp; omega
    have e2 : d = 45 ↔ c = 45 := by rw [hc, ← UInt8.toNat_inj]; simp; omega
    rw [offV, ← hn]
    simp only [ne_eq, e1, e2]
theorem hms_five (l : List UInt8) (h : l.length = 5) : hmsV l = if (l.getD 2 0) = 58 ∧ 0 ≤ valL ((l.drop 0).take 2) 0 ∧ 0 ≤ valL ((l.drop 3).take 2) 0 ∧ valL ((l.drop 3).take 2) 0 ≤ 59 then 3600 * valL ((l.drop 0).take 2) 0 + 60 * valL ((l.drop 3).take 2) 0 else -1 := by
  match l, h with
  | [a, b, x, c, d], _ => rfl
theorem hms_eight (l : List UInt8) (h : l.length = 8) : hmsV l = if (l.getD 2 0) = 58 ∧ (l.getD 5 0) = 58 ∧ 0 ≤ valL ((l.drop 0).take 2) 0 ∧ 0 ≤ valL ((l.drop 3).take 2) 0 ∧ 0 ≤ valL ((l.drop 6).take 2) 0 ∧ valL ((l.drop 3).take 2) 0 ≤ 59 ∧ valL ((l.drop 6).take 2) 0 ≤ 59 then 3600 * valL ((l.drop 0).take 2) 0 + 60 * valL ((l.drop 3).take 2) 0 + valL ((l.drop 6).take 2) 0 else -1 := by
  match l, h with
  | [a, b, x, c, d, y, e, f], _ => rfl
theorem hms_else (l : List UInt8) (h : l.length ≠ 5) (h' : l.length ≠ 8) : hmsV l = -1 := by
  unfold hmsV
  split
  · simp at h
  · simp at h'
  · rfl
theorem take_two_bd (l : List UInt8) (a : Nat) : -1 ≤ valL ((l.drop a).take 2) 0 ∧ valL ((l.drop a).take 2) 0 ≤ 99 := by
  have h1 := valL_bd ((l.drop a).take 2) 0 (by omega)
  have h2 := valL_lt ((l.drop a).take 2) 0 0 (by omega) (by decide)
  have h3 : ((l.drop a).take 2).length ≤ 2 := List.length_take_le _ _
  have h4 : 10 ^ (((l.drop a).take 2).length + 0) ≤ 10 ^ 2 := Nat.pow_le_pow_right (by omega) (by omega)
  omega

end Go.Proofs.YtddgfffempgghaaDoor.X
