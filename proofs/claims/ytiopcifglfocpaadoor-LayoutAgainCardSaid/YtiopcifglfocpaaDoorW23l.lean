/- Chapter 23, walk: layout.May tells whether an item may be. Condition: an item's text as long as a string may be. -/
import Derived.Test.YtiopcifglfocpaaDoorW23k
namespace Go.Proofs.YtiopcifglfocpaaDoor.X
open Go.RowKit Go.Maps
theorem letC_pos : ∀ k : Fin 19, ∀ n : Fin 4, (k.val ≠ 7 ∧ mayB (k.val : Int) (n.val : Int) [] = true ∧ 1 ≤ k.val) → letC (k.val : Int) (n.val : Int) ≠ 0 := by decide +kernel
theorem may_lett (k n : Int) (t : List UInt8) (h0 : k ≠ 0) (h7 : k ≠ 7) : (lettV k n t != 0) = mayB k n t := by
  by_cases ht : t = []
  · subst ht
    by_cases hm : mayB k n [] = true
    · by_cases h1 : 1 ≤ k
      · obtain ⟨b1, b2, b3⟩ := may_bd k n ⟨h7, hm, h1⟩
        have hk : (((⟨k.toNat, by omega⟩ : Fin 19).val : Nat) : Int) = k := by show ((k.toNat : Nat) : Int) = k; omega
        have hn : (((⟨n.toNat, by omega⟩ : Fin 4).val : Nat) : Int) = n := by show ((n.toNat : Nat) : Int) = n; omega
        have hf := letC_pos ⟨k.toNat, by omega⟩ ⟨n.toNat, by omega⟩ ⟨by show k.toNat ≠ 7; omega, by rw [hk, hn]; exact hm, by show 1 ≤ k.toNat; omega⟩
        rw [hk, hn] at hf
        rw [lettV, if_pos ⟨rfl, h7, hm, h1⟩, hm, bne_iff_ne]
        exact hf
      · exfalso
        unfold mayB at hm
        rw [if_neg h0, if_neg h7, if_neg (by omega)] at hm
        simp at hm
        omega
    · rw [lettV, if_neg (fun h => hm h.2.2.1)]
      simpa using hm
  · rw [lettV, if_neg (fun h => ht h.1)]
    have : t.isEmpty = false := by cases t with | nil => exact absurd rfl ht | cons a b => rfl
    unfold mayB
    rw [if_neg h0, if_neg h7, this]
    simp
set_option maxHeartbeats 2000000 in
theorem may_any (k n : Int) (t : ByteArray) (w : World) (_hs : t.size ≤ maxLen) :
    Calls Tryd.prog 29 #[.agg #[.int .i64 k, .int .i64 n, .string t]] w fun e w' => e = .returned (.bool (mayB k n t.data.toList)) ∧ Below w.heap.size w w' := by
  by_cases h0 : k = 0
  · subst h0
    by_cases ht : t.data.toList = []
    · obtain ⟨e1, e2, e3⟩ := empty_test t ht
      have HV := Lib.hid (show mayB 0 n t.data.toList = false by rw [ht]; simp [mayB])
      clear ht
      go_enter Tryd.func29, Tryd.ntmps29
      go_wp2
      go_ret
      exact ⟨by rw [HV.out]; rfl, by repeat (first | exact Below.refl _ _ | refine Below.alloc ?_ (by simp <;> omega) _)⟩
    · obtain ⟨e1, e2, e3⟩ := cons_test t ht
      by_cases hz : n = 0
      · subst hz
        have HV := Lib.hid (show mayB 0 0 t.data.toList = plainL t.data.toList by
          have : t.data.toList.isEmpty = false := by cases e : t.data.toList with | nil => exact absurd e ht | cons a b => rfl
          unfold mayB
          rw [if_pos rfl, this]; simp)
        clear ht
        go_enter Tryd.func29, Tryd.ntmps29
        go_wp2_with fail
        refine (plain_any _ _).mono ?_
        rintro e w1 ⟨rfl, hb1⟩
        have hB := (below_one w (.cells #[.int .i64 0, .int .i64 0, .string t] 32)).trans (hb1.mono (by simp))
        go_wp2
        go_ret
        exact ⟨by rw [HV.out]; rfl, hB⟩
      · have bz : (n == 0) = false := by simpa using hz
        have HV := Lib.hid (show mayB 0 n t.data.toList = false by simp [mayB, hz])
        clear ht
        go_enter Tryd.func29, Tryd.ntmps29
        go_wp2
        go_ret
        exact ⟨by rw [HV.out]; rfl, by repeat (first | exact Below.refl _ _ | refine Below.alloc ?_ (by simp <;> omega) _)⟩
  · have b0 : (k == 0) = false := by simpa using h0
    by_cases h7 : k = 7
    · subst h7
      by_cases ht : t.data.toList = []
      · obtain ⟨e1, e2, e3⟩ := empty_test t ht
        by_cases n1 : 1 ≤ n
        · by_cases n9 : n ≤ 9
          · have HV := Lib.hid (show mayB 7 n t.data.toList = true by rw [ht]; simp [mayB, n1, n9])
            clear ht
            go_enter Tryd.func29, Tryd.ntmps29
            go_wp2
            go_ret
            exact ⟨by rw [HV.out]; rfl, by repeat (first | exact Below.refl _ _ | refine Below.alloc ?_ (by simp <;> omega) _)⟩
          · have HV := Lib.hid (show mayB 7 n t.data.toList = false by rw [ht]; simp [mayB, n9])
            clear ht
            go_enter Tryd.func29, Tryd.ntmps29
            go_wp2
            go_ret
            exact ⟨by rw [HV.out]; rfl, by repeat (first | exact Below.refl _ _ | refine Below.alloc ?_ (by simp <;> omega) _)⟩
        · have HV := Lib.hid (show mayB 7 n t.data.toList = false by rw [ht]; simp [mayB, n1])
          clear ht
          go_enter Tryd.func29, Tryd.ntmps29
          go_wp2
          go_ret
          exact ⟨by rw [HV.out]; rfl, by repeat (first | exact Below.refl _ _ | refine Below.alloc ?_ (by simp <;> omega) _)⟩
      · obtain ⟨e1, e2, e3⟩ := cons_test t ht
        have HV := Lib.hid (show mayB 7 n t.data.toList = false by
          have : t.data.toList.isEmpty = false := by cases e : t.data.toList with | nil => exact absurd e ht | cons a b => rfl
          unfold mayB
          rw [if_neg (by decide), if_pos rfl, this]; simp)
        clear ht
        go_enter Tryd.func29, Tryd.ntmps29
        go_wp2
        go_ret
        exact ⟨by rw [HV.out]; rfl, by repeat (first | exact Below.refl _ _ | refine Below.alloc ?_ (by simp <;> omega) _)⟩
    · have b7 : (k == 7) = false := by simpa using h7
      have HV := Lib.hid (may_lett k n t.data.toList h0 h7)
      go_enter Tryd.func29, Tryd.ntmps29
      go_wp2_with fail
      refine (letter_any _ _ _ _).mono ?_
      rintro e w1 ⟨rfl, hb1⟩
      have hB := (below_one w (.cells #[.int .i64 k, .int .i64 n, .string t] 32)).trans (hb1.mono (by simp))
      go_wp2
      go_ret
      exact ⟨by rw [← HV.out]; rfl, hB⟩
end Go.Proofs.YtiopcifglfocpaaDoor.X
