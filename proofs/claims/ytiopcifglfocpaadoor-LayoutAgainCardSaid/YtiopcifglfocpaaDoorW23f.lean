/- Chapter 23, walks: the reference's letter, may and item. Conditions: an item's text as long as a string may be. -/
import Derived.Test.YtiopcifglfocpaaDoorW23e
namespace Go.Proofs.YtiopcifglfocpaaDoor.X
open Go.RowKit Go.Maps
def letS : List UInt8 := [45, 89, 109, 100, 72, 77, 83, 102, 122, 106, 71, 86, 117, 45, 45, 73, 112, 90, 101]
/-- An item's letter; 0: it has none. -/
def letC (k n : Int) : Int :=
  if k = 13 then (if n = 3 then 98 else 66) else if k = 14 then (if n = 3 then 97 else 65) else if k < 1 ∨ 18 < k then 0 else ((letS.getD k.toNat 0).toNat : Int)
/-- Whether an item may be. -/
def mayB (k n : Int) (t : List UInt8) : Bool :=
  if k = 0 then !t.isEmpty && decide (n = 0) && plainL t
  else if k = 7 then t.isEmpty && decide (1 ≤ n) && decide (n ≤ 9)
  else if k = 13 ∨ k = 14 then t.isEmpty && (decide (n = 0) || decide (n = 3))
  else t.isEmpty && decide (n = 0) && decide (1 ≤ k) && decide (k ≤ 18)
set_option maxHeartbeats 1000000 in
theorem refLetter_any (k n : Int) (t : ByteArray) (w : World) :
    Calls Tryd.prog 41 #[.agg #[.int .i64 k, .int .i64 n, .string t]] w fun e w' => e = .returned (.int .u8 (letC k n)) ∧ Below w.heap.size w w' := by
  by_cases h13 : k = 13
  · subst h13
    by_cases hn : n = 3
    · subst hn
      go_enter Tryd.func41, Tryd.ntmps41
      go_wp2
      go_ret
      exact ⟨rfl, by repeat (first | exact Below.refl _ _ | refine Below.alloc ?_ (by simp <;> omega) _)⟩
    · have HV := Lib.hid (show letC 13 n = 66 by rw [letC, if_pos rfl, if_neg hn])
      have hn' : (n == 3) = false := by simpa using hn
      go_enter Tryd.func41, Tryd.ntmps41
      go_wp2
      go_ret
      exact ⟨by rw [HV.out]; rfl, by repeat (first | exact Below.refl _ _ | refine Below.alloc ?_ (by simp <;> omega) _)⟩
  · by_cases h14 : k = 14
    · subst h14
      by_cases hn : n = 3
      · subst hn
        go_enter Tryd.func41, Tryd.ntmps41
        go_wp2
        go_ret
        exact ⟨rfl, by repeat (first | exact Below.refl _ _ | refine Below.alloc ?_ (by simp <;> omega) _)⟩
      · have HV := Lib.hid (show letC 14 n = 65 by rw [letC, if_neg h13, if_pos rfl, if_neg hn])
        have hn' : (n == 3) = false := by simpa using hn
        go_enter Tryd.func41, Tryd.ntmps41
        go_wp2
        go_ret
        exact ⟨by rw [HV.out]; rfl, by repeat (first | exact Below.refl _ _ | refine Below.alloc ?_ (by simp <;> omega) _)⟩
    · have b13 : (k == 13) = false := by simpa using h13
      have b14 : (k == 14) = false := by simpa using h14
      by_cases hr : k < 1 ∨ 18 < k
      · have HV := Lib.hid (show letC k n = 0 by rw [letC, if_neg h13, if_neg h14, if_pos hr])
        by_cases h1 : k < 1
        · clear hr
          go_enter Tryd.func41, Tryd.ntmps41
          go_wp2
          go_ret
          exact ⟨by rw [HV.out]; rfl, by repeat (first | exact Below.refl _ _ | refine Below.alloc ?_ (by simp <;> omega) _)⟩
        · have h2 : k > 18 := by omega
          clear hr
          go_enter Tryd.func41, Tryd.ntmps41
          go_wp2
          go_ret
          exact ⟨by rw [HV.out]; rfl, by repeat (first | exact Below.refl _ _ | refine Below.alloc ?_ (by simp <;> omega) _)⟩
      · have HV := Lib.hid (show letC k n = ((letS.getD k.toNat 0).toNat : Int) by rw [letC, if_neg h13, if_neg h14, if_neg hr])
        rw [HV.out]
        clear HV
        have hk : k = 1 ∨ k = 2 ∨ k = 3 ∨ k = 4 ∨ k = 5 ∨ k = 6 ∨ k = 7 ∨ k = 8 ∨ k = 9 ∨ k = 10 ∨ k = 11 ∨ k = 12 ∨ k = 15 ∨ k = 16 ∨ k = 17 ∨ k = 18 := by omega
        clear hr h13 h14 b13 b14
        rcases hk with rfl | rfl | rfl | rfl | rfl | rfl | rfl | rfl | rfl | rfl | rfl | rfl | rfl | rfl | rfl | rfl
        all_goals
          go_enter Tryd.func41, Tryd.ntmps41
          go_wp2
          go_ret
          exact ⟨rfl, by repeat (first | exact Below.refl _ _ | refine Below.alloc ?_ (by simp <;> omega) _)⟩
theorem empty_test (t : ByteArray) (h : t.data.toList = []) : (t.toList == ([] : List UInt8)) = true ∧ t.toList.isEmpty = true ∧ (t.toList != ([] : List UInt8)) = false := by
  rw [Lib.toList_data, h]; exact ⟨rfl, rfl, rfl⟩
theorem cons_test (t : ByteArray) (h : t.data.toList ≠ []) : (t.toList == ([] : List UInt8)) = false ∧ t.toList.isEmpty = false ∧ (t.toList != ([] : List UInt8)) = true := by
  rw [Lib.toList_data]
  cases e : t.data.toList with
  | nil => exact absurd e h
  | cons a b => exact ⟨rfl, rfl, rfl⟩
def mayE (k n : Int) (t : List UInt8) : Int := if mayB k n t = true then 0 else 5
set_option maxHeartbeats 2000000 in
theorem refMay_any (k n : Int) (t : ByteArray) (w : World) (hs : t.size ≤ maxLen) :
    Calls Tryd.prog 31 #[.agg #[.int .i64 k, .int .i64 n, .string t]] w fun e w' => e = .returned (.int .i64 (mayE k n t.data.toList)) ∧ Below w.heap.size w w' := by
  by_cases ht : t.data.toList = []
  · obtain ⟨e1, e2, e3⟩ := empty_test t ht
    by_cases h0 : k = 0
    · subst h0
      have HV := Lib.hid (show mayE 0 n t.data.toList = 5 by rw [ht]; simp [mayE, mayB])
      clear ht
      go_enter Tryd.func31, Tryd.ntmps31
      go_wp2
      go_ret
      exact ⟨by rw [HV.out]; rfl, by repeat (first | exact Below.refl _ _ | refine Below.alloc ?_ (by simp <;> omega) _)⟩
    · have b0 : (k == 0) = false := by simpa using h0
      by_cases h7 : k = 7
      · subst h7
        by_cases n1 : 1 ≤ n
        · by_cases n9 : n ≤ 9
          · have HV := Lib.hid (show mayE 7 n t.data.toList = 0 by rw [ht]; simp [mayE, mayB, n1, n9])
            clear ht
            go_enter Tryd.func31, Tryd.ntmps31
            go_wp2
            go_ret
            exact ⟨by rw [HV.out]; rfl, by repeat (first | exact Below.refl _ _ | refine Below.alloc ?_ (by simp <;> omega) _)⟩
          · have HV := Lib.hid (show mayE 7 n t.data.toList = 5 by rw [ht]; simp [mayE, mayB, n1, n9])
            clear ht
            go_enter Tryd.func31, Tryd.ntmps31
            go_wp2
            go_ret
            exact ⟨by rw [HV.out]; rfl, by repeat (first | exact Below.refl _ _ | refine Below.alloc ?_ (by simp <;> omega) _)⟩
        · have HV := Lib.hid (show mayE 7 n t.data.toList = 5 by rw [ht]; simp [mayE, mayB, n1])
          clear ht
          go_enter Tryd.func31, Tryd.ntmps31
          go_wp2
          go_ret
          exact ⟨by rw [HV.out]; rfl, by repeat (first | exact Below.refl _ _ | refine Below.alloc ?_ (by simp <;> omega) _)⟩
      · have b7 : (k == 7) = false := by simpa using h7
        by_cases hz : n = 0
        · subst hz
          by_cases h13 : k = 13
          · subst h13
            have HV := Lib.hid (show mayE 13 0 t.data.toList = 0 by rw [ht]; simp [mayE, mayB])
            clear ht
            go_enter Tryd.func31, Tryd.ntmps31
            go_wp2
            go_ret
            exact ⟨by rw [HV.out]; rfl, by repeat (first | exact Below.refl _ _ | refine Below.alloc ?_ (by simp <;> omega) _)⟩
          · have b13 : (k == 13) = false := by simpa using h13
            by_cases h14 : k = 14
            · subst h14
              have HV := Lib.hid (show mayE 14 0 t.data.toList = 0 by rw [ht]; simp [mayE, mayB])
              clear ht
              go_enter Tryd.func31, Tryd.ntmps31
              go_wp2
              go_ret
              exact ⟨by rw [HV.out]; rfl, by repeat (first | exact Below.refl _ _ | refine Below.alloc ?_ (by simp <;> omega) _)⟩
            · have b14 : (k == 14) = false := by simpa using h14
              by_cases l0 : k < 0
              · have HV := Lib.hid (show mayE k 0 t.data.toList = 5 by rw [ht]; simp [mayE, mayB, h0, h7, h13, h14]; omega)
                clear ht
                go_enter Tryd.func31, Tryd.ntmps31
                go_wp2
                go_ret
                exact ⟨by rw [HV.out]; rfl, by repeat (first | exact Below.refl _ _ | refine Below.alloc ?_ (by simp <;> omega) _)⟩
              · by_cases l18 : k > 18
                · have HV := Lib.hid (show mayE k 0 t.data.toList = 5 by rw [ht]; simp [mayE, mayB, h0, h7, h13, h14]; omega)
                  clear ht
                  go_enter Tryd.func31, Tryd.ntmps31
                  go_wp2
                  go_ret
                  exact ⟨by rw [HV.out]; rfl, by repeat (first | exact Below.refl _ _ | refine Below.alloc ?_ (by simp <;> omega) _)⟩
                · have HV := Lib.hid (show mayE k 0 t.data.toList = 0 by rw [ht]; simp [mayE, mayB, h0, h7, h13, h14]; omega)
                  clear ht
                  go_enter Tryd.func31, Tryd.ntmps31
                  go_wp2
                  go_ret
                  exact ⟨by rw [HV.out]; rfl, by repeat (first | exact Below.refl _ _ | refine Below.alloc ?_ (by simp <;> omega) _)⟩
        · have bz : (n == 0) = false := by simpa using hz
          by_cases h13 : k = 13
          · subst h13
            by_cases n3 : n = 3
            · subst n3
              have HV := Lib.hid (show mayE 13 3 t.data.toList = 0 by rw [ht]; simp [mayE, mayB])
              clear ht
              go_enter Tryd.func31, Tryd.ntmps31
              go_wp2
              go_ret
              exact ⟨by rw [HV.out]; rfl, by repeat (first | exact Below.refl _ _ | refine Below.alloc ?_ (by simp <;> omega) _)⟩
            · have b3 : (n == 3) = false := by simpa using n3
              have HV := Lib.hid (show mayE 13 n t.data.toList = 5 by rw [ht]; simp [mayE, mayB, hz, n3])
              clear ht
              go_enter Tryd.func31, Tryd.ntmps31
              go_wp2
              go_ret
              exact ⟨by rw [HV.out]; rfl, by repeat (first | exact Below.refl _ _ | refine Below.alloc ?_ (by simp <;> omega) _)⟩
          · have b13 : (k == 13) = false := by simpa using h13
            by_cases h14 : k = 14
            · subst h14
              by_cases n3 : n = 3
              · subst n3
                have HV := Lib.hid (show mayE 14 3 t.data.toList = 0 by rw [ht]; simp [mayE, mayB])
                clear ht
                go_enter Tryd.func31, Tryd.ntmps31
                go_wp2
                go_ret
                exact ⟨by rw [HV.out]; rfl, by repeat (first | exact Below.refl _ _ | refine Below.alloc ?_ (by simp <;> omega) _)⟩
              · have b3 : (n == 3) = false := by simpa using n3
                have HV := Lib.hid (show mayE 14 n t.data.toList = 5 by rw [ht]; simp [mayE, mayB, hz, n3])
                clear ht
                go_enter Tryd.func31, Tryd.ntmps31
                go_wp2
                go_ret
                exact ⟨by rw [HV.out]; rfl, by repeat (first | exact Below.refl _ _ | refine Below.alloc ?_ (by simp <;> omega) _)⟩
            · have b14 : (k == 14) = false := by simpa using h14
              have HV := Lib.hid (show mayE k n t.data.toList = 5 by rw [ht]; simp [mayE, mayB, h0, h7, h13, h14, hz])
              clear ht
              go_enter Tryd.func31, Tryd.ntmps31
              go_wp2
              go_ret
              exact ⟨by rw [HV.out]; rfl, by repeat (first | exact Below.refl _ _ | refine Below.alloc ?_ (by simp <;> omega) _)⟩
  · obtain ⟨e1, e2, e3⟩ := cons_test t ht
    by_cases h0 : k = 0
    · subst h0
      by_cases hz : n = 0
      · subst hz
        cases hp : plainL t.data.toList
        · have HV := Lib.hid (show mayE 0 0 t.data.toList = 5 by simp [mayE, mayB, hp])
          clear ht
          go_enter Tryd.func31, Tryd.ntmps31
          go_wp2_with (go_at_call 27; refine (refPlain_any _ _ hs).mono ?_; rintro e w' ⟨rfl, rfl⟩; rw [hp])
          go_ret
          exact ⟨by rw [HV.out]; rfl, by repeat (first | exact Below.refl _ _ | refine Below.alloc ?_ (by simp <;> omega) _)⟩
        · have HV := Lib.hid (show mayE 0 0 t.data.toList = 0 by
            have : t.data.toList.isEmpty = false := by cases e : t.data.toList with | nil => exact absurd e ht | cons a b => rfl
            unfold mayE mayB
            rw [if_pos rfl, hp, this]; rfl)
          clear ht
          go_enter Tryd.func31, Tryd.ntmps31
          go_wp2_with (go_at_call 27; refine (refPlain_any _ _ hs).mono ?_; rintro e w' ⟨rfl, rfl⟩; rw [hp])
          go_ret
          exact ⟨by rw [HV.out]; rfl, by repeat (first | exact Below.refl _ _ | refine Below.alloc ?_ (by simp <;> omega) _)⟩
      · have bz : (n == 0) = false := by simpa using hz
        have HV := Lib.hid (show mayE 0 n t.data.toList = 5 by simp [mayE, mayB, hz])
        clear ht
        go_enter Tryd.func31, Tryd.ntmps31
        go_wp2
        go_ret
        exact ⟨by rw [HV.out]; rfl, by repeat (first | exact Below.refl _ _ | refine Below.alloc ?_ (by simp <;> omega) _)⟩
    · have b0 : (k == 0) = false := by simpa using h0
      have HV := Lib.hid (show mayE k n t.data.toList = 5 by
        have : t.data.toList.isEmpty = false := by cases e : t.data.toList with | nil => exact absurd e ht | cons a b => rfl
        unfold mayE mayB
        rw [if_neg h0, this]; simp)
      clear ht
      by_cases h7 : k = 7
      · subst h7
        go_enter Tryd.func31, Tryd.ntmps31
        go_wp2
        go_ret
        exact ⟨by rw [HV.out]; rfl, by repeat (first | exact Below.refl _ _ | refine Below.alloc ?_ (by simp <;> omega) _)⟩
      · have b7 : (k == 7) = false := by simpa using h7
        by_cases h13 : k = 13
        · subst h13
          go_enter Tryd.func31, Tryd.ntmps31
          go_wp2
          go_ret
          exact ⟨by rw [HV.out]; rfl, by repeat (first | exact Below.refl _ _ | refine Below.alloc ?_ (by simp <;> omega) _)⟩
        · have b13 : (k == 13) = false := by simpa using h13
          by_cases h14 : k = 14
          · subst h14
            go_enter Tryd.func31, Tryd.ntmps31
            go_wp2
            go_ret
            exact ⟨by rw [HV.out]; rfl, by repeat (first | exact Below.refl _ _ | refine Below.alloc ?_ (by simp <;> omega) _)⟩
          · have b14 : (k == 14) = false := by simpa using h14
            go_enter Tryd.func31, Tryd.ntmps31
            go_wp2
            go_ret
            exact ⟨by rw [HV.out]; rfl, by repeat (first | exact Below.refl _ _ | refine Below.alloc ?_ (by simp <;> omega) _)⟩
theorem item_fits : ∀ c : Fin 256, ∀ k : Fin 19, 1 ≤ k.val → ((k.val ≠ 7 ∧ mayE (k.val : Int) 0 [] = 0 ∧ letC (k.val : Int) 0 = (c.val : Int)) ↔ (itK c.val = (k.val : Int) ∧ itN c.val = 0)) ∧ ((k.val ≠ 7 ∧ mayE (k.val : Int) 3 [] = 0 ∧ letC (k.val : Int) 3 = (c.val : Int)) ↔ (itK c.val = (k.val : Int) ∧ itN c.val = 3)) := by decide +kernel
theorem itK_bd : ∀ c : Fin 256, 0 ≤ itK c.val ∧ itK c.val ≤ 18 ∧ (itN c.val = 0 ∨ itN c.val = 3) ∧ (itK c.val = 0 → itN c.val = 0) := by decide +kernel
end Go.Proofs.YtiopcifglfocpaaDoor.X
