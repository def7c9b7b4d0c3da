/- Chapter 23, walk: layout.one reads the item behind a percent sign. Condition: the map handed to it reads as the letters' one. -/
import Derived.Test.YtiopcifglfocpaaDoorW23b
namespace Go.Proofs.YtiopcifglfocpaaDoor.X
open Go.RowKit Go.Maps
/-- A letter's item: its kind (0: none), its number. -/
def itK (c : Nat) : Int :=
  if c = 89 then 1 else if c = 109 then 2 else if c = 100 then 3 else if c = 72 then 4 else if c = 77 then 5 else if c = 83 then 6 else if c = 122 then 8 else if c = 106 then 9
  else if c = 71 then 10 else if c = 86 then 11 else if c = 117 then 12 else if c = 66 ∨ c = 98 then 13 else if c = 65 ∨ c = 97 then 14 else if c = 73 then 15 else if c = 112 then 16
  else if c = 90 then 17 else if c = 101 then 18 else 0
def itN (c : Nat) : Int := if c = 97 ∨ c = 98 then 3 else 0
def chkD : DataW Unit → Int → Int → Bool
  | .agg [.lit (.int .i64 k), .lit (.int .i64 n), .lit (.string [])], k', n' => k == k' && n == n'
  | _, _, _ => false
theorem chkD_eq {d : DataW Unit} {k n : Int} (h : chkD d k n = true) : d = itemD k n [] := by
  unfold chkD at h
  split at h
  · simp at h; rw [h.1, h.2]; rfl
  · cases h
theorem let_has : ∀ c : Fin 256, Maps.has letD (.int .u8 (c.val : Int)) = (itK c.val != 0) ∧ chkD (letD.atKey (.int .u8 (c.val : Int)) (itemD 0 0 [])) (itK c.val) (itN c.val) = true := by decide +kernel
theorem lookHas (c : UInt8) : Maps.has letD (.int .u8 (c.toNat : Int)) = (itK c.toNat != 0) := (let_has ⟨c.toNat, c.toNat_lt⟩).1
theorem lookAt (c : UInt8) : letD.atKey (.int .u8 (c.toNat : Int)) (itemD 0 0 []) = itemD (itK c.toNat) (itN c.toNat) [] := chkD_eq (let_has ⟨c.toNat, c.toNat_lt⟩).2
/-- What stands behind a percent sign: kind, number, how many bytes. -/
def oneV : List UInt8 → Int × Int × Int
  | [] => (0, 0, 0)
  | c :: r => if itK c.toNat ≠ 0 then (itK c.toNat, itN c.toNat, 1)
    else if (49 ≤ c.toNat ∧ c.toNat ≤ 57) ∧ r.take 1 = [102] then (7, (c.toNat : Int) - 48, 2) else (0, 0, 0)
theorem zeroItem (w : World) : (zeroValue 32).run Tryd.prog w = .ok (itemV 0 0 ⟨#[]⟩) w := by kernel_rfl
theorem prefF (s : ByteArray) (w : World) :
    Calls Tryd.prog 25 #[.string s, .string ⟨#[102]⟩] w fun e w' => e = .returned (.bool (decide (s.data.toList.take 1 = [102]))) ∧ w = w' := by
  refine (Tryd.strings_HasPrefix s ⟨#[102]⟩ w).mono ?_
  rintro e w' ⟨rfl, rfl⟩
  refine ⟨?_, rfl⟩
  congr 2
  match s.data.toList with
  | [] => rfl
  | x :: r =>
    simp only [Lib.hasPrefix, List.isPrefixOf, Bool.and_true, List.take_succ_cons, List.take_zero, List.cons.injEq, and_true]
    by_cases h : x = 102
    · subst h; rfl
    · rw [decide_eq_false h, beq_eq_false_iff_ne]; exact fun e => h e.symm
theorem head_cons (s : ByteArray) (h : 0 < s.size) : s.data.toList = s[0] :: (s.extract 1 s.size).data.toList := by
  have hl : s.data.toList.length = s.size := by rw [Array.length_toList]; rfl
  have h1 := List.drop_eq_getElem_cons (l := s.data.toList) (i := 0) (by omega)
  rw [List.drop_zero] at h1
  rw [h1, Array.getElem_toList]
  congr 1
  rw [Lib.extract_to_end]
/-- The map's answer at a letter. -/
theorem look_eq (B : Nat) (c : UInt8) (w : World) (hown : w.ownsMap Tryd.prog 5 itemR B 30 letD) :
    (Instr.lookup 42 (.map (some B)) (.int .u8 (c.toNat : Int)) true).run Tryd.prog w = .ok (.tuple #[itemV (itK c.toNat) (itN c.toNat) ⟨#[]⟩, .bool (itK c.toNat != 0)]) w := by
  obtain ⟨v, ps, hrun, hv⟩ := hown.look_ok law8 Tryd.underlying42 (zeroItem w) (itemR_mk 0 0 ⟨#[]⟩) (key8 (c.toNat : Int) (by omega) (by have := c.toNat_lt; omega))
  rw [show (⟨#[]⟩ : ByteArray).data.toList = [] from rfl, lookAt] at hv
  obtain rfl := itemR_eq (t := ⟨#[]⟩) hv
  rw [hrun, lookHas]
set_option maxHeartbeats 1000000 in
theorem one_any (s : ByteArray) (B : Nat) (w : World) (hs : s.size ≤ maxLen) (hown : w.ownsMap Tryd.prog 5 itemR B 30 letD) :
    Calls Tryd.prog 26 #[.string s, .map (some B)] w fun e w' =>
      e = .returned (.tuple #[itemV (oneV s.data.toList).1 (oneV s.data.toList).2.1 ⟨#[]⟩, .int .i64 (oneV s.data.toList).2.2]) ∧ Below w.heap.size w w' := by
  unfold maxLen at hs
  by_cases h0 : 0 < s.size
  · have hc := head_cons s h0
    have hl := look_eq B s[0] _ (hown.alloc (.cells #[.int .i64 0, .int .i64 0, .string ⟨#[]⟩] 32))
    have C1 := Lib.hid (fun W => prefF (s.extract 1 s.size) W)
    have hE : (s.toList == ([] : List UInt8)) = false := by rw [Lib.toList_data, hc]; rfl
    have hE' : s.toList.isEmpty = false := by rw [Lib.toList_data, hc]; rfl
    simp only [itemV] at hl
    by_cases hk : itK s[0].toNat = 0
    · have hk' : (itK s[0].toNat != 0) = false := by rw [hk]; rfl
      rw [hk'] at hl
      by_cases hd : 49 ≤ s[0].toNat ∧ s[0].toNat ≤ 57
      · by_cases hf : (s.extract 1 s.size).data.toList.take 1 = [102]
        · rw [decide_eq_true hf] at C1
          have HV := Lib.hid (show oneV s.data.toList = ((7 : Int), (s[0].toNat : Int) - 48, (2 : Int)) by rw [hc, oneV, if_neg (by simp [hk]), if_pos ⟨hd, hf⟩])
          clear hc hf hk hk'
          obtain ⟨d1, d2⟩ := hd
          have hw8 : IntKind.u8.wrap ((s[0].toNat : Int) - 48) = (s[0].toNat : Int) - 48 := by rw [IntKind.wrap_u8]; omega
          go_enter Tryd.func26, Tryd.ntmps26
          go_wp2_with (go_at_call 25; refine (C1.out _).mono ?_; rintro e w' ⟨rfl, rfl⟩)
          refine bodyPost_ret (v := .tuple #[.agg #[.int .i64 (7), .int .i64 ((s[0].toNat : Int) - 48), .string ⟨#[]⟩], .int .i64 2]) (by simp [results, Tryd.results26, go_sem]) rfl ⟨?_, by repeat (first | exact Below.refl _ _ | refine Below.setCell ?_ (by simp) _ | refine Below.alloc ?_ (by simp <;> omega) _)⟩
          rw [HV.out]
          rfl
        · rw [decide_eq_false hf] at C1
          have HV := Lib.hid (show oneV s.data.toList = ((0 : Int), (0 : Int), (0 : Int)) by rw [hc, oneV, if_neg (by simp [hk]), if_neg (fun h => hf h.2)])
          clear hc hf hk hk'
          obtain ⟨d1, d2⟩ := hd
          go_enter Tryd.func26, Tryd.ntmps26
          go_wp2_with (go_at_call 25; refine (C1.out _).mono ?_; rintro e w' ⟨rfl, rfl⟩)
          refine bodyPost_ret (v := .tuple #[.agg #[.int .i64 (0), .int .i64 (0), .string ⟨#[]⟩], .int .i64 0]) (by simp [results, Tryd.results26, go_sem]) rfl ⟨?_, by repeat (first | exact Below.refl _ _ | refine Below.setCell ?_ (by simp) _ | refine Below.alloc ?_ (by simp <;> omega) _)⟩
          rw [HV.out]
          rfl
      · have HV := Lib.hid (show oneV s.data.toList = ((0 : Int), (0 : Int), (0 : Int)) by rw [hc, oneV, if_neg (by simp [hk]), if_neg (fun h => hd h.1)])
        clear hc hk hk'
        by_cases d1 : 49 ≤ s[0].toNat
        · have d2 : 57 < s[0].toNat := by omega
          clear hd
          go_enter Tryd.func26, Tryd.ntmps26
          go_wp2
          refine bodyPost_ret (v := .tuple #[.agg #[.int .i64 (0), .int .i64 (0), .string ⟨#[]⟩], .int .i64 0]) (by simp [results, Tryd.results26, go_sem]) rfl ⟨?_, by repeat (first | exact Below.refl _ _ | refine Below.setCell ?_ (by simp) _ | refine Below.alloc ?_ (by simp <;> omega) _)⟩
          rw [HV.out]
          rfl
        · clear hd
          go_enter Tryd.func26, Tryd.ntmps26
          go_wp2
          refine bodyPost_ret (v := .tuple #[.agg #[.int .i64 (0), .int .i64 (0), .string ⟨#[]⟩], .int .i64 0]) (by simp [results, Tryd.results26, go_sem]) rfl ⟨?_, by repeat (first | exact Below.refl _ _ | refine Below.setCell ?_ (by simp) _ | refine Below.alloc ?_ (by simp <;> omega) _)⟩
          rw [HV.out]
          rfl
    · have hk' : (itK s[0].toNat != 0) = true := by simpa using hk
      rw [hk'] at hl
      have HV := Lib.hid (show oneV s.data.toList = (itK s[0].toNat, itN s[0].toNat, (1 : Int)) by rw [hc, oneV, if_pos hk])
      clear hc hk hk'
      go_enter Tryd.func26, Tryd.ntmps26
      go_wp2
      refine bodyPost_ret (v := .tuple #[.agg #[.int .i64 (itK s[0].toNat), .int .i64 (itN s[0].toNat), .string ⟨#[]⟩], .int .i64 1]) (by simp [results, Tryd.results26, go_sem]) rfl ⟨?_, by repeat (first | exact Below.refl _ _ | refine Below.setCell ?_ (by simp) _ | refine Below.alloc ?_ (by simp <;> omega) _)⟩
      rw [HV.out]
      rfl
  · have hn : s.data.toList = [] := List.eq_nil_of_length_eq_zero (by rw [Array.length_toList]; exact Nat.eq_zero_of_not_pos h0)
    have hE : (s.toList == ([] : List UInt8)) = true := by rw [Lib.toList_data, hn]; rfl
    have hE' : s.toList.isEmpty = true := by rw [Lib.toList_data, hn]; rfl
    have HV := Lib.hid (show oneV s.data.toList = ((0 : Int), (0 : Int), (0 : Int)) by rw [hn]; rfl)
    clear hn
    go_enter Tryd.func26, Tryd.ntmps26
    go_wp2
    refine bodyPost_ret (v := .tuple #[.agg #[.int .i64 (0), .int .i64 (0), .string ⟨#[]⟩], .int .i64 0]) (by simp [results, Tryd.results26, go_sem]) rfl ⟨?_, by repeat (first | exact Below.refl _ _ | refine Below.setCell ?_ (by simp) _ | refine Below.alloc ?_ (by simp <;> omega) _)⟩
    rw [HV.out]
    rfl
end Go.Proofs.YtiopcifglfocpaaDoor.X
