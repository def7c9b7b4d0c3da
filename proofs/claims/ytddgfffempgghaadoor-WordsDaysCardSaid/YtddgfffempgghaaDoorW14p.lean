/- The walks through letters and names. -/
import Derived.Test.YtddgfffempgghaaDoorW14a
namespace Go.Proofs.YtddgfffempgghaaDoor.X
open Go.RowKit

theorem ret_boolp {a b : Bool} (h : a = b) : Ending.returned (.bool a) = .returned (.bool b) := by rw [h]
def letterB (c : UInt8) : Bool := decide (97 ≤ c.toNat ∧ c.toNat ≤ 122 ∨ 65 ≤ c.toNat ∧ c.toNat ≤ 90)
def ofV (more l : List UInt8) : Bool := l.all fun c => letterB c || decide (0 ≤ Lib.indexByte more c)
theorem letter_all : ∀ n : Fin 256, decide (97 ≤ n.val ∧ n.val ≤ 122 ∨ 65 ≤ n.val ∧ n.val ≤ 90) = decide (97 ≤ bits BinOp.or IntKind.u8 (n.val : Int) 32 ∧ bits BinOp.or IntKind.u8 (n.val : Int) 32 ≤ 122) := by decide +kernel
theorem letter_bits (c : UInt8) : letterB c = decide (97 ≤ bits BinOp.or IntKind.u8 (c.toNat : Int) 32 ∧ bits BinOp.or IntKind.u8 (c.toNat : Int) 32 ≤ 122) := letter_all ⟨c.toNat, c.toNat_lt⟩
theorem of_step (more l : List UInt8) (c : UInt8) (r : List UInt8) (h : l = c :: r) : ofV more l = ((letterB c || decide (0 ≤ Lib.indexByte more c)) && ofV more r) := by rw [h]; rfl
set_option maxHeartbeats 1000000 in
theorem of_any (s more : ByteArray) (w : World) (hs : s.size ≤ maxLen) :
    Calls Tryd.prog 41 #[.string s, .string more] w fun e w' => e = .returned (.bool (ofV more.data.toList s.data.toList)) ∧ Below w.heap.size w w' := by
  unfold maxLen at hs
  have kb := fun W => Lib.run_convert_string_bytes (P := Tryd.prog) W 9 33 5 s Tryd.underlying9 Tryd.underlying33 Tryd.underlying5
  go_enter Tryd.func41, Tryd.ntmps41
  go_wp2_with fail
  obtain ⟨W1, hW1⟩ : ∃ W1 : World, W1 = Lib.bytesWorld w 5 s := ⟨_, rfl⟩
  have hcell : ∀ j (h : j < s.size), W1.cell? ⟨w.heap.size, j, none⟩ = some (.int .u8 (s[j].toNat : Int)) := by
    intro j hj
    rw [hW1, Lib.bytesWorld_cell w 5 s j hj, getD_data s j hj]
  have hbel : Below w.heap.size w W1 := by rw [hW1]; exact ⟨rfl, rfl, rfl, by rw [Lib.bytesWorld_size]; omega, fun i hi => Lib.bytesWorld_at_old w 5 s i (by omega)⟩
  rw [← hW1]
  have HC := Lib.hid hcell
  clear hcell hW1 kb
  go_loop [11] (fun i => ∃ (k : Nat), k ≤ s.size ∧ i = .int .i64 k ∧ Hid (ofV more.data.toList (s.data.toList.drop k) = ofV more.data.toList s.data.toList)) (fun i => s.size - (intOf i).toNat)
  case atStart => exact ⟨0, Nat.zero_le _, rfl, rfl⟩
  case round =>
    obtain ⟨k, hk, rfl, hd⟩ := hrel
    by_cases hlt : k < s.size
    · have hc := HC.out k hlt
      obtain ⟨hb0, hb1⟩ := byte_bd s[k]
      have hstep := Lib.hid (drop_data s k hlt)
      have hst := of_step more.data.toList _ _ _ hstep.out
      rw [letter_bits] at hst
      have HS := Lib.hid hst
      clear hst
      go_wp2_with (go_at_call 53; refine (Tryd.strings_IndexByte _ _ _).mono ?_; rintro e w' ⟨rfl, rfl⟩)
      all_goals first
        | (go_ret
           exact ⟨ret_boolp (by have := hd.out; have := HS.out; grind), hbel⟩)
        | (go_round
           case rel => exact ⟨k + 1, by omega, by go_num, by have h1 := hd.out; have h2 := HS.out; rw [← h1]; show _ = _; grind⟩
           case measure => simp [intOf]; omega)
    · have hke : k = s.size := by omega
      have hd' := Lib.hid (show true = ofV more.data.toList s.data.toList by rw [← hd.out, hke, List.drop_of_length_le (by rw [len_data]; omega)]; rfl)
      clear hd
      go_wp2
      go_ret
      exact ⟨ret_boolp hd'.out, hbel⟩
def abbrV (l : List UInt8) : Int := if l = [] ∨ 6 < l.length ∨ ofV [] l = false then 2 else 0
def nameMore : List UInt8 := [48, 49, 50, 51, 52, 53, 54, 55, 56, 57, 95, 45, 47]
def nameV (l : List UInt8) : Int := if l = [] ∨ 32 < l.length ∨ ofV nameMore l = false then 2 else 0
theorem nil_iff (s : ByteArray) : s.data.toList = [] ↔ s.size = 0 := by rw [← List.length_eq_zero_iff, len_data]
set_option maxHeartbeats 400000 in
theorem abbr_any (s : ByteArray) (w : World) (hs : s.size ≤ maxLen) :
    Calls Tryd.prog 25 #[.string s] w fun e w' => e = .returned (.int .i64 (abbrV s.data.toList)) ∧ Below w.heap.size w w' := by
  have hof := fun W => of_any s ⟨#[]⟩ W hs
  obtain ⟨b, hb⟩ : ∃ b, b = ofV [] s.data.toList := ⟨_, rfl⟩
  have HO := Lib.hid (show ∀ W, Calls Tryd.prog 41 #[.string s, .string ⟨#[]⟩] W fun e w' => e = .returned (.bool b) ∧ Below W.heap.size W w' from fun W => by rw [hb]; exact hof W)
  have HV := Lib.hid (show abbrV s.data.toList = if s.size = 0 ∨ 6 < s.size ∨ b = false then 2 else 0 by rw [abbrV, hb]; simp only [nil_iff, len_data])
  clear hb hof
  have HB := Below.refl w.heap.size w
  by_cases h0 : s.size = 0
  · have hne : s.toList.isEmpty = true := (empty_iff s).2 h0
    have H0 := Lib.hid h0
    clear h0
    go_enter Tryd.func25, Tryd.ntmps25
    go_wp2
    go_ret
    exact ⟨ret_int (by rw [HV.out, if_pos (.inl H0.out)]), HB⟩
  · have hne : s.toList.isEmpty = false := by
      cases h : s.toList.isEmpty
      · rfl
      · exact absurd ((empty_iff s).1 h) h0
    cases b
    all_goals
      go_enter Tryd.func25, Tryd.ntmps25
      go_wp2_with (go_at_call 41; refine (HO.out _).mono ?_; rintro e w1 ⟨rfl, HB⟩)
    all_goals
      go_ret
      exact ⟨ret_int (by rw [HV.out]; grind), HB⟩
set_option maxHeartbeats 400000 in
theorem name_any (s : ByteArray) (w : World) (hs : s.size ≤ maxLen) :
    Calls Tryd.prog 27 #[.string s] w fun e w' => e = .returned (.int .i64 (nameV s.data.toList)) ∧ Below w.heap.size w w' := by
  have hof := fun W => of_any s ⟨#[48, 49, 50, 51, 52, 53, 54, 55, 56, 57, 95, 45, 47]⟩ W hs
  obtain ⟨b, hb⟩ : ∃ b, b = ofV nameMore s.data.toList := ⟨_, rfl⟩
  have HO := Lib.hid (show ∀ W, Calls Tryd.prog 41 #[.string s, .string ⟨#[48, 49, 50, 51, 52, 53, 54, 55, 56, 57, 95, 45, 47]⟩] W fun e w' => e = .returned (.bool b) ∧ Below W.heap.size W w' from fun W => by rw [hb]; exact hof W)
  have HV := Lib.hid (show nameV s.data.toList = if s.size = 0 ∨ 32 < s.size ∨ b = false then 2 else 0 by rw [nameV, hb]; simp only [nil_iff, len_data])
  clear hb hof
  have HB := Below.refl w.heap.size w
  by_cases h0 : s.size = 0
  · have hne : s.toList.isEmpty = true := (empty_iff s).2 h0
    have H0 := Lib.hid h0
    clear h0
    go_enter Tryd.func27, Tryd.ntmps27
    go_wp2
    go_ret
    exact ⟨ret_int (by rw [HV.out, if_pos (.inl H0.out)]), HB⟩
  · have hne : s.toList.isEmpty = false := by
      cases h : s.toList.isEmpty
      · rfl
      · exact absurd ((empty_iff s).1 h) h0
    cases b
    all_goals
      go_enter Tryd.func27, Tryd.ntmps27
      go_wp2_with (go_at_call 41; refine (HO.out _).mono ?_; rintro e w1 ⟨rfl, HB⟩)
    all_goals
      go_ret
      exact ⟨ret_int (by rw [HV.out]; grind), HB⟩
theorem letter_any (c : UInt8) (w : World) :
    Calls Tryd.prog 42 #[.int .u8 (c.toNat : Int)] w fun e w' => e = .returned (.bool (letterB c)) ∧ w = w' := by
  obtain ⟨hb0, hb1⟩ := byte_bd c
  have hl : letterB c = decide (97 ≤ (c.toNat : Int) ∧ (c.toNat : Int) ≤ 122 ∨ 65 ≤ (c.toNat : Int) ∧ (c.toNat : Int) ≤ 90) := by rw [letterB, Bool.eq_iff_iff, decide_eq_true_eq, decide_eq_true_eq]; omega
  generalize (c.toNat : Int) = n at *
  have HL := Lib.hid hl
  clear hl
  go_enter Tryd.func42, Tryd.ntmps42
  go_wp2
  all_goals
    go_ret
    exact ⟨ret_boolp (by rw [HL.out, Bool.eq_iff_iff]; simp <;> omega), rfl⟩
set_option maxHeartbeats 400000 in
theorem refAbbr_any (s : ByteArray) (w : World) (hs : s.size ≤ maxLen) :
    Calls Tryd.prog 26 #[.string s] w fun e w' => e = .returned (.int .i64 (abbrV s.data.toList)) ∧ w = w' := by
  have HV := Lib.hid (show abbrV s.data.toList = if s.size = 0 ∨ 6 < s.size ∨ ofV [] s.data.toList = false then 2 else 0 by rw [abbrV]; simp only [nil_iff, len_data])
  unfold maxLen at hs
  go_enter Tryd.func26, Tryd.ntmps26
  go_wp2_with fail
  go_loop [3] (fun i => ∃ (k : Nat), k ≤ s.size ∧ i = .int .i64 k ∧ Hid (ofV [] (s.data.toList.drop k) = ofV [] s.data.toList)) (fun i => s.size - (intOf i).toNat)
  case atStart => exact ⟨0, Nat.zero_le _, rfl, rfl⟩
  case round =>
    obtain ⟨k, hk, rfl, hd⟩ := hrel
    by_cases hlt : k < s.size
    · have hst := of_step [] _ _ _ (drop_data s k hlt)
      rw [show decide (0 ≤ Lib.indexByte [] s[k]) = false from rfl, Bool.or_false, hd.out] at hst
      have HS := Lib.hid hst
      obtain ⟨b, hb⟩ : ∃ b, b = letterB s[k] := ⟨_, rfl⟩
      have HB := Lib.hid hb
      clear hst hb
      cases b
      all_goals go_wp2_with (go_at_call 42; refine (letter_any _ _).mono ?_; rintro e w' ⟨rfl, rfl⟩; rw [← HB.out])
      · go_ret
        exact ⟨ret_int (by rw [HV.out, HS.out, ← HB.out]; simp), rfl⟩
      · go_round
        case rel => exact ⟨k + 1, by omega, by go_num, by show _ = _; rw [HS.out, ← HB.out]; rfl⟩
        case measure => simp [intOf]; omega
    · have hke : k = s.size := by omega
      have hd' := Lib.hid (show true = ofV [] s.data.toList by rw [← hd.out, hke, List.drop_of_length_le (by rw [len_data]; omega)]; rfl)
      clear hd hke
      go_wp2
      all_goals
        go_ret
        exact ⟨ret_int (by rw [HV.out, ← hd'.out]; grind), rfl⟩
theorem more_byte (c : UInt8) : decide (0 ≤ Lib.indexByte nameMore c) = (decide (48 ≤ (c.toNat : Int) ∧ (c.toNat : Int) ≤ 57) || (((c.toNat : Int) == 95) || (((c.toNat : Int) == 45) || ((c.toNat : Int) == 47)))) := by
  have h : ∀ n : Fin 256, decide (0 ≤ Lib.indexByte nameMore n.val.toUInt8) = (decide (48 ≤ (n.val : Int) ∧ (n.val : Int) ≤ 57) || (((n.val : Int) == 95) || (((n.val : Int) == 45) || ((n.val : Int) == 47)))) := by decide +kernel
  have h1 := h ⟨c.toNat, c.toNat_lt⟩
  simpa using h1
set_option maxHeartbeats 1000000 in
theorem refName_any (s : ByteArray) (w : World) (hs : s.size ≤ maxLen) :
    Calls Tryd.prog 28 #[.string s] w fun e w' => e = .returned (.int .i64 (nameV s.data.toList)) ∧ w = w' := by
  have HV := Lib.hid (show nameV s.data.toList = if s.size = 0 ∨ 32 < s.size ∨ ofV nameMore s.data.toList = false then 2 else 0 by rw [nameV]; simp only [nil_iff, len_data])
  unfold maxLen at hs
  go_enter Tryd.func28, Tryd.ntmps28
  by_cases hsz : 1 ≤ s.size ∧ s.size ≤ 32
  · obtain ⟨hz1, hz2⟩ := hsz
    go_wp2_with fail
    go_loop [3] (fun i => ∃ (k : Nat), k ≤ s.size ∧ i = .int .i64 k ∧ Hid (ofV nameMore (s.data.toList.drop k) = ofV nameMore s.data.toList)) (fun i => s.size - (intOf i).toNat)
    case atStart => exact ⟨0, Nat.zero_le _, rfl, rfl⟩
    case round =>
      obtain ⟨k, hk, rfl, hd⟩ := hrel
      by_cases hlt : k < s.size
      · have hst := of_step nameMore _ _ _ (drop_data s k hlt)
        rw [more_byte, hd.out] at hst
        have HS := Lib.hid hst
        obtain ⟨b, hb⟩ : ∃ b, b = letterB s[k] := ⟨_, rfl⟩
        obtain ⟨hc0, hc1⟩ := byte_bd s[k]
        have HB := Lib.hid hb
        clear hst hb
        cases b
        all_goals go_wp2_with (go_at_call 42; refine (letter_any _ _).mono ?_; rintro e w' ⟨rfl, rfl⟩; rw [← HB.out])
        all_goals first
          | (go_ret
             exact ⟨ret_int (by have h1 := HS.out; rw [← HB.out] at h1; rw [HV.out, if_pos]; grind), rfl⟩)
          | (go_round
             case rel => exact ⟨k + 1, by omega, by go_num, by show _ = _; have h1 := HS.out; rw [← HB.out] at h1; grind⟩
             case measure => simp [intOf]; omega)
      · have hke : k = s.size := by omega
        have hd' := Lib.hid (show true = ofV nameMore s.data.toList by rw [← hd.out, hke, List.drop_of_length_le (by rw [len_data]; omega)]; rfl)
        clear hd hke
        go_wp2
        all_goals
          go_ret
          exact ⟨ret_int (by rw [HV.out, ← hd'.out]; grind), rfl⟩
  · go_wp2_with fail
    all_goals first
      | (go_ret; exact ⟨ret_int (by rw [HV.out, if_pos (by omega)]), rfl⟩)
      | (exfalso; omega)
end Go.Proofs.YtddgfffempgghaaDoor.X
