/- The walks through the texts of times and offsets. -/
import Derived.Test.YtddgfffempgghaaDoorW14d
import Derived.Deep.DeepCutAuto
import Derived.Laws.BytesArg
import Derived.Laws.IdiomStrings
namespace Go.Proofs.YtddgfffempgghaaDoor.X
open Go.RowKit

set_option maxHeartbeats 400000 in
theorem refTime_any (s : ByteArray) (w : World) (hs : s.size ≤ maxLen) :
    Calls Tryd.prog 21 #[.string s] w fun e w' => e = .returned (.tuple #[.int .i64 (timeV s.data.toList).1, .int .i64 (timeV s.data.toList).2]) ∧ w = w' := by
  obtain ⟨n, hn⟩ : ∃ n, n = hmsV s.data.toList := ⟨_, rfl⟩
  have HT := Lib.hid (show timeV s.data.toList = if n < 0 then (0, 2) else if 86400 < n then (0, 8) else (n, 0) by rw [hn]; rfl)
  have HN := Lib.hid hn
  clear hn
  go_enter Tryd.func21, Tryd.ntmps21
  go_wp2_with (go_at_call 36; refine (hms_any _ _ hs).mono ?_; rintro e w1 ⟨rfl, rfl⟩; rw [← HN.out])
  all_goals
    go_ret2
    have h1 := congrArg Prod.fst HT.out
    have h2 := congrArg Prod.snd HT.out
    exact ⟨ret_two (by rw [h1]; grind) (by rw [h2]; grind), rfl⟩
set_option maxHeartbeats 400000 in
theorem refOffset_any (s : ByteArray) (w : World) (hs : s.size ≤ maxLen) :
    Calls Tryd.prog 19 #[.string s] w fun e w' => e = .returned (.tuple #[.int .i64 (offV s.data.toList).1, .int .i64 (offV s.data.toList).2]) ∧ w = w' := by
  unfold maxLen at hs
  go_enter Tryd.func19, Tryd.ntmps19
  by_cases h0 : 0 < s.size
  · have HT := Lib.hid (offV_runs s.data.toList (s[0].toNat : Int) _ (fun h => by have := len_data s; rw [h] at this; simp at this; omega) (by rw [first_byte s h0]) rfl)
    have hcf := cut_front s
    have hcs := cut_size s
    obtain ⟨hb0, hb1⟩ := byte_bd s[0]
    obtain ⟨n, hn⟩ : ∃ n, n = hmsV s.data.toList.tail := ⟨_, rfl⟩
    have hbd := hmsV_bd s.data.toList.tail
    rw [← hn] at HT hbd
    obtain ⟨hbd0, hbd1⟩ := hbd
    have hN : hmsV (s.extract 1 s.size).data.toList = n := by rw [hcf, hn]
    have HN := Lib.hid hN
    clear hn hcf hN
    go_wp2_with (go_at_call 36; refine (hms_any _ _ (by unfold maxLen; omega)).mono ?_; rintro e w1 ⟨rfl, rfl⟩; rw [HN.out])
    all_goals
      go_ret2
      have h1 := congrArg Prod.fst HT.out
      have h2 := congrArg Prod.snd HT.out
      exact ⟨ret_two (by rw [h1]; grind) (by rw [h2]; grind), rfl⟩
  · have hl := neg_none s h0
    have HL := Lib.hid hl
    clear hl
    go_wp2
    go_ret2
    exact ⟨by rw [HL.out]; rfl, rfl⟩

/-- 'string([]byte{c, d})'. -/
theorem run_two (c d : Int) (W : World) :
    (convert 33 9 (.slice (some ⟨W.heap.size, 0, none⟩) 2 2)).run Tryd.prog (W.alloc (.cells #[.int .u8 c, .int .u8 d] 5)) = .ok (.string (strOfNums [c, d])) (W.alloc (.cells #[.int .u8 c, .int .u8 d] 5)) := by
  refine run_convert_bytes_arg _ 33 5 Tryd.underlying33 Tryd.underlying5 W.heap.size 0 2 2 [c, d] rfl (fun i hi => ?_) 9 Tryd.underlying9
  rw [World.cell?_alloc_mark]
  match i, hi with
  | 0, _ => rfl
  | 1, _ => rfl
def twoV (n : Int) : ByteArray := strOfNums [48 + n / 10, 48 + n % 10]
set_option maxHeartbeats 400000 in
theorem two_any (n : Int) (w : World) (h0 : 0 ≤ n) (h1 : n ≤ 99) :
    Calls Tryd.prog 43 #[.int .i64 n] w fun e w' => e = .returned (.string (twoV n)) ∧ Below w.heap.size w w' := by
  have kb := run_two
  go_enter Tryd.func43, Tryd.ntmps43
  go_wp2
  go_ret
  exact ⟨rfl, (Below.refl _ _).alloc (Nat.le_refl _) _⟩
set_option maxHeartbeats 400000 in
theorem refTwo_any (n : Int) (w : World) (h0 : 0 ≤ n) (h1 : n ≤ 99) :
    Calls Tryd.prog 44 #[.int .i64 n] w fun e w' => e = .returned (.string (twoV n)) ∧ Below w.heap.size w w' := by
  have kb := run_two
  go_enter Tryd.func44, Tryd.ntmps44
  go_wp2
  go_ret
  refine ⟨?_, (Below.refl _ _).alloc (Nat.le_refl _) _⟩
  show Ending.returned (Value.string (strOfNums [48 + n / 10 % 10, 48 + n % 10])) = _
  rw [twoV, show n / 10 % 10 = n / 10 by omega]

/-- Hours, minutes, and seconds, if they are not 0. -/
def showT (n : Int) : ByteArray := if 0 < n % 60 then ((twoV (n / 3600) ++ ⟨#[58]⟩) ++ twoV (n / 60 % 60)) ++ (⟨#[58]⟩ ++ twoV (n % 60)) else (twoV (n / 3600) ++ ⟨#[58]⟩) ++ twoV (n / 60 % 60)
/-- The text of an offset in range. -/
def showO (n : Int) : ByteArray := if n < 0 then ⟨#[45]⟩ ++ showT (-n) else ⟨#[43]⟩ ++ showT n
def showOS (n : Int) : ByteArray := if n < -64800 ∨ 64800 < n then ⟨#[]⟩ else showO n
def showOE (n : Int) : Int := if n < -64800 ∨ 64800 < n then 8 else 0
theorem ret_str {a b : ByteArray} (h : a = b) : Ending.returned (.string a) = .returned (.string b) := by rw [h]
theorem ret_str2 {a b : ByteArray} {k : IntKind} {c d : Int} (h : a = b) (h' : c = d) : Ending.returned (.tuple #[.string a, .int k c]) = .returned (.tuple #[.string b, .int k d]) := by rw [h, h']
set_option maxHeartbeats 400000 in
theorem showTime_any (n : Int) (w : World) (h0 : 0 ≤ n) (h1 : n ≤ 359999) :
    Calls Tryd.prog 29 #[.int .i64 n] w fun e w' => e = .returned (.string (showT n)) ∧ Below w.heap.size w w' := by
  go_enter Tryd.func29, Tryd.ntmps29
  have hB := Below.refl w.heap.size w
  go_wp2_with (go_at_call 43; refine (two_any _ _ (by omega) (by omega)).mono ?_; rintro e w1 ⟨rfl, hbel⟩; have hB' := hB.trans (hbel.mono hB.size); clear hB hbel; have hB := hB'; clear hB')
  all_goals
    go_ret
    exact ⟨ret_str (by unfold showT; first | rw [if_pos (by assumption)] | rw [if_neg (by omega)]), hB⟩
set_option maxHeartbeats 400000 in
theorem refShowTime_any (n : Int) (w : World) (h0 : 0 ≤ n) (h1 : n ≤ 359999) :
    Calls Tryd.prog 30 #[.int .i64 n] w fun e w' => e = .returned (.string (showT n)) ∧ Below w.heap.size w w' := by
  go_enter Tryd.func30, Tryd.ntmps30
  have hB := Below.refl w.heap.size w
  go_wp2_with (go_at_call 44; refine (refTwo_any _ _ (by omega) (by omega)).mono ?_; rintro e w1 ⟨rfl, hbel⟩; have hB' := hB.trans (hbel.mono hB.size); clear hB hbel; have hB := hB'; clear hB')
  all_goals
    go_ret
    exact ⟨ret_str (by unfold showT; split <;> first | rfl | (exfalso; grind)), hB⟩
theorem twoV_size (n : Int) : (twoV n).size = 2 := by simp [twoV, strOfNums, ByteArray.size]
theorem showT_size (n : Int) : (showT n).size ≤ 8 := by
  unfold showT
  have h : (⟨#[58]⟩ : ByteArray).size = 1 := rfl
  split <;> simp only [ByteArray.size_append, twoV_size, h] <;> omega
set_option maxHeartbeats 400000 in
theorem showOffset_any (n : Int) (w : World) :
    Calls Tryd.prog 8 #[.int .i64 n] w fun e w' => e = .returned (.tuple #[.string (showOS n), .int .i64 (showOE n)]) ∧ Below w.heap.size w w' := by
  have hcase : n < -64800 ∨ 64800 < n ∨ (-64800 ≤ n ∧ n < 0) ∨ (0 ≤ n ∧ n ≤ 64800) := by omega
  have hB := Below.refl w.heap.size w
  have hz1 := showT_size n
  have hz2 := showT_size (-n)
  rcases hcase with h | h | ⟨h, h'⟩ | ⟨h, h'⟩
  all_goals go_enter Tryd.func8, Tryd.ntmps8
  all_goals go_wp2_with (go_at_call 29; refine (showTime_any _ _ (by omega) (by omega)).mono ?_; rintro e w1 ⟨rfl, hbel⟩; have hB' := hB.trans (hbel.mono hB.size); clear hB hbel; have hB := hB'; clear hB')
  all_goals
    go_ret2
    exact ⟨ret_str2 (by unfold showOS showO; repeat' (split <;> try (first | rfl | (exfalso; omega)))) (by unfold showOE; split <;> first | rfl | (exfalso; omega)), hB⟩
set_option maxHeartbeats 400000 in
theorem refShowOffset_any (n : Int) (w : World) :
    Calls Tryd.prog 9 #[.int .i64 n] w fun e w' => e = .returned (.tuple #[.string (showOS n), .int .i64 (showOE n)]) ∧ Below w.heap.size w w' := by
  have hcase : n < -64800 ∨ 64800 < n ∨ (-64800 ≤ n ∧ n < 0) ∨ (0 ≤ n ∧ n ≤ 64800) := by omega
  have hB := Below.refl w.heap.size w
  have hz1 := showT_size n
  have hz2 := showT_size (-n)
  rcases hcase with h | h | ⟨h, h'⟩ | ⟨h, h'⟩
  all_goals go_enter Tryd.func9, Tryd.ntmps9
  all_goals go_wp2_with (go_at_call 30; refine (refShowTime_any _ _ (by omega) (by omega)).mono ?_; rintro e w1 ⟨rfl, hbel⟩; have hB' := hB.trans (hbel.mono hB.size); clear hB hbel; have hB := hB'; clear hB')
  all_goals
    go_ret2
    exact ⟨ret_str2 (by unfold showOS showO; repeat' (split <;> try (first | rfl | (exfalso; omega)))) (by unfold showOE; split <;> first | rfl | (exfalso; omega)), hB⟩
end Go.Proofs.YtddgfffempgghaaDoor.X
