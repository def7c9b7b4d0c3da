/- The walks through words.digits, words.Number, and the reference's. -/
import Derived.Test.YtddgfffempgghaaDoorShelf
import Derived.Test.YtddgfffempgghaaDoorP14
import Derived.WalkKit
import Derived.KernelRfl
import Derived.IntWalk
import Derived.LoopTactic
import Derived.Outline
import Derived.Lib.ConvBytes
import Derived.Lib.Hide
import Derived.BigQuiet
import Derived.Deep.QuietTactic
import Derived.WalkSpells
import Derived.WalkLawsBesides
namespace Go.Proofs.YtddgfffempgghaaDoor.X
open Go.RowKit

theorem len_data (s : ByteArray) : s.data.toList.length = s.size := by rw [Array.length_toList]; rfl
theorem drop_data (s : ByteArray) (k : Nat) (h : k < s.size) : s.data.toList.drop k = s[k] :: s.data.toList.drop (k + 1) := by
  rw [List.drop_eq_getElem_cons (by rw [len_data]; exact h)]
  rfl
theorem getD_data (s : ByteArray) (k : Nat) (h : k < s.size) : s.data.toList.getD k 0 = s[k] := by
  rw [List.getD_eq_getElem?_getD, List.getElem?_eq_getElem (by rw [len_data]; exact h)]
  rfl
theorem empty_iff (s : ByteArray) : s.toList.isEmpty = true ↔ s.size = 0 := by
  rw [Lib.toList_data, List.isEmpty_iff, ← List.length_eq_zero_iff, len_data]
theorem byte_bd (c : UInt8) : 0 ≤ (c.toNat : Int) ∧ (c.toNat : Int) ≤ 255 := by have := c.toNat_lt; omega

set_option maxHeartbeats 400000 in
theorem digits_any (s : ByteArray) (w : World) (hs : s.size ≤ maxLen) :
    Calls Tryd.prog 34 #[.string s] w fun e w' => e = .returned (.int .i64 (digV s)) ∧ Below w.heap.size w w' := by
  unfold maxLen at hs
  have kb := fun W => Lib.run_convert_string_bytes (P := Tryd.prog) W 9 33 5 s Tryd.underlying9 Tryd.underlying33 Tryd.underlying5
  go_enter Tryd.func34, Tryd.ntmps34
  go_wp2_with fail
  obtain ⟨W1, hW1⟩ : ∃ W1 : World, W1 = Lib.bytesWorld w 5 s := ⟨_, rfl⟩
  have hcell : ∀ j (h : j < s.size), W1.cell? ⟨w.heap.size, j, none⟩ = some (.int .u8 (s[j].toNat : Int)) := by
    intro j hj
    rw [hW1, Lib.bytesWorld_cell w 5 s j hj, getD_data s j hj]
  have hbel : Below w.heap.size w W1 := by rw [hW1]; exact ⟨rfl, rfl, rfl, by rw [Lib.bytesWorld_size]; omega, fun i hi => Lib.bytesWorld_at_old w 5 s i (by omega)⟩
  rw [← hW1]
  have HC := Lib.hid hcell
  clear hcell hW1 kb
  go_loop [3, 9] (fun n i => ∃ (k : Nat) (m : Int), k ≤ s.size ∧ i = .int .i64 k ∧ n = .int .i64 m ∧ 0 ≤ m ∧ m ≤ 10995116277769 ∧ Hid (digL (s.data.toList.drop k) m = digL s.data.toList 0)) (fun _ i => s.size - (intOf i).toNat)
  case atStart => exact ⟨0, 0, Nat.zero_le _, rfl, rfl, by omega, by omega, rfl⟩
  case round =>
    obtain ⟨k, m, hk, rfl, rfl, hm0, hm1, hd⟩ := hrel
    by_cases hlt : k < s.size
    · have hc := HC.out k hlt
      obtain ⟨hb0, hb1⟩ := byte_bd s[k]
      have hstep := Lib.hid (drop_data s k hlt)
      have hsz := Lib.hid (show s.size ≠ 0 by omega)
      go_wp2
      case roundEnd =>
        go_round
        case rel => exact ⟨k + 1, _, by omega, by go_num, rfl, by omega, by omega, by
          have h1 := hd.out
          rw [hstep.out, digL, if_neg (by omega)] at h1
          exact h1⟩
        case measure => simp [intOf]; omega
      all_goals
        go_ret
        refine ⟨ret_int ?_, hbel⟩
        rw [digV, if_neg hsz.out, ← hd.out, hstep.out, digL, if_pos (by omega)]
    · have hke : k = s.size := by omega
      have hd' := Lib.hid (show digL [] m = digL s.data.toList 0 by rw [← hd.out, hke, List.drop_of_length_le (by rw [len_data]; omega)])
      clear hd
      go_wp2
      · go_ret
        exact ⟨ret_int (by rw [digV, if_pos ((empty_iff s).1 ‹_›)]), hbel⟩
      · go_ret
        have hne : ¬ s.size = 0 := fun h0 => by have := (empty_iff s).2 h0; simp_all
        exact ⟨ret_int (by rw [digV, if_neg hne, ← hd'.out, digL]), hbel⟩

/-- What words.digits says of a short text. -/
theorem digits_short (s : ByteArray) (w : World) (hs : s.size ≤ 12) :
    Calls Tryd.prog 34 #[.string s] w fun e w' => e = .returned (.int .i64 (if s.size = 0 then -1 else valL s.data.toList 0)) ∧ Below w.heap.size w w' := by
  have h := digits_any s w (by unfold maxLen; omega)
  rw [digV, digL_eq _ 0 0 (by rw [len_data]; omega) (by omega) (by decide)] at h
  exact h

/-- strings.CutPrefix at a text of one byte. -/
def Cut1 (l : List UInt8) (c : UInt8) (w : World) (e : Ending) (w' : World) : Prop :=
  ∃ t : ByteArray, ∃ b : Bool, e = .returned (.tuple #[.string t, .bool b]) ∧ b = (l.head? == some c) ∧ t.data.toList = (if b = true then l.tail else l) ∧ w = w'
theorem cut1 (s : ByteArray) (c : UInt8) (w : World) :
    Calls Tryd.prog 32 #[.string s, .string ⟨#[c]⟩] w (Cut1 s.data.toList c w) := by
  refine (Tryd.strings_CutPrefix s ⟨#[c]⟩ w).mono ?_
  rintro e w' ⟨rfl, rfl⟩
  refine ⟨_, _, rfl, ?_, ?_, rfl⟩
  · cases s.data.toList <;> simp [Lib.hasPrefix, List.isPrefixOf]
    rw [Bool.eq_iff_iff, beq_iff_eq, beq_iff_eq]; exact eq_comm
  · simp [Lib.trimPrefix]
theorem first_byte (t : ByteArray) (h : 0 < t.size) : t[0] = t.data.toList.headD 0 := by
  rw [← getD_data t 0 h]
  cases t.data.toList <;> simp
theorem size_rest (s t : ByteArray) (ht : t.data.toList = numRest s.data.toList) : t.size ≤ s.size := by
  rw [← len_data s, ← len_data t, ht]
  unfold numRest
  split <;> simp
set_option maxHeartbeats 400000 in
theorem number_any (s : ByteArray) (low high : Int) (w : World) (hs : s.size ≤ maxLen) :
    Calls Tryd.prog 15 #[.string s, .int .i64 low, .int .i64 high] w fun e w' => e = .returned (.tuple #[.int .i64 (numV s.data.toList low high), .int .i64 (numE s.data.toList low high)]) ∧ Below w.heap.size w w' := by
  go_enter Tryd.func15, Tryd.ntmps15
  go_wp2_with fail
  refine (cut1 s 45 w).mono ?_
  rintro e w' ⟨t, b, rfl, hb, ht, rfl⟩
  have ht' : t.data.toList = numRest s.data.toList := by rw [ht]; unfold numRest numNeg; rw [hb]
  have hts := size_rest s t ht'
  have H := Lib.hid (num_runs s t low high ht')
  obtain ⟨n, hn⟩ : ∃ n, n = digV t := ⟨_, rfl⟩
  have hbd := digV_bd t
  rw [← hn] at hbd
  obtain ⟨hbd1, hbd2⟩ := hbd
  have HN := Lib.hid hn
  have HB := Lib.hid (show b = numNeg s.data.toList from hb)
  have H0 := Lib.hid (show s.data.toList = s.toList from (Lib.toList_data s).symm)
  have hn0 : t.size = 0 → n = -1 := by intro h; rw [hn, digV, if_pos h]
  clear hb ht ht'
  go_wp2_with fail
  refine (digits_any t _ (Nat.le_trans hts hs)).mono ?_
  rintro e w1 ⟨rfl, hbel⟩
  rw [← hn]
  clear hn
  by_cases hz : t.size = 0
  · obtain rfl := hn0 hz
    clear hn0
    have HZ := Lib.hid hz
    clear hz
    go_wp2
    all_goals
      go_ret2
      have H1 := H.out
      rw [← HB.out, ← HN.out, H0.out] at H1
      have h1 := congrArg Prod.fst H1
      have h2 := congrArg Prod.snd H1
      rw [H0.out]
      simp only [numRuns] at h1 h2
      refine ⟨ret_two ?_ ?_, hbel⟩ <;> grind
  · clear hn0
    have hz' : 0 < t.size := by omega
    have HF := Lib.hid (first_byte t hz')
    go_wp2
    all_goals
      go_ret2
      have H1 := H.out
      rw [← HB.out, ← HN.out, ← HF.out, H0.out] at H1
      have h1 := congrArg Prod.fst H1
      have h2 := congrArg Prod.snd H1
      rw [H0.out]
      simp only [numRuns] at h1 h2
      refine ⟨ret_two ?_ ?_, hbel⟩ <;> grind
end Go.Proofs.YtddgfffempgghaaDoor.X
