/- The walks through words.clockOf, Offset, Time, and the reference's. -/
import Derived.Test.YtddgfffempgghaaDoorW14b
import Derived.Test.YtddgfffempgghaaDoorP14b
namespace Go.Proofs.YtddgfffempgghaaDoor.X
open Go.RowKit

/-- The library's variable MaxLen holds a number. -/
def HasMax (w : World) : Prop := ∃ m, w.cell? ⟨0, 0, none⟩ = some (.int .i64 m)
theorem HasMax.below {w w' : World} (h : HasMax w) (hb : Below w.heap.size w w') : HasMax w' := by
  obtain ⟨m, hm⟩ := h
  exact ⟨m, (hb.cell (World.block_lt_of_cell? _ _ hm)).trans hm⟩

/-- strings.Split at a text of one byte. -/
def Split1 (s : ByteArray) (c : UInt8) (w : World) (e : Ending) (w' : World) : Prop :=
  ∃ ps : List ByteArray, ps.map (·.data.toList) = spC c s.data.toList ∧ e = .returned (.slice (some ⟨w.heap.size, 0, none⟩) ps.length ps.length) ∧ w' = w.alloc (.cells (ps.map Value.string).toArray 9)
theorem split1 (s : ByteArray) (c : UInt8) (w : World) (hm : HasMax w) (hs : s.size < 4294967281) :
    Calls Tryd.prog 45 #[.string s, .string ⟨#[c]⟩] w (Split1 s c w) := by
  obtain ⟨m, hm⟩ := hm
  refine (Tryd.strings_Split s ⟨#[c]⟩ m w hs hm (Nat.le_refl 1)).mono ?_
  rintro e w' ⟨rfl, rfl⟩
  have hl := Lib.splitB_all ⟨#[c]⟩ (Nat.le_refl 1) 0 (Lib.countB s ⟨#[c]⟩) s rfl
  refine ⟨Lib.splitB ⟨#[c]⟩ 0 (Lib.countB s ⟨#[c]⟩) s, ?_, ?_, rfl⟩
  · rw [Lib.splitB_data]
    exact splitK_one c s.data.toList.length s.data.toList (Nat.le_refl _)
  · rw [hl]
theorem split_cell (w : World) (ps : List ByteArray) (T : TypeId) (j : Nat) (h : j < ps.length) : (w.alloc (.cells (ps.map Value.string).toArray T)).cell? ⟨w.heap.size, j, none⟩ = some (.string ps[j]) := by
  simp [World.cell?, World.alloc, -World.alloc_eq, h]
theorem drop_map (ps : List ByteArray) (k : Nat) (h : k < ps.length) : (ps.map (·.data.toList)).drop k = ps[k].data.toList :: (ps.map (·.data.toList)).drop (k + 1) := by
  rw [List.drop_eq_getElem_cons (by simpa using h)]
  simp
theorem digV_two (p : ByteArray) : (p.size ≠ 2 ∨ digV p < 0 ↔ p.data.toList.length ≠ 2 ∨ valL p.data.toList 0 < 0) ∧ (p.size = 2 → digV p = valL p.data.toList 0 ∧ digV p ≤ 99) := by
  rw [← len_data p]
  by_cases h : p.data.toList.length = 2
  · have h1 : digV p = valL p.data.toList 0 := by
      rw [digV, digL_eq _ 0 0 (by omega) (by omega) (by decide), if_neg (by rw [← len_data p]; omega)]
    have h2 := valL_lt p.data.toList 0 0 (by omega) (by decide)
    rw [h] at h2
    simp at h2
    rw [h1]
    exact ⟨Iff.rfl, fun _ => ⟨rfl, by omega⟩⟩
  · exact ⟨⟨fun _ => .inl h, fun _ => .inl h⟩, fun h' => absurd h' h⟩
def ClkInv (k : Nat) (m : Int) : Prop := k = 0 ∧ m = 0 ∨ k = 1 ∧ m ≤ 99 ∨ k = 2 ∧ m ≤ 6039 ∨ k = 3 ∧ m ≤ 362439
theorem clkL_lt (ps : List (List UInt8)) : ∀ (i : Nat) (n : Int), 0 ≤ n → -1 ≤ clkL ps i n := by
  induction ps with
  | nil => intro i n h; rw [clkL]; omega
  | cons p ps ih =>
    intro i n h
    rw [clkL]
    split
    · omega
    · exact ih _ _ (by omega)
set_option maxHeartbeats 1000000 in
theorem clockOf_any (s : ByteArray) (w : World) (hm : HasMax w) (hs : s.size < 4294967281) :
    Calls Tryd.prog 31 #[.string s] w fun e w' => e = .returned (.int .i64 (hmsV s.data.toList)) ∧ Below w.heap.size w w' := by
  rw [← clk_hms]
  go_enter Tryd.func31, Tryd.ntmps31
  go_wp2_with fail
  refine (split1 s 58 w hm hs).mono ?_
  rintro e w1 ⟨ps, hps, rfl, rfl⟩
  have hcv : clkV s.data.toList = if ps.length ≠ 2 ∧ ps.length ≠ 3 then -1 else if clkL (ps.map (·.data.toList)) 0 0 < 0 then -1 else if ps.length = 2 then clkL (ps.map (·.data.toList)) 0 0 * 60 else clkL (ps.map (·.data.toList)) 0 0 := by
    rw [clkV, ← hps, List.length_map]
  have HCV := Lib.hid hcv
  have HS := Lib.hid (fun j h => split_cell w ps 9 j h)
  have hB : Below w.heap.size w (w.alloc (.cells (ps.map Value.string).toArray 9)) := (Below.refl _ _).alloc (Nat.le_refl _) _
  have hsz : (w.alloc (.cells (ps.map Value.string).toArray 9)).heap.size = w.heap.size + 1 := by simp
  have HP := Lib.hid (show ∀ (j : Nat) (h : j < ps.length), ps[j].size ≤ s.size from fun j h => by
    rw [← len_data, ← len_data]
    refine spC_len 58 _ _ (Nat.le_refl _) _ ?_
    rw [← hps]
    exact List.mem_map.2 ⟨ps[j], List.getElem_mem h, rfl⟩)
  clear hps hcv
  by_cases hl : ps.length = 2 ∨ ps.length = 3
  · have hlen : ps.length ≤ 3 := by omega
    have hcond : (((ps.length : Int) != 2) && ((ps.length : Int) != 3)) = false := by rcases hl with h | h <;> rw [h] <;> rfl
    obtain ⟨W1, hW1⟩ : ∃ W1, W1 = w.alloc (.cells (ps.map Value.string).toArray 9) := ⟨_, rfl⟩
    rw [← hW1] at HS hB hsz ⊢
    rcases hl with hl | hl
    all_goals
      have HL := Lib.hid hl
      first | (have e1 : ((ps.length : Int) != 2) = false := by rw [hl]; rfl) | (have e1 : ((ps.length : Int) != 2) = true := by rw [hl]; rfl)
      first | (have e2 : ((ps.length : Int) != 3) = false := by rw [hl]; rfl) | (have e2 : ((ps.length : Int) != 3) = true := by rw [hl]; rfl)
      first | (have e3 : ((ps.length : Int) == 2) = false := by rw [hl]; rfl) | (have e3 : ((ps.length : Int) == 2) = true := by rw [hl]; rfl)
      clear hl hW1 hcond
      have HZ := Lib.hid hsz
      clear hsz
      go_wp2_with fail
      go_loopw [4, 20] (fun n i wr => ∃ (k : Nat) (m : Int), k ≤ ps.length ∧ i = .int .i64 k ∧ n = .int .i64 m ∧ 0 ≤ m ∧ m ≤ 362439 ∧ Hid (ClkInv k m) ∧ Below W1.heap.size W1 wr ∧ Hid (clkL ((ps.map (·.data.toList)).drop k) k m = clkL (ps.map (·.data.toList)) 0 0)) (fun _ i _ => ps.length - (intOf i).toNat)
      case atStart => exact ⟨0, 0, Nat.zero_le _, rfl, rfl, by omega, by omega, .inl ⟨rfl, rfl⟩, Below.refl _ _, rfl⟩
      case round =>
        obtain ⟨k, m, hk, rfl, rfl, hm0, hm1, hinv, hbr, hd⟩ := hrel
        by_cases hlt : k < ps.length
        · have hc := (hbr.cell (p := ⟨w.heap.size, k, none⟩) (by rw [HZ.out]; exact Nat.lt_succ_self _)).trans (HS.out k hlt)
          have hstep := Lib.hid (drop_map ps k hlt)
          have hdv := Lib.hid (digV_two ps[k])
          obtain ⟨hbd1, hbd2⟩ := digV_bd ps[k]
          have hdb := Lib.hid hbd2
          obtain ⟨n, hn⟩ : ∃ n, n = digV ps[k] := ⟨_, rfl⟩
          obtain ⟨p, hp⟩ : ∃ p, p = ps[k] := ⟨_, rfl⟩
          have hpl : p.size ≤ 9223372036854775807 := by have := HP.out k hlt; rw [← hp] at this; omega
          rw [← hp] at hc hstep hdv hn
          rw [← hp, ← hn] at hbd1 hbd2
          rw [← hn] at hdv
          have HN := Lib.hid hn
          clear hp hn hdb
          go_wp2_with (go_at_call 34; refine (digits_any _ _ hpl).mono ?_; rintro e w1 ⟨rfl, hbel⟩; rw [← HN.out])
          all_goals first
            | (go_ret
               refine ⟨ret_int ?_, (hB.trans (hbr.mono (by rw [HZ.out]; omega))).trans (hbel.mono (by have := hbr.size; rw [HZ.out] at this; omega))⟩
               have h1 := hd.out
               have h2 := hdv.out
               rw [hstep.out, clkL, if_pos (by grind)] at h1
               rw [HCV.out, ← h1]
               grind)
            | (go_roundw
               case rel =>
                 have h1 := hd.out
                 have h2 := hdv.out
                 have h3 := hinv.out
                 have h4 := h2.2 (by omega)
                 unfold ClkInv at h3
                 rw [hstep.out, clkL, if_neg (by grind), ← h4.1] at h1
                 exact ⟨k + 1, _, by omega, by go_num, rfl, by omega, by grind, by show ClkInv _ _; unfold ClkInv; grind, hbr.trans (hbel.mono hbr.size), h1⟩
               case measure => simp [intOf]; omega)
        · have hke : k = ps.length := by omega
          have hd' := Lib.hid (show m = clkL (ps.map (·.data.toList)) 0 0 by rw [← hd.out, hke, List.drop_of_length_le (by simp)]; rfl)
          clear hd
          go_wp2
          go_ret
          exact ⟨ret_int (by rw [HCV.out, ← hd'.out, HL.out]; grind), hB.trans (hbr.mono (by rw [HZ.out]; omega))⟩
  · have e1 : ((ps.length : Int) != 2) = true := by simp; omega
    have e2 : ((ps.length : Int) != 3) = true := by simp; omega
    go_wp2
    go_ret
    exact ⟨ret_int (by rw [HCV.out, if_pos (by omega)]), hB⟩
end Go.Proofs.YtddgfffempgghaaDoor.X
