/- Chapter 23, walks: layout.plain and its reference tell whether all bytes lie from 32 to 126. Condition: a string as long as one may be. -/
import Derived.Test.YtiopcifglfocpaaDoorP23a
import Derived.Test.YtiopcifglfocpaaDoorShelf
import Derived.WalkKit
import Derived.ProofKit
import Derived.Lib.Hide
import Derived.StillTailTactics
namespace Go.Proofs.YtiopcifglfocpaaDoor.X
open Go.RowKit
theorem below_then {w W w1 : World} (hB : Below w.heap.size w W) (h : Below W.heap.size W w1) : Below w.heap.size w w1 := hB.trans (h.mono hB.size)
theorem plainFn (x : Nat) (w : World) (_hx : x ≤ 1114111) :
    Calls Tryd.prog 38 #[.int .i32 (x : Int)] w fun e w' => e = .returned (.bool (oddR x)) ∧ w = w' := by
  have h1 : oddR x = (decide ((x : Int) < 32) || decide ((x : Int) > 126)) := rfl
  rw [h1]
  clear h1
  cases ha : decide ((x : Int) < 32) <;> cases hb : decide ((x : Int) > 126)
  all_goals
    go_enter Tryd.func38, Tryd.ntmps38
    go_wp2
    go_ret
    exact ⟨rfl, rfl⟩
theorem plainFn_grows (w : World) : PredGrows Tryd.prog 38 #[] oddR w := by
  intro W x hx _
  refine (plainFn x W hx).mono ?_
  rintro e w' ⟨rfl, rfl⟩
  exact ⟨rfl, Below.refl _ _⟩
theorem plain_any (s : ByteArray) (w : World) :
    Calls Tryd.prog 21 #[.string s] w fun e w' => e = .returned (.bool (plainL s.data.toList)) ∧ Below w.heap.size w w' := by
  have c := Tryd.strings_IndexFunc_grows 38 #[] (enters_of Tryd.func38 (by kernel_rfl) rfl) oddR s w (plainFn_grows w)
  have hp := plain_idx s
  obtain ⟨i, hi⟩ : ∃ i, i = Lib.idxFunc oddR true s := ⟨_, rfl⟩
  rw [← hi] at c hp
  rw [← hp]
  clear hi hp
  go_enter Tryd.func21, Tryd.ntmps21
  go_wp2_with fail
  refine c.mono ?_
  rintro e w' ⟨rfl, hb⟩
  go_wp2
  go_ret
  exact ⟨rfl, hb⟩
theorem byte_int (s : ByteArray) (k : Nat) (h : k < s.size) : okB s[k] = (decide ((32 : Int) ≤ s[k].toNat) && decide ((s[k].toNat : Int) ≤ 126)) := by
  simp only [okB]
  congr 1 <;> simp only [decide_eq_decide] <;> omega
theorem plain_step (s : ByteArray) (k : Nat) (h : k < s.size) : plainL (s.data.toList.drop k) = (okB s[k] && plainL (s.data.toList.drop (k + 1))) := by
  have hl : s.data.toList.length = s.size := by rw [Array.length_toList]; rfl
  rw [List.drop_eq_getElem_cons (by omega)]
  simp only [plainL, List.all_cons, Array.getElem_toList]
  rfl
set_option maxHeartbeats 400000 in
theorem refPlain_any (s : ByteArray) (w : World) (hs : s.size ≤ maxLen) :
    Calls Tryd.prog 27 #[.string s] w fun e w' => e = .returned (.bool (plainL s.data.toList)) ∧ w = w' := by
  unfold maxLen at hs
  go_enter Tryd.func27, Tryd.ntmps27
  go_wp2
  go_loop [3] (fun i => ∃ k : Nat, k ≤ s.size ∧ i = .int .i64 k ∧ Hid (plainL (s.data.toList.drop k) = plainL s.data.toList)) (fun i => s.size - (intOf i).toNat)
  case atStart => exact ⟨0, by omega, rfl, rfl⟩
  case round =>
    obtain ⟨k, hk, rfl, hd⟩ := hrel
    by_cases hlt : k < s.size
    · have HS := Lib.hid (plain_step s k hlt)
      have HO := byte_int s k hlt
      by_cases h1 : (s[k].toNat : Int) < 32
      · have hv := Lib.hid (show false = plainL s.data.toList by rw [← hd.out, HS.out, HO]; simp; omega)
        clear HS HO
        go_wp2
        go_ret
        exact ⟨by rw [← hv.out]; rfl, rfl⟩
      · by_cases h2 : (126 : Int) < s[k].toNat
        · have hv := Lib.hid (show false = plainL s.data.toList by rw [← hd.out, HS.out, HO]; simp; omega)
          clear HS HO
          go_wp2
          go_ret
          exact ⟨by rw [← hv.out]; rfl, rfl⟩
        · have hv := Lib.hid (show plainL (s.data.toList.drop (k + 1)) = plainL s.data.toList by rw [← hd.out, HS.out, HO]; simp; omega)
          clear HS HO
          go_wp2
          go_round
          case rel => exact ⟨k + 1, by omega, by go_num, hv⟩
          case measure => simp [intOf]; omega
    · have hke : k = s.size := by omega
      have HD := hd.out
      rw [List.drop_eq_nil_of_le (by rw [Array.length_toList, hke]; exact Nat.le_refl _)] at HD
      have HH := Lib.hid HD
      clear HD hke
      go_wp2
      go_ret
      exact ⟨by rw [← HH.out]; rfl, rfl⟩
end Go.Proofs.YtiopcifglfocpaaDoor.X
