/- Chapter 23, plain law: a text has only bytes from 32 to 126 just if none of its letters is less than 32 or more than 126. No condition. -/
import Derived.Lib.DecodeN
import Derived.Shelf.GgClosure.StringsIndexFuncTop
namespace Go.Proofs.YtiopcifglfocpaaDoor.X
open Go.RowKit
def okB (c : UInt8) : Bool := decide (32 ≤ c.toNat) && decide (c.toNat ≤ 126)
def plainL (l : List UInt8) : Bool := l.all okB
def oddR (x : Nat) : Bool := decide ((x : Int) < 32) || decide (126 < (x : Int))
theorem decode_small (s : ByteArray) (pos : Nat) (h : (s.get! pos).toNat < 128) : Utf8.decode s pos = ((s.get! pos).toNat, 1) := by
  rw [Lib.decode_at]
  unfold Lib.decodeN
  rw [if_pos h]
theorem decode_great (s : ByteArray) (pos : Nat) (h : 128 ≤ (s.get! pos).toNat) : 127 < (Utf8.decode s pos).1 := by
  rw [Lib.decode_at]
  unfold Lib.decodeN
  rw [if_neg (by omega)]
  repeat (first | omega | split | simp only [])
theorem idx_plain (s : ByteArray) : ∀ (f pos : Nat), s.size ≤ pos + f → (Lib.idxFuncFrom oddR true s f pos < 0 ↔ plainL (s.data.toList.drop pos) = true)
  | 0, pos, h => by
    have hl : s.data.toList.length = s.size := by rw [Array.length_toList]; rfl
    rw [List.drop_eq_nil_of_le (by omega)]
    simp [Lib.idxFuncFrom, plainL]
  | f + 1, pos, h => by
    have hl : s.data.toList.length = s.size := by rw [Array.length_toList]; rfl
    unfold Lib.idxFuncFrom
    by_cases hp : pos < s.size
    · have hg : s.get! pos = s.data.toList[pos]'(by omega) := by
        have : s.get! pos = s.data[pos]! := rfl
        rw [this, getElem!_pos s.data pos hp, Array.getElem_toList]
      rw [if_pos hp, List.drop_eq_getElem_cons (by omega), ← hg]
      by_cases h1 : (s.get! pos).toNat < 128
      · rw [decode_small s pos h1]
        have ih := idx_plain s f (pos + 1) (by omega)
        by_cases h2 : okB (s.get! pos) = true
        · have h3 : oddR (s.get! pos).toNat = false := by
            simp [okB] at h2; simp [oddR]; omega
          simp only [h3]
          rw [if_neg (by decide), ih]
          simp [plainL, h2]
        · have h3 : oddR (s.get! pos).toNat = true := by
            simp [okB] at h2; simp [oddR]; omega
          simp only [h3]
          rw [if_pos (by trivial)]
          simp [plainL, h2]
      · have hgr := decode_great s pos (by omega)
        have h3 : oddR (Utf8.decode s pos).1 = true := by simp [oddR]; omega
        have h2 : okB (s.get! pos) = false := by simp [okB]; omega
        rw [h3, if_pos (by trivial)]
        simp [plainL, h2]
    · rw [if_neg hp, List.drop_eq_nil_of_le (by omega)]
      simp [plainL]
theorem plain_idx (s : ByteArray) : decide (Lib.idxFunc oddR true s < 0) = plainL s.data.toList := by
  have := idx_plain s s.size 0 (by omega)
  rw [List.drop_zero] at this
  unfold Lib.idxFunc
  cases h : plainL s.data.toList
  · rw [h] at this; simp at this; simp; omega
  · rw [h] at this; simp; exact this.2 rfl
end Go.Proofs.YtiopcifglfocpaaDoor.X
