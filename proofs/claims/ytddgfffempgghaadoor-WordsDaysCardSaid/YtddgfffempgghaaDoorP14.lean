/- Plain functions on lists of bytes that chapter 14's words come to, and laws on them. -/
import Derived.Lib.Strings
import Derived.KernelRfl
import Derived.RowKit
namespace Go.Proofs.YtddgfffempgghaaDoor.X

theorem ret_int {k : IntKind} {a b : Int} (h : a = b) : Ending.returned (.int k a) = .returned (.int k b) := by rw [h]
theorem ret_two {k k' : IntKind} {a b c d : Int} (h : a = b) (h' : c = d) : Ending.returned (.tuple #[.int k a, .int k' c]) = .returned (.tuple #[.int k b, .int k' d]) := by rw [h, h']

/-- A number of digits; -1: it is none. -/
def valL : List UInt8 → Int → Int
  | [], v => v
  | c :: cs, v => if (c.toNat : Int) < 48 ∨ 57 < (c.toNat : Int) then -1 else valL cs (v * 10 + ((c.toNat : Int) - 48))
/-- The same, but for a bound that the program looks at. -/
def digL : List UInt8 → Int → Int
  | [], v => v
  | c :: cs, v => if (c.toNat : Int) < 48 ∨ 57 < (c.toNat : Int) ∨ 1099511627776 < v then -1 else digL cs (v * 10 + ((c.toNat : Int) - 48))
def digV (s : ByteArray) : Int := if s.size = 0 then -1 else digL s.data.toList 0

theorem digL_eq (l : List UInt8) : ∀ (k : Nat) (v : Int), l.length + k ≤ 12 → 0 ≤ v → v < ((10 ^ k : Nat) : Int) → digL l v = valL l v := by
  induction l with
  | nil => intro k v _ _ _; rfl
  | cons c cs ih =>
    intro k v hk h0 hv
    have hb : v ≤ 1099511627776 := by
      have : 10 ^ k ≤ 10 ^ 12 := Nat.pow_le_pow_right (by omega) (by simp at hk; omega)
      omega
    rw [digL, valL]
    by_cases hc : (c.toNat : Int) < 48 ∨ 57 < (c.toNat : Int)
    · rw [if_pos hc, if_pos (by omega)]
    · rw [if_neg hc, if_neg (by omega)]
      refine ih (k + 1) _ (by simp at hk; omega) (by omega) ?_
      rw [Nat.pow_succ]
      omega
theorem valL_bd (l : List UInt8) : ∀ (v : Int), 0 ≤ v → -1 ≤ valL l v := by
  induction l with
  | nil => intro v h; simp [valL]; omega
  | cons c cs ih =>
    intro v h
    rw [valL]
    split
    · omega
    · exact ih _ (by omega)
theorem valL_lt (l : List UInt8) : ∀ (k : Nat) (v : Int), 0 ≤ v → v < ((10 ^ k : Nat) : Int) → valL l v < ((10 ^ (l.length + k) : Nat) : Int) := by
  induction l with
  | nil => intro k v _ h; simpa [valL] using h
  | cons c cs ih =>
    intro k v h0 h
    rw [valL]
    split
    · have : 0 < 10 ^ ((c :: cs).length + k) := Nat.pow_pos (by omega)
      omega
    · have := ih (k + 1) (v * 10 + ((c.toNat : Int) - 48)) (by omega) (by rw [Nat.pow_succ]; omega)
      rw [show (c :: cs).length + k = cs.length + (k + 1) by simp; omega]
      exact this
theorem valL_snoc (l : List UInt8) (c : UInt8) : ∀ v : Int, 0 ≤ v → valL (l ++ [c]) v = if valL l v < 0 ∨ (c.toNat : Int) < 48 ∨ 57 < (c.toNat : Int) then -1 else valL l v * 10 + ((c.toNat : Int) - 48) := by
  induction l with
  | nil =>
    intro v hv
    show (if (c.toNat : Int) < 48 ∨ 57 < (c.toNat : Int) then -1 else v * 10 + ((c.toNat : Int) - 48)) = if v < 0 ∨ (c.toNat : Int) < 48 ∨ 57 < (c.toNat : Int) then -1 else v * 10 + ((c.toNat : Int) - 48)
    by_cases hc : (c.toNat : Int) < 48 ∨ 57 < (c.toNat : Int)
    · rw [if_pos hc, if_pos (by omega)]
    · rw [if_neg hc, if_neg (by omega)]
  | cons d ds ih =>
    intro v hv
    rw [List.cons_append, valL, valL]
    by_cases hd : (d.toNat : Int) < 48 ∨ 57 < (d.toNat : Int)
    · rw [if_pos hd, if_pos hd, if_pos (by omega)]
    · rw [if_neg hd, if_neg hd, ih _ (by omega)]
theorem digL_bd (l : List UInt8) : ∀ v : Int, 0 ≤ v → v ≤ 10995116277769 → -1 ≤ digL l v ∧ digL l v ≤ 10995116277769 := by
  induction l with
  | nil => intro v h h'; exact ⟨by rw [digL]; omega, h'⟩
  | cons c cs ih =>
    intro v h h'
    rw [digL]
    split
    · omega
    · exact ih _ (by omega) (by omega)
theorem digV_bd (s : ByteArray) : -1 ≤ digV s ∧ digV s ≤ 10995116277769 := by
  unfold digV
  split
  · omega
  · exact digL_bd _ _ (by omega) (by omega)
/-- The reference's loop over digits, as the machine reckons. -/
def valW : List UInt8 → Int → Int
  | [], v => v
  | c :: cs, v => if (c.toNat : Int) < 48 ∨ 57 < (c.toNat : Int) then -1 else valW cs (RowKit.wrap64 (RowKit.wrap64 (10 * v) + ((c.toNat : Int) - 48)))
theorem wrap_in (n : Int) (h : -9223372036854775808 ≤ n ∧ n ≤ 9223372036854775807) : RowKit.wrap64 n = n := by unfold RowKit.wrap64; omega
theorem valW_eq (l : List UInt8) : ∀ (k : Nat) (v : Int), l.length + k ≤ 18 → 0 ≤ v → v < ((10 ^ k : Nat) : Int) → valW l v = valL l v := by
  induction l with
  | nil => intro k v _ _ _; rfl
  | cons c cs ih =>
    intro k v hk h0 hv
    have h17 : 10 ^ k ≤ 10 ^ 17 := Nat.pow_le_pow_right (by omega) (by simp at hk; omega)
    rw [valW, valL]
    by_cases hc : (c.toNat : Int) < 48 ∨ 57 < (c.toNat : Int)
    · rw [if_pos hc, if_pos hc]
    · rw [if_neg hc, if_neg hc, wrap_in (10 * v) (by omega), wrap_in _ (by omega), Int.mul_comm]
      refine ih (k + 1) _ (by simp at hk; omega) (by omega) ?_
      rw [Nat.pow_succ]
      omega
theorem valW_bd (l : List UInt8) : ∀ v : Int, -9223372036854775808 ≤ v → v ≤ 9223372036854775807 → -9223372036854775808 ≤ valW l v ∧ valW l v ≤ 9223372036854775807 := by
  induction l with
  | nil => intro v h h'; exact ⟨h, h'⟩
  | cons c cs ih =>
    intro v h h'
    rw [valW]
    split
    · omega
    · exact ih _ (by unfold RowKit.wrap64; omega) (by unfold RowKit.wrap64; omega)
/-- words.Number, as the program goes: of the digits' number, how many they are, the first of them, whether a sign stands ahead, whether the whole is 0. -/
def numRuns (n len c : Int) (neg zero : Bool) (low high : Int) : Int × Int :=
  if n < 0 ∨ 6 < len ∨ c = 48 ∧ zero = false then (0, 2)
  else if (if neg = true then -n else n) < low ∨ high < (if neg = true then -n else n) then (0, 8)
  else (if neg = true then -n else n, 0)

/-- words.Number, Year. -/
def numNeg (l : List UInt8) : Bool := l.head? == some 45
def numRest (l : List UInt8) : List UInt8 := if numNeg l = true then l.tail else l
def numOk (l : List UInt8) : Bool := decide (numRest l ≠ [] ∧ (numRest l).length ≤ 6 ∧ 0 ≤ valL (numRest l) 0 ∧ ¬ ((numRest l).headD 0 = 48 ∧ (1 < (numRest l).length ∨ numNeg l = true)))
def numVal (l : List UInt8) : Int := if numNeg l = true then - valL (numRest l) 0 else valL (numRest l) 0
def numV (l : List UInt8) (low high : Int) : Int := if numOk l = true ∧ low ≤ numVal l ∧ numVal l ≤ high then numVal l else 0
def numE (l : List UInt8) (low high : Int) : Int := if numOk l = true then (if low ≤ numVal l ∧ numVal l ≤ high then 0 else 8) else 2

theorem zero_iff (l : List UInt8) : (l == [48]) = true ↔ numNeg l = false ∧ (numRest l).length = 1 ∧ (numRest l).headD 0 = 48 := by
  unfold numRest numNeg
  match l with
  | [] => simp
  | [c] =>
    by_cases h : c = 45
    · simp [h]
    · simp [h]
  | c :: d :: r => simp; intro h; simp [h]
theorem num_runs (s t : ByteArray) (low high : Int) (ht : t.data.toList = numRest s.data.toList) :
    numRuns (digV t) t.size ((t.data.toList.headD 0).toNat : Int) (numNeg s.data.toList) (s.data.toList == [48]) low high = (numV s.data.toList low high, numE s.data.toList low high) := by
  have hz : t.size = t.data.toList.length := by rw [Array.length_toList]; rfl
  have hd : t.data.toList.length ≤ 6 → digV t = if t.data.toList = [] then -1 else valL t.data.toList 0 := by
    intro h6
    unfold digV
    rw [digL_eq _ 0 0 (by omega) (by omega) (by decide), hz]
    simp only [List.length_eq_zero_iff]
  have h0 := zero_iff s.data.toList
  have hc : ((t.data.toList.headD 0).toNat : Int) = 48 ↔ t.data.toList.headD 0 = 48 := by
    rw [← UInt8.toNat_inj]; simp; omega
  rw [hz]
  generalize (s.data.toList == [48]) = z at *
  unfold numRuns numV numE numOk numVal
  simp only [hc]
  clear hc
  rw [ht] at hd ⊢
  clear ht hz
  have hln : (numRest s.data.toList).length = 0 ↔ numRest s.data.toList = [] := List.length_eq_zero_iff
  generalize numRest s.data.toList = r at *
  generalize numNeg s.data.toList = neg at *
  generalize valL r 0 = v at *
  generalize digV t = n at *
  generalize r.headD 0 = d at *
  grind
/-- The reference's Number, as it goes. -/
def numRunsR (n len c : Int) (neg : Bool) (low high : Int) : Int × Int :=
  if len < 1 ∨ 6 < len ∨ n < 0 ∨ c = 48 ∧ (1 < len ∨ neg = true) then (0, 2)
  else if (if neg = true then -n else n) < low ∨ high < (if neg = true then -n else n) then (0, 8)
  else (if neg = true then -n else n, 0)
theorem num_runsR (l : List UInt8) (low high : Int) :
    numRunsR (valW (numRest l) 0) (numRest l).length (((numRest l).headD 0).toNat : Int) (numNeg l) low high = (numV l low high, numE l low high) := by
  have hd : (numRest l).length ≤ 6 → valW (numRest l) 0 = valL (numRest l) 0 := fun h6 => valW_eq _ 0 0 (by omega) (by omega) (by decide)
  have hc : (((numRest l).headD 0).toNat : Int) = 48 ↔ (numRest l).headD 0 = 48 := by
    rw [← UInt8.toNat_inj]; simp; omega
  unfold numRunsR numV numE numOk numVal
  simp only [hc]
  clear hc
  have hln : (numRest l).length = 0 ↔ numRest l = [] := List.length_eq_zero_iff
  generalize numRest l = r at *
  generalize numNeg l = neg at *
  generalize valL r 0 = v at *
  generalize valW r 0 = n at *
  generalize r.headD 0 = d at *
  grind

end Go.Proofs.YtddgfffempgghaaDoor.X
