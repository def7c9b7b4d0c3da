/- Plain laws of the calendar. -/
import Derived.Lib.Strings
import Derived.KernelRfl
import Derived.RowKit
namespace Go.Proofs.YtddgfffempgghaaDoor.X

def leapB (y : Int) : Bool := decide (y % 4 = 0 ∧ (y % 100 ≠ 0 ∨ y % 400 = 0))
def monthDays (y m : Int) : Int :=
  if m < 1 ∨ 12 < m then 0 else if m = 2 then (if leapB y = true then 29 else 28) else if m = 4 ∨ m = 6 ∨ m = 9 ∨ m = 11 then 30 else 31
def yearDays (y : Int) : Int := if leapB y = true then 366 else 365
/-- The number of a year's first day. -/
def jan1 (y : Int) : Int := 365 * y + (y - 1) / 4 - (y - 1) / 100 + (y - 1) / 400 - 719527
def cum (y m : Int) : Int :=
  if m ≤ 1 then 0 else if m = 2 then 31 else
    (if m = 3 then 59 else if m = 4 then 90 else if m = 5 then 120 else if m = 6 then 151 else if m = 7 then 181 else if m = 8 then 212 else if m = 9 then 243 else if m = 10 then 273 else if m = 11 then 304 else if m = 12 then 334 else 365) + (if leapB y = true then 1 else 0)
def dayNum (y m d : Int) : Int := jan1 y + cum y m + d - 1
theorem leapB_cases (y : Int) : leapB y = true ∧ y % 4 = 0 ∧ (y % 100 ≠ 0 ∨ y % 400 = 0) ∨ leapB y = false ∧ ¬ (y % 4 = 0 ∧ (y % 100 ≠ 0 ∨ y % 400 = 0)) := by
  unfold leapB
  by_cases h : y % 4 = 0 ∧ (y % 100 ≠ 0 ∨ y % 400 = 0)
  · exact .inl ⟨decide_eq_true h, h⟩
  · exact .inr ⟨decide_eq_false h, h⟩
theorem jan1_next (y : Int) : jan1 (y + 1) = jan1 y + yearDays y := by
  unfold jan1 yearDays
  rcases leapB_cases y with ⟨h, h1, h2⟩ | ⟨h, h1⟩
  · rw [h, if_pos rfl]; omega
  · rw [h, if_neg (by decide)]; omega
theorem jan1_cycle (y : Int) : jan1 (y + 400) = jan1 y + 146097 := by unfold jan1; omega
theorem jan1_2000 : jan1 2000 = 10957 := by decide
theorem cum_next (y m : Int) (h1 : 1 ≤ m) (h2 : m ≤ 12) : cum y (m + 1) = cum y m + monthDays y m := by
  have hc : m = 1 ∨ m = 2 ∨ m = 3 ∨ m = 4 ∨ m = 5 ∨ m = 6 ∨ m = 7 ∨ m = 8 ∨ m = 9 ∨ m = 10 ∨ m = 11 ∨ m = 12 := by omega
  unfold cum monthDays
  rcases leapB_cases y with ⟨h, _⟩ | ⟨h, _⟩ <;> rw [h] <;> rcases hc with rfl | rfl | rfl | rfl | rfl | rfl | rfl | rfl | rfl | rfl | rfl | rfl <;> decide
theorem cum_bd (y m : Int) (h1 : 1 ≤ m) (h2 : m ≤ 12) : 0 ≤ cum y m ∧ cum y m ≤ 366 := by
  have hc : m = 1 ∨ m = 2 ∨ m = 3 ∨ m = 4 ∨ m = 5 ∨ m = 6 ∨ m = 7 ∨ m = 8 ∨ m = 9 ∨ m = 10 ∨ m = 11 ∨ m = 12 := by omega
  unfold cum
  rcases leapB_cases y with ⟨h, _⟩ | ⟨h, _⟩ <;> rw [h] <;> rcases hc with rfl | rfl | rfl | rfl | rfl | rfl | rfl | rfl | rfl | rfl | rfl | rfl <;> decide
/-- The program's reckoning. -/
def numberG (y m d : Int) : Int :=
  let b := (14 - m) / 12
  let q := (y - b) / 400
  let r := (y - b) % 400
  q * 146097 + r * 365 + r / 4 - r / 100 + ((153 * (m + 12 * b - 3) + 2) / 5 + d - 1) - 719468
theorem numberG_eq (y m d : Int) (h1 : 1 ≤ m) (h2 : m ≤ 12) : numberG y m d = dayNum y m d := by
  have hc : m = 1 ∨ m = 2 ∨ m = 3 ∨ m = 4 ∨ m = 5 ∨ m = 6 ∨ m = 7 ∨ m = 8 ∨ m = 9 ∨ m = 10 ∨ m = 11 ∨ m = 12 := by omega
  unfold numberG dayNum cum jan1
  rcases leapB_cases y with ⟨h, h3, h4⟩ | ⟨h, h3⟩ <;> rw [h] <;> rcases hc with rfl | rfl | rfl | rfl | rfl | rfl | rfl | rfl | rfl | rfl | rfl | rfl <;> simp <;> omega
end Go.Proofs.YtddgfffempgghaaDoor.X
