/-
  DERIVED. GIVEN WITH THE SEED: THE CARDS: each row of YtddgfffempgghaaDoorRows.lean that lists a variable, with what it lists TIED to the program's text (the seventh form; the later family's looks); each row that meets fmt, with fmt's text TOLD by the authors' own Lean function (tested against real Go, not proved from fmt's source: count such statements apart). THE CARD IS WHAT COUNTS. Prove the row's statement (the work); the ties are given (YtddgfffempgghaaDoorTie.lean); close each card by the builder's one call (the guide's Derived/Test/ToyasCard.lean, 'card_holds'). Laid BY PROGRAM, IN A SANDBOX (cutbox-door.mjs). By AI agents, Wed Nov 11 2026. No macro, syntax, notation, axiom, sorry.
-/
import Derived.Test.YtddgfffempgghaaDoorRows
import GoSem.ClaimSeven
namespace Go.Proofs.YtddgfffempgghaaDoor
namespace Rows

/-- THE TIED CARD OF 'analemmalaw14.WordsOffsets'. -/
def wordsOffsetsCard : Claim7 := { stood := { row := wordsOffsetsRow, standIns := [], harness := (true, "d24bd63f59ac077ede153756e2df9cdb9b0f3bd9ab215d1b532daf8602f6cb1b"), looks := false }, kinds := [], alts := [], laidByText := true, laidKinds := [.data, .pinned], laidTests := true, laidLooks := .later }
def WordsOffsetsCardSaid : Prop := Claim7.holds Tryd.pinned (.plain (OpenSpec.ofChange wordsOffsetsSpec)) wordsOffsetsCard

/-- THE TIED CARD OF 'analemmalaw14.WordsWeekdays'. -/
def wordsWeekdaysCard : Claim7 := { stood := { row := wordsWeekdaysRow, standIns := [], harness := (true, "d24bd63f59ac077ede153756e2df9cdb9b0f3bd9ab215d1b532daf8602f6cb1b"), looks := false }, kinds := [], alts := [], laidByText := true, laidKinds := [.data, .pinned], laidTests := true, laidLooks := .later }
def WordsWeekdaysCardSaid : Prop := Claim7.holds Tryd.pinned (.plain (OpenSpec.ofChange wordsWeekdaysSpec)) wordsWeekdaysCard

/-- THE TIED CARD OF 'analemmalaw14.WordsNumbers'. -/
def wordsNumbersCard : Claim7 := { stood := { row := wordsNumbersRow, standIns := [], harness := (true, "d24bd63f59ac077ede153756e2df9cdb9b0f3bd9ab215d1b532daf8602f6cb1b"), looks := false }, kinds := [], alts := [], laidByText := true, laidKinds := [.data, .pinned], laidTests := true, laidLooks := .later }
def WordsNumbersCardSaid : Prop := Claim7.holds Tryd.pinned (.plain (OpenSpec.ofChange wordsNumbersSpec)) wordsNumbersCard

/-- THE TIED CARD OF 'analemmalaw14.WordsTimes'. -/
def wordsTimesCard : Claim7 := { stood := { row := wordsTimesRow, standIns := [], harness := (true, "d24bd63f59ac077ede153756e2df9cdb9b0f3bd9ab215d1b532daf8602f6cb1b"), looks := false }, kinds := [], alts := [], laidByText := true, laidKinds := [.data, .pinned], laidTests := true, laidLooks := .later }
def WordsTimesCardSaid : Prop := Claim7.holds Tryd.pinned (.plain (OpenSpec.ofChange wordsTimesSpec)) wordsTimesCard

/-- THE TIED CARD OF 'analemmalaw14.WordsDays'. -/
def wordsDaysCard : Claim7 := { stood := { row := wordsDaysRow, standIns := [], harness := (true, "d24bd63f59ac077ede153756e2df9cdb9b0f3bd9ab215d1b532daf8602f6cb1b"), looks := false }, kinds := [], alts := [], laidByText := true, laidKinds := [.data, .pinned], laidTests := true, laidLooks := .later }
def WordsDaysCardSaid : Prop := Claim7.holds Tryd.pinned (.plain (OpenSpec.ofChange wordsDaysSpec)) wordsDaysCard

/-- THE SECOND FORM's CARD OF 'analemmalaw14.WordsOffsets'. -/
def wordsOffsetsUptoCard : Claim7 := { stood := { row := wordsOffsetsUptoRow, standIns := [], harness := (true, "d24bd63f59ac077ede153756e2df9cdb9b0f3bd9ab215d1b532daf8602f6cb1b"), looks := false }, kinds := [], alts := [], laidByText := true, laidKinds := [.data, .pinned], laidTests := true, laidLooks := .later }
def WordsOffsetsUptoCardSaid : Prop := Claim7.holds Tryd.pinned (.plain (OpenSpec.upto wordsOffsetsSpec)) wordsOffsetsUptoCard

/-- THE SECOND FORM's CARD OF 'analemmalaw14.WordsWeekdays'. -/
def wordsWeekdaysUptoCard : Claim7 := { stood := { row := wordsWeekdaysUptoRow, standIns := [], harness := (true, "d24bd63f59ac077ede153756e2df9cdb9b0f3bd9ab215d1b532daf8602f6cb1b"), looks := false }, kinds := [], alts := [], laidByText := true, laidKinds := [.data, .pinned], laidTests := true, laidLooks := .later }
def WordsWeekdaysUptoCardSaid : Prop := Claim7.holds Tryd.pinned (.plain (OpenSpec.upto wordsWeekdaysSpec)) wordsWeekdaysUptoCard

/-- THE SECOND FORM's CARD OF 'analemmalaw14.WordsNumbers'. -/
def wordsNumbersUptoCard : Claim7 := { stood := { row := wordsNumbersUptoRow, standIns := [], harness := (true, "d24bd63f59ac077ede153756e2df9cdb9b0f3bd9ab215d1b532daf8602f6cb1b"), looks := false }, kinds := [], alts := [], laidByText := true, laidKinds := [.data, .pinned], laidTests := true, laidLooks := .later }
def WordsNumbersUptoCardSaid : Prop := Claim7.holds Tryd.pinned (.plain (OpenSpec.upto wordsNumbersSpec)) wordsNumbersUptoCard

/-- THE SECOND FORM's CARD OF 'analemmalaw14.WordsTimes'. -/
def wordsTimesUptoCard : Claim7 := { stood := { row := wordsTimesUptoRow, standIns := [], harness := (true, "d24bd63f59ac077ede153756e2df9cdb9b0f3bd9ab215d1b532daf8602f6cb1b"), looks := false }, kinds := [], alts := [], laidByText := true, laidKinds := [.data, .pinned], laidTests := true, laidLooks := .later }
def WordsTimesUptoCardSaid : Prop := Claim7.holds Tryd.pinned (.plain (OpenSpec.upto wordsTimesSpec)) wordsTimesUptoCard

/-- THE SECOND FORM's CARD OF 'analemmalaw14.WordsDays'. -/
def wordsDaysUptoCard : Claim7 := { stood := { row := wordsDaysUptoRow, standIns := [], harness := (true, "d24bd63f59ac077ede153756e2df9cdb9b0f3bd9ab215d1b532daf8602f6cb1b"), looks := false }, kinds := [], alts := [], laidByText := true, laidKinds := [.data, .pinned], laidTests := true, laidLooks := .later }
def WordsDaysUptoCardSaid : Prop := Claim7.holds Tryd.pinned (.plain (OpenSpec.upto wordsDaysSpec)) wordsDaysUptoCard
end Rows
end Go.Proofs.YtddgfffempgghaaDoor
