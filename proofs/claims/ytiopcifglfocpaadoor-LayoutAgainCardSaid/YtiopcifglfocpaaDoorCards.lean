/-
  DERIVED. GIVEN WITH THE SEED: THE CARDS: each row of YtiopcifglfocpaaDoorRows.lean that lists a variable, with what it lists TIED to the program's text (the seventh form; the later family's looks); each row that meets fmt, with fmt's text TOLD by the authors' own Lean function (tested against real Go, not proved from fmt's source: count such statements apart). THE CARD IS WHAT COUNTS. Prove the row's statement (the work); the ties are given (YtiopcifglfocpaaDoorTie.lean); close each card by the builder's one call (the guide's Derived/Test/ToyasCard.lean, 'card_holds'). Laid BY PROGRAM, IN A SANDBOX (cutbox-door.mjs). By AI agents, Wed Nov 11 2026. No macro, syntax, notation, axiom, sorry.
-/
import Derived.Test.YtiopcifglfocpaaDoorRows
import GoSem.ClaimSeven
namespace Go.Proofs.YtiopcifglfocpaaDoor
namespace Rows

/-- THE TIED CARD OF 'analemmalaw23.LayoutParses'. -/
def layoutParsesCard : Claim7 := { stood := { row := layoutParsesRow, standIns := [], harness := (true, "fd8b4b461ce732fe8e25047cb275930fc587ba033557ce5e6a7cb0a6d99bdad7"), looks := false }, kinds := [], alts := [], laidByText := true, laidKinds := [.data, .pinned], laidTests := true, laidLooks := .later }
def LayoutParsesCardSaid : Prop := Claim7.holds Tryd.pinned (.plain (OpenSpec.ofChange layoutParsesSpec)) layoutParsesCard

/-- THE TIED CARD OF 'analemmalaw23.LayoutWidths'. -/
def layoutWidthsCard : Claim7 := { stood := { row := layoutWidthsRow, standIns := [], harness := (true, "fd8b4b461ce732fe8e25047cb275930fc587ba033557ce5e6a7cb0a6d99bdad7"), looks := false }, kinds := [], alts := [], laidByText := true, laidKinds := [.data, .pinned], laidTests := true, laidLooks := .later }
def LayoutWidthsCardSaid : Prop := Claim7.holds Tryd.pinned (.plain (OpenSpec.ofChange layoutWidthsSpec)) layoutWidthsCard

/-- THE TIED CARD OF 'analemmalaw23.LayoutMore'. -/
def layoutMoreCard : Claim7 := { stood := { row := layoutMoreRow, standIns := [], harness := (true, "fd8b4b461ce732fe8e25047cb275930fc587ba033557ce5e6a7cb0a6d99bdad7"), looks := false }, kinds := [], alts := [], laidByText := true, laidKinds := [.data, .pinned], laidTests := true, laidLooks := .later }
def LayoutMoreCardSaid : Prop := Claim7.holds Tryd.pinned (.plain (OpenSpec.ofChange layoutMoreSpec)) layoutMoreCard

/-- THE TIED CARD OF 'analemmalaw23.LayoutShows'. -/
def layoutShowsCard : Claim7 := { stood := { row := layoutShowsRow, standIns := [], harness := (true, "fd8b4b461ce732fe8e25047cb275930fc587ba033557ce5e6a7cb0a6d99bdad7"), looks := false }, kinds := [], alts := [], laidByText := true, laidKinds := [.data, .pinned], laidTests := true, laidLooks := .later }
def LayoutShowsCardSaid : Prop := Claim7.holds Tryd.pinned (.plain (OpenSpec.ofChange layoutShowsSpec)) layoutShowsCard

/-- THE TIED CARD OF 'analemmalaw23.LayoutBack'. -/
def layoutBackCard : Claim7 := { stood := { row := layoutBackRow, standIns := [], harness := (true, "fd8b4b461ce732fe8e25047cb275930fc587ba033557ce5e6a7cb0a6d99bdad7"), looks := false }, kinds := [], alts := [], laidByText := true, laidKinds := [.data, .pinned], laidTests := true, laidLooks := .later }
def LayoutBackCardSaid : Prop := Claim7.holds Tryd.pinned (.plain (OpenSpec.ofChange layoutBackSpec)) layoutBackCard

/-- THE TIED CARD OF 'analemmalaw23.LayoutAgain'. -/
def layoutAgainCard : Claim7 := { stood := { row := layoutAgainRow, standIns := [], harness := (true, "fd8b4b461ce732fe8e25047cb275930fc587ba033557ce5e6a7cb0a6d99bdad7"), looks := false }, kinds := [], alts := [], laidByText := true, laidKinds := [.data, .pinned], laidTests := true, laidLooks := .later }
def LayoutAgainCardSaid : Prop := Claim7.holds Tryd.pinned (.plain (OpenSpec.ofChange layoutAgainSpec)) layoutAgainCard

/-- THE SECOND FORM's CARD OF 'analemmalaw23.LayoutParses'. -/
def layoutParsesUptoCard : Claim7 := { stood := { row := layoutParsesUptoRow, standIns := [], harness := (true, "fd8b4b461ce732fe8e25047cb275930fc587ba033557ce5e6a7cb0a6d99bdad7"), looks := false }, kinds := [], alts := [], laidByText := true, laidKinds := [.data, .pinned], laidTests := true, laidLooks := .later }
def LayoutParsesUptoCardSaid : Prop := Claim7.holds Tryd.pinned (.plain (OpenSpec.upto layoutParsesSpec)) layoutParsesUptoCard

/-- THE SECOND FORM's CARD OF 'analemmalaw23.LayoutWidths'. -/
def layoutWidthsUptoCard : Claim7 := { stood := { row := layoutWidthsUptoRow, standIns := [], harness := (true, "fd8b4b461ce732fe8e25047cb275930fc587ba033557ce5e6a7cb0a6d99bdad7"), looks := false }, kinds := [], alts := [], laidByText := true, laidKinds := [.data, .pinned], laidTests := true, laidLooks := .later }
def LayoutWidthsUptoCardSaid : Prop := Claim7.holds Tryd.pinned (.plain (OpenSpec.upto layoutWidthsSpec)) layoutWidthsUptoCard

/-- THE SECOND FORM's CARD OF 'analemmalaw23.LayoutMore'. -/
def layoutMoreUptoCard : Claim7 := { stood := { row := layoutMoreUptoRow, standIns := [], harness := (true, "fd8b4b461ce732fe8e25047cb275930fc587ba033557ce5e6a7cb0a6d99bdad7"), looks := false }, kinds := [], alts := [], laidByText := true, laidKinds := [.data, .pinned], laidTests := true, laidLooks := .later }
def LayoutMoreUptoCardSaid : Prop := Claim7.holds Tryd.pinned (.plain (OpenSpec.upto layoutMoreSpec)) layoutMoreUptoCard

/-- THE SECOND FORM's CARD OF 'analemmalaw23.LayoutShows'. -/
def layoutShowsUptoCard : Claim7 := { stood := { row := layoutShowsUptoRow, standIns := [], harness := (true, "fd8b4b461ce732fe8e25047cb275930fc587ba033557ce5e6a7cb0a6d99bdad7"), looks := false }, kinds := [], alts := [], laidByText := true, laidKinds := [.data, .pinned], laidTests := true, laidLooks := .later }
def LayoutShowsUptoCardSaid : Prop := Claim7.holds Tryd.pinned (.plain (OpenSpec.upto layoutShowsSpec)) layoutShowsUptoCard

/-- THE SECOND FORM's CARD OF 'analemmalaw23.LayoutBack'. -/
def layoutBackUptoCard : Claim7 := { stood := { row := layoutBackUptoRow, standIns := [], harness := (true, "fd8b4b461ce732fe8e25047cb275930fc587ba033557ce5e6a7cb0a6d99bdad7"), looks := false }, kinds := [], alts := [], laidByText := true, laidKinds := [.data, .pinned], laidTests := true, laidLooks := .later }
def LayoutBackUptoCardSaid : Prop := Claim7.holds Tryd.pinned (.plain (OpenSpec.upto layoutBackSpec)) layoutBackUptoCard

/-- THE SECOND FORM's CARD OF 'analemmalaw23.LayoutAgain'. -/
def layoutAgainUptoCard : Claim7 := { stood := { row := layoutAgainUptoRow, standIns := [], harness := (true, "fd8b4b461ce732fe8e25047cb275930fc587ba033557ce5e6a7cb0a6d99bdad7"), looks := false }, kinds := [], alts := [], laidByText := true, laidKinds := [.data, .pinned], laidTests := true, laidLooks := .later }
def LayoutAgainUptoCardSaid : Prop := Claim7.holds Tryd.pinned (.plain (OpenSpec.upto layoutAgainSpec)) layoutAgainUptoCard
end Rows
end Go.Proofs.YtiopcifglfocpaaDoor
