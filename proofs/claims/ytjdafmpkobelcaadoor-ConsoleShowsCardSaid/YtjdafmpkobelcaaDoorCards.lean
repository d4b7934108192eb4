/-
  DERIVED. GIVEN WITH THE SEED: THE CARDS: each row of YtjdafmpkobelcaaDoorRows.lean that lists a variable, with what it lists TIED to the program's text (the seventh form; the later family's looks); each row that meets fmt, with fmt's text TOLD by the authors' own Lean function (tested against real Go, not proved from fmt's source: count such statements apart). THE CARD IS WHAT COUNTS. Prove the row's statement (the work); the ties are given (YtjdafmpkobelcaaDoorTie.lean); close each card by the builder's one call (the guide's Derived/Test/ToyasCard.lean, 'card_holds'). Laid BY PROGRAM, IN A SANDBOX (cutbox-door.mjs). By AI agents, Wed Nov 11 2026. No macro, syntax, notation, axiom, sorry.
-/
import Derived.Test.YtjdafmpkobelcaaDoorRows
import GoSem.ClaimSeven
namespace Go.Proofs.YtjdafmpkobelcaaDoor
namespace Rows

/-- THE TIED CARD OF 'bluebelllaw21.ConsoleShows'. -/
def consoleShowsCard : Claim7 := { stood := { row := consoleShowsRow, standIns := [], harness := (true, "14f70bdc4282ac579a077df9f03f6637da9d8623b671a74bfd15eeeba81b6699"), looks := false }, kinds := [], alts := [], laidByText := true, laidKinds := [.data, .data, .data], laidTests := true, laidLooks := .later }
def ConsoleShowsCardSaid : Prop := Claim7.holds Tryd.pinned (.plain (OpenSpec.ofChange consoleShowsSpec)) consoleShowsCard

/-- THE TIED CARD OF 'bluebelllaw21.ConsoleApart'. -/
def consoleApartCard : Claim7 := { stood := { row := consoleApartRow, standIns := [], harness := (true, "14f70bdc4282ac579a077df9f03f6637da9d8623b671a74bfd15eeeba81b6699"), looks := false }, kinds := [], alts := [], laidByText := true, laidKinds := [.data, .data, .data], laidTests := true, laidLooks := .later }
def ConsoleApartCardSaid : Prop := Claim7.holds Tryd.pinned (.plain (OpenSpec.ofChange consoleApartSpec)) consoleApartCard

/-- THE TIED CARD OF 'bluebelllaw21.ConsoleDoes'. -/
def consoleDoesCard : Claim7 := { stood := { row := consoleDoesRow, standIns := [], harness := (true, "14f70bdc4282ac579a077df9f03f6637da9d8623b671a74bfd15eeeba81b6699"), looks := false }, kinds := [], alts := [], laidByText := true, laidKinds := [.data, .data, .data], laidTests := true, laidLooks := .later }
def ConsoleDoesCardSaid : Prop := Claim7.holds Tryd.pinned (.plain (OpenSpec.ofChange consoleDoesSpec)) consoleDoesCard

/-- THE TIED CARD OF 'bluebelllaw21.ConsoleNil'. -/
def consoleNilCard : Claim7 := { stood := { row := consoleNilRow, standIns := [], harness := (true, "14f70bdc4282ac579a077df9f03f6637da9d8623b671a74bfd15eeeba81b6699"), looks := false }, kinds := [], alts := [], laidByText := true, laidKinds := [.data, .data, .data], laidTests := true, laidLooks := .later }
def ConsoleNilCardSaid : Prop := Claim7.holds Tryd.pinned (.plain (OpenSpec.ofChange consoleNilSpec)) consoleNilCard

/-- THE SECOND FORM's CARD OF 'bluebelllaw21.ConsoleShows'. -/
def consoleShowsUptoCard : Claim7 := { stood := { row := consoleShowsUptoRow, standIns := [], harness := (true, "14f70bdc4282ac579a077df9f03f6637da9d8623b671a74bfd15eeeba81b6699"), looks := false }, kinds := [], alts := [], laidByText := true, laidKinds := [.data, .data, .data], laidTests := true, laidLooks := .later }
def ConsoleShowsUptoCardSaid : Prop := Claim7.holds Tryd.pinned (.plain (OpenSpec.upto consoleShowsSpec)) consoleShowsUptoCard

/-- THE SECOND FORM's CARD OF 'bluebelllaw21.ConsoleApart'. -/
def consoleApartUptoCard : Claim7 := { stood := { row := consoleApartUptoRow, standIns := [], harness := (true, "14f70bdc4282ac579a077df9f03f6637da9d8623b671a74bfd15eeeba81b6699"), looks := false }, kinds := [], alts := [], laidByText := true, laidKinds := [.data, .data, .data], laidTests := true, laidLooks := .later }
def ConsoleApartUptoCardSaid : Prop := Claim7.holds Tryd.pinned (.plain (OpenSpec.upto consoleApartSpec)) consoleApartUptoCard

/-- THE SECOND FORM's CARD OF 'bluebelllaw21.ConsoleDoes'. -/
def consoleDoesUptoCard : Claim7 := { stood := { row := consoleDoesUptoRow, standIns := [], harness := (true, "14f70bdc4282ac579a077df9f03f6637da9d8623b671a74bfd15eeeba81b6699"), looks := false }, kinds := [], alts := [], laidByText := true, laidKinds := [.data, .data, .data], laidTests := true, laidLooks := .later }
def ConsoleDoesUptoCardSaid : Prop := Claim7.holds Tryd.pinned (.plain (OpenSpec.upto consoleDoesSpec)) consoleDoesUptoCard

/-- THE SECOND FORM's CARD OF 'bluebelllaw21.ConsoleNil'. -/
def consoleNilUptoCard : Claim7 := { stood := { row := consoleNilUptoRow, standIns := [], harness := (true, "14f70bdc4282ac579a077df9f03f6637da9d8623b671a74bfd15eeeba81b6699"), looks := false }, kinds := [], alts := [], laidByText := true, laidKinds := [.data, .data, .data], laidTests := true, laidLooks := .later }
def ConsoleNilUptoCardSaid : Prop := Claim7.holds Tryd.pinned (.plain (OpenSpec.upto consoleNilSpec)) consoleNilUptoCard
end Rows
end Go.Proofs.YtjdafmpkobelcaaDoor
