/-
  DERIVED. GIVEN WITH THE SEED: THE CARDS: each row of YtlheciphihmomaaGreatDoorRows.lean that lists a variable, with what it lists TIED to the program's text (the seventh form; the later family's looks); each row that meets fmt, with fmt's text TOLD by the authors' own Lean function (tested against real Go, not proved from fmt's source: count such statements apart). THE CARD IS WHAT COUNTS. Prove the row's statement (the work); the ties are given (YtlheciphihmomaaGreatDoorTie.lean); close each card by the builder's one call (the guide's Derived/Test/ToyasCard.lean, 'card_holds'). Laid BY PROGRAM, IN A SANDBOX (cutbox-door.mjs). By AI agents, Wed Nov 11 2026. No macro, syntax, notation, axiom, sorry.
-/
import Derived.Test.YtlheciphihmomaaGreatDoorRows
import GoSem.ClaimSeven
namespace Go.Proofs.YtlheciphihmomaaGreatDoor
namespace Rows

/-- THE TIED CARD OF 'scriptoriumlaw25.ServerActs'. -/
def serverActsCard : Claim7 := { stood := { row := serverActsRow, standIns := [], harness := (true, "85faee6138f2508ad9cb4adf453b194f178c0d08deeac6dcc4c0cb71370ce49b"), looks := true }, kinds := [], alts := [], laidByText := true, laidKinds := [.data, .data, .data, .data, .sentinel, .sentinel, .pinned], laidTests := true, laidLooks := .later }
def ServerActsCardSaid : Prop := Claim7.holds Tryz.pinned (.plain (OpenSpec.ofChange serverActsSpec)) serverActsCard

/-- THE TIED CARD OF 'scriptoriumlaw25.ServerCuts'. -/
def serverCutsCard : Claim7 := { stood := { row := serverCutsRow, standIns := [], harness := (true, "85faee6138f2508ad9cb4adf453b194f178c0d08deeac6dcc4c0cb71370ce49b"), looks := true }, kinds := [], alts := [], laidByText := true, laidKinds := [.data, .data, .data, .data, .sentinel, .sentinel, .pinned], laidTests := true, laidLooks := .later }
def ServerCutsCardSaid : Prop := Claim7.holds Tryz.pinned (.plain (OpenSpec.ofChange serverCutsSpec)) serverCutsCard

/-- THE TIED CARD OF 'scriptoriumlaw25.ServerTakes'. -/
def serverTakesCard : Claim7 := { stood := { row := serverTakesRow, standIns := [], harness := (true, "85faee6138f2508ad9cb4adf453b194f178c0d08deeac6dcc4c0cb71370ce49b"), looks := true }, kinds := [], alts := [], laidByText := true, laidKinds := [.data, .data, .data, .data, .sentinel, .sentinel, .pinned], laidTests := true, laidLooks := .later }
def ServerTakesCardSaid : Prop := Claim7.holds Tryz.pinned (.plain (OpenSpec.ofChange serverTakesSpec)) serverTakesCard

/-- THE TIED CARD OF 'scriptoriumlaw25.ServerNone'. -/
def serverNoneCard : Claim7 := { stood := { row := serverNoneRow, standIns := [], harness := (true, "85faee6138f2508ad9cb4adf453b194f178c0d08deeac6dcc4c0cb71370ce49b"), looks := true }, kinds := [], alts := [], laidByText := true, laidKinds := [.data, .data, .data, .data, .sentinel, .sentinel, .pinned], laidTests := true, laidLooks := .later }
def ServerNoneCardSaid : Prop := Claim7.holds Tryz.pinned (.plain (OpenSpec.ofChange serverNoneSpec)) serverNoneCard

/-- THE TIED CARD OF 'scriptoriumlaw25.ServerGreets'. -/
def serverGreetsCard : Claim7 := { stood := { row := serverGreetsRow, standIns := [], harness := (true, "85faee6138f2508ad9cb4adf453b194f178c0d08deeac6dcc4c0cb71370ce49b"), looks := true }, kinds := [], alts := [], laidByText := true, laidKinds := [.data, .data, .data, .data, .sentinel, .sentinel, .pinned], laidTests := true, laidLooks := .later }
def ServerGreetsCardSaid : Prop := Claim7.holds Tryz.pinned (.plain (OpenSpec.ofChange serverGreetsSpec)) serverGreetsCard

/-- THE SECOND FORM's CARD OF 'scriptoriumlaw25.ServerActs'. -/
def serverActsUptoCard : Claim7 := { stood := { row := serverActsUptoRow, standIns := [], harness := (true, "85faee6138f2508ad9cb4adf453b194f178c0d08deeac6dcc4c0cb71370ce49b"), looks := true }, kinds := [], alts := [], laidByText := true, laidKinds := [.data, .data, .data, .data, .sentinel, .sentinel, .pinned], laidTests := true, laidLooks := .later }
def ServerActsUptoCardSaid : Prop := Claim7.holds Tryz.pinned (.plain (OpenSpec.upto serverActsSpec)) serverActsUptoCard

/-- THE SECOND FORM's CARD OF 'scriptoriumlaw25.ServerCuts'. -/
def serverCutsUptoCard : Claim7 := { stood := { row := serverCutsUptoRow, standIns := [], harness := (true, "85faee6138f2508ad9cb4adf453b194f178c0d08deeac6dcc4c0cb71370ce49b"), looks := true }, kinds := [], alts := [], laidByText := true, laidKinds := [.data, .data, .data, .data, .sentinel, .sentinel, .pinned], laidTests := true, laidLooks := .later }
def ServerCutsUptoCardSaid : Prop := Claim7.holds Tryz.pinned (.plain (OpenSpec.upto serverCutsSpec)) serverCutsUptoCard

/-- THE SECOND FORM's CARD OF 'scriptoriumlaw25.ServerTakes'. -/
def serverTakesUptoCard : Claim7 := { stood := { row := serverTakesUptoRow, standIns := [], harness := (true, "85faee6138f2508ad9cb4adf453b194f178c0d08deeac6dcc4c0cb71370ce49b"), looks := true }, kinds := [], alts := [], laidByText := true, laidKinds := [.data, .data, .data, .data, .sentinel, .sentinel, .pinned], laidTests := true, laidLooks := .later }
def ServerTakesUptoCardSaid : Prop := Claim7.holds Tryz.pinned (.plain (OpenSpec.upto serverTakesSpec)) serverTakesUptoCard

/-- THE SECOND FORM's CARD OF 'scriptoriumlaw25.ServerNone'. -/
def serverNoneUptoCard : Claim7 := { stood := { row := serverNoneUptoRow, standIns := [], harness := (true, "85faee6138f2508ad9cb4adf453b194f178c0d08deeac6dcc4c0cb71370ce49b"), looks := true }, kinds := [], alts := [], laidByText := true, laidKinds := [.data, .data, .data, .data, .sentinel, .sentinel, .pinned], laidTests := true, laidLooks := .later }
def ServerNoneUptoCardSaid : Prop := Claim7.holds Tryz.pinned (.plain (OpenSpec.upto serverNoneSpec)) serverNoneUptoCard

/-- THE SECOND FORM's CARD OF 'scriptoriumlaw25.ServerGreets'. -/
def serverGreetsUptoCard : Claim7 := { stood := { row := serverGreetsUptoRow, standIns := [], harness := (true, "85faee6138f2508ad9cb4adf453b194f178c0d08deeac6dcc4c0cb71370ce49b"), looks := true }, kinds := [], alts := [], laidByText := true, laidKinds := [.data, .data, .data, .data, .sentinel, .sentinel, .pinned], laidTests := true, laidLooks := .later }
def ServerGreetsUptoCardSaid : Prop := Claim7.holds Tryz.pinned (.plain (OpenSpec.upto serverGreetsSpec)) serverGreetsUptoCard
end Rows
end Go.Proofs.YtlheciphihmomaaGreatDoor
