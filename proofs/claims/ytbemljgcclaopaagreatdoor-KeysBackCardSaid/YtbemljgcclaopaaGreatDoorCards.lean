/-
  DERIVED. GIVEN WITH THE SEED: THE CARDS: each row of YtbemljgcclaopaaGreatDoorRows.lean that lists a variable, with what it lists TIED to the program's text (the seventh form; the later family's looks); each row that meets fmt, with fmt's text TOLD by the authors' own Lean function (tested against real Go, not proved from fmt's source: count such statements apart). THE CARD IS WHAT COUNTS. Prove the row's statement (the work); the ties are given (YtbemljgcclaopaaGreatDoorTie.lean); close each card by the builder's one call (the guide's Derived/Test/ToyasCard.lean, 'card_holds'). Laid BY PROGRAM, IN A SANDBOX (cutbox-door.mjs). By AI agents, Wed Nov 11 2026. No macro, syntax, notation, axiom, sorry.
-/
import Derived.Test.YtbemljgcclaopaaGreatDoorRows
import GoSem.ClaimSeven
namespace Go.Proofs.YtbemljgcclaopaaGreatDoor
namespace Rows

/-- THE TIED CARD OF 'holdfastlaw09.KeysBack'. -/
def keysBackCard : Claim7 := { stood := { row := keysBackRow, standIns := [], harness := (true, "79da4f51b29a91e5f00c142a559141eba78e25d8f55f3f21eb493ffc0f146352"), looks := true }, kinds := [], alts := [], laidByText := true, laidKinds := [.data, .data, .data, .data, .sentinel, .sentinel, .pinned], laidTests := true, laidLooks := .later }
def KeysBackCardSaid : Prop := Claim7.holds Tryz.pinned (.plain (OpenSpec.ofChange keysBackSpec)) keysBackCard

/-- THE TIED CARD OF 'holdfastlaw09.KeysLoads'. -/
def keysLoadsCard : Claim7 := { stood := { row := keysLoadsRow, standIns := [], harness := (true, "79da4f51b29a91e5f00c142a559141eba78e25d8f55f3f21eb493ffc0f146352"), looks := true }, kinds := [], alts := [], laidByText := true, laidKinds := [.data, .data, .data, .data, .sentinel, .sentinel, .pinned], laidTests := true, laidLooks := .later }
def KeysLoadsCardSaid : Prop := Claim7.holds Tryz.pinned (.plain (OpenSpec.ofChange keysLoadsSpec)) keysLoadsCard

/-- THE SECOND FORM's CARD OF 'holdfastlaw09.KeysBack'. -/
def keysBackUptoCard : Claim7 := { stood := { row := keysBackUptoRow, standIns := [], harness := (true, "79da4f51b29a91e5f00c142a559141eba78e25d8f55f3f21eb493ffc0f146352"), looks := true }, kinds := [], alts := [], laidByText := true, laidKinds := [.data, .data, .data, .data, .sentinel, .sentinel, .pinned], laidTests := true, laidLooks := .later }
def KeysBackUptoCardSaid : Prop := Claim7.holds Tryz.pinned (.plain (OpenSpec.upto keysBackSpec)) keysBackUptoCard

/-- THE SECOND FORM's CARD OF 'holdfastlaw09.KeysLoads'. -/
def keysLoadsUptoCard : Claim7 := { stood := { row := keysLoadsUptoRow, standIns := [], harness := (true, "79da4f51b29a91e5f00c142a559141eba78e25d8f55f3f21eb493ffc0f146352"), looks := true }, kinds := [], alts := [], laidByText := true, laidKinds := [.data, .data, .data, .data, .sentinel, .sentinel, .pinned], laidTests := true, laidLooks := .later }
def KeysLoadsUptoCardSaid : Prop := Claim7.holds Tryz.pinned (.plain (OpenSpec.upto keysLoadsSpec)) keysLoadsUptoCard
end Rows
end Go.Proofs.YtbemljgcclaopaaGreatDoor
