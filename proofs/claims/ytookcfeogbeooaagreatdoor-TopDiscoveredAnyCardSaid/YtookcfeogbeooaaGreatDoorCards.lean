/-
  DERIVED. GIVEN WITH THE SEED: THE CARDS: each row of YtookcfeogbeooaaGreatDoorRows.lean that lists a variable, with what it lists TIED to the program's text (the seventh form; the later family's looks); each row that meets fmt, with fmt's text TOLD by the authors' own Lean function (tested against real Go, not proved from fmt's source: count such statements apart). THE CARD IS WHAT COUNTS. Prove the row's statement (the work); the ties are given (YtookcfeogbeooaaGreatDoorTie.lean); close each card by the builder's one call (the guide's Derived/Test/ToyasCard.lean, 'card_holds'). Laid BY PROGRAM, IN A SANDBOX (cutbox-door.mjs). By AI agents, Wed Nov 11 2026. No macro, syntax, notation, axiom, sorry.
-/
import Derived.Test.YtookcfeogbeooaaGreatDoorRows
import GoSem.ClaimSeven
namespace Go.Proofs.YtookcfeogbeooaaGreatDoor
namespace Rows

/-- THE TIED CARD OF 'casebooktop.TopDiscoveredAny'. -/
def topDiscoveredAnyCard : Claim7 := { stood := { row := topDiscoveredAnyRow, standIns := [], harness := (true, "d6cac701e118d0bebf497fe9d3263a0b6d44c2920f95e277318ad3107fe52031"), looks := false }, kinds := [], alts := [], laidByText := true, laidKinds := [.data, .data, .data], laidTests := true, laidLooks := .later }
def TopDiscoveredAnyCardSaid : Prop := Claim7.holds Tryz.pinned (.plain (OpenSpec.ofChange topDiscoveredAnySpec)) topDiscoveredAnyCard

/-- THE SECOND FORM's CARD OF 'casebooktop.TopDiscoveredAny'. -/
def topDiscoveredAnyUptoCard : Claim7 := { stood := { row := topDiscoveredAnyUptoRow, standIns := [], harness := (true, "d6cac701e118d0bebf497fe9d3263a0b6d44c2920f95e277318ad3107fe52031"), looks := false }, kinds := [], alts := [], laidByText := true, laidKinds := [.data, .data, .data], laidTests := true, laidLooks := .later }
def TopDiscoveredAnyUptoCardSaid : Prop := Claim7.holds Tryz.pinned (.plain (OpenSpec.upto topDiscoveredAnySpec)) topDiscoveredAnyUptoCard
end Rows
end Go.Proofs.YtookcfeogbeooaaGreatDoor
