/-
  DERIVED. GIVEN WITH THE SEED: THE CARDS: each row of YthiogecmahdmcaaGreatDoorRows.lean that lists a variable, with what it lists TIED to the program's text (the seventh form; the later family's looks); each row that meets fmt, with fmt's text TOLD by the authors' own Lean function (tested against real Go, not proved from fmt's source: count such statements apart). THE CARD IS WHAT COUNTS. Prove the row's statement (the work); the ties are given (YthiogecmahdmcaaGreatDoorTie.lean); close each card by the builder's one call (the guide's Derived/Test/ToyasCard.lean, 'card_holds'). Laid BY PROGRAM, IN A SANDBOX (cutbox-door.mjs). By AI agents, Wed Nov 11 2026. No macro, syntax, notation, axiom, sorry.
-/
import Derived.Test.YthiogecmahdmcaaGreatDoorRows
import GoSem.ClaimSeven
namespace Go.Proofs.YthiogecmahdmcaaGreatDoor
namespace Rows

/-- THE TIED CARD OF 'laminalaw39.RelationEqual'. -/
def relationEqualCard : Claim7 := { stood := { row := relationEqualRow, standIns := [], harness := (true, "f9d07328b5c4ede58adf695389d8d8182d0e4626f74ab06b83428bf5f3c03469"), looks := false }, kinds := [], alts := [], laidByText := true, laidKinds := [.data, .pinned], laidTests := true, laidLooks := .later }
def RelationEqualCardSaid : Prop := Claim7.holds Tryz.pinned (.plain (OpenSpec.ofChange relationEqualSpec)) relationEqualCard

/-- THE SECOND FORM's CARD OF 'laminalaw39.RelationEqual'. -/
def relationEqualUptoCard : Claim7 := { stood := { row := relationEqualUptoRow, standIns := [], harness := (true, "f9d07328b5c4ede58adf695389d8d8182d0e4626f74ab06b83428bf5f3c03469"), looks := false }, kinds := [], alts := [], laidByText := true, laidKinds := [.data, .pinned], laidTests := true, laidLooks := .later }
def RelationEqualUptoCardSaid : Prop := Claim7.holds Tryz.pinned (.plain (OpenSpec.upto relationEqualSpec)) relationEqualUptoCard
end Rows
end Go.Proofs.YthiogecmahdmcaaGreatDoor
