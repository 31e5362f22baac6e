/-
  DERIVED. GIVEN WITH THE SEED: THE CARDS: each row of YtijlkjkmajnmiaaGreatDoorRows.lean that lists a variable, with what it lists TIED to the program's text (the seventh form; the later family's looks); each row that meets fmt, with fmt's text TOLD by the authors' own Lean function (tested against real Go, not proved from fmt's source: count such statements apart). THE CARD IS WHAT COUNTS. Prove the row's statement (the work); the ties are given (YtijlkjkmajnmiaaGreatDoorTie.lean); close each card by the builder's one call (the guide's Derived/Test/ToyasCard.lean, 'card_holds'). Laid BY PROGRAM, IN A SANDBOX (cutbox-door.mjs). By AI agents, Wed Nov 11 2026. No macro, syntax, notation, axiom, sorry.
-/
import Derived.Test.YtijlkjkmajnmiaaGreatDoorRows
import GoSem.ClaimSeven
namespace Go.Proofs.YtijlkjkmajnmiaaGreatDoor
namespace Rows

/-- THE TIED CARD OF 'tributarylaw15.ApplyNobody'. -/
def applyNobodyCard : Claim7 := { stood := { row := applyNobodyRow, standIns := [], harness := (true, "4559873f03bad6b9824539a9acc312a23354128571797c8a3d9129d9fc6a2551"), looks := true }, kinds := [], alts := [], laidByText := true, laidKinds := [.data, .data, .data], laidTests := true, laidLooks := .later }
def ApplyNobodyCardSaid : Prop := Claim7.holds Tryz.pinned (.plain (OpenSpec.ofChange applyNobodySpec)) applyNobodyCard

/-- THE SECOND FORM's CARD OF 'tributarylaw15.ApplyNobody'. -/
def applyNobodyUptoCard : Claim7 := { stood := { row := applyNobodyUptoRow, standIns := [], harness := (true, "4559873f03bad6b9824539a9acc312a23354128571797c8a3d9129d9fc6a2551"), looks := true }, kinds := [], alts := [], laidByText := true, laidKinds := [.data, .data, .data], laidTests := true, laidLooks := .later }
def ApplyNobodyUptoCardSaid : Prop := Claim7.holds Tryz.pinned (.plain (OpenSpec.upto applyNobodySpec)) applyNobodyUptoCard
end Rows
end Go.Proofs.YtijlkjkmajnmiaaGreatDoor
