/-
  DERIVED. GIVEN WITH THE SEED: THE CARDS: each row of YtkhpcellfbedmaaGreatDoorRows.lean that lists a variable, with what it lists TIED to the program's text (the seventh form; the later family's looks); each row that meets fmt, with fmt's text TOLD by the authors' own Lean function (tested against real Go, not proved from fmt's source: count such statements apart). THE CARD IS WHAT COUNTS. Prove the row's statement (the work); the ties are given (YtkhpcellfbedmaaGreatDoorTie.lean); close each card by the builder's one call (the guide's Derived/Test/ToyasCard.lean, 'card_holds'). Laid BY PROGRAM, IN A SANDBOX (cutbox-door.mjs). By AI agents, Wed Nov 11 2026. No macro, syntax, notation, axiom, sorry.
-/
import Derived.Test.YtkhpcellfbedmaaGreatDoorRows
import GoSem.ClaimSeven
namespace Go.Proofs.YtkhpcellfbedmaaGreatDoor
namespace Rows

/-- THE TIED CARD OF 'lightwelllaw27.HttpNone'. -/
def httpNoneCard : Claim7 := { stood := { row := httpNoneRow, standIns := [], harness := (true, "d5c8d396ebc73220ab0a1bea07d209b95aacbcc7ade8722367b17922555d9a32"), looks := true }, kinds := [], alts := [], laidByText := true, laidKinds := [.data, .data, .data, .data, .sentinel, .sentinel, .pinned], laidTests := true, laidLooks := .later }
def HttpNoneCardSaid : Prop := Claim7.holds Tryz.pinned (.plain (OpenSpec.ofChange httpNoneSpec)) httpNoneCard

/-- THE SECOND FORM's CARD OF 'lightwelllaw27.HttpNone'. -/
def httpNoneUptoCard : Claim7 := { stood := { row := httpNoneUptoRow, standIns := [], harness := (true, "d5c8d396ebc73220ab0a1bea07d209b95aacbcc7ade8722367b17922555d9a32"), looks := true }, kinds := [], alts := [], laidByText := true, laidKinds := [.data, .data, .data, .data, .sentinel, .sentinel, .pinned], laidTests := true, laidLooks := .later }
def HttpNoneUptoCardSaid : Prop := Claim7.holds Tryz.pinned (.plain (OpenSpec.upto httpNoneSpec)) httpNoneUptoCard
end Rows
end Go.Proofs.YtkhpcellfbedmaaGreatDoor
