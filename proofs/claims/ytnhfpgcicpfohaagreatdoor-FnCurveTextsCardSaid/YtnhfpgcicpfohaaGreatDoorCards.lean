/-
  DERIVED. GIVEN WITH THE SEED: THE CARDS: each row of YtnhfpgcicpfohaaGreatDoorRows.lean that lists a variable, with what it lists TIED to the program's text (the seventh form; the later family's looks); each row that meets fmt, with fmt's text TOLD by the authors' own Lean function (tested against real Go, not proved from fmt's source: count such statements apart). THE CARD IS WHAT COUNTS. Prove the row's statement (the work); the ties are given (YtnhfpgcicpfohaaGreatDoorTie.lean); close each card by the builder's one call (the guide's Derived/Test/ToyasCard.lean, 'card_holds'). Laid BY PROGRAM, IN A SANDBOX (cutbox-door.mjs). By AI agents, Wed Nov 11 2026. No macro, syntax, notation, axiom, sorry.
-/
import Derived.Test.YtnhfpgcicpfohaaGreatDoorRows
import GoSem.ClaimSeven
namespace Go.Proofs.YtnhfpgcicpfohaaGreatDoor
namespace Rows

/-- THE TIED CARD OF 'laws.FnCurveTexts'. -/
def fnCurveTextsCard : Claim7 := { stood := { row := fnCurveTextsRow, standIns := [], harness := (true, "c20667d2a3fac73c2bee18eba90cd49f7bcf810a2bdb8ae247620662e8dc98dc"), looks := false }, kinds := [], alts := [], laidByText := true, laidKinds := [.data, .data, .data], laidTests := true, laidLooks := .later }
def FnCurveTextsCardSaid : Prop := Claim7.holds Tryz.pinned (.plain (OpenSpec.ofChange fnCurveTextsSpec)) fnCurveTextsCard

/-- THE SECOND FORM's CARD OF 'laws.FnCurveTexts'. -/
def fnCurveTextsUptoCard : Claim7 := { stood := { row := fnCurveTextsUptoRow, standIns := [], harness := (true, "c20667d2a3fac73c2bee18eba90cd49f7bcf810a2bdb8ae247620662e8dc98dc"), looks := false }, kinds := [], alts := [], laidByText := true, laidKinds := [.data, .data, .data], laidTests := true, laidLooks := .later }
def FnCurveTextsUptoCardSaid : Prop := Claim7.holds Tryz.pinned (.plain (OpenSpec.upto fnCurveTextsSpec)) fnCurveTextsUptoCard
end Rows
end Go.Proofs.YtnhfpgcicpfohaaGreatDoor
