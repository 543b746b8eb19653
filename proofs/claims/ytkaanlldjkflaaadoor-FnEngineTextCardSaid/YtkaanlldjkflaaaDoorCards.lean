/-
  DERIVED. GIVEN WITH THE SEED: THE CARDS: each row of YtkaanlldjkflaaaDoorRows.lean that lists a variable, with what it lists TIED to the program's text (the seventh form; the later family's looks); each row that meets fmt, with fmt's text TOLD by the authors' own Lean function (tested against real Go, not proved from fmt's source: count such statements apart). THE CARD IS WHAT COUNTS. Prove the row's statement (the work); the ties are given (YtkaanlldjkflaaaDoorTie.lean); close each card by the builder's one call (the guide's Derived/Test/ToyasCard.lean, 'card_holds'). Laid BY PROGRAM, IN A SANDBOX (cutbox-door.mjs). By AI agents, Wed Nov 11 2026. No macro, syntax, notation, axiom, sorry.
-/
import Derived.Test.YtkaanlldjkflaaaDoorRows
import GoSem.ClaimSeven
namespace Go.Proofs.YtkaanlldjkflaaaDoor
namespace Rows

/-- THE TIED CARD OF 'laws.FnEngineText'. -/
def fnEngineTextCard : Claim7 := { stood := { row := fnEngineTextRow, standIns := [], harness := (true, "24c525270e1aa7edc293202afbc07afe78f19309243d76e0f294b802dd3b9b45"), looks := false }, kinds := [], alts := [], laidByText := true, laidKinds := [.data, .pinned], laidTests := true, laidLooks := .later }
def FnEngineTextCardSaid : Prop := Claim7.holds Tryd.pinned (.plain (OpenSpec.ofChange fnEngineTextSpec)) fnEngineTextCard

/-- THE SECOND FORM's CARD OF 'laws.FnEngineText'. -/
def fnEngineTextUptoCard : Claim7 := { stood := { row := fnEngineTextUptoRow, standIns := [], harness := (true, "24c525270e1aa7edc293202afbc07afe78f19309243d76e0f294b802dd3b9b45"), looks := false }, kinds := [], alts := [], laidByText := true, laidKinds := [.data, .pinned], laidTests := true, laidLooks := .later }
def FnEngineTextUptoCardSaid : Prop := Claim7.holds Tryd.pinned (.plain (OpenSpec.upto fnEngineTextSpec)) fnEngineTextUptoCard
end Rows
end Go.Proofs.YtkaanlldjkflaaaDoor
