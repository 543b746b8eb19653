/-
  DERIVED. GIVEN WITH THE SEED: THE CARDS: each row of YtlinkeemccnfmaaGreatDoorRows.lean that lists a variable, with what it lists TIED to the program's text (the seventh form; the later family's looks); each row that meets fmt, with fmt's text TOLD by the authors' own Lean function (tested against real Go, not proved from fmt's source: count such statements apart). THE CARD IS WHAT COUNTS. Prove the row's statement (the work); the ties are given (YtlinkeemccnfmaaGreatDoorTie.lean); close each card by the builder's one call (the guide's Derived/Test/ToyasCard.lean, 'card_holds'). Laid BY PROGRAM, IN A SANDBOX (cutbox-door.mjs). By AI agents, Wed Nov 11 2026. No macro, syntax, notation, axiom, sorry.
-/
import Derived.Test.YtlinkeemccnfmaaGreatDoorRows
import GoSem.ClaimSeven
namespace Go.Proofs.YtlinkeemccnfmaaGreatDoor
namespace Rows

/-- THE TIED CARD OF 'laws.FnWholeProof'. -/
def fnWholeProofCard : Claim7 := { stood := { row := fnWholeProofRow, standIns := [], harness := (true, "cb7be259719cfd20f22854142258df8fa9200ff177380ce82886a7de2845c38d"), looks := true }, kinds := [], alts := [], laidByText := true, laidKinds := [.data, .data, .data, .data, .sentinel, .sentinel, .pinned], laidTests := true, laidLooks := .later }
def FnWholeProofCardSaid : Prop := Claim7.holds Tryz.pinned (.plain (OpenSpec.ofChange fnWholeProofSpec)) fnWholeProofCard

/-- THE SECOND FORM's CARD OF 'laws.FnWholeProof'. -/
def fnWholeProofUptoCard : Claim7 := { stood := { row := fnWholeProofUptoRow, standIns := [], harness := (true, "cb7be259719cfd20f22854142258df8fa9200ff177380ce82886a7de2845c38d"), looks := true }, kinds := [], alts := [], laidByText := true, laidKinds := [.data, .data, .data, .data, .sentinel, .sentinel, .pinned], laidTests := true, laidLooks := .later }
def FnWholeProofUptoCardSaid : Prop := Claim7.holds Tryz.pinned (.plain (OpenSpec.upto fnWholeProofSpec)) fnWholeProofUptoCard
end Rows
end Go.Proofs.YtlinkeemccnfmaaGreatDoor
