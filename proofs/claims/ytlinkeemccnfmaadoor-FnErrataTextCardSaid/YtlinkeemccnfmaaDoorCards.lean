/-
  DERIVED. GIVEN WITH THE SEED: THE CARDS: each row of YtlinkeemccnfmaaDoorRows.lean that lists a variable, with what it lists TIED to the program's text (the seventh form; the later family's looks); each row that meets fmt, with fmt's text TOLD by the authors' own Lean function (tested against real Go, not proved from fmt's source: count such statements apart). THE CARD IS WHAT COUNTS. Prove the row's statement (the work); the ties are given (YtlinkeemccnfmaaDoorTie.lean); close each card by the builder's one call (the guide's Derived/Test/ToyasCard.lean, 'card_holds'). Laid BY PROGRAM, IN A SANDBOX (cutbox-door.mjs). By AI agents, Wed Nov 11 2026. No macro, syntax, notation, axiom, sorry.
-/
import Derived.Test.YtlinkeemccnfmaaDoorRows
import GoSem.ClaimSeven
namespace Go.Proofs.YtlinkeemccnfmaaDoor
namespace Rows

/-- THE TIED CARD OF 'laws.FnExactFormatErrata'. -/
def fnExactFormatErrataCard : Claim7 := { stood := { row := fnExactFormatErrataRow, standIns := [], harness := (true, "74cdf86564a465a254d401e2629569d4e6a7e5711464645252ced4cec33d52ff"), looks := true }, kinds := [], alts := [], laidByText := true, laidKinds := [.data, .data, .data], laidTests := true, laidLooks := .later }
def FnExactFormatErrataCardSaid : Prop := Claim7.holds Tryd.pinned (.plain (OpenSpec.ofChange fnExactFormatErrataSpec)) fnExactFormatErrataCard

/-- THE TIED CARD OF 'laws.FnExactParseErrata'. -/
def fnExactParseErrataCard : Claim7 := { stood := { row := fnExactParseErrataRow, standIns := [], harness := (true, "74cdf86564a465a254d401e2629569d4e6a7e5711464645252ced4cec33d52ff"), looks := true }, kinds := [], alts := [], laidByText := true, laidKinds := [.data, .data, .data, .data, .sentinel, .sentinel, .pinned], laidTests := true, laidLooks := .later }
def FnExactParseErrataCardSaid : Prop := Claim7.holds Tryd.pinned (.plain (OpenSpec.ofChange fnExactParseErrataSpec)) fnExactParseErrataCard

/-- THE TIED CARD OF 'laws.FnErrataText'. -/
def fnErrataTextCard : Claim7 := { stood := { row := fnErrataTextRow, standIns := [], harness := (true, "74cdf86564a465a254d401e2629569d4e6a7e5711464645252ced4cec33d52ff"), looks := true }, kinds := [], alts := [], laidByText := true, laidKinds := [.data, .data, .data, .data, .sentinel, .sentinel, .pinned], laidTests := true, laidLooks := .later }
def FnErrataTextCardSaid : Prop := Claim7.holds Tryd.pinned (.plain (OpenSpec.ofChange fnErrataTextSpec)) fnErrataTextCard

/-- THE SECOND FORM's CARD OF 'laws.FnExactFormatErrata'. -/
def fnExactFormatErrataUptoCard : Claim7 := { stood := { row := fnExactFormatErrataUptoRow, standIns := [], harness := (true, "74cdf86564a465a254d401e2629569d4e6a7e5711464645252ced4cec33d52ff"), looks := true }, kinds := [], alts := [], laidByText := true, laidKinds := [.data, .data, .data], laidTests := true, laidLooks := .later }
def FnExactFormatErrataUptoCardSaid : Prop := Claim7.holds Tryd.pinned (.plain (OpenSpec.upto fnExactFormatErrataSpec)) fnExactFormatErrataUptoCard

/-- THE SECOND FORM's CARD OF 'laws.FnExactParseErrata'. -/
def fnExactParseErrataUptoCard : Claim7 := { stood := { row := fnExactParseErrataUptoRow, standIns := [], harness := (true, "74cdf86564a465a254d401e2629569d4e6a7e5711464645252ced4cec33d52ff"), looks := true }, kinds := [], alts := [], laidByText := true, laidKinds := [.data, .data, .data, .data, .sentinel, .sentinel, .pinned], laidTests := true, laidLooks := .later }
def FnExactParseErrataUptoCardSaid : Prop := Claim7.holds Tryd.pinned (.plain (OpenSpec.upto fnExactParseErrataSpec)) fnExactParseErrataUptoCard

/-- THE SECOND FORM's CARD OF 'laws.FnErrataText'. -/
def fnErrataTextUptoCard : Claim7 := { stood := { row := fnErrataTextUptoRow, standIns := [], harness := (true, "74cdf86564a465a254d401e2629569d4e6a7e5711464645252ced4cec33d52ff"), looks := true }, kinds := [], alts := [], laidByText := true, laidKinds := [.data, .data, .data, .data, .sentinel, .sentinel, .pinned], laidTests := true, laidLooks := .later }
def FnErrataTextUptoCardSaid : Prop := Claim7.holds Tryd.pinned (.plain (OpenSpec.upto fnErrataTextSpec)) fnErrataTextUptoCard
end Rows
end Go.Proofs.YtlinkeemccnfmaaDoor
