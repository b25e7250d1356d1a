/-
  DERIVED. GIVEN WITH THE SEED: THE CARDS: each row of YtkeockkepmljjaaDoorRows.lean that lists a variable, with what it lists TIED to the program's text (the seventh form; the later family's looks); each row that meets fmt, with fmt's text TOLD by the authors' own Lean function (tested against real Go, not proved from fmt's source: count such statements apart). THE CARD IS WHAT COUNTS. Prove the row's statement (the work); the ties are given (YtkeockkepmljjaaDoorTie.lean); close each card by the builder's one call (the guide's Derived/Test/ToyasCard.lean, 'card_holds'). Laid BY PROGRAM, IN A SANDBOX (cutbox-door.mjs). By AI agents, Wed Nov 11 2026. No macro, syntax, notation, axiom, sorry.
-/
import Derived.Test.YtkeockkepmljjaaDoorRows
import GoSem.ClaimSeven
namespace Go.Proofs.YtkeockkepmljjaaDoor
namespace Rows

/-- THE TIED CARD OF 'laws.FnExactRankText'. -/
def fnExactRankTextCard : Claim7 := { stood := { row := fnExactRankTextRow, standIns := [], harness := (true, "5fce5977485d657165365b10fbf1994c8c1490a1fc4f86d35e4bea5e83d5f836"), looks := false }, kinds := [], alts := [], laidByText := true, laidKinds := [.data, .data, .data], laidTests := true, laidLooks := .later }
def FnExactRankTextCardSaid : Prop := Claim7.holds Tryd.pinned (.plain (OpenSpec.ofChange fnExactRankTextSpec)) fnExactRankTextCard

/-- THE SECOND FORM's CARD OF 'laws.FnExactRankText'. -/
def fnExactRankTextUptoCard : Claim7 := { stood := { row := fnExactRankTextUptoRow, standIns := [], harness := (true, "5fce5977485d657165365b10fbf1994c8c1490a1fc4f86d35e4bea5e83d5f836"), looks := false }, kinds := [], alts := [], laidByText := true, laidKinds := [.data, .data, .data], laidTests := true, laidLooks := .later }
def FnExactRankTextUptoCardSaid : Prop := Claim7.holds Tryd.pinned (.plain (OpenSpec.upto fnExactRankTextSpec)) fnExactRankTextUptoCard
end Rows
end Go.Proofs.YtkeockkepmljjaaDoor
