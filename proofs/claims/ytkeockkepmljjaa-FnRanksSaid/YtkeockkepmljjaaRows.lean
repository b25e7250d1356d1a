/-
  No cell of these rows narrows 'for every input' (looked for: loops, veiled, ifaces, maps, wideKeys, modest, calm, conditions, laid).
  DERIVED. THE GIVEN ROWS OF THIS SEAT. 10 by the template 'for every input the law returns true; each argument reads behind the call as it read before'; 0 by the template 'total and deterministic' (their statements: YtkeockkepmljjaaTotals.lean).
  GIVEN WITH THE SEED: the statements are not yours to turn. If you find one false, say at which input.
  Laid BY PROGRAM, IN A SANDBOX (cutbox-rows.mjs): the forced cells as the released guide's own fill.sh prints them over the translation 3dc354876dddb194… (all of the seat's roots in one cut). By AI agents, Wed Nov 11 2026. No macro, syntax, notation, axiom, sorry.
-/
import Derived.Test.YtkeockkepmljjaaChecked
import GoSem.Claim
import GoSem.ClaimJoined
import GoSem.ClaimMapViews
import Derived.JoinedTies
import Derived.KernelRfl
namespace Go.Proofs.Ytkeockkepmljjaa
/- THE CELL 'sum', in the pinned program and in every row, IS THE sha256 OF THE DUMP (.gsa) THAT YtkeockkepmljjaaProg.lean LOADS. Nothing in Lean hashes anything: it is a label: what it is worth is what the hold of that sum in a sandbox is worth. -/
noncomputable def Try.pinned : Pinned := { name := "ytkeockkepmljjaa", sum := "3dc354876dddb1946aa77c5b60ae244253d0b7deff5d50291b3e00d872fa688e", checked := Try.checked }
namespace Rows
def none {H : Type} : Left H := { results := [], args := [] }

/-- 'laws.FnPercentages': WHATEVER THE INPUT: true; the input reads as it did. -/
def fnPercentagesSpec : ChangeSpec := { name := "fnPercentages", fn := fun _ => fun
  | [d] => { results := [.lit (.bool true)], args := [d] }
  | _ => none }
def fnPercentagesRow : OpenClaim := { program := "ytkeockkepmljjaa", sum := "3dc354876dddb1946aa77c5b60ae244253d0b7deff5d50291b3e00d872fa688e", func := "loop.example/g00854/laws.FnPercentages", spec := "fnPercentages", unfollowed := true, recurses := true, apart := false }
def FnPercentagesSaid : Prop := fnPercentagesRow.holds Try.pinned (OpenSpec.ofChange fnPercentagesSpec)

/-- ITS FALSE NEIGHBOUR: 'it returns false'. Refute it at one input. -/
def fnPercentagesWrong : ChangeSpec := { name := "fnPercentages", fn := fun _ => fun
  | [d] => { results := [.lit (.bool false)], args := [d] }
  | _ => none }
def FnPercentagesWrongFalsely : Prop := fnPercentagesRow.holds Try.pinned (OpenSpec.ofChange fnPercentagesWrong)

/-- 'laws.FnExactCarryOver': WHATEVER THE INPUT: true; the input reads as it did. -/
def fnExactCarryOverSpec : ChangeSpec := { name := "fnExactCarryOver", fn := fun _ => fun
  | [d1, d2, d3] => { results := [.lit (.bool true)], args := [d1, d2, d3] }
  | _ => none }
def fnExactCarryOverRow : OpenClaim := { program := "ytkeockkepmljjaa", sum := "3dc354876dddb1946aa77c5b60ae244253d0b7deff5d50291b3e00d872fa688e", func := "loop.example/g00854/laws.FnExactCarryOver", spec := "fnExactCarryOver", unfollowed := true, recurses := true, apart := false }
def FnExactCarryOverSaid : Prop := fnExactCarryOverRow.holds Try.pinned (OpenSpec.ofChange fnExactCarryOverSpec)

/-- ITS FALSE NEIGHBOUR: 'it returns false'. Refute it at one input. -/
def fnExactCarryOverWrong : ChangeSpec := { name := "fnExactCarryOver", fn := fun _ => fun
  | [d1, d2, d3] => { results := [.lit (.bool false)], args := [d1, d2, d3] }
  | _ => none }
def FnExactCarryOverWrongFalsely : Prop := fnExactCarryOverRow.holds Try.pinned (OpenSpec.ofChange fnExactCarryOverWrong)

/-- 'laws.FnExactRankScores': WHATEVER THE INPUT: true; the input reads as it did. -/
def fnExactRankScoresSpec : ChangeSpec := { name := "fnExactRankScores", fn := fun _ => fun
  | [d] => { results := [.lit (.bool true)], args := [d] }
  | _ => none }
def fnExactRankScoresRow : OpenClaim := { program := "ytkeockkepmljjaa", sum := "3dc354876dddb1946aa77c5b60ae244253d0b7deff5d50291b3e00d872fa688e", func := "loop.example/g00854/laws.FnExactRankScores", spec := "fnExactRankScores", unfollowed := true, recurses := true, apart := false }
def FnExactRankScoresSaid : Prop := fnExactRankScoresRow.holds Try.pinned (OpenSpec.ofChange fnExactRankScoresSpec)

/-- ITS FALSE NEIGHBOUR: 'it returns false'. Refute it at one input. -/
def fnExactRankScoresWrong : ChangeSpec := { name := "fnExactRankScores", fn := fun _ => fun
  | [d] => { results := [.lit (.bool false)], args := [d] }
  | _ => none }
def FnExactRankScoresWrongFalsely : Prop := fnExactRankScoresRow.holds Try.pinned (OpenSpec.ofChange fnExactRankScoresWrong)

/-- 'laws.FnQualifiers': WHATEVER THE INPUT: true; the input reads as it did. -/
def fnQualifiersSpec : ChangeSpec := { name := "fnQualifiers", fn := fun _ => fun
  | [d] => { results := [.lit (.bool true)], args := [d] }
  | _ => none }
def fnQualifiersRow : OpenClaim := { program := "ytkeockkepmljjaa", sum := "3dc354876dddb1946aa77c5b60ae244253d0b7deff5d50291b3e00d872fa688e", func := "loop.example/g00854/laws.FnQualifiers", spec := "fnQualifiers", unfollowed := true, recurses := true, apart := false }
def FnQualifiersSaid : Prop := fnQualifiersRow.holds Try.pinned (OpenSpec.ofChange fnQualifiersSpec)

/-- ITS FALSE NEIGHBOUR: 'it returns false'. Refute it at one input. -/
def fnQualifiersWrong : ChangeSpec := { name := "fnQualifiers", fn := fun _ => fun
  | [d] => { results := [.lit (.bool false)], args := [d] }
  | _ => none }
def FnQualifiersWrongFalsely : Prop := fnQualifiersRow.holds Try.pinned (OpenSpec.ofChange fnQualifiersWrong)

/-- 'laws.FnExactPercentages': WHATEVER THE INPUT: true; the input reads as it did. -/
def fnExactPercentagesSpec : ChangeSpec := { name := "fnExactPercentages", fn := fun _ => fun
  | [d1, d2] => { results := [.lit (.bool true)], args := [d1, d2] }
  | _ => none }
def fnExactPercentagesRow : OpenClaim := { program := "ytkeockkepmljjaa", sum := "3dc354876dddb1946aa77c5b60ae244253d0b7deff5d50291b3e00d872fa688e", func := "loop.example/g00854/laws.FnExactPercentages", spec := "fnExactPercentages", unfollowed := true, recurses := true, apart := false }
def FnExactPercentagesSaid : Prop := fnExactPercentagesRow.holds Try.pinned (OpenSpec.ofChange fnExactPercentagesSpec)

/-- ITS FALSE NEIGHBOUR: 'it returns false'. Refute it at one input. -/
def fnExactPercentagesWrong : ChangeSpec := { name := "fnExactPercentages", fn := fun _ => fun
  | [d1, d2] => { results := [.lit (.bool false)], args := [d1, d2] }
  | _ => none }
def FnExactPercentagesWrongFalsely : Prop := fnExactPercentagesRow.holds Try.pinned (OpenSpec.ofChange fnExactPercentagesWrong)

/-- 'laws.FnExactQualifiers': WHATEVER THE INPUT: true; the input reads as it did. -/
def fnExactQualifiersSpec : ChangeSpec := { name := "fnExactQualifiers", fn := fun _ => fun
  | [d1, d2] => { results := [.lit (.bool true)], args := [d1, d2] }
  | _ => none }
def fnExactQualifiersRow : OpenClaim := { program := "ytkeockkepmljjaa", sum := "3dc354876dddb1946aa77c5b60ae244253d0b7deff5d50291b3e00d872fa688e", func := "loop.example/g00854/laws.FnExactQualifiers", spec := "fnExactQualifiers", unfollowed := true, recurses := true, apart := false }
def FnExactQualifiersSaid : Prop := fnExactQualifiersRow.holds Try.pinned (OpenSpec.ofChange fnExactQualifiersSpec)

/-- ITS FALSE NEIGHBOUR: 'it returns false'. Refute it at one input. -/
def fnExactQualifiersWrong : ChangeSpec := { name := "fnExactQualifiers", fn := fun _ => fun
  | [d1, d2] => { results := [.lit (.bool false)], args := [d1, d2] }
  | _ => none }
def FnExactQualifiersWrongFalsely : Prop := fnExactQualifiersRow.holds Try.pinned (OpenSpec.ofChange fnExactQualifiersWrong)

/-- 'laws.FnShares': WHATEVER THE INPUT: true; the input reads as it did. -/
def fnSharesSpec : ChangeSpec := { name := "fnShares", fn := fun _ => fun
  | [d] => { results := [.lit (.bool true)], args := [d] }
  | _ => none }
def fnSharesRow : OpenClaim := { program := "ytkeockkepmljjaa", sum := "3dc354876dddb1946aa77c5b60ae244253d0b7deff5d50291b3e00d872fa688e", func := "loop.example/g00854/laws.FnShares", spec := "fnShares", unfollowed := true, recurses := true, apart := false }
def FnSharesSaid : Prop := fnSharesRow.holds Try.pinned (OpenSpec.ofChange fnSharesSpec)

/-- ITS FALSE NEIGHBOUR: 'it returns false'. Refute it at one input. -/
def fnSharesWrong : ChangeSpec := { name := "fnShares", fn := fun _ => fun
  | [d] => { results := [.lit (.bool false)], args := [d] }
  | _ => none }
def FnSharesWrongFalsely : Prop := fnSharesRow.holds Try.pinned (OpenSpec.ofChange fnSharesWrong)

/-- 'laws.FnExactShareOfPrizes': WHATEVER THE INPUT: true; the input reads as it did. -/
def fnExactShareOfPrizesSpec : ChangeSpec := { name := "fnExactShareOfPrizes", fn := fun _ => fun
  | [d1, d2] => { results := [.lit (.bool true)], args := [d1, d2] }
  | _ => none }
def fnExactShareOfPrizesRow : OpenClaim := { program := "ytkeockkepmljjaa", sum := "3dc354876dddb1946aa77c5b60ae244253d0b7deff5d50291b3e00d872fa688e", func := "loop.example/g00854/laws.FnExactShareOfPrizes", spec := "fnExactShareOfPrizes", unfollowed := true, recurses := true, apart := false }
def FnExactShareOfPrizesSaid : Prop := fnExactShareOfPrizesRow.holds Try.pinned (OpenSpec.ofChange fnExactShareOfPrizesSpec)

/-- ITS FALSE NEIGHBOUR: 'it returns false'. Refute it at one input. -/
def fnExactShareOfPrizesWrong : ChangeSpec := { name := "fnExactShareOfPrizes", fn := fun _ => fun
  | [d1, d2] => { results := [.lit (.bool false)], args := [d1, d2] }
  | _ => none }
def FnExactShareOfPrizesWrongFalsely : Prop := fnExactShareOfPrizesRow.holds Try.pinned (OpenSpec.ofChange fnExactShareOfPrizesWrong)

/-- 'laws.FnExactRankOrder': WHATEVER THE INPUT: true; the input reads as it did. -/
def fnExactRankOrderSpec : ChangeSpec := { name := "fnExactRankOrder", fn := fun _ => fun
  | [d] => { results := [.lit (.bool true)], args := [d] }
  | _ => none }
def fnExactRankOrderRow : OpenClaim := { program := "ytkeockkepmljjaa", sum := "3dc354876dddb1946aa77c5b60ae244253d0b7deff5d50291b3e00d872fa688e", func := "loop.example/g00854/laws.FnExactRankOrder", spec := "fnExactRankOrder", unfollowed := true, recurses := true, apart := false }
def FnExactRankOrderSaid : Prop := fnExactRankOrderRow.holds Try.pinned (OpenSpec.ofChange fnExactRankOrderSpec)

/-- ITS FALSE NEIGHBOUR: 'it returns false'. Refute it at one input. -/
def fnExactRankOrderWrong : ChangeSpec := { name := "fnExactRankOrder", fn := fun _ => fun
  | [d] => { results := [.lit (.bool false)], args := [d] }
  | _ => none }
def FnExactRankOrderWrongFalsely : Prop := fnExactRankOrderRow.holds Try.pinned (OpenSpec.ofChange fnExactRankOrderWrong)

/-- 'laws.FnRanks': WHATEVER THE INPUT: true; the input reads as it did. -/
def fnRanksSpec : ChangeSpec := { name := "fnRanks", fn := fun _ => fun
  | [d] => { results := [.lit (.bool true)], args := [d] }
  | _ => none }
def fnRanksRow : OpenClaim := { program := "ytkeockkepmljjaa", sum := "3dc354876dddb1946aa77c5b60ae244253d0b7deff5d50291b3e00d872fa688e", func := "loop.example/g00854/laws.FnRanks", spec := "fnRanks", unfollowed := true, recurses := true, apart := false }
def FnRanksSaid : Prop := fnRanksRow.holds Try.pinned (OpenSpec.ofChange fnRanksSpec)

/-- ITS FALSE NEIGHBOUR: 'it returns false'. Refute it at one input. -/
def fnRanksWrong : ChangeSpec := { name := "fnRanks", fn := fun _ => fun
  | [d] => { results := [.lit (.bool false)], args := [d] }
  | _ => none }
def FnRanksWrongFalsely : Prop := fnRanksRow.holds Try.pinned (OpenSpec.ofChange fnRanksWrong)

/- THE SECOND FORM. 'bulk': how many values and letters a reading holds, each counted each time it is reached (what is shared counts as often as it is met; a slice's spare places count too). A statement '..UptoSaid' is the law's where the arguments, and the package variables that the reading takes, are together of bulk at most 1048576: NARROWER than '..Said'. Prove '..Said' where nothing that the law and all that it calls make is longer than what came in: it says more and counts as full. Else prove '..UptoSaid'. A law counts once. -/
mutual
def uptoBulk {H : Type} : DataW H → Nat
  | .lit (.string bytes) => bytes.length + 1
  | .lit _ => 1
  | .nil => 1
  | .ptr d => uptoBulk d + 1
  | .slice elems spare => uptoBulkAll elems + uptoBulkAll spare + 1
  | .agg parts => uptoBulkAll parts + 1
  | .iface _ d => uptoBulk d + 1
  | .map entries => uptoBulkEntries entries + 1
  | .held _ => 1
def uptoBulkAll {H : Type} : List (DataW H) → Nat
  | [] => 0
  | d :: r => uptoBulk d + uptoBulkAll r
def uptoBulkEntries {H : Type} : List (Lit × DataW H) → Nat
  | [] => 0
  | x :: r => uptoBulkEntry x + uptoBulkEntries r
def uptoBulkEntry {H : Type} : Lit × DataW H → Nat
  | (.string bytes, d) => bytes.length + uptoBulk d + 1
  | (_, d) => uptoBulk d + 1
 end
def uptoSmall : (H : Type) → List (DataW H) → Bool := fun _ ds => decide (uptoBulkAll ds ≤ 1048576)
def OpenSpec.upto (s : _root_.Go.ChangeSpec) : _root_.Go.OpenSpec := { _root_.Go.OpenSpec.ofChange s with cond := some uptoSmall }

/-- 'laws.FnPercentages', WHERE WHAT IT READS IS OF BULK AT MOST 1048576: true; the input reads as it did. -/
def fnPercentagesUptoRow : OpenClaim := { program := "ytkeockkepmljjaa", sum := "3dc354876dddb1946aa77c5b60ae244253d0b7deff5d50291b3e00d872fa688e", func := "loop.example/g00854/laws.FnPercentages", spec := "fnPercentages", unfollowed := true, recurses := true, apart := false, narrowed := true }
def FnPercentagesUptoSaid : Prop := fnPercentagesUptoRow.holds Try.pinned (OpenSpec.upto fnPercentagesSpec)

/-- 'laws.FnExactCarryOver', WHERE WHAT IT READS IS OF BULK AT MOST 1048576: true; the input reads as it did. -/
def fnExactCarryOverUptoRow : OpenClaim := { program := "ytkeockkepmljjaa", sum := "3dc354876dddb1946aa77c5b60ae244253d0b7deff5d50291b3e00d872fa688e", func := "loop.example/g00854/laws.FnExactCarryOver", spec := "fnExactCarryOver", unfollowed := true, recurses := true, apart := false, narrowed := true }
def FnExactCarryOverUptoSaid : Prop := fnExactCarryOverUptoRow.holds Try.pinned (OpenSpec.upto fnExactCarryOverSpec)

/-- 'laws.FnExactRankScores', WHERE WHAT IT READS IS OF BULK AT MOST 1048576: true; the input reads as it did. -/
def fnExactRankScoresUptoRow : OpenClaim := { program := "ytkeockkepmljjaa", sum := "3dc354876dddb1946aa77c5b60ae244253d0b7deff5d50291b3e00d872fa688e", func := "loop.example/g00854/laws.FnExactRankScores", spec := "fnExactRankScores", unfollowed := true, recurses := true, apart := false, narrowed := true }
def FnExactRankScoresUptoSaid : Prop := fnExactRankScoresUptoRow.holds Try.pinned (OpenSpec.upto fnExactRankScoresSpec)

/-- 'laws.FnQualifiers', WHERE WHAT IT READS IS OF BULK AT MOST 1048576: true; the input reads as it did. -/
def fnQualifiersUptoRow : OpenClaim := { program := "ytkeockkepmljjaa", sum := "3dc354876dddb1946aa77c5b60ae244253d0b7deff5d50291b3e00d872fa688e", func := "loop.example/g00854/laws.FnQualifiers", spec := "fnQualifiers", unfollowed := true, recurses := true, apart := false, narrowed := true }
def FnQualifiersUptoSaid : Prop := fnQualifiersUptoRow.holds Try.pinned (OpenSpec.upto fnQualifiersSpec)

/-- 'laws.FnExactPercentages', WHERE WHAT IT READS IS OF BULK AT MOST 1048576: true; the input reads as it did. -/
def fnExactPercentagesUptoRow : OpenClaim := { program := "ytkeockkepmljjaa", sum := "3dc354876dddb1946aa77c5b60ae244253d0b7deff5d50291b3e00d872fa688e", func := "loop.example/g00854/laws.FnExactPercentages", spec := "fnExactPercentages", unfollowed := true, recurses := true, apart := false, narrowed := true }
def FnExactPercentagesUptoSaid : Prop := fnExactPercentagesUptoRow.holds Try.pinned (OpenSpec.upto fnExactPercentagesSpec)

/-- 'laws.FnExactQualifiers', WHERE WHAT IT READS IS OF BULK AT MOST 1048576: true; the input reads as it did. -/
def fnExactQualifiersUptoRow : OpenClaim := { program := "ytkeockkepmljjaa", sum := "3dc354876dddb1946aa77c5b60ae244253d0b7deff5d50291b3e00d872fa688e", func := "loop.example/g00854/laws.FnExactQualifiers", spec := "fnExactQualifiers", unfollowed := true, recurses := true, apart := false, narrowed := true }
def FnExactQualifiersUptoSaid : Prop := fnExactQualifiersUptoRow.holds Try.pinned (OpenSpec.upto fnExactQualifiersSpec)

/-- 'laws.FnShares', WHERE WHAT IT READS IS OF BULK AT MOST 1048576: true; the input reads as it did. -/
def fnSharesUptoRow : OpenClaim := { program := "ytkeockkepmljjaa", sum := "3dc354876dddb1946aa77c5b60ae244253d0b7deff5d50291b3e00d872fa688e", func := "loop.example/g00854/laws.FnShares", spec := "fnShares", unfollowed := true, recurses := true, apart := false, narrowed := true }
def FnSharesUptoSaid : Prop := fnSharesUptoRow.holds Try.pinned (OpenSpec.upto fnSharesSpec)

/-- 'laws.FnExactShareOfPrizes', WHERE WHAT IT READS IS OF BULK AT MOST 1048576: true; the input reads as it did. -/
def fnExactShareOfPrizesUptoRow : OpenClaim := { program := "ytkeockkepmljjaa", sum := "3dc354876dddb1946aa77c5b60ae244253d0b7deff5d50291b3e00d872fa688e", func := "loop.example/g00854/laws.FnExactShareOfPrizes", spec := "fnExactShareOfPrizes", unfollowed := true, recurses := true, apart := false, narrowed := true }
def FnExactShareOfPrizesUptoSaid : Prop := fnExactShareOfPrizesUptoRow.holds Try.pinned (OpenSpec.upto fnExactShareOfPrizesSpec)

/-- 'laws.FnExactRankOrder', WHERE WHAT IT READS IS OF BULK AT MOST 1048576: true; the input reads as it did. -/
def fnExactRankOrderUptoRow : OpenClaim := { program := "ytkeockkepmljjaa", sum := "3dc354876dddb1946aa77c5b60ae244253d0b7deff5d50291b3e00d872fa688e", func := "loop.example/g00854/laws.FnExactRankOrder", spec := "fnExactRankOrder", unfollowed := true, recurses := true, apart := false, narrowed := true }
def FnExactRankOrderUptoSaid : Prop := fnExactRankOrderUptoRow.holds Try.pinned (OpenSpec.upto fnExactRankOrderSpec)

/-- 'laws.FnRanks', WHERE WHAT IT READS IS OF BULK AT MOST 1048576: true; the input reads as it did. -/
def fnRanksUptoRow : OpenClaim := { program := "ytkeockkepmljjaa", sum := "3dc354876dddb1946aa77c5b60ae244253d0b7deff5d50291b3e00d872fa688e", func := "loop.example/g00854/laws.FnRanks", spec := "fnRanks", unfollowed := true, recurses := true, apart := false, narrowed := true }
def FnRanksUptoSaid : Prop := fnRanksUptoRow.holds Try.pinned (OpenSpec.upto fnRanksSpec)

end Rows
end Go.Proofs.Ytkeockkepmljjaa
