/-
  No cell of these rows narrows 'for every input' (looked for: loops, veiled, ifaces, maps, wideKeys, modest, calm, conditions, laid).
  DERIVED. THE GIVEN ROWS OF THIS SEAT. 4 by the template 'for every input the law returns true; each argument reads behind the call as it read before'; 0 by the template 'total and deterministic' (their statements: YtmmeopjemkjllaaGreatTotals.lean).
  GIVEN WITH THE SEED: the statements are not yours to turn. If you find one false, say at which input.
  Laid BY PROGRAM, IN A SANDBOX (cutbox-rows.mjs): the forced cells as the released guide's own fill.sh prints them over the translation cb334bbde8813689… (all of the seat's roots in one cut). By AI agents, Wed Nov 11 2026. No macro, syntax, notation, axiom, sorry.
-/
import Derived.Test.YtmmeopjemkjllaaGreatChecked
import GoSem.Claim
import GoSem.ClaimJoined
import GoSem.ClaimMapViews
import Derived.JoinedTies
import Derived.KernelRfl
namespace Go.Proofs.YtmmeopjemkjllaaGreat
/- THE CELL 'sum', in the pinned program and in every row, IS THE sha256 OF THE DUMP (.gsa) THAT YtmmeopjemkjllaaGreatProg.lean LOADS. Nothing in Lean hashes anything: it is a label: what it is worth is what the hold of that sum in a sandbox is worth. -/
noncomputable def Tryz.pinned : Pinned := { name := "ytmmeopjemkjllaagreat", sum := "cb334bbde881368924cde9e14b1e1b0add685fa8a07eb76671c15d5309d994b2", checked := Tryz.checked }
namespace Rows
def none {H : Type} : Left H := { results := [], args := [] }

/-- 'distributarylaw22.PickTurns': WHATEVER THE INPUT: true; the input reads as it did. -/
def pickTurnsSpec : ChangeSpec := { name := "pickTurns", fn := fun _ => fun
  | [d1, d2, d3] => { results := [.lit (.bool true)], args := [d1, d2, d3] }
  | _ => none }
def pickTurnsRow : OpenClaim := { program := "ytmmeopjemkjllaagreat", sum := "cb334bbde881368924cde9e14b1e1b0add685fa8a07eb76671c15d5309d994b2", func := "distributary/distributarylaw22.PickTurns", spec := "pickTurns", unfollowed := true, recurses := true, apart := false }
def PickTurnsSaid : Prop := pickTurnsRow.holds Tryz.pinned (OpenSpec.ofChange pickTurnsSpec)

/-- ITS FALSE NEIGHBOUR: 'it returns false'. Refute it at one input. -/
def pickTurnsWrong : ChangeSpec := { name := "pickTurns", fn := fun _ => fun
  | [d1, d2, d3] => { results := [.lit (.bool false)], args := [d1, d2, d3] }
  | _ => none }
def PickTurnsWrongFalsely : Prop := pickTurnsRow.holds Tryz.pinned (OpenSpec.ofChange pickTurnsWrong)

/-- 'distributarylaw22.PickTick': WHATEVER THE INPUT: true; the input reads as it did. -/
def pickTickSpec : ChangeSpec := { name := "pickTick", fn := fun _ => fun
  | [d] => { results := [.lit (.bool true)], args := [d] }
  | _ => none }
def pickTickRow : OpenClaim := { program := "ytmmeopjemkjllaagreat", sum := "cb334bbde881368924cde9e14b1e1b0add685fa8a07eb76671c15d5309d994b2", func := "distributary/distributarylaw22.PickTick", spec := "pickTick", inPlace := ["math/bits.Add64", "slices.overlaps[int]"], unfollowed := true, recurses := true, apart := false }
def PickTickSaid : Prop := pickTickRow.holds Tryz.pinned (OpenSpec.ofChange pickTickSpec)

/-- ITS FALSE NEIGHBOUR: 'it returns false'. Refute it at one input. -/
def pickTickWrong : ChangeSpec := { name := "pickTick", fn := fun _ => fun
  | [d] => { results := [.lit (.bool false)], args := [d] }
  | _ => none }
def PickTickWrongFalsely : Prop := pickTickRow.holds Tryz.pinned (OpenSpec.ofChange pickTickWrong)

/-- 'distributarylaw22.PickTotals': WHATEVER THE INPUT: true; the input reads as it did. -/
def pickTotalsSpec : ChangeSpec := { name := "pickTotals", fn := fun _ => fun
  | [d] => { results := [.lit (.bool true)], args := [d] }
  | _ => none }
def pickTotalsRow : OpenClaim := { program := "ytmmeopjemkjllaagreat", sum := "cb334bbde881368924cde9e14b1e1b0add685fa8a07eb76671c15d5309d994b2", func := "distributary/distributarylaw22.PickTotals", spec := "pickTotals", inPlace := ["math/bits.Add64", "slices.overlaps[int]"], unfollowed := true, recurses := true, apart := false }
def PickTotalsSaid : Prop := pickTotalsRow.holds Tryz.pinned (OpenSpec.ofChange pickTotalsSpec)

/-- ITS FALSE NEIGHBOUR: 'it returns false'. Refute it at one input. -/
def pickTotalsWrong : ChangeSpec := { name := "pickTotals", fn := fun _ => fun
  | [d] => { results := [.lit (.bool false)], args := [d] }
  | _ => none }
def PickTotalsWrongFalsely : Prop := pickTotalsRow.holds Tryz.pinned (OpenSpec.ofChange pickTotalsWrong)

/-- 'distributarylaw22.PickWay': WHATEVER THE INPUT: true; the input reads as it did. -/
def pickWaySpec : ChangeSpec := { name := "pickWay", fn := fun _ => fun
  | [d] => { results := [.lit (.bool true)], args := [d] }
  | _ => none }
def pickWayRow : OpenClaim := { program := "ytmmeopjemkjllaagreat", sum := "cb334bbde881368924cde9e14b1e1b0add685fa8a07eb76671c15d5309d994b2", func := "distributary/distributarylaw22.PickWay", spec := "pickWay", inPlace := ["math/bits.Add64", "slices.overlaps[int]"], unfollowed := true, recurses := true, apart := false }
def PickWaySaid : Prop := pickWayRow.holds Tryz.pinned (OpenSpec.ofChange pickWaySpec)

/-- ITS FALSE NEIGHBOUR: 'it returns false'. Refute it at one input. -/
def pickWayWrong : ChangeSpec := { name := "pickWay", fn := fun _ => fun
  | [d] => { results := [.lit (.bool false)], args := [d] }
  | _ => none }
def PickWayWrongFalsely : Prop := pickWayRow.holds Tryz.pinned (OpenSpec.ofChange pickWayWrong)

/- THE SECOND FORM. 'bulk': how many values and letters a reading holds, each counted each time it is reached (what is shared counts as often as it is met; a slice's spare places count too). A statement '..UptoSaid' is the law's where the arguments, and the package variables that the reading takes, are together of bulk at most 1048576: NARROWER than '..Said'. Prove '..Said' where nothing that the law and all that it calls make is longer than what came in: it says more and counts as full. Else prove '..UptoSaid'. A law counts once. -/
mutual
def uptoBulk {H : Type} : DataW H → Nat
  | .lit (.string bytes) => bytes.length + 1
  | .lit _ => 1
  | .nil => 1
  | .ptr d => uptoBulk d + 1
  | .slice elems spare => uptoBulkAll elems + uptoBulkAll spare + 1
  | .agg parts => uptoBulkAll parts + 1
  | .iface _ d => uptoBulk d + 1
  | .map entries => uptoBulkEntries entries + 1
  | .held _ => 1
def uptoBulkAll {H : Type} : List (DataW H) → Nat
  | [] => 0
  | d :: r => uptoBulk d + uptoBulkAll r
def uptoBulkEntries {H : Type} : List (Lit × DataW H) → Nat
  | [] => 0
  | x :: r => uptoBulkEntry x + uptoBulkEntries r
def uptoBulkEntry {H : Type} : Lit × DataW H → Nat
  | (.string bytes, d) => bytes.length + uptoBulk d + 1
  | (_, d) => uptoBulk d + 1
 end
def uptoSmall : (H : Type) → List (DataW H) → Bool := fun _ ds => decide (uptoBulkAll ds ≤ 1048576)
def OpenSpec.upto (s : _root_.Go.ChangeSpec) : _root_.Go.OpenSpec := { _root_.Go.OpenSpec.ofChange s with cond := some uptoSmall }

/-- 'distributarylaw22.PickTurns', WHERE WHAT IT READS IS OF BULK AT MOST 1048576: true; the input reads as it did. -/
def pickTurnsUptoRow : OpenClaim := { program := "ytmmeopjemkjllaagreat", sum := "cb334bbde881368924cde9e14b1e1b0add685fa8a07eb76671c15d5309d994b2", func := "distributary/distributarylaw22.PickTurns", spec := "pickTurns", unfollowed := true, recurses := true, apart := false, narrowed := true }
def PickTurnsUptoSaid : Prop := pickTurnsUptoRow.holds Tryz.pinned (OpenSpec.upto pickTurnsSpec)

/-- 'distributarylaw22.PickTick', WHERE WHAT IT READS IS OF BULK AT MOST 1048576: true; the input reads as it did. -/
def pickTickUptoRow : OpenClaim := { program := "ytmmeopjemkjllaagreat", sum := "cb334bbde881368924cde9e14b1e1b0add685fa8a07eb76671c15d5309d994b2", func := "distributary/distributarylaw22.PickTick", spec := "pickTick", inPlace := ["math/bits.Add64", "slices.overlaps[int]"], unfollowed := true, recurses := true, apart := false, narrowed := true }
def PickTickUptoSaid : Prop := pickTickUptoRow.holds Tryz.pinned (OpenSpec.upto pickTickSpec)

/-- 'distributarylaw22.PickTotals', WHERE WHAT IT READS IS OF BULK AT MOST 1048576: true; the input reads as it did. -/
def pickTotalsUptoRow : OpenClaim := { program := "ytmmeopjemkjllaagreat", sum := "cb334bbde881368924cde9e14b1e1b0add685fa8a07eb76671c15d5309d994b2", func := "distributary/distributarylaw22.PickTotals", spec := "pickTotals", inPlace := ["math/bits.Add64", "slices.overlaps[int]"], unfollowed := true, recurses := true, apart := false, narrowed := true }
def PickTotalsUptoSaid : Prop := pickTotalsUptoRow.holds Tryz.pinned (OpenSpec.upto pickTotalsSpec)

/-- 'distributarylaw22.PickWay', WHERE WHAT IT READS IS OF BULK AT MOST 1048576: true; the input reads as it did. -/
def pickWayUptoRow : OpenClaim := { program := "ytmmeopjemkjllaagreat", sum := "cb334bbde881368924cde9e14b1e1b0add685fa8a07eb76671c15d5309d994b2", func := "distributary/distributarylaw22.PickWay", spec := "pickWay", inPlace := ["math/bits.Add64", "slices.overlaps[int]"], unfollowed := true, recurses := true, apart := false, narrowed := true }
def PickWayUptoSaid : Prop := pickWayUptoRow.holds Tryz.pinned (OpenSpec.upto pickWaySpec)

end Rows
end Go.Proofs.YtmmeopjemkjllaaGreat
