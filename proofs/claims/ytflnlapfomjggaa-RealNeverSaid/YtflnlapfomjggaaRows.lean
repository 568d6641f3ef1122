/-
  No cell of these rows narrows 'for every input' (looked for: loops, veiled, ifaces, maps, wideKeys, modest, calm, conditions, laid).
  DERIVED. THE GIVEN ROWS OF THIS SEAT. 12 by the template 'for every input the law returns true; each argument reads behind the call as it read before'; 0 by the template 'total and deterministic' (their statements: YtflnlapfomjggaaTotals.lean).
  GIVEN WITH THE SEED: the statements are not yours to turn. If you find one false, say at which input.
  Laid BY PROGRAM, IN A SANDBOX (cutbox-rows.mjs): the forced cells as the released guide's own fill.sh prints them over the translation 78e1f4f6e70bda26… (all of the seat's roots in one cut). By AI agents, Wed Nov 11 2026. No macro, syntax, notation, axiom, sorry.
-/
import Derived.Test.YtflnlapfomjggaaChecked
import GoSem.Claim
import GoSem.ClaimJoined
import GoSem.ClaimMapViews
import Derived.JoinedTies
import Derived.KernelRfl
namespace Go.Proofs.Ytflnlapfomjggaa
/- THE CELL 'sum', in the pinned program and in every row, IS THE sha256 OF THE DUMP (.gsa) THAT YtflnlapfomjggaaProg.lean LOADS. Nothing in Lean hashes anything: it is a label: what it is worth is what the hold of that sum in a sandbox is worth. -/
noncomputable def Try.pinned : Pinned := { name := "ytflnlapfomjggaa", sum := "78e1f4f6e70bda26405be74a953f3018844937e15c2fd6858d5b765cd16f52af", checked := Try.checked }
namespace Rows
def none {H : Type} : Left H := { results := [], args := [] }

/-- 'distributarylaw07.RunDue': WHATEVER THE INPUT: true; the input reads as it did. -/
def runDueSpec : ChangeSpec := { name := "runDue", fn := fun _ => fun
  | [d1, d2, d3, d4] => { results := [.lit (.bool true)], args := [d1, d2, d3, d4] }
  | _ => none }
def runDueRow : OpenClaim := { program := "ytflnlapfomjggaa", sum := "78e1f4f6e70bda26405be74a953f3018844937e15c2fd6858d5b765cd16f52af", func := "distributary/distributarylaw07.RunDue", spec := "runDue", unfollowed := true, recurses := true, apart := false }
def RunDueSaid : Prop := runDueRow.holds Try.pinned (OpenSpec.ofChange runDueSpec)

/-- ITS FALSE NEIGHBOUR: 'it returns false'. Refute it at one input. -/
def runDueWrong : ChangeSpec := { name := "runDue", fn := fun _ => fun
  | [d1, d2, d3, d4] => { results := [.lit (.bool false)], args := [d1, d2, d3, d4] }
  | _ => none }
def RunDueWrongFalsely : Prop := runDueRow.holds Try.pinned (OpenSpec.ofChange runDueWrong)

/-- 'distributarylaw07.RunKept': WHATEVER THE INPUT: true; the input reads as it did. -/
def runKeptSpec : ChangeSpec := { name := "runKept", fn := fun _ => fun
  | [d1, d2, d3, d4, d5, d6, d7] => { results := [.lit (.bool true)], args := [d1, d2, d3, d4, d5, d6, d7] }
  | _ => none }
def runKeptRow : OpenClaim := { program := "ytflnlapfomjggaa", sum := "78e1f4f6e70bda26405be74a953f3018844937e15c2fd6858d5b765cd16f52af", func := "distributary/distributarylaw07.RunKept", spec := "runKept", unfollowed := true, recurses := true, apart := false }
def RunKeptSaid : Prop := runKeptRow.holds Try.pinned (OpenSpec.ofChange runKeptSpec)

/-- ITS FALSE NEIGHBOUR: 'it returns false'. Refute it at one input. -/
def runKeptWrong : ChangeSpec := { name := "runKept", fn := fun _ => fun
  | [d1, d2, d3, d4, d5, d6, d7] => { results := [.lit (.bool false)], args := [d1, d2, d3, d4, d5, d6, d7] }
  | _ => none }
def RunKeptWrongFalsely : Prop := runKeptRow.holds Try.pinned (OpenSpec.ofChange runKeptWrong)

/-- 'distributarylaw07.RunNoGain': WHATEVER THE INPUT: true; the input reads as it did. -/
def runNoGainSpec : ChangeSpec := { name := "runNoGain", fn := fun _ => fun
  | [d1, d2, d3] => { results := [.lit (.bool true)], args := [d1, d2, d3] }
  | _ => none }
def runNoGainRow : OpenClaim := { program := "ytflnlapfomjggaa", sum := "78e1f4f6e70bda26405be74a953f3018844937e15c2fd6858d5b765cd16f52af", func := "distributary/distributarylaw07.RunNoGain", spec := "runNoGain", unfollowed := true, recurses := true, apart := false }
def RunNoGainSaid : Prop := runNoGainRow.holds Try.pinned (OpenSpec.ofChange runNoGainSpec)

/-- ITS FALSE NEIGHBOUR: 'it returns false'. Refute it at one input. -/
def runNoGainWrong : ChangeSpec := { name := "runNoGain", fn := fun _ => fun
  | [d1, d2, d3] => { results := [.lit (.bool false)], args := [d1, d2, d3] }
  | _ => none }
def RunNoGainWrongFalsely : Prop := runNoGainRow.holds Try.pinned (OpenSpec.ofChange runNoGainWrong)

/-- 'distributarylaw07.RunAnew': WHATEVER THE INPUT: true; the input reads as it did. -/
def runAnewSpec : ChangeSpec := { name := "runAnew", fn := fun _ => fun
  | [d1, d2, d3, d4] => { results := [.lit (.bool true)], args := [d1, d2, d3, d4] }
  | _ => none }
def runAnewRow : OpenClaim := { program := "ytflnlapfomjggaa", sum := "78e1f4f6e70bda26405be74a953f3018844937e15c2fd6858d5b765cd16f52af", func := "distributary/distributarylaw07.RunAnew", spec := "runAnew", unfollowed := true, recurses := true, apart := false }
def RunAnewSaid : Prop := runAnewRow.holds Try.pinned (OpenSpec.ofChange runAnewSpec)

/-- ITS FALSE NEIGHBOUR: 'it returns false'. Refute it at one input. -/
def runAnewWrong : ChangeSpec := { name := "runAnew", fn := fun _ => fun
  | [d1, d2, d3, d4] => { results := [.lit (.bool false)], args := [d1, d2, d3, d4] }
  | _ => none }
def RunAnewWrongFalsely : Prop := runAnewRow.holds Try.pinned (OpenSpec.ofChange runAnewWrong)

/-- 'distributarylaw21.UpperNever': WHATEVER THE INPUT: true; the input reads as it did. -/
def upperNeverSpec : ChangeSpec := { name := "upperNever", fn := fun _ => fun
  | [d1, d2] => { results := [.lit (.bool true)], args := [d1, d2] }
  | _ => none }
def upperNeverRow : OpenClaim := { program := "ytflnlapfomjggaa", sum := "78e1f4f6e70bda26405be74a953f3018844937e15c2fd6858d5b765cd16f52af", func := "distributary/distributarylaw21.UpperNever", spec := "upperNever", unfollowed := true, recurses := true, apart := false }
def UpperNeverSaid : Prop := upperNeverRow.holds Try.pinned (OpenSpec.ofChange upperNeverSpec)

/-- ITS FALSE NEIGHBOUR: 'it returns false'. Refute it at one input. -/
def upperNeverWrong : ChangeSpec := { name := "upperNever", fn := fun _ => fun
  | [d1, d2] => { results := [.lit (.bool false)], args := [d1, d2] }
  | _ => none }
def UpperNeverWrongFalsely : Prop := upperNeverRow.holds Try.pinned (OpenSpec.ofChange upperNeverWrong)

/-- 'distributarylaw21.UpperTicks': WHATEVER THE INPUT: true; the input reads as it did. -/
def upperTicksSpec : ChangeSpec := { name := "upperTicks", fn := fun _ => fun
  | [d1, d2, d3, d4] => { results := [.lit (.bool true)], args := [d1, d2, d3, d4] }
  | _ => none }
def upperTicksRow : OpenClaim := { program := "ytflnlapfomjggaa", sum := "78e1f4f6e70bda26405be74a953f3018844937e15c2fd6858d5b765cd16f52af", func := "distributary/distributarylaw21.UpperTicks", spec := "upperTicks", unfollowed := true, recurses := true, apart := false }
def UpperTicksSaid : Prop := upperTicksRow.holds Try.pinned (OpenSpec.ofChange upperTicksSpec)

/-- ITS FALSE NEIGHBOUR: 'it returns false'. Refute it at one input. -/
def upperTicksWrong : ChangeSpec := { name := "upperTicks", fn := fun _ => fun
  | [d1, d2, d3, d4] => { results := [.lit (.bool false)], args := [d1, d2, d3, d4] }
  | _ => none }
def UpperTicksWrongFalsely : Prop := upperTicksRow.holds Try.pinned (OpenSpec.ofChange upperTicksWrong)

/-- 'distributarylaw21.UpperBelow': WHATEVER THE INPUT: true; the input reads as it did. -/
def upperBelowSpec : ChangeSpec := { name := "upperBelow", fn := fun _ => fun
  | [d1, d2, d3, d4] => { results := [.lit (.bool true)], args := [d1, d2, d3, d4] }
  | _ => none }
def upperBelowRow : OpenClaim := { program := "ytflnlapfomjggaa", sum := "78e1f4f6e70bda26405be74a953f3018844937e15c2fd6858d5b765cd16f52af", func := "distributary/distributarylaw21.UpperBelow", spec := "upperBelow", unfollowed := true, recurses := true, apart := false }
def UpperBelowSaid : Prop := upperBelowRow.holds Try.pinned (OpenSpec.ofChange upperBelowSpec)

/-- ITS FALSE NEIGHBOUR: 'it returns false'. Refute it at one input. -/
def upperBelowWrong : ChangeSpec := { name := "upperBelow", fn := fun _ => fun
  | [d1, d2, d3, d4] => { results := [.lit (.bool false)], args := [d1, d2, d3, d4] }
  | _ => none }
def UpperBelowWrongFalsely : Prop := upperBelowRow.holds Try.pinned (OpenSpec.ofChange upperBelowWrong)

/-- 'distributarylaw18.RealOrder': WHATEVER THE INPUT: true; the input reads as it did. -/
def realOrderSpec : ChangeSpec := { name := "realOrder", fn := fun _ => fun
  | [d1, d2] => { results := [.lit (.bool true)], args := [d1, d2] }
  | _ => none }
def realOrderRow : OpenClaim := { program := "ytflnlapfomjggaa", sum := "78e1f4f6e70bda26405be74a953f3018844937e15c2fd6858d5b765cd16f52af", func := "distributary/distributarylaw18.RealOrder", spec := "realOrder", unfollowed := true, recurses := true, apart := false }
def RealOrderSaid : Prop := realOrderRow.holds Try.pinned (OpenSpec.ofChange realOrderSpec)

/-- ITS FALSE NEIGHBOUR: 'it returns false'. Refute it at one input. -/
def realOrderWrong : ChangeSpec := { name := "realOrder", fn := fun _ => fun
  | [d1, d2] => { results := [.lit (.bool false)], args := [d1, d2] }
  | _ => none }
def RealOrderWrongFalsely : Prop := realOrderRow.holds Try.pinned (OpenSpec.ofChange realOrderWrong)

/-- 'distributarylaw18.RealNever': WHATEVER THE INPUT: true; the input reads as it did. -/
def realNeverSpec : ChangeSpec := { name := "realNever", fn := fun _ => fun
  | [d1, d2] => { results := [.lit (.bool true)], args := [d1, d2] }
  | _ => none }
def realNeverRow : OpenClaim := { program := "ytflnlapfomjggaa", sum := "78e1f4f6e70bda26405be74a953f3018844937e15c2fd6858d5b765cd16f52af", func := "distributary/distributarylaw18.RealNever", spec := "realNever", unfollowed := true, recurses := true, apart := false }
def RealNeverSaid : Prop := realNeverRow.holds Try.pinned (OpenSpec.ofChange realNeverSpec)

/-- ITS FALSE NEIGHBOUR: 'it returns false'. Refute it at one input. -/
def realNeverWrong : ChangeSpec := { name := "realNever", fn := fun _ => fun
  | [d1, d2] => { results := [.lit (.bool false)], args := [d1, d2] }
  | _ => none }
def RealNeverWrongFalsely : Prop := realNeverRow.holds Try.pinned (OpenSpec.ofChange realNeverWrong)

/-- 'distributarylaw18.RealShares': WHATEVER THE INPUT: true; the input reads as it did. -/
def realSharesSpec : ChangeSpec := { name := "realShares", fn := fun _ => fun
  | [d1, d2, d3, d4] => { results := [.lit (.bool true)], args := [d1, d2, d3, d4] }
  | _ => none }
def realSharesRow : OpenClaim := { program := "ytflnlapfomjggaa", sum := "78e1f4f6e70bda26405be74a953f3018844937e15c2fd6858d5b765cd16f52af", func := "distributary/distributarylaw18.RealShares", spec := "realShares", unfollowed := true, recurses := true, apart := false }
def RealSharesSaid : Prop := realSharesRow.holds Try.pinned (OpenSpec.ofChange realSharesSpec)

/-- ITS FALSE NEIGHBOUR: 'it returns false'. Refute it at one input. -/
def realSharesWrong : ChangeSpec := { name := "realShares", fn := fun _ => fun
  | [d1, d2, d3, d4] => { results := [.lit (.bool false)], args := [d1, d2, d3, d4] }
  | _ => none }
def RealSharesWrongFalsely : Prop := realSharesRow.holds Try.pinned (OpenSpec.ofChange realSharesWrong)

/-- 'distributarylaw07.RunTells': WHATEVER THE INPUT: true; the input reads as it did. -/
def runTellsSpec : ChangeSpec := { name := "runTells", fn := fun _ => fun
  | [d1, d2, d3] => { results := [.lit (.bool true)], args := [d1, d2, d3] }
  | _ => none }
def runTellsRow : OpenClaim := { program := "ytflnlapfomjggaa", sum := "78e1f4f6e70bda26405be74a953f3018844937e15c2fd6858d5b765cd16f52af", func := "distributary/distributarylaw07.RunTells", spec := "runTells", unfollowed := true, recurses := true, apart := false }
def RunTellsSaid : Prop := runTellsRow.holds Try.pinned (OpenSpec.ofChange runTellsSpec)

/-- ITS FALSE NEIGHBOUR: 'it returns false'. Refute it at one input. -/
def runTellsWrong : ChangeSpec := { name := "runTells", fn := fun _ => fun
  | [d1, d2, d3] => { results := [.lit (.bool false)], args := [d1, d2, d3] }
  | _ => none }
def RunTellsWrongFalsely : Prop := runTellsRow.holds Try.pinned (OpenSpec.ofChange runTellsWrong)

/-- 'distributarylaw21.UpperPlays': WHATEVER THE INPUT: true; the input reads as it did. -/
def upperPlaysSpec : ChangeSpec := { name := "upperPlays", fn := fun _ => fun
  | [d1, d2, d3, d4] => { results := [.lit (.bool true)], args := [d1, d2, d3, d4] }
  | _ => none }
def upperPlaysRow : OpenClaim := { program := "ytflnlapfomjggaa", sum := "78e1f4f6e70bda26405be74a953f3018844937e15c2fd6858d5b765cd16f52af", func := "distributary/distributarylaw21.UpperPlays", spec := "upperPlays", unfollowed := true, recurses := true, apart := false }
def UpperPlaysSaid : Prop := upperPlaysRow.holds Try.pinned (OpenSpec.ofChange upperPlaysSpec)

/-- ITS FALSE NEIGHBOUR: 'it returns false'. Refute it at one input. -/
def upperPlaysWrong : ChangeSpec := { name := "upperPlays", fn := fun _ => fun
  | [d1, d2, d3, d4] => { results := [.lit (.bool false)], args := [d1, d2, d3, d4] }
  | _ => none }
def UpperPlaysWrongFalsely : Prop := upperPlaysRow.holds Try.pinned (OpenSpec.ofChange upperPlaysWrong)

/- THE SECOND FORM. 'bulk': how many values and letters a reading holds, each counted each time it is reached (what is shared counts as often as it is met; a slice's spare places count too). A statement '..UptoSaid' is the law's where the arguments, and the package variables that the reading takes, are together of bulk at most 1048576: NARROWER than '..Said'. Prove '..Said' where nothing that the law and all that it calls make is longer than what came in: it says more and counts as full. Else prove '..UptoSaid'. A law counts once. -/
mutual
def uptoBulk {H : Type} : DataW H → Nat
  | .lit (.string bytes) => bytes.length + 1
  | .lit _ => 1
  | .nil => 1
  | .ptr d => uptoBulk d + 1
  | .slice elems spare => uptoBulkAll elems + uptoBulkAll spare + 1
  | .agg parts => uptoBulkAll parts + 1
  | .iface _ d => uptoBulk d + 1
  | .map entries => uptoBulkEntries entries + 1
  | .held _ => 1
def uptoBulkAll {H : Type} : List (DataW H) → Nat
  | [] => 0
  | d :: r => uptoBulk d + uptoBulkAll r
def uptoBulkEntries {H : Type} : List (Lit × DataW H) → Nat
  | [] => 0
  | x :: r => uptoBulkEntry x + uptoBulkEntries r
def uptoBulkEntry {H : Type} : Lit × DataW H → Nat
  | (.string bytes, d) => bytes.length + uptoBulk d + 1
  | (_, d) => uptoBulk d + 1
 end
def uptoSmall : (H : Type) → List (DataW H) → Bool := fun _ ds => decide (uptoBulkAll ds ≤ 1048576)
def OpenSpec.upto (s : _root_.Go.ChangeSpec) : _root_.Go.OpenSpec := { _root_.Go.OpenSpec.ofChange s with cond := some uptoSmall }

/-- 'distributarylaw07.RunDue', WHERE WHAT IT READS IS OF BULK AT MOST 1048576: true; the input reads as it did. -/
def runDueUptoRow : OpenClaim := { program := "ytflnlapfomjggaa", sum := "78e1f4f6e70bda26405be74a953f3018844937e15c2fd6858d5b765cd16f52af", func := "distributary/distributarylaw07.RunDue", spec := "runDue", unfollowed := true, recurses := true, apart := false, narrowed := true }
def RunDueUptoSaid : Prop := runDueUptoRow.holds Try.pinned (OpenSpec.upto runDueSpec)

/-- 'distributarylaw07.RunKept', WHERE WHAT IT READS IS OF BULK AT MOST 1048576: true; the input reads as it did. -/
def runKeptUptoRow : OpenClaim := { program := "ytflnlapfomjggaa", sum := "78e1f4f6e70bda26405be74a953f3018844937e15c2fd6858d5b765cd16f52af", func := "distributary/distributarylaw07.RunKept", spec := "runKept", unfollowed := true, recurses := true, apart := false, narrowed := true }
def RunKeptUptoSaid : Prop := runKeptUptoRow.holds Try.pinned (OpenSpec.upto runKeptSpec)

/-- 'distributarylaw07.RunNoGain', WHERE WHAT IT READS IS OF BULK AT MOST 1048576: true; the input reads as it did. -/
def runNoGainUptoRow : OpenClaim := { program := "ytflnlapfomjggaa", sum := "78e1f4f6e70bda26405be74a953f3018844937e15c2fd6858d5b765cd16f52af", func := "distributary/distributarylaw07.RunNoGain", spec := "runNoGain", unfollowed := true, recurses := true, apart := false, narrowed := true }
def RunNoGainUptoSaid : Prop := runNoGainUptoRow.holds Try.pinned (OpenSpec.upto runNoGainSpec)

/-- 'distributarylaw07.RunAnew', WHERE WHAT IT READS IS OF BULK AT MOST 1048576: true; the input reads as it did. -/
def runAnewUptoRow : OpenClaim := { program := "ytflnlapfomjggaa", sum := "78e1f4f6e70bda26405be74a953f3018844937e15c2fd6858d5b765cd16f52af", func := "distributary/distributarylaw07.RunAnew", spec := "runAnew", unfollowed := true, recurses := true, apart := false, narrowed := true }
def RunAnewUptoSaid : Prop := runAnewUptoRow.holds Try.pinned (OpenSpec.upto runAnewSpec)

/-- 'distributarylaw21.UpperNever', WHERE WHAT IT READS IS OF BULK AT MOST 1048576: true; the input reads as it did. -/
def upperNeverUptoRow : OpenClaim := { program := "ytflnlapfomjggaa", sum := "78e1f4f6e70bda26405be74a953f3018844937e15c2fd6858d5b765cd16f52af", func := "distributary/distributarylaw21.UpperNever", spec := "upperNever", unfollowed := true, recurses := true, apart := false, narrowed := true }
def UpperNeverUptoSaid : Prop := upperNeverUptoRow.holds Try.pinned (OpenSpec.upto upperNeverSpec)

/-- 'distributarylaw21.UpperTicks', WHERE WHAT IT READS IS OF BULK AT MOST 1048576: true; the input reads as it did. -/
def upperTicksUptoRow : OpenClaim := { program := "ytflnlapfomjggaa", sum := "78e1f4f6e70bda26405be74a953f3018844937e15c2fd6858d5b765cd16f52af", func := "distributary/distributarylaw21.UpperTicks", spec := "upperTicks", unfollowed := true, recurses := true, apart := false, narrowed := true }
def UpperTicksUptoSaid : Prop := upperTicksUptoRow.holds Try.pinned (OpenSpec.upto upperTicksSpec)

/-- 'distributarylaw21.UpperBelow', WHERE WHAT IT READS IS OF BULK AT MOST 1048576: true; the input reads as it did. -/
def upperBelowUptoRow : OpenClaim := { program := "ytflnlapfomjggaa", sum := "78e1f4f6e70bda26405be74a953f3018844937e15c2fd6858d5b765cd16f52af", func := "distributary/distributarylaw21.UpperBelow", spec := "upperBelow", unfollowed := true, recurses := true, apart := false, narrowed := true }
def UpperBelowUptoSaid : Prop := upperBelowUptoRow.holds Try.pinned (OpenSpec.upto upperBelowSpec)

/-- 'distributarylaw18.RealOrder', WHERE WHAT IT READS IS OF BULK AT MOST 1048576: true; the input reads as it did. -/
def realOrderUptoRow : OpenClaim := { program := "ytflnlapfomjggaa", sum := "78e1f4f6e70bda26405be74a953f3018844937e15c2fd6858d5b765cd16f52af", func := "distributary/distributarylaw18.RealOrder", spec := "realOrder", unfollowed := true, recurses := true, apart := false, narrowed := true }
def RealOrderUptoSaid : Prop := realOrderUptoRow.holds Try.pinned (OpenSpec.upto realOrderSpec)

/-- 'distributarylaw18.RealNever', WHERE WHAT IT READS IS OF BULK AT MOST 1048576: true; the input reads as it did. -/
def realNeverUptoRow : OpenClaim := { program := "ytflnlapfomjggaa", sum := "78e1f4f6e70bda26405be74a953f3018844937e15c2fd6858d5b765cd16f52af", func := "distributary/distributarylaw18.RealNever", spec := "realNever", unfollowed := true, recurses := true, apart := false, narrowed := true }
def RealNeverUptoSaid : Prop := realNeverUptoRow.holds Try.pinned (OpenSpec.upto realNeverSpec)

/-- 'distributarylaw18.RealShares', WHERE WHAT IT READS IS OF BULK AT MOST 1048576: true; the input reads as it did. -/
def realSharesUptoRow : OpenClaim := { program := "ytflnlapfomjggaa", sum := "78e1f4f6e70bda26405be74a953f3018844937e15c2fd6858d5b765cd16f52af", func := "distributary/distributarylaw18.RealShares", spec := "realShares", unfollowed := true, recurses := true, apart := false, narrowed := true }
def RealSharesUptoSaid : Prop := realSharesUptoRow.holds Try.pinned (OpenSpec.upto realSharesSpec)

/-- 'distributarylaw07.RunTells', WHERE WHAT IT READS IS OF BULK AT MOST 1048576: true; the input reads as it did. -/
def runTellsUptoRow : OpenClaim := { program := "ytflnlapfomjggaa", sum := "78e1f4f6e70bda26405be74a953f3018844937e15c2fd6858d5b765cd16f52af", func := "distributary/distributarylaw07.RunTells", spec := "runTells", unfollowed := true, recurses := true, apart := false, narrowed := true }
def RunTellsUptoSaid : Prop := runTellsUptoRow.holds Try.pinned (OpenSpec.upto runTellsSpec)

/-- 'distributarylaw21.UpperPlays', WHERE WHAT IT READS IS OF BULK AT MOST 1048576: true; the input reads as it did. -/
def upperPlaysUptoRow : OpenClaim := { program := "ytflnlapfomjggaa", sum := "78e1f4f6e70bda26405be74a953f3018844937e15c2fd6858d5b765cd16f52af", func := "distributary/distributarylaw21.UpperPlays", spec := "upperPlays", unfollowed := true, recurses := true, apart := false, narrowed := true }
def UpperPlaysUptoSaid : Prop := upperPlaysUptoRow.holds Try.pinned (OpenSpec.upto upperPlaysSpec)

end Rows
end Go.Proofs.Ytflnlapfomjggaa
