/-
  No cell of these rows narrows 'for every input' (looked for: loops, veiled, ifaces, maps, wideKeys, modest, calm, conditions, laid).
  DERIVED. THE GIVEN ROWS OF THIS SEAT. 4 by the template 'for every input the law returns true; each argument reads behind the call as it read before'; 0 by the template 'total and deterministic' (their statements: YthmhboagbeibdaaTotals.lean).
  GIVEN WITH THE SEED: the statements are not yours to turn. If you find one false, say at which input.
  Laid BY PROGRAM, IN A SANDBOX (cutbox-rows.mjs): the forced cells as the released guide's own fill.sh prints them over the translation 3972258dcefc4ad0… (all of the seat's roots in one cut). By AI agents, Wed Nov 11 2026. No macro, syntax, notation, axiom, sorry.
-/
import Derived.Test.YthmhboagbeibdaaChecked
import GoSem.Claim
import GoSem.ClaimJoined
import GoSem.ClaimMapViews
import Derived.JoinedTies
import Derived.KernelRfl
namespace Go.Proofs.Ythmhboagbeibdaa
/- THE CELL 'sum', in the pinned program and in every row, IS THE sha256 OF THE DUMP (.gsa) THAT YthmhboagbeibdaaProg.lean LOADS. Nothing in Lean hashes anything: it is a label: what it is worth is what the hold of that sum in a sandbox is worth. -/
noncomputable def Try.pinned : Pinned := { name := "ythmhboagbeibdaa", sum := "3972258dcefc4ad0442a1d3408871ae33083cf30f02a819ca42ce6a3f10c48ef", checked := Try.checked }
namespace Rows
def none {H : Type} : Left H := { results := [], args := [] }

/-- 'distributarylaw17.AdmitFits': WHATEVER THE INPUT: true; the input reads as it did. -/
def admitFitsSpec : ChangeSpec := { name := "admitFits", fn := fun _ => fun
  | [d1, d2, d3] => { results := [.lit (.bool true)], args := [d1, d2, d3] }
  | _ => none }
def admitFitsRow : OpenClaim := { program := "ythmhboagbeibdaa", sum := "3972258dcefc4ad0442a1d3408871ae33083cf30f02a819ca42ce6a3f10c48ef", func := "distributary/distributarylaw17.AdmitFits", spec := "admitFits", inPlace := ["math/bits.Add64"], unfollowed := true, recurses := true, apart := false }
def AdmitFitsSaid : Prop := admitFitsRow.holds Try.pinned (OpenSpec.ofChange admitFitsSpec)

/-- ITS FALSE NEIGHBOUR: 'it returns false'. Refute it at one input. -/
def admitFitsWrong : ChangeSpec := { name := "admitFits", fn := fun _ => fun
  | [d1, d2, d3] => { results := [.lit (.bool false)], args := [d1, d2, d3] }
  | _ => none }
def AdmitFitsWrongFalsely : Prop := admitFitsRow.holds Try.pinned (OpenSpec.ofChange admitFitsWrong)

/-- 'distributarylaw17.AdmitAgain': WHATEVER THE INPUT: true; the input reads as it did. -/
def admitAgainSpec : ChangeSpec := { name := "admitAgain", fn := fun _ => fun
  | [d1, d2, d3, d4, d5] => { results := [.lit (.bool true)], args := [d1, d2, d3, d4, d5] }
  | _ => none }
def admitAgainRow : OpenClaim := { program := "ythmhboagbeibdaa", sum := "3972258dcefc4ad0442a1d3408871ae33083cf30f02a819ca42ce6a3f10c48ef", func := "distributary/distributarylaw17.AdmitAgain", spec := "admitAgain", inPlace := ["math/bits.Add64"], unfollowed := true, recurses := true, apart := false }
def AdmitAgainSaid : Prop := admitAgainRow.holds Try.pinned (OpenSpec.ofChange admitAgainSpec)

/-- ITS FALSE NEIGHBOUR: 'it returns false'. Refute it at one input. -/
def admitAgainWrong : ChangeSpec := { name := "admitAgain", fn := fun _ => fun
  | [d1, d2, d3, d4, d5] => { results := [.lit (.bool false)], args := [d1, d2, d3, d4, d5] }
  | _ => none }
def AdmitAgainWrongFalsely : Prop := admitAgainRow.holds Try.pinned (OpenSpec.ofChange admitAgainWrong)

/-- 'distributarylaw17.AdmitLess': WHATEVER THE INPUT: true; the input reads as it did. -/
def admitLessSpec : ChangeSpec := { name := "admitLess", fn := fun _ => fun
  | [d1, d2, d3, d4, d5, d6] => { results := [.lit (.bool true)], args := [d1, d2, d3, d4, d5, d6] }
  | _ => none }
def admitLessRow : OpenClaim := { program := "ythmhboagbeibdaa", sum := "3972258dcefc4ad0442a1d3408871ae33083cf30f02a819ca42ce6a3f10c48ef", func := "distributary/distributarylaw17.AdmitLess", spec := "admitLess", inPlace := ["math/bits.Add64", "maps.clone"], unfollowed := true, recurses := true, apart := false }
def AdmitLessSaid : Prop := admitLessRow.holds Try.pinned (OpenSpec.ofChange admitLessSpec)

/-- ITS FALSE NEIGHBOUR: 'it returns false'. Refute it at one input. -/
def admitLessWrong : ChangeSpec := { name := "admitLess", fn := fun _ => fun
  | [d1, d2, d3, d4, d5, d6] => { results := [.lit (.bool false)], args := [d1, d2, d3, d4, d5, d6] }
  | _ => none }
def AdmitLessWrongFalsely : Prop := admitLessRow.holds Try.pinned (OpenSpec.ofChange admitLessWrong)

/-- 'distributarylaw17.AdmitKept': WHATEVER THE INPUT: true; the input reads as it did. -/
def admitKeptSpec : ChangeSpec := { name := "admitKept", fn := fun _ => fun
  | [d1, d2, d3] => { results := [.lit (.bool true)], args := [d1, d2, d3] }
  | _ => none }
def admitKeptRow : OpenClaim := { program := "ythmhboagbeibdaa", sum := "3972258dcefc4ad0442a1d3408871ae33083cf30f02a819ca42ce6a3f10c48ef", func := "distributary/distributarylaw17.AdmitKept", spec := "admitKept", inPlace := ["math/bits.Add64"], unfollowed := true, recurses := true, apart := false }
def AdmitKeptSaid : Prop := admitKeptRow.holds Try.pinned (OpenSpec.ofChange admitKeptSpec)

/-- ITS FALSE NEIGHBOUR: 'it returns false'. Refute it at one input. -/
def admitKeptWrong : ChangeSpec := { name := "admitKept", fn := fun _ => fun
  | [d1, d2, d3] => { results := [.lit (.bool false)], args := [d1, d2, d3] }
  | _ => none }
def AdmitKeptWrongFalsely : Prop := admitKeptRow.holds Try.pinned (OpenSpec.ofChange admitKeptWrong)

/- THE SECOND FORM. 'bulk': how many values and letters a reading holds, each counted each time it is reached (what is shared counts as often as it is met; a slice's spare places count too). A statement '..UptoSaid' is the law's where the arguments, and the package variables that the reading takes, are together of bulk at most 1048576: NARROWER than '..Said'. Prove '..Said' where nothing that the law and all that it calls make is longer than what came in: it says more and counts as full. Else prove '..UptoSaid'. A law counts once. -/
mutual
def uptoBulk {H : Type} : DataW H → Nat
  | .lit (.string bytes) => bytes.length + 1
  | .lit _ => 1
  | .nil => 1
  | .ptr d => uptoBulk d + 1
  | .slice elems spare => uptoBulkAll elems + uptoBulkAll spare + 1
  | .agg parts => uptoBulkAll parts + 1
  | .iface _ d => uptoBulk d + 1
  | .map entries => uptoBulkEntries entries + 1
  | .held _ => 1
def uptoBulkAll {H : Type} : List (DataW H) → Nat
  | [] => 0
  | d :: r => uptoBulk d + uptoBulkAll r
def uptoBulkEntries {H : Type} : List (Lit × DataW H) → Nat
  | [] => 0
  | x :: r => uptoBulkEntry x + uptoBulkEntries r
def uptoBulkEntry {H : Type} : Lit × DataW H → Nat
  | (.string bytes, d) => bytes.length + uptoBulk d + 1
  | (_, d) => uptoBulk d + 1
 end
def uptoSmall : (H : Type) → List (DataW H) → Bool := fun _ ds => decide (uptoBulkAll ds ≤ 1048576)
def OpenSpec.upto (s : _root_.Go.ChangeSpec) : _root_.Go.OpenSpec := { _root_.Go.OpenSpec.ofChange s with cond := some uptoSmall }

/-- 'distributarylaw17.AdmitFits', WHERE WHAT IT READS IS OF BULK AT MOST 1048576: true; the input reads as it did. -/
def admitFitsUptoRow : OpenClaim := { program := "ythmhboagbeibdaa", sum := "3972258dcefc4ad0442a1d3408871ae33083cf30f02a819ca42ce6a3f10c48ef", func := "distributary/distributarylaw17.AdmitFits", spec := "admitFits", inPlace := ["math/bits.Add64"], unfollowed := true, recurses := true, apart := false, narrowed := true }
def AdmitFitsUptoSaid : Prop := admitFitsUptoRow.holds Try.pinned (OpenSpec.upto admitFitsSpec)

/-- 'distributarylaw17.AdmitAgain', WHERE WHAT IT READS IS OF BULK AT MOST 1048576: true; the input reads as it did. -/
def admitAgainUptoRow : OpenClaim := { program := "ythmhboagbeibdaa", sum := "3972258dcefc4ad0442a1d3408871ae33083cf30f02a819ca42ce6a3f10c48ef", func := "distributary/distributarylaw17.AdmitAgain", spec := "admitAgain", inPlace := ["math/bits.Add64"], unfollowed := true, recurses := true, apart := false, narrowed := true }
def AdmitAgainUptoSaid : Prop := admitAgainUptoRow.holds Try.pinned (OpenSpec.upto admitAgainSpec)

/-- 'distributarylaw17.AdmitLess', WHERE WHAT IT READS IS OF BULK AT MOST 1048576: true; the input reads as it did. -/
def admitLessUptoRow : OpenClaim := { program := "ythmhboagbeibdaa", sum := "3972258dcefc4ad0442a1d3408871ae33083cf30f02a819ca42ce6a3f10c48ef", func := "distributary/distributarylaw17.AdmitLess", spec := "admitLess", inPlace := ["math/bits.Add64", "maps.clone"], unfollowed := true, recurses := true, apart := false, narrowed := true }
def AdmitLessUptoSaid : Prop := admitLessUptoRow.holds Try.pinned (OpenSpec.upto admitLessSpec)

/-- 'distributarylaw17.AdmitKept', WHERE WHAT IT READS IS OF BULK AT MOST 1048576: true; the input reads as it did. -/
def admitKeptUptoRow : OpenClaim := { program := "ythmhboagbeibdaa", sum := "3972258dcefc4ad0442a1d3408871ae33083cf30f02a819ca42ce6a3f10c48ef", func := "distributary/distributarylaw17.AdmitKept", spec := "admitKept", inPlace := ["math/bits.Add64"], unfollowed := true, recurses := true, apart := false, narrowed := true }
def AdmitKeptUptoSaid : Prop := admitKeptUptoRow.holds Try.pinned (OpenSpec.upto admitKeptSpec)

end Rows
end Go.Proofs.Ythmhboagbeibdaa
