/-
  No cell of these rows narrows 'for every input' (looked for: loops, veiled, ifaces, maps, wideKeys, modest, calm, conditions, laid).
  DERIVED. THE GIVEN ROWS OF THIS SEAT. 3 by the template 'for every input the law returns true; each argument reads behind the call as it read before'; 0 by the template 'total and deterministic' (their statements: YtipiajnaechadaaTotals.lean).
  GIVEN WITH THE SEED: the statements are not yours to turn. If you find one false, say at which input.
  Laid BY PROGRAM, IN A SANDBOX (cutbox-rows.mjs): the forced cells as the released guide's own fill.sh prints them over the translation 7c0ef574e3707b0b… (all of the seat's roots in one cut). By AI agents, Wed Nov 11 2026. No macro, syntax, notation, axiom, sorry.
-/
import Derived.Test.YtipiajnaechadaaChecked
import GoSem.Claim
import GoSem.ClaimJoined
import GoSem.ClaimMapViews
import Derived.JoinedTies
import Derived.KernelRfl
namespace Go.Proofs.Ytipiajnaechadaa
/- THE CELL 'sum', in the pinned program and in every row, IS THE sha256 OF THE DUMP (.gsa) THAT YtipiajnaechadaaProg.lean LOADS. Nothing in Lean hashes anything: it is a label: what it is worth is what the hold of that sum in a sandbox is worth. -/
noncomputable def Try.pinned : Pinned := { name := "ytipiajnaechadaa", sum := "7c0ef574e3707b0b4eec872f7f9b4f810bb4ba71c15156f49b8e69193d9d927a", checked := Try.checked }
namespace Rows
def none {H : Type} : Left H := { results := [], args := [] }

/-- 'distributarylaw07.RunTells': WHATEVER THE INPUT: true; the input reads as it did. -/
def runTellsSpec : ChangeSpec := { name := "runTells", fn := fun _ => fun
  | [d1, d2, d3] => { results := [.lit (.bool true)], args := [d1, d2, d3] }
  | _ => none }
def runTellsRow : OpenClaim := { program := "ytipiajnaechadaa", sum := "7c0ef574e3707b0b4eec872f7f9b4f810bb4ba71c15156f49b8e69193d9d927a", func := "distributary/distributarylaw07.RunTells", spec := "runTells", unfollowed := true, recurses := true, apart := false }
def RunTellsSaid : Prop := runTellsRow.holds Try.pinned (OpenSpec.ofChange runTellsSpec)

/-- ITS FALSE NEIGHBOUR: 'it returns false'. Refute it at one input. -/
def runTellsWrong : ChangeSpec := { name := "runTells", fn := fun _ => fun
  | [d1, d2, d3] => { results := [.lit (.bool false)], args := [d1, d2, d3] }
  | _ => none }
def RunTellsWrongFalsely : Prop := runTellsRow.holds Try.pinned (OpenSpec.ofChange runTellsWrong)

/-- 'distributarylaw21.UpperPlays': WHATEVER THE INPUT: true; the input reads as it did. -/
def upperPlaysSpec : ChangeSpec := { name := "upperPlays", fn := fun _ => fun
  | [d1, d2, d3, d4] => { results := [.lit (.bool true)], args := [d1, d2, d3, d4] }
  | _ => none }
def upperPlaysRow : OpenClaim := { program := "ytipiajnaechadaa", sum := "7c0ef574e3707b0b4eec872f7f9b4f810bb4ba71c15156f49b8e69193d9d927a", func := "distributary/distributarylaw21.UpperPlays", spec := "upperPlays", unfollowed := true, recurses := true, apart := false }
def UpperPlaysSaid : Prop := upperPlaysRow.holds Try.pinned (OpenSpec.ofChange upperPlaysSpec)

/-- ITS FALSE NEIGHBOUR: 'it returns false'. Refute it at one input. -/
def upperPlaysWrong : ChangeSpec := { name := "upperPlays", fn := fun _ => fun
  | [d1, d2, d3, d4] => { results := [.lit (.bool false)], args := [d1, d2, d3, d4] }
  | _ => none }
def UpperPlaysWrongFalsely : Prop := upperPlaysRow.holds Try.pinned (OpenSpec.ofChange upperPlaysWrong)

/-- 'distributarylaw06.SaggedRuns': WHATEVER THE INPUT: true; the input reads as it did. -/
def saggedRunsSpec : ChangeSpec := { name := "saggedRuns", fn := fun _ => fun
  | [d1, d2, d3] => { results := [.lit (.bool true)], args := [d1, d2, d3] }
  | _ => none }
def saggedRunsRow : OpenClaim := { program := "ytipiajnaechadaa", sum := "7c0ef574e3707b0b4eec872f7f9b4f810bb4ba71c15156f49b8e69193d9d927a", func := "distributary/distributarylaw06.SaggedRuns", spec := "saggedRuns", inPlace := ["math/bits.Add64"], unfollowed := true, recurses := true, named := ["math/bits.divideError", "math/bits.overflowError"], apart := false }
def SaggedRunsSaid : Prop := saggedRunsRow.holds Try.pinned (OpenSpec.ofChange saggedRunsSpec)

/-- ITS FALSE NEIGHBOUR: 'it returns false'. Refute it at one input. -/
def saggedRunsWrong : ChangeSpec := { name := "saggedRuns", fn := fun _ => fun
  | [d1, d2, d3] => { results := [.lit (.bool false)], args := [d1, d2, d3] }
  | _ => none }
def SaggedRunsWrongFalsely : Prop := saggedRunsRow.holds Try.pinned (OpenSpec.ofChange saggedRunsWrong)

/- THE SECOND FORM. 'bulk': how many values and letters a reading holds, each counted each time it is reached (what is shared counts as often as it is met; a slice's spare places count too). A statement '..UptoSaid' is the law's where the arguments, and the package variables that the reading takes, are together of bulk at most 1048576: NARROWER than '..Said'. Prove '..Said' where nothing that the law and all that it calls make is longer than what came in: it says more and counts as full. Else prove '..UptoSaid'. A law counts once. -/
mutual
def uptoBulk {H : Type} : DataW H → Nat
  | .lit (.string bytes) => bytes.length + 1
  | .lit _ => 1
  | .nil => 1
  | .ptr d => uptoBulk d + 1
  | .slice elems spare => uptoBulkAll elems + uptoBulkAll spare + 1
  | .agg parts => uptoBulkAll parts + 1
  | .iface _ d => uptoBulk d + 1
  | .map entries => uptoBulkEntries entries + 1
  | .held _ => 1
def uptoBulkAll {H : Type} : List (DataW H) → Nat
  | [] => 0
  | d :: r => uptoBulk d + uptoBulkAll r
def uptoBulkEntries {H : Type} : List (Lit × DataW H) → Nat
  | [] => 0
  | x :: r => uptoBulkEntry x + uptoBulkEntries r
def uptoBulkEntry {H : Type} : Lit × DataW H → Nat
  | (.string bytes, d) => bytes.length + uptoBulk d + 1
  | (_, d) => uptoBulk d + 1
 end
def uptoSmall : (H : Type) → List (DataW H) → Bool := fun _ ds => decide (uptoBulkAll ds ≤ 1048576)
def OpenSpec.upto (s : _root_.Go.ChangeSpec) : _root_.Go.OpenSpec := { _root_.Go.OpenSpec.ofChange s with cond := some uptoSmall }

/-- 'distributarylaw07.RunTells', WHERE WHAT IT READS IS OF BULK AT MOST 1048576: true; the input reads as it did. -/
def runTellsUptoRow : OpenClaim := { program := "ytipiajnaechadaa", sum := "7c0ef574e3707b0b4eec872f7f9b4f810bb4ba71c15156f49b8e69193d9d927a", func := "distributary/distributarylaw07.RunTells", spec := "runTells", unfollowed := true, recurses := true, apart := false, narrowed := true }
def RunTellsUptoSaid : Prop := runTellsUptoRow.holds Try.pinned (OpenSpec.upto runTellsSpec)

/-- 'distributarylaw21.UpperPlays', WHERE WHAT IT READS IS OF BULK AT MOST 1048576: true; the input reads as it did. -/
def upperPlaysUptoRow : OpenClaim := { program := "ytipiajnaechadaa", sum := "7c0ef574e3707b0b4eec872f7f9b4f810bb4ba71c15156f49b8e69193d9d927a", func := "distributary/distributarylaw21.UpperPlays", spec := "upperPlays", unfollowed := true, recurses := true, apart := false, narrowed := true }
def UpperPlaysUptoSaid : Prop := upperPlaysUptoRow.holds Try.pinned (OpenSpec.upto upperPlaysSpec)

/-- 'distributarylaw06.SaggedRuns', WHERE WHAT IT READS IS OF BULK AT MOST 1048576: true; the input reads as it did. -/
def saggedRunsUptoRow : OpenClaim := { program := "ytipiajnaechadaa", sum := "7c0ef574e3707b0b4eec872f7f9b4f810bb4ba71c15156f49b8e69193d9d927a", func := "distributary/distributarylaw06.SaggedRuns", spec := "saggedRuns", inPlace := ["math/bits.Add64"], unfollowed := true, recurses := true, named := ["math/bits.divideError", "math/bits.overflowError"], apart := false, narrowed := true }
def SaggedRunsUptoSaid : Prop := saggedRunsUptoRow.holds Try.pinned (OpenSpec.upto saggedRunsSpec)

end Rows
end Go.Proofs.Ytipiajnaechadaa
