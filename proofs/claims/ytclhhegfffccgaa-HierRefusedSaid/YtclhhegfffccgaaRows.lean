/-
  No cell of these rows narrows 'for every input' (looked for: loops, veiled, ifaces, maps, wideKeys, modest, calm, conditions, laid).
  DERIVED. THE GIVEN ROWS OF THIS SEAT. 3 by the template 'for every input the law returns true; each argument reads behind the call as it read before'; 0 by the template 'total and deterministic' (their statements: YtclhhegfffccgaaTotals.lean).
  GIVEN WITH THE SEED: the statements are not yours to turn. If you find one false, say at which input.
  Laid BY PROGRAM, IN A SANDBOX (cutbox-rows.mjs): the forced cells as the released guide's own fill.sh prints them over the translation c9c76c2c73508e98… (all of the seat's roots in one cut). By AI agents, Wed Nov 11 2026. No macro, syntax, notation, axiom, sorry.
-/
import Derived.Test.YtclhhegfffccgaaChecked
import GoSem.Claim
import GoSem.ClaimJoined
import GoSem.ClaimMapViews
import Derived.JoinedTies
import Derived.KernelRfl
namespace Go.Proofs.Ytclhhegfffccgaa
/- THE CELL 'sum', in the pinned program and in every row, IS THE sha256 OF THE DUMP (.gsa) THAT YtclhhegfffccgaaProg.lean LOADS. Nothing in Lean hashes anything: it is a label: what it is worth is what the hold of that sum in a sandbox is worth. -/
noncomputable def Try.pinned : Pinned := { name := "ytclhhegfffccgaa", sum := "c9c76c2c73508e98b94ac5c05063a311da4cb1aeafb4b844f12d4e8c3624ac33", checked := Try.checked }
namespace Rows
def none {H : Type} : Left H := { results := [], args := [] }

/-- 'distributarylaw25.CountOnce': WHATEVER THE INPUT: true; the input reads as it did. -/
def countOnceSpec : ChangeSpec := { name := "countOnce", fn := fun _ => fun
  | [d1, d2, d3] => { results := [.lit (.bool true)], args := [d1, d2, d3] }
  | _ => none }
def countOnceRow : OpenClaim := { program := "ytclhhegfffccgaa", sum := "c9c76c2c73508e98b94ac5c05063a311da4cb1aeafb4b844f12d4e8c3624ac33", func := "distributary/distributarylaw25.CountOnce", spec := "countOnce", unfollowed := true, recurses := true, apart := false }
def CountOnceSaid : Prop := countOnceRow.holds Try.pinned (OpenSpec.ofChange countOnceSpec)

/-- ITS FALSE NEIGHBOUR: 'it returns false'. Refute it at one input. -/
def countOnceWrong : ChangeSpec := { name := "countOnce", fn := fun _ => fun
  | [d1, d2, d3] => { results := [.lit (.bool false)], args := [d1, d2, d3] }
  | _ => none }
def CountOnceWrongFalsely : Prop := countOnceRow.holds Try.pinned (OpenSpec.ofChange countOnceWrong)

/-- 'distributarylaw16.HierTree': WHATEVER THE INPUT: true; the input reads as it did. -/
def hierTreeSpec : ChangeSpec := { name := "hierTree", fn := fun _ => fun
  | [d] => { results := [.lit (.bool true)], args := [d] }
  | _ => none }
def hierTreeRow : OpenClaim := { program := "ytclhhegfffccgaa", sum := "c9c76c2c73508e98b94ac5c05063a311da4cb1aeafb4b844f12d4e8c3624ac33", func := "distributary/distributarylaw16.HierTree", spec := "hierTree", inPlace := ["math/bits.Add64", "slices.overlaps[int]"], unfollowed := true, recurses := true, apart := false }
def HierTreeSaid : Prop := hierTreeRow.holds Try.pinned (OpenSpec.ofChange hierTreeSpec)

/-- ITS FALSE NEIGHBOUR: 'it returns false'. Refute it at one input. -/
def hierTreeWrong : ChangeSpec := { name := "hierTree", fn := fun _ => fun
  | [d] => { results := [.lit (.bool false)], args := [d] }
  | _ => none }
def HierTreeWrongFalsely : Prop := hierTreeRow.holds Try.pinned (OpenSpec.ofChange hierTreeWrong)

/-- 'distributarylaw16.HierRefused': WHATEVER THE INPUT: true; the input reads as it did. -/
def hierRefusedSpec : ChangeSpec := { name := "hierRefused", fn := fun _ => fun
  | [d1, d2] => { results := [.lit (.bool true)], args := [d1, d2] }
  | _ => none }
def hierRefusedRow : OpenClaim := { program := "ytclhhegfffccgaa", sum := "c9c76c2c73508e98b94ac5c05063a311da4cb1aeafb4b844f12d4e8c3624ac33", func := "distributary/distributarylaw16.HierRefused", spec := "hierRefused", inPlace := ["math/bits.Add64", "slices.overlaps[int]"], unfollowed := true, recurses := true, apart := false }
def HierRefusedSaid : Prop := hierRefusedRow.holds Try.pinned (OpenSpec.ofChange hierRefusedSpec)

/-- ITS FALSE NEIGHBOUR: 'it returns false'. Refute it at one input. -/
def hierRefusedWrong : ChangeSpec := { name := "hierRefused", fn := fun _ => fun
  | [d1, d2] => { results := [.lit (.bool false)], args := [d1, d2] }
  | _ => none }
def HierRefusedWrongFalsely : Prop := hierRefusedRow.holds Try.pinned (OpenSpec.ofChange hierRefusedWrong)

/- THE SECOND FORM. 'bulk': how many values and letters a reading holds, each counted each time it is reached (what is shared counts as often as it is met; a slice's spare places count too). A statement '..UptoSaid' is the law's where the arguments, and the package variables that the reading takes, are together of bulk at most 1048576: NARROWER than '..Said'. Prove '..Said' where nothing that the law and all that it calls make is longer than what came in: it says more and counts as full. Else prove '..UptoSaid'. A law counts once. -/
mutual
def uptoBulk {H : Type} : DataW H → Nat
  | .lit (.string bytes) => bytes.length + 1
  | .lit _ => 1
  | .nil => 1
  | .ptr d => uptoBulk d + 1
  | .slice elems spare => uptoBulkAll elems + uptoBulkAll spare + 1
  | .agg parts => uptoBulkAll parts + 1
  | .iface _ d => uptoBulk d + 1
  | .map entries => uptoBulkEntries entries + 1
  | .held _ => 1
def uptoBulkAll {H : Type} : List (DataW H) → Nat
  | [] => 0
  | d :: r => uptoBulk d + uptoBulkAll r
def uptoBulkEntries {H : Type} : List (Lit × DataW H) → Nat
  | [] => 0
  | x :: r => uptoBulkEntry x + uptoBulkEntries r
def uptoBulkEntry {H : Type} : Lit × DataW H → Nat
  | (.string bytes, d) => bytes.length + uptoBulk d + 1
  | (_, d) => uptoBulk d + 1
 end
def uptoSmall : (H : Type) → List (DataW H) → Bool := fun _ ds => decide (uptoBulkAll ds ≤ 1048576)
def OpenSpec.upto (s : _root_.Go.ChangeSpec) : _root_.Go.OpenSpec := { _root_.Go.OpenSpec.ofChange s with cond := some uptoSmall }

/-- 'distributarylaw25.CountOnce', WHERE WHAT IT READS IS OF BULK AT MOST 1048576: true; the input reads as it did. -/
def countOnceUptoRow : OpenClaim := { program := "ytclhhegfffccgaa", sum := "c9c76c2c73508e98b94ac5c05063a311da4cb1aeafb4b844f12d4e8c3624ac33", func := "distributary/distributarylaw25.CountOnce", spec := "countOnce", unfollowed := true, recurses := true, apart := false, narrowed := true }
def CountOnceUptoSaid : Prop := countOnceUptoRow.holds Try.pinned (OpenSpec.upto countOnceSpec)

/-- 'distributarylaw16.HierTree', WHERE WHAT IT READS IS OF BULK AT MOST 1048576: true; the input reads as it did. -/
def hierTreeUptoRow : OpenClaim := { program := "ytclhhegfffccgaa", sum := "c9c76c2c73508e98b94ac5c05063a311da4cb1aeafb4b844f12d4e8c3624ac33", func := "distributary/distributarylaw16.HierTree", spec := "hierTree", inPlace := ["math/bits.Add64", "slices.overlaps[int]"], unfollowed := true, recurses := true, apart := false, narrowed := true }
def HierTreeUptoSaid : Prop := hierTreeUptoRow.holds Try.pinned (OpenSpec.upto hierTreeSpec)

/-- 'distributarylaw16.HierRefused', WHERE WHAT IT READS IS OF BULK AT MOST 1048576: true; the input reads as it did. -/
def hierRefusedUptoRow : OpenClaim := { program := "ytclhhegfffccgaa", sum := "c9c76c2c73508e98b94ac5c05063a311da4cb1aeafb4b844f12d4e8c3624ac33", func := "distributary/distributarylaw16.HierRefused", spec := "hierRefused", inPlace := ["math/bits.Add64", "slices.overlaps[int]"], unfollowed := true, recurses := true, apart := false, narrowed := true }
def HierRefusedUptoSaid : Prop := hierRefusedUptoRow.holds Try.pinned (OpenSpec.upto hierRefusedSpec)

end Rows
end Go.Proofs.Ytclhhegfffccgaa
