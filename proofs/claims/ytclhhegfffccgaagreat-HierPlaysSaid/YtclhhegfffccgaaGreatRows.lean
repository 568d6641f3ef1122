/-
  No cell of these rows narrows 'for every input' (looked for: loops, veiled, ifaces, maps, wideKeys, modest, calm, conditions, laid).
  DERIVED. THE GIVEN ROWS OF THIS SEAT. 3 by the template 'for every input the law returns true; each argument reads behind the call as it read before'; 0 by the template 'total and deterministic' (their statements: YtclhhegfffccgaaGreatTotals.lean).
  GIVEN WITH THE SEED: the statements are not yours to turn. If you find one false, say at which input.
  Laid BY PROGRAM, IN A SANDBOX (cutbox-rows.mjs): the forced cells as the released guide's own fill.sh prints them over the translation f1b4e23e543ed58a… (all of the seat's roots in one cut). By AI agents, Wed Nov 11 2026. No macro, syntax, notation, axiom, sorry.
-/
import Derived.Test.YtclhhegfffccgaaGreatChecked
import GoSem.Claim
import GoSem.ClaimJoined
import GoSem.ClaimMapViews
import Derived.JoinedTies
import Derived.KernelRfl
namespace Go.Proofs.YtclhhegfffccgaaGreat
/- THE CELL 'sum', in the pinned program and in every row, IS THE sha256 OF THE DUMP (.gsa) THAT YtclhhegfffccgaaGreatProg.lean LOADS. Nothing in Lean hashes anything: it is a label: what it is worth is what the hold of that sum in a sandbox is worth. -/
noncomputable def Tryz.pinned : Pinned := { name := "ytclhhegfffccgaagreat", sum := "f1b4e23e543ed58af9512590e4cd04e9e7b09886b9d1e4bca060aa6b2831c0e2", checked := Tryz.checked }
namespace Rows
def none {H : Type} : Left H := { results := [], args := [] }

/-- 'distributarylaw16.HierCopies': WHATEVER THE INPUT: true; the input reads as it did. -/
def hierCopiesSpec : ChangeSpec := { name := "hierCopies", fn := fun _ => fun
  | [d1, d2, d3] => { results := [.lit (.bool true)], args := [d1, d2, d3] }
  | _ => none }
def hierCopiesRow : OpenClaim := { program := "ytclhhegfffccgaagreat", sum := "f1b4e23e543ed58af9512590e4cd04e9e7b09886b9d1e4bca060aa6b2831c0e2", func := "distributary/distributarylaw16.HierCopies", spec := "hierCopies", inPlace := ["math/bits.Add64", "slices.overlaps[int]", "maps.clone"], unfollowed := true, recurses := true, apart := false }
def HierCopiesSaid : Prop := hierCopiesRow.holds Tryz.pinned (OpenSpec.ofChange hierCopiesSpec)

/-- ITS FALSE NEIGHBOUR: 'it returns false'. Refute it at one input. -/
def hierCopiesWrong : ChangeSpec := { name := "hierCopies", fn := fun _ => fun
  | [d1, d2, d3] => { results := [.lit (.bool false)], args := [d1, d2, d3] }
  | _ => none }
def HierCopiesWrongFalsely : Prop := hierCopiesRow.holds Tryz.pinned (OpenSpec.ofChange hierCopiesWrong)

/-- 'distributarylaw16.HierWhatever': WHATEVER THE INPUT: true; the input reads as it did. -/
def hierWhateverSpec : ChangeSpec := { name := "hierWhatever", fn := fun _ => fun
  | [d] => { results := [.lit (.bool true)], args := [d] }
  | _ => none }
def hierWhateverRow : OpenClaim := { program := "ytclhhegfffccgaagreat", sum := "f1b4e23e543ed58af9512590e4cd04e9e7b09886b9d1e4bca060aa6b2831c0e2", func := "distributary/distributarylaw16.HierWhatever", spec := "hierWhatever", inPlace := ["math/bits.Add64", "slices.overlaps[int]"], unfollowed := true, recurses := true, apart := false }
def HierWhateverSaid : Prop := hierWhateverRow.holds Tryz.pinned (OpenSpec.ofChange hierWhateverSpec)

/-- ITS FALSE NEIGHBOUR: 'it returns false'. Refute it at one input. -/
def hierWhateverWrong : ChangeSpec := { name := "hierWhatever", fn := fun _ => fun
  | [d] => { results := [.lit (.bool false)], args := [d] }
  | _ => none }
def HierWhateverWrongFalsely : Prop := hierWhateverRow.holds Tryz.pinned (OpenSpec.ofChange hierWhateverWrong)

/-- 'distributarylaw16.HierPlays': WHATEVER THE INPUT: true; the input reads as it did. -/
def hierPlaysSpec : ChangeSpec := { name := "hierPlays", fn := fun _ => fun
  | [d1, d2] => { results := [.lit (.bool true)], args := [d1, d2] }
  | _ => none }
def hierPlaysRow : OpenClaim := { program := "ytclhhegfffccgaagreat", sum := "f1b4e23e543ed58af9512590e4cd04e9e7b09886b9d1e4bca060aa6b2831c0e2", func := "distributary/distributarylaw16.HierPlays", spec := "hierPlays", inPlace := ["math/bits.Add64", "slices.overlaps[int]", "maps.clone"], unfollowed := true, recurses := true, apart := false }
def HierPlaysSaid : Prop := hierPlaysRow.holds Tryz.pinned (OpenSpec.ofChange hierPlaysSpec)

/-- ITS FALSE NEIGHBOUR: 'it returns false'. Refute it at one input. -/
def hierPlaysWrong : ChangeSpec := { name := "hierPlays", fn := fun _ => fun
  | [d1, d2] => { results := [.lit (.bool false)], args := [d1, d2] }
  | _ => none }
def HierPlaysWrongFalsely : Prop := hierPlaysRow.holds Tryz.pinned (OpenSpec.ofChange hierPlaysWrong)

/- THE SECOND FORM. 'bulk': how many values and letters a reading holds, each counted each time it is reached (what is shared counts as often as it is met; a slice's spare places count too). A statement '..UptoSaid' is the law's where the arguments, and the package variables that the reading takes, are together of bulk at most 1048576: NARROWER than '..Said'. Prove '..Said' where nothing that the law and all that it calls make is longer than what came in: it says more and counts as full. Else prove '..UptoSaid'. A law counts once. -/
mutual
def uptoBulk {H : Type} : DataW H → Nat
  | .lit (.string bytes) => bytes.length + 1
  | .lit _ => 1
  | .nil => 1
  | .ptr d => uptoBulk d + 1
  | .slice elems spare => uptoBulkAll elems + uptoBulkAll spare + 1
  | .agg parts => uptoBulkAll parts + 1
  | .iface _ d => uptoBulk d + 1
  | .map entries => uptoBulkEntries entries + 1
  | .held _ => 1
def uptoBulkAll {H : Type} : List (DataW H) → Nat
  | [] => 0
  | d :: r => uptoBulk d + uptoBulkAll r
def uptoBulkEntries {H : Type} : List (Lit × DataW H) → Nat
  | [] => 0
  | x :: r => uptoBulkEntry x + uptoBulkEntries r
def uptoBulkEntry {H : Type} : Lit × DataW H → Nat
  | (.string bytes, d) => bytes.length + uptoBulk d + 1
  | (_, d) => uptoBulk d + 1
 end
def uptoSmall : (H : Type) → List (DataW H) → Bool := fun _ ds => decide (uptoBulkAll ds ≤ 1048576)
def OpenSpec.upto (s : _root_.Go.ChangeSpec) : _root_.Go.OpenSpec := { _root_.Go.OpenSpec.ofChange s with cond := some uptoSmall }

/-- 'distributarylaw16.HierCopies', WHERE WHAT IT READS IS OF BULK AT MOST 1048576: true; the input reads as it did. -/
def hierCopiesUptoRow : OpenClaim := { program := "ytclhhegfffccgaagreat", sum := "f1b4e23e543ed58af9512590e4cd04e9e7b09886b9d1e4bca060aa6b2831c0e2", func := "distributary/distributarylaw16.HierCopies", spec := "hierCopies", inPlace := ["math/bits.Add64", "slices.overlaps[int]", "maps.clone"], unfollowed := true, recurses := true, apart := false, narrowed := true }
def HierCopiesUptoSaid : Prop := hierCopiesUptoRow.holds Tryz.pinned (OpenSpec.upto hierCopiesSpec)

/-- 'distributarylaw16.HierWhatever', WHERE WHAT IT READS IS OF BULK AT MOST 1048576: true; the input reads as it did. -/
def hierWhateverUptoRow : OpenClaim := { program := "ytclhhegfffccgaagreat", sum := "f1b4e23e543ed58af9512590e4cd04e9e7b09886b9d1e4bca060aa6b2831c0e2", func := "distributary/distributarylaw16.HierWhatever", spec := "hierWhatever", inPlace := ["math/bits.Add64", "slices.overlaps[int]"], unfollowed := true, recurses := true, apart := false, narrowed := true }
def HierWhateverUptoSaid : Prop := hierWhateverUptoRow.holds Tryz.pinned (OpenSpec.upto hierWhateverSpec)

/-- 'distributarylaw16.HierPlays', WHERE WHAT IT READS IS OF BULK AT MOST 1048576: true; the input reads as it did. -/
def hierPlaysUptoRow : OpenClaim := { program := "ytclhhegfffccgaagreat", sum := "f1b4e23e543ed58af9512590e4cd04e9e7b09886b9d1e4bca060aa6b2831c0e2", func := "distributary/distributarylaw16.HierPlays", spec := "hierPlays", inPlace := ["math/bits.Add64", "slices.overlaps[int]", "maps.clone"], unfollowed := true, recurses := true, apart := false, narrowed := true }
def HierPlaysUptoSaid : Prop := hierPlaysUptoRow.holds Tryz.pinned (OpenSpec.upto hierPlaysSpec)

end Rows
end Go.Proofs.YtclhhegfffccgaaGreat
