/-
  No cell of these rows narrows 'for every input' (looked for: loops, veiled, ifaces, maps, wideKeys, modest, calm, conditions, laid).
  DERIVED. THE GIVEN ROWS OF THIS SEAT. 8 by the template 'for every input the law returns true; each argument reads behind the call as it read before'; 0 by the template 'total and deterministic' (their statements: YtfnocnknmpmaaaaTotals.lean).
  GIVEN WITH THE SEED: the statements are not yours to turn. If you find one false, say at which input.
  Laid BY PROGRAM, IN A SANDBOX (cutbox-rows.mjs): the forced cells as the released guide's own fill.sh prints them over the translation e9f0b69392fb0810… (all of the seat's roots in one cut). By AI agents, Wed Nov 11 2026. No macro, syntax, notation, axiom, sorry.
-/
import Derived.Test.YtfnocnknmpmaaaaChecked
import GoSem.Claim
import GoSem.ClaimJoined
import GoSem.ClaimMapViews
import Derived.JoinedTies
import Derived.KernelRfl
namespace Go.Proofs.Ytfnocnknmpmaaaa
/- THE CELL 'sum', in the pinned program and in every row, IS THE sha256 OF THE DUMP (.gsa) THAT YtfnocnknmpmaaaaProg.lean LOADS. Nothing in Lean hashes anything: it is a label: what it is worth is what the hold of that sum in a sandbox is worth. -/
noncomputable def Try.pinned : Pinned := { name := "ytfnocnknmpmaaaa", sum := "e9f0b69392fb08105fb77eccdb65eff91363a27fa68f82658cb6f09fb1e3848e", checked := Try.checked }
namespace Rows
def none {H : Type} : Left H := { results := [], args := [] }

/-- 'distributarylaw25.CountOnce': WHATEVER THE INPUT: true; the input reads as it did. -/
def countOnceSpec : ChangeSpec := { name := "countOnce", fn := fun _ => fun
  | [d1, d2, d3] => { results := [.lit (.bool true)], args := [d1, d2, d3] }
  | _ => none }
def countOnceRow : OpenClaim := { program := "ytfnocnknmpmaaaa", sum := "e9f0b69392fb08105fb77eccdb65eff91363a27fa68f82658cb6f09fb1e3848e", func := "distributary/distributarylaw25.CountOnce", spec := "countOnce", unfollowed := true, recurses := true, apart := false }
def CountOnceSaid : Prop := countOnceRow.holds Try.pinned (OpenSpec.ofChange countOnceSpec)

/-- ITS FALSE NEIGHBOUR: 'it returns false'. Refute it at one input. -/
def countOnceWrong : ChangeSpec := { name := "countOnce", fn := fun _ => fun
  | [d1, d2, d3] => { results := [.lit (.bool false)], args := [d1, d2, d3] }
  | _ => none }
def CountOnceWrongFalsely : Prop := countOnceRow.holds Try.pinned (OpenSpec.ofChange countOnceWrong)

/-- 'distributarylaw25.CountAll': WHATEVER THE INPUT: true; the input reads as it did. -/
def countAllSpec : ChangeSpec := { name := "countAll", fn := fun _ => fun
  | [d] => { results := [.lit (.bool true)], args := [d] }
  | _ => none }
def countAllRow : OpenClaim := { program := "ytfnocnknmpmaaaa", sum := "e9f0b69392fb08105fb77eccdb65eff91363a27fa68f82658cb6f09fb1e3848e", func := "distributary/distributarylaw25.CountAll", spec := "countAll", unfollowed := true, recurses := true, apart := false }
def CountAllSaid : Prop := countAllRow.holds Try.pinned (OpenSpec.ofChange countAllSpec)

/-- ITS FALSE NEIGHBOUR: 'it returns false'. Refute it at one input. -/
def countAllWrong : ChangeSpec := { name := "countAll", fn := fun _ => fun
  | [d] => { results := [.lit (.bool false)], args := [d] }
  | _ => none }
def CountAllWrongFalsely : Prop := countAllRow.holds Try.pinned (OpenSpec.ofChange countAllWrong)

/-- 'distributarylaw25.CountWaits': WHATEVER THE INPUT: true; the input reads as it did. -/
def countWaitsSpec : ChangeSpec := { name := "countWaits", fn := fun _ => fun
  | [d] => { results := [.lit (.bool true)], args := [d] }
  | _ => none }
def countWaitsRow : OpenClaim := { program := "ytfnocnknmpmaaaa", sum := "e9f0b69392fb08105fb77eccdb65eff91363a27fa68f82658cb6f09fb1e3848e", func := "distributary/distributarylaw25.CountWaits", spec := "countWaits", unfollowed := true, recurses := true, apart := false }
def CountWaitsSaid : Prop := countWaitsRow.holds Try.pinned (OpenSpec.ofChange countWaitsSpec)

/-- ITS FALSE NEIGHBOUR: 'it returns false'. Refute it at one input. -/
def countWaitsWrong : ChangeSpec := { name := "countWaits", fn := fun _ => fun
  | [d] => { results := [.lit (.bool false)], args := [d] }
  | _ => none }
def CountWaitsWrongFalsely : Prop := countWaitsRow.holds Try.pinned (OpenSpec.ofChange countWaitsWrong)

/-- 'distributarylaw25.CountTurned': WHATEVER THE INPUT: true; the input reads as it did. -/
def countTurnedSpec : ChangeSpec := { name := "countTurned", fn := fun _ => fun
  | [d] => { results := [.lit (.bool true)], args := [d] }
  | _ => none }
def countTurnedRow : OpenClaim := { program := "ytfnocnknmpmaaaa", sum := "e9f0b69392fb08105fb77eccdb65eff91363a27fa68f82658cb6f09fb1e3848e", func := "distributary/distributarylaw25.CountTurned", spec := "countTurned", unfollowed := true, recurses := true, apart := false }
def CountTurnedSaid : Prop := countTurnedRow.holds Try.pinned (OpenSpec.ofChange countTurnedSpec)

/-- ITS FALSE NEIGHBOUR: 'it returns false'. Refute it at one input. -/
def countTurnedWrong : ChangeSpec := { name := "countTurned", fn := fun _ => fun
  | [d] => { results := [.lit (.bool false)], args := [d] }
  | _ => none }
def CountTurnedWrongFalsely : Prop := countTurnedRow.holds Try.pinned (OpenSpec.ofChange countTurnedWrong)

/-- 'distributarylaw25.CountNil': WHATEVER THE INPUT: true; the input reads as it did. -/
def countNilSpec : ChangeSpec := { name := "countNil", fn := fun _ => fun
  | [d1, d2] => { results := [.lit (.bool true)], args := [d1, d2] }
  | _ => none }
def countNilRow : OpenClaim := { program := "ytfnocnknmpmaaaa", sum := "e9f0b69392fb08105fb77eccdb65eff91363a27fa68f82658cb6f09fb1e3848e", func := "distributary/distributarylaw25.CountNil", spec := "countNil", inPlace := ["maps.clone"], unfollowed := true, recurses := true, apart := false }
def CountNilSaid : Prop := countNilRow.holds Try.pinned (OpenSpec.ofChange countNilSpec)

/-- ITS FALSE NEIGHBOUR: 'it returns false'. Refute it at one input. -/
def countNilWrong : ChangeSpec := { name := "countNil", fn := fun _ => fun
  | [d1, d2] => { results := [.lit (.bool false)], args := [d1, d2] }
  | _ => none }
def CountNilWrongFalsely : Prop := countNilRow.holds Try.pinned (OpenSpec.ofChange countNilWrong)

/-- 'distributarylaw16.HierTree': WHATEVER THE INPUT: true; the input reads as it did. -/
def hierTreeSpec : ChangeSpec := { name := "hierTree", fn := fun _ => fun
  | [d] => { results := [.lit (.bool true)], args := [d] }
  | _ => none }
def hierTreeRow : OpenClaim := { program := "ytfnocnknmpmaaaa", sum := "e9f0b69392fb08105fb77eccdb65eff91363a27fa68f82658cb6f09fb1e3848e", func := "distributary/distributarylaw16.HierTree", spec := "hierTree", inPlace := ["math/bits.Add64", "slices.overlaps[int]"], unfollowed := true, recurses := true, apart := false }
def HierTreeSaid : Prop := hierTreeRow.holds Try.pinned (OpenSpec.ofChange hierTreeSpec)

/-- ITS FALSE NEIGHBOUR: 'it returns false'. Refute it at one input. -/
def hierTreeWrong : ChangeSpec := { name := "hierTree", fn := fun _ => fun
  | [d] => { results := [.lit (.bool false)], args := [d] }
  | _ => none }
def HierTreeWrongFalsely : Prop := hierTreeRow.holds Try.pinned (OpenSpec.ofChange hierTreeWrong)

/-- 'distributarylaw16.HierRefused': WHATEVER THE INPUT: true; the input reads as it did. -/
def hierRefusedSpec : ChangeSpec := { name := "hierRefused", fn := fun _ => fun
  | [d1, d2] => { results := [.lit (.bool true)], args := [d1, d2] }
  | _ => none }
def hierRefusedRow : OpenClaim := { program := "ytfnocnknmpmaaaa", sum := "e9f0b69392fb08105fb77eccdb65eff91363a27fa68f82658cb6f09fb1e3848e", func := "distributary/distributarylaw16.HierRefused", spec := "hierRefused", inPlace := ["math/bits.Add64", "slices.overlaps[int]"], unfollowed := true, recurses := true, apart := false }
def HierRefusedSaid : Prop := hierRefusedRow.holds Try.pinned (OpenSpec.ofChange hierRefusedSpec)

/-- ITS FALSE NEIGHBOUR: 'it returns false'. Refute it at one input. -/
def hierRefusedWrong : ChangeSpec := { name := "hierRefused", fn := fun _ => fun
  | [d1, d2] => { results := [.lit (.bool false)], args := [d1, d2] }
  | _ => none }
def HierRefusedWrongFalsely : Prop := hierRefusedRow.holds Try.pinned (OpenSpec.ofChange hierRefusedWrong)

/-- 'distributarylaw16.HierNil': WHATEVER THE INPUT: true; the input reads as it did. -/
def hierNilSpec : ChangeSpec := { name := "hierNil", fn := fun _ => fun
  | [d] => { results := [.lit (.bool true)], args := [d] }
  | _ => none }
def hierNilRow : OpenClaim := { program := "ytfnocnknmpmaaaa", sum := "e9f0b69392fb08105fb77eccdb65eff91363a27fa68f82658cb6f09fb1e3848e", func := "distributary/distributarylaw16.HierNil", spec := "hierNil", inPlace := ["math/bits.Add64", "slices.overlaps[int]", "maps.clone"], unfollowed := true, recurses := true, apart := false }
def HierNilSaid : Prop := hierNilRow.holds Try.pinned (OpenSpec.ofChange hierNilSpec)

/-- ITS FALSE NEIGHBOUR: 'it returns false'. Refute it at one input. -/
def hierNilWrong : ChangeSpec := { name := "hierNil", fn := fun _ => fun
  | [d] => { results := [.lit (.bool false)], args := [d] }
  | _ => none }
def HierNilWrongFalsely : Prop := hierNilRow.holds Try.pinned (OpenSpec.ofChange hierNilWrong)

/- THE SECOND FORM. 'bulk': how many values and letters a reading holds, each counted each time it is reached (what is shared counts as often as it is met; a slice's spare places count too). A statement '..UptoSaid' is the law's where the arguments, and the package variables that the reading takes, are together of bulk at most 1048576: NARROWER than '..Said'. Prove '..Said' where nothing that the law and all that it calls make is longer than what came in: it says more and counts as full. Else prove '..UptoSaid'. A law counts once. -/
mutual
def uptoBulk {H : Type} : DataW H → Nat
  | .lit (.string bytes) => bytes.length + 1
  | .lit _ => 1
  | .nil => 1
  | .ptr d => uptoBulk d + 1
  | .slice elems spare => uptoBulkAll elems + uptoBulkAll spare + 1
  | .agg parts => uptoBulkAll parts + 1
  | .iface _ d => uptoBulk d + 1
  | .map entries => uptoBulkEntries entries + 1
  | .held _ => 1
def uptoBulkAll {H : Type} : List (DataW H) → Nat
  | [] => 0
  | d :: r => uptoBulk d + uptoBulkAll r
def uptoBulkEntries {H : Type} : List (Lit × DataW H) → Nat
  | [] => 0
  | x :: r => uptoBulkEntry x + uptoBulkEntries r
def uptoBulkEntry {H : Type} : Lit × DataW H → Nat
  | (.string bytes, d) => bytes.length + uptoBulk d + 1
  | (_, d) => uptoBulk d + 1
 end
def uptoSmall : (H : Type) → List (DataW H) → Bool := fun _ ds => decide (uptoBulkAll ds ≤ 1048576)
def OpenSpec.upto (s : _root_.Go.ChangeSpec) : _root_.Go.OpenSpec := { _root_.Go.OpenSpec.ofChange s with cond := some uptoSmall }

/-- 'distributarylaw25.CountOnce', WHERE WHAT IT READS IS OF BULK AT MOST 1048576: true; the input reads as it did. -/
def countOnceUptoRow : OpenClaim := { program := "ytfnocnknmpmaaaa", sum := "e9f0b69392fb08105fb77eccdb65eff91363a27fa68f82658cb6f09fb1e3848e", func := "distributary/distributarylaw25.CountOnce", spec := "countOnce", unfollowed := true, recurses := true, apart := false, narrowed := true }
def CountOnceUptoSaid : Prop := countOnceUptoRow.holds Try.pinned (OpenSpec.upto countOnceSpec)

/-- 'distributarylaw25.CountAll', WHERE WHAT IT READS IS OF BULK AT MOST 1048576: true; the input reads as it did. -/
def countAllUptoRow : OpenClaim := { program := "ytfnocnknmpmaaaa", sum := "e9f0b69392fb08105fb77eccdb65eff91363a27fa68f82658cb6f09fb1e3848e", func := "distributary/distributarylaw25.CountAll", spec := "countAll", unfollowed := true, recurses := true, apart := false, narrowed := true }
def CountAllUptoSaid : Prop := countAllUptoRow.holds Try.pinned (OpenSpec.upto countAllSpec)

/-- 'distributarylaw25.CountWaits', WHERE WHAT IT READS IS OF BULK AT MOST 1048576: true; the input reads as it did. -/
def countWaitsUptoRow : OpenClaim := { program := "ytfnocnknmpmaaaa", sum := "e9f0b69392fb08105fb77eccdb65eff91363a27fa68f82658cb6f09fb1e3848e", func := "distributary/distributarylaw25.CountWaits", spec := "countWaits", unfollowed := true, recurses := true, apart := false, narrowed := true }
def CountWaitsUptoSaid : Prop := countWaitsUptoRow.holds Try.pinned (OpenSpec.upto countWaitsSpec)

/-- 'distributarylaw25.CountTurned', WHERE WHAT IT READS IS OF BULK AT MOST 1048576: true; the input reads as it did. -/
def countTurnedUptoRow : OpenClaim := { program := "ytfnocnknmpmaaaa", sum := "e9f0b69392fb08105fb77eccdb65eff91363a27fa68f82658cb6f09fb1e3848e", func := "distributary/distributarylaw25.CountTurned", spec := "countTurned", unfollowed := true, recurses := true, apart := false, narrowed := true }
def CountTurnedUptoSaid : Prop := countTurnedUptoRow.holds Try.pinned (OpenSpec.upto countTurnedSpec)

/-- 'distributarylaw25.CountNil', WHERE WHAT IT READS IS OF BULK AT MOST 1048576: true; the input reads as it did. -/
def countNilUptoRow : OpenClaim := { program := "ytfnocnknmpmaaaa", sum := "e9f0b69392fb08105fb77eccdb65eff91363a27fa68f82658cb6f09fb1e3848e", func := "distributary/distributarylaw25.CountNil", spec := "countNil", inPlace := ["maps.clone"], unfollowed := true, recurses := true, apart := false, narrowed := true }
def CountNilUptoSaid : Prop := countNilUptoRow.holds Try.pinned (OpenSpec.upto countNilSpec)

/-- 'distributarylaw16.HierTree', WHERE WHAT IT READS IS OF BULK AT MOST 1048576: true; the input reads as it did. -/
def hierTreeUptoRow : OpenClaim := { program := "ytfnocnknmpmaaaa", sum := "e9f0b69392fb08105fb77eccdb65eff91363a27fa68f82658cb6f09fb1e3848e", func := "distributary/distributarylaw16.HierTree", spec := "hierTree", inPlace := ["math/bits.Add64", "slices.overlaps[int]"], unfollowed := true, recurses := true, apart := false, narrowed := true }
def HierTreeUptoSaid : Prop := hierTreeUptoRow.holds Try.pinned (OpenSpec.upto hierTreeSpec)

/-- 'distributarylaw16.HierRefused', WHERE WHAT IT READS IS OF BULK AT MOST 1048576: true; the input reads as it did. -/
def hierRefusedUptoRow : OpenClaim := { program := "ytfnocnknmpmaaaa", sum := "e9f0b69392fb08105fb77eccdb65eff91363a27fa68f82658cb6f09fb1e3848e", func := "distributary/distributarylaw16.HierRefused", spec := "hierRefused", inPlace := ["math/bits.Add64", "slices.overlaps[int]"], unfollowed := true, recurses := true, apart := false, narrowed := true }
def HierRefusedUptoSaid : Prop := hierRefusedUptoRow.holds Try.pinned (OpenSpec.upto hierRefusedSpec)

/-- 'distributarylaw16.HierNil', WHERE WHAT IT READS IS OF BULK AT MOST 1048576: true; the input reads as it did. -/
def hierNilUptoRow : OpenClaim := { program := "ytfnocnknmpmaaaa", sum := "e9f0b69392fb08105fb77eccdb65eff91363a27fa68f82658cb6f09fb1e3848e", func := "distributary/distributarylaw16.HierNil", spec := "hierNil", inPlace := ["math/bits.Add64", "slices.overlaps[int]", "maps.clone"], unfollowed := true, recurses := true, apart := false, narrowed := true }
def HierNilUptoSaid : Prop := hierNilUptoRow.holds Try.pinned (OpenSpec.upto hierNilSpec)

end Rows
end Go.Proofs.Ytfnocnknmpmaaaa
