/-
  No cell of these rows narrows 'for every input' (looked for: loops, veiled, ifaces, maps, wideKeys, modest, calm, conditions, laid).
  DERIVED. THE GIVEN ROWS OF THIS SEAT. 9 by the template 'for every input the law returns true; each argument reads behind the call as it read before'; 0 by the template 'total and deterministic' (their statements: YtkeffkfjgblicaaTotals.lean).
  GIVEN WITH THE SEED: the statements are not yours to turn. If you find one false, say at which input.
  Laid BY PROGRAM, IN A SANDBOX (cutbox-rows.mjs): the forced cells as the released guide's own fill.sh prints them over the translation 28856bd069cf67ad… (all of the seat's roots in one cut). By AI agents, Wed Nov 11 2026. No macro, syntax, notation, axiom, sorry.
-/
import Derived.Test.YtkeffkfjgblicaaChecked
import GoSem.Claim
import GoSem.ClaimJoined
import GoSem.ClaimMapViews
import Derived.JoinedTies
import Derived.KernelRfl
namespace Go.Proofs.Ytkeffkfjgblicaa
/- THE CELL 'sum', in the pinned program and in every row, IS THE sha256 OF THE DUMP (.gsa) THAT YtkeffkfjgblicaaProg.lean LOADS. Nothing in Lean hashes anything: it is a label: what it is worth is what the hold of that sum in a sandbox is worth. -/
noncomputable def Try.pinned : Pinned := { name := "ytkeffkfjgblicaa", sum := "28856bd069cf67ad88dd2928328d27be7a17b13e07d24abe9f0400ad17d52917", checked := Try.checked }
namespace Rows
def none {H : Type} : Left H := { results := [], args := [] }

/-- 'distributarylaw04.SumsHave': WHATEVER THE INPUT: true; the input reads as it did. -/
def sumsHaveSpec : ChangeSpec := { name := "sumsHave", fn := fun _ => fun
  | [d1, d2] => { results := [.lit (.bool true)], args := [d1, d2] }
  | _ => none }
def sumsHaveRow : OpenClaim := { program := "ytkeffkfjgblicaa", sum := "28856bd069cf67ad88dd2928328d27be7a17b13e07d24abe9f0400ad17d52917", func := "distributary/distributarylaw04.SumsHave", spec := "sumsHave", inPlace := ["math/bits.Add64"], unfollowed := true, recurses := true, apart := false }
def SumsHaveSaid : Prop := sumsHaveRow.holds Try.pinned (OpenSpec.ofChange sumsHaveSpec)

/-- ITS FALSE NEIGHBOUR: 'it returns false'. Refute it at one input. -/
def sumsHaveWrong : ChangeSpec := { name := "sumsHave", fn := fun _ => fun
  | [d1, d2] => { results := [.lit (.bool false)], args := [d1, d2] }
  | _ => none }
def SumsHaveWrongFalsely : Prop := sumsHaveRow.holds Try.pinned (OpenSpec.ofChange sumsHaveWrong)

/-- 'distributarylaw04.SumsLate': WHATEVER THE INPUT: true; the input reads as it did. -/
def sumsLateSpec : ChangeSpec := { name := "sumsLate", fn := fun _ => fun
  | [d1, d2] => { results := [.lit (.bool true)], args := [d1, d2] }
  | _ => none }
def sumsLateRow : OpenClaim := { program := "ytkeffkfjgblicaa", sum := "28856bd069cf67ad88dd2928328d27be7a17b13e07d24abe9f0400ad17d52917", func := "distributary/distributarylaw04.SumsLate", spec := "sumsLate", inPlace := ["math/bits.Add64"], unfollowed := true, recurses := true, apart := false }
def SumsLateSaid : Prop := sumsLateRow.holds Try.pinned (OpenSpec.ofChange sumsLateSpec)

/-- ITS FALSE NEIGHBOUR: 'it returns false'. Refute it at one input. -/
def sumsLateWrong : ChangeSpec := { name := "sumsLate", fn := fun _ => fun
  | [d1, d2] => { results := [.lit (.bool false)], args := [d1, d2] }
  | _ => none }
def SumsLateWrongFalsely : Prop := sumsLateRow.holds Try.pinned (OpenSpec.ofChange sumsLateWrong)

/-- 'distributarylaw04.SumsSpare': WHATEVER THE INPUT: true; the input reads as it did. -/
def sumsSpareSpec : ChangeSpec := { name := "sumsSpare", fn := fun _ => fun
  | [d1, d2, d3, d4] => { results := [.lit (.bool true)], args := [d1, d2, d3, d4] }
  | _ => none }
def sumsSpareRow : OpenClaim := { program := "ytkeffkfjgblicaa", sum := "28856bd069cf67ad88dd2928328d27be7a17b13e07d24abe9f0400ad17d52917", func := "distributary/distributarylaw04.SumsSpare", spec := "sumsSpare", inPlace := ["math/bits.Add64"], unfollowed := true, recurses := true, apart := false }
def SumsSpareSaid : Prop := sumsSpareRow.holds Try.pinned (OpenSpec.ofChange sumsSpareSpec)

/-- ITS FALSE NEIGHBOUR: 'it returns false'. Refute it at one input. -/
def sumsSpareWrong : ChangeSpec := { name := "sumsSpare", fn := fun _ => fun
  | [d1, d2, d3, d4] => { results := [.lit (.bool false)], args := [d1, d2, d3, d4] }
  | _ => none }
def SumsSpareWrongFalsely : Prop := sumsSpareRow.holds Try.pinned (OpenSpec.ofChange sumsSpareWrong)

/-- 'distributarylaw04.SumsCorners': WHATEVER THE INPUT: true; the input reads as it did. -/
def sumsCornersSpec : ChangeSpec := { name := "sumsCorners", fn := fun _ => fun
  | [d1, d2, d3] => { results := [.lit (.bool true)], args := [d1, d2, d3] }
  | _ => none }
def sumsCornersRow : OpenClaim := { program := "ytkeffkfjgblicaa", sum := "28856bd069cf67ad88dd2928328d27be7a17b13e07d24abe9f0400ad17d52917", func := "distributary/distributarylaw04.SumsCorners", spec := "sumsCorners", inPlace := ["math/bits.Add64"], unfollowed := true, recurses := true, apart := false }
def SumsCornersSaid : Prop := sumsCornersRow.holds Try.pinned (OpenSpec.ofChange sumsCornersSpec)

/-- ITS FALSE NEIGHBOUR: 'it returns false'. Refute it at one input. -/
def sumsCornersWrong : ChangeSpec := { name := "sumsCorners", fn := fun _ => fun
  | [d1, d2, d3] => { results := [.lit (.bool false)], args := [d1, d2, d3] }
  | _ => none }
def SumsCornersWrongFalsely : Prop := sumsCornersRow.holds Try.pinned (OpenSpec.ofChange sumsCornersWrong)

/-- 'distributarylaw04.SumsTogether': WHATEVER THE INPUT: true; the input reads as it did. -/
def sumsTogetherSpec : ChangeSpec := { name := "sumsTogether", fn := fun _ => fun
  | [d1, d2, d3, d4, d5] => { results := [.lit (.bool true)], args := [d1, d2, d3, d4, d5] }
  | _ => none }
def sumsTogetherRow : OpenClaim := { program := "ytkeffkfjgblicaa", sum := "28856bd069cf67ad88dd2928328d27be7a17b13e07d24abe9f0400ad17d52917", func := "distributary/distributarylaw04.SumsTogether", spec := "sumsTogether", inPlace := ["math/bits.Add64"], unfollowed := true, recurses := true, apart := false }
def SumsTogetherSaid : Prop := sumsTogetherRow.holds Try.pinned (OpenSpec.ofChange sumsTogetherSpec)

/-- ITS FALSE NEIGHBOUR: 'it returns false'. Refute it at one input. -/
def sumsTogetherWrong : ChangeSpec := { name := "sumsTogether", fn := fun _ => fun
  | [d1, d2, d3, d4, d5] => { results := [.lit (.bool false)], args := [d1, d2, d3, d4, d5] }
  | _ => none }
def SumsTogetherWrongFalsely : Prop := sumsTogetherRow.holds Try.pinned (OpenSpec.ofChange sumsTogetherWrong)

/-- 'distributarylaw04.SumsBelow': WHATEVER THE INPUT: true; the input reads as it did. -/
def sumsBelowSpec : ChangeSpec := { name := "sumsBelow", fn := fun _ => fun
  | [d1, d2, d3, d4, d5, d6] => { results := [.lit (.bool true)], args := [d1, d2, d3, d4, d5, d6] }
  | _ => none }
def sumsBelowRow : OpenClaim := { program := "ytkeffkfjgblicaa", sum := "28856bd069cf67ad88dd2928328d27be7a17b13e07d24abe9f0400ad17d52917", func := "distributary/distributarylaw04.SumsBelow", spec := "sumsBelow", inPlace := ["math/bits.Add64"], unfollowed := true, recurses := true, apart := false }
def SumsBelowSaid : Prop := sumsBelowRow.holds Try.pinned (OpenSpec.ofChange sumsBelowSpec)

/-- ITS FALSE NEIGHBOUR: 'it returns false'. Refute it at one input. -/
def sumsBelowWrong : ChangeSpec := { name := "sumsBelow", fn := fun _ => fun
  | [d1, d2, d3, d4, d5, d6] => { results := [.lit (.bool false)], args := [d1, d2, d3, d4, d5, d6] }
  | _ => none }
def SumsBelowWrongFalsely : Prop := sumsBelowRow.holds Try.pinned (OpenSpec.ofChange sumsBelowWrong)

/-- 'distributarylaw04.SumsRoom': WHATEVER THE INPUT: true; the input reads as it did. -/
def sumsRoomSpec : ChangeSpec := { name := "sumsRoom", fn := fun _ => fun
  | [d1, d2] => { results := [.lit (.bool true)], args := [d1, d2] }
  | _ => none }
def sumsRoomRow : OpenClaim := { program := "ytkeffkfjgblicaa", sum := "28856bd069cf67ad88dd2928328d27be7a17b13e07d24abe9f0400ad17d52917", func := "distributary/distributarylaw04.SumsRoom", spec := "sumsRoom", inPlace := ["math/bits.Add64"], unfollowed := true, recurses := true, apart := false }
def SumsRoomSaid : Prop := sumsRoomRow.holds Try.pinned (OpenSpec.ofChange sumsRoomSpec)

/-- ITS FALSE NEIGHBOUR: 'it returns false'. Refute it at one input. -/
def sumsRoomWrong : ChangeSpec := { name := "sumsRoom", fn := fun _ => fun
  | [d1, d2] => { results := [.lit (.bool false)], args := [d1, d2] }
  | _ => none }
def SumsRoomWrongFalsely : Prop := sumsRoomRow.holds Try.pinned (OpenSpec.ofChange sumsRoomWrong)

/-- 'distributarylaw16.HierTree': WHATEVER THE INPUT: true; the input reads as it did. -/
def hierTreeSpec : ChangeSpec := { name := "hierTree", fn := fun _ => fun
  | [d] => { results := [.lit (.bool true)], args := [d] }
  | _ => none }
def hierTreeRow : OpenClaim := { program := "ytkeffkfjgblicaa", sum := "28856bd069cf67ad88dd2928328d27be7a17b13e07d24abe9f0400ad17d52917", func := "distributary/distributarylaw16.HierTree", spec := "hierTree", inPlace := ["math/bits.Add64", "slices.overlaps[int]"], unfollowed := true, recurses := true, apart := false }
def HierTreeSaid : Prop := hierTreeRow.holds Try.pinned (OpenSpec.ofChange hierTreeSpec)

/-- ITS FALSE NEIGHBOUR: 'it returns false'. Refute it at one input. -/
def hierTreeWrong : ChangeSpec := { name := "hierTree", fn := fun _ => fun
  | [d] => { results := [.lit (.bool false)], args := [d] }
  | _ => none }
def HierTreeWrongFalsely : Prop := hierTreeRow.holds Try.pinned (OpenSpec.ofChange hierTreeWrong)

/-- 'distributarylaw16.HierRefused': WHATEVER THE INPUT: true; the input reads as it did. -/
def hierRefusedSpec : ChangeSpec := { name := "hierRefused", fn := fun _ => fun
  | [d1, d2] => { results := [.lit (.bool true)], args := [d1, d2] }
  | _ => none }
def hierRefusedRow : OpenClaim := { program := "ytkeffkfjgblicaa", sum := "28856bd069cf67ad88dd2928328d27be7a17b13e07d24abe9f0400ad17d52917", func := "distributary/distributarylaw16.HierRefused", spec := "hierRefused", inPlace := ["math/bits.Add64", "slices.overlaps[int]"], unfollowed := true, recurses := true, apart := false }
def HierRefusedSaid : Prop := hierRefusedRow.holds Try.pinned (OpenSpec.ofChange hierRefusedSpec)

/-- ITS FALSE NEIGHBOUR: 'it returns false'. Refute it at one input. -/
def hierRefusedWrong : ChangeSpec := { name := "hierRefused", fn := fun _ => fun
  | [d1, d2] => { results := [.lit (.bool false)], args := [d1, d2] }
  | _ => none }
def HierRefusedWrongFalsely : Prop := hierRefusedRow.holds Try.pinned (OpenSpec.ofChange hierRefusedWrong)

/- THE SECOND FORM. 'bulk': how many values and letters a reading holds, each counted each time it is reached (what is shared counts as often as it is met; a slice's spare places count too). A statement '..UptoSaid' is the law's where the arguments, and the package variables that the reading takes, are together of bulk at most 1048576: NARROWER than '..Said'. Prove '..Said' where nothing that the law and all that it calls make is longer than what came in: it says more and counts as full. Else prove '..UptoSaid'. A law counts once. -/
mutual
def uptoBulk {H : Type} : DataW H → Nat
  | .lit (.string bytes) => bytes.length + 1
  | .lit _ => 1
  | .nil => 1
  | .ptr d => uptoBulk d + 1
  | .slice elems spare => uptoBulkAll elems + uptoBulkAll spare + 1
  | .agg parts => uptoBulkAll parts + 1
  | .iface _ d => uptoBulk d + 1
  | .map entries => uptoBulkEntries entries + 1
  | .held _ => 1
def uptoBulkAll {H : Type} : List (DataW H) → Nat
  | [] => 0
  | d :: r => uptoBulk d + uptoBulkAll r
def uptoBulkEntries {H : Type} : List (Lit × DataW H) → Nat
  | [] => 0
  | x :: r => uptoBulkEntry x + uptoBulkEntries r
def uptoBulkEntry {H : Type} : Lit × DataW H → Nat
  | (.string bytes, d) => bytes.length + uptoBulk d + 1
  | (_, d) => uptoBulk d + 1
 end
def uptoSmall : (H : Type) → List (DataW H) → Bool := fun _ ds => decide (uptoBulkAll ds ≤ 1048576)
def OpenSpec.upto (s : _root_.Go.ChangeSpec) : _root_.Go.OpenSpec := { _root_.Go.OpenSpec.ofChange s with cond := some uptoSmall }

/-- 'distributarylaw04.SumsHave', WHERE WHAT IT READS IS OF BULK AT MOST 1048576: true; the input reads as it did. -/
def sumsHaveUptoRow : OpenClaim := { program := "ytkeffkfjgblicaa", sum := "28856bd069cf67ad88dd2928328d27be7a17b13e07d24abe9f0400ad17d52917", func := "distributary/distributarylaw04.SumsHave", spec := "sumsHave", inPlace := ["math/bits.Add64"], unfollowed := true, recurses := true, apart := false, narrowed := true }
def SumsHaveUptoSaid : Prop := sumsHaveUptoRow.holds Try.pinned (OpenSpec.upto sumsHaveSpec)

/-- 'distributarylaw04.SumsLate', WHERE WHAT IT READS IS OF BULK AT MOST 1048576: true; the input reads as it did. -/
def sumsLateUptoRow : OpenClaim := { program := "ytkeffkfjgblicaa", sum := "28856bd069cf67ad88dd2928328d27be7a17b13e07d24abe9f0400ad17d52917", func := "distributary/distributarylaw04.SumsLate", spec := "sumsLate", inPlace := ["math/bits.Add64"], unfollowed := true, recurses := true, apart := false, narrowed := true }
def SumsLateUptoSaid : Prop := sumsLateUptoRow.holds Try.pinned (OpenSpec.upto sumsLateSpec)

/-- 'distributarylaw04.SumsSpare', WHERE WHAT IT READS IS OF BULK AT MOST 1048576: true; the input reads as it did. -/
def sumsSpareUptoRow : OpenClaim := { program := "ytkeffkfjgblicaa", sum := "28856bd069cf67ad88dd2928328d27be7a17b13e07d24abe9f0400ad17d52917", func := "distributary/distributarylaw04.SumsSpare", spec := "sumsSpare", inPlace := ["math/bits.Add64"], unfollowed := true, recurses := true, apart := false, narrowed := true }
def SumsSpareUptoSaid : Prop := sumsSpareUptoRow.holds Try.pinned (OpenSpec.upto sumsSpareSpec)

/-- 'distributarylaw04.SumsCorners', WHERE WHAT IT READS IS OF BULK AT MOST 1048576: true; the input reads as it did. -/
def sumsCornersUptoRow : OpenClaim := { program := "ytkeffkfjgblicaa", sum := "28856bd069cf67ad88dd2928328d27be7a17b13e07d24abe9f0400ad17d52917", func := "distributary/distributarylaw04.SumsCorners", spec := "sumsCorners", inPlace := ["math/bits.Add64"], unfollowed := true, recurses := true, apart := false, narrowed := true }
def SumsCornersUptoSaid : Prop := sumsCornersUptoRow.holds Try.pinned (OpenSpec.upto sumsCornersSpec)

/-- 'distributarylaw04.SumsTogether', WHERE WHAT IT READS IS OF BULK AT MOST 1048576: true; the input reads as it did. -/
def sumsTogetherUptoRow : OpenClaim := { program := "ytkeffkfjgblicaa", sum := "28856bd069cf67ad88dd2928328d27be7a17b13e07d24abe9f0400ad17d52917", func := "distributary/distributarylaw04.SumsTogether", spec := "sumsTogether", inPlace := ["math/bits.Add64"], unfollowed := true, recurses := true, apart := false, narrowed := true }
def SumsTogetherUptoSaid : Prop := sumsTogetherUptoRow.holds Try.pinned (OpenSpec.upto sumsTogetherSpec)

/-- 'distributarylaw04.SumsBelow', WHERE WHAT IT READS IS OF BULK AT MOST 1048576: true; the input reads as it did. -/
def sumsBelowUptoRow : OpenClaim := { program := "ytkeffkfjgblicaa", sum := "28856bd069cf67ad88dd2928328d27be7a17b13e07d24abe9f0400ad17d52917", func := "distributary/distributarylaw04.SumsBelow", spec := "sumsBelow", inPlace := ["math/bits.Add64"], unfollowed := true, recurses := true, apart := false, narrowed := true }
def SumsBelowUptoSaid : Prop := sumsBelowUptoRow.holds Try.pinned (OpenSpec.upto sumsBelowSpec)

/-- 'distributarylaw04.SumsRoom', WHERE WHAT IT READS IS OF BULK AT MOST 1048576: true; the input reads as it did. -/
def sumsRoomUptoRow : OpenClaim := { program := "ytkeffkfjgblicaa", sum := "28856bd069cf67ad88dd2928328d27be7a17b13e07d24abe9f0400ad17d52917", func := "distributary/distributarylaw04.SumsRoom", spec := "sumsRoom", inPlace := ["math/bits.Add64"], unfollowed := true, recurses := true, apart := false, narrowed := true }
def SumsRoomUptoSaid : Prop := sumsRoomUptoRow.holds Try.pinned (OpenSpec.upto sumsRoomSpec)

/-- 'distributarylaw16.HierTree', WHERE WHAT IT READS IS OF BULK AT MOST 1048576: true; the input reads as it did. -/
def hierTreeUptoRow : OpenClaim := { program := "ytkeffkfjgblicaa", sum := "28856bd069cf67ad88dd2928328d27be7a17b13e07d24abe9f0400ad17d52917", func := "distributary/distributarylaw16.HierTree", spec := "hierTree", inPlace := ["math/bits.Add64", "slices.overlaps[int]"], unfollowed := true, recurses := true, apart := false, narrowed := true }
def HierTreeUptoSaid : Prop := hierTreeUptoRow.holds Try.pinned (OpenSpec.upto hierTreeSpec)

/-- 'distributarylaw16.HierRefused', WHERE WHAT IT READS IS OF BULK AT MOST 1048576: true; the input reads as it did. -/
def hierRefusedUptoRow : OpenClaim := { program := "ytkeffkfjgblicaa", sum := "28856bd069cf67ad88dd2928328d27be7a17b13e07d24abe9f0400ad17d52917", func := "distributary/distributarylaw16.HierRefused", spec := "hierRefused", inPlace := ["math/bits.Add64", "slices.overlaps[int]"], unfollowed := true, recurses := true, apart := false, narrowed := true }
def HierRefusedUptoSaid : Prop := hierRefusedUptoRow.holds Try.pinned (OpenSpec.upto hierRefusedSpec)

end Rows
end Go.Proofs.Ytkeffkfjgblicaa
