/-
  No cell of these rows narrows 'for every input' (looked for: loops, veiled, ifaces, maps, wideKeys, modest, calm, conditions, laid).
  DERIVED. THE GIVEN ROWS OF THIS SEAT. 4 by the template 'for every input the law returns true; each argument reads behind the call as it read before'; 0 by the template 'total and deterministic' (their statements: YtbnnkkojlclgjaaTotals.lean).
  GIVEN WITH THE SEED: the statements are not yours to turn. If you find one false, say at which input.
  Laid BY PROGRAM, IN A SANDBOX (cutbox-rows.mjs): the forced cells as the released guide's own fill.sh prints them over the translation 7ab0d31c71a27c59… (all of the seat's roots in one cut). By AI agents, Wed Nov 11 2026. No macro, syntax, notation, axiom, sorry.
-/
import Derived.Test.YtbnnkkojlclgjaaChecked
import GoSem.Claim
import GoSem.ClaimJoined
import GoSem.ClaimMapViews
import Derived.JoinedTies
import Derived.KernelRfl
namespace Go.Proofs.Ytbnnkkojlclgjaa
/- THE CELL 'sum', in the pinned program and in every row, IS THE sha256 OF THE DUMP (.gsa) THAT YtbnnkkojlclgjaaProg.lean LOADS. Nothing in Lean hashes anything: it is a label: what it is worth is what the hold of that sum in a sandbox is worth. -/
noncomputable def Try.pinned : Pinned := { name := "ytbnnkkojlclgjaa", sum := "7ab0d31c71a27c5951320c1b8b676bcbfc67bd70f6f2ba717ebe5cbe37defcbc", checked := Try.checked }
namespace Rows
def none {H : Type} : Left H := { results := [], args := [] }

/-- 'distributarylaw19.EdfLater': WHATEVER THE INPUT: true; the input reads as it did. -/
def edfLaterSpec : ChangeSpec := { name := "edfLater", fn := fun _ => fun
  | [d1, d2, d3] => { results := [.lit (.bool true)], args := [d1, d2, d3] }
  | _ => none }
def edfLaterRow : OpenClaim := { program := "ytbnnkkojlclgjaa", sum := "7ab0d31c71a27c5951320c1b8b676bcbfc67bd70f6f2ba717ebe5cbe37defcbc", func := "distributary/distributarylaw19.EdfLater", spec := "edfLater", unfollowed := true, recurses := true, apart := false }
def EdfLaterSaid : Prop := edfLaterRow.holds Try.pinned (OpenSpec.ofChange edfLaterSpec)

/-- ITS FALSE NEIGHBOUR: 'it returns false'. Refute it at one input. -/
def edfLaterWrong : ChangeSpec := { name := "edfLater", fn := fun _ => fun
  | [d1, d2, d3] => { results := [.lit (.bool false)], args := [d1, d2, d3] }
  | _ => none }
def EdfLaterWrongFalsely : Prop := edfLaterRow.holds Try.pinned (OpenSpec.ofChange edfLaterWrong)

/-- 'distributarylaw19.EdfNone': WHATEVER THE INPUT: true; the input reads as it did. -/
def edfNoneSpec : ChangeSpec := { name := "edfNone", fn := fun _ => fun
  | [d1, d2] => { results := [.lit (.bool true)], args := [d1, d2] }
  | _ => none }
def edfNoneRow : OpenClaim := { program := "ytbnnkkojlclgjaa", sum := "7ab0d31c71a27c5951320c1b8b676bcbfc67bd70f6f2ba717ebe5cbe37defcbc", func := "distributary/distributarylaw19.EdfNone", spec := "edfNone", unfollowed := true, recurses := true, apart := false }
def EdfNoneSaid : Prop := edfNoneRow.holds Try.pinned (OpenSpec.ofChange edfNoneSpec)

/-- ITS FALSE NEIGHBOUR: 'it returns false'. Refute it at one input. -/
def edfNoneWrong : ChangeSpec := { name := "edfNone", fn := fun _ => fun
  | [d1, d2] => { results := [.lit (.bool false)], args := [d1, d2] }
  | _ => none }
def EdfNoneWrongFalsely : Prop := edfNoneRow.holds Try.pinned (OpenSpec.ofChange edfNoneWrong)

/-- 'distributarylaw19.EdfWhatever': WHATEVER THE INPUT: true; the input reads as it did. -/
def edfWhateverSpec : ChangeSpec := { name := "edfWhatever", fn := fun _ => fun
  | [d1, d2] => { results := [.lit (.bool true)], args := [d1, d2] }
  | _ => none }
def edfWhateverRow : OpenClaim := { program := "ytbnnkkojlclgjaa", sum := "7ab0d31c71a27c5951320c1b8b676bcbfc67bd70f6f2ba717ebe5cbe37defcbc", func := "distributary/distributarylaw19.EdfWhatever", spec := "edfWhatever", unfollowed := true, recurses := true, apart := false }
def EdfWhateverSaid : Prop := edfWhateverRow.holds Try.pinned (OpenSpec.ofChange edfWhateverSpec)

/-- ITS FALSE NEIGHBOUR: 'it returns false'. Refute it at one input. -/
def edfWhateverWrong : ChangeSpec := { name := "edfWhatever", fn := fun _ => fun
  | [d1, d2] => { results := [.lit (.bool false)], args := [d1, d2] }
  | _ => none }
def EdfWhateverWrongFalsely : Prop := edfWhateverRow.holds Try.pinned (OpenSpec.ofChange edfWhateverWrong)

/-- 'distributarylaw19.EdfPlays': WHATEVER THE INPUT: true; the input reads as it did. -/
def edfPlaysSpec : ChangeSpec := { name := "edfPlays", fn := fun _ => fun
  | [d1, d2, d3] => { results := [.lit (.bool true)], args := [d1, d2, d3] }
  | _ => none }
def edfPlaysRow : OpenClaim := { program := "ytbnnkkojlclgjaa", sum := "7ab0d31c71a27c5951320c1b8b676bcbfc67bd70f6f2ba717ebe5cbe37defcbc", func := "distributary/distributarylaw19.EdfPlays", spec := "edfPlays", inPlace := ["maps.clone"], unfollowed := true, recurses := true, apart := false }
def EdfPlaysSaid : Prop := edfPlaysRow.holds Try.pinned (OpenSpec.ofChange edfPlaysSpec)

/-- ITS FALSE NEIGHBOUR: 'it returns false'. Refute it at one input. -/
def edfPlaysWrong : ChangeSpec := { name := "edfPlays", fn := fun _ => fun
  | [d1, d2, d3] => { results := [.lit (.bool false)], args := [d1, d2, d3] }
  | _ => none }
def EdfPlaysWrongFalsely : Prop := edfPlaysRow.holds Try.pinned (OpenSpec.ofChange edfPlaysWrong)

/- THE SECOND FORM. 'bulk': how many values and letters a reading holds, each counted each time it is reached (what is shared counts as often as it is met; a slice's spare places count too). A statement '..UptoSaid' is the law's where the arguments, and the package variables that the reading takes, are together of bulk at most 1048576: NARROWER than '..Said'. Prove '..Said' where nothing that the law and all that it calls make is longer than what came in: it says more and counts as full. Else prove '..UptoSaid'. A law counts once. -/
mutual
def uptoBulk {H : Type} : DataW H → Nat
  | .lit (.string bytes) => bytes.length + 1
  | .lit _ => 1
  | .nil => 1
  | .ptr d => uptoBulk d + 1
  | .slice elems spare => uptoBulkAll elems + uptoBulkAll spare + 1
  | .agg parts => uptoBulkAll parts + 1
  | .iface _ d => uptoBulk d + 1
  | .map entries => uptoBulkEntries entries + 1
  | .held _ => 1
def uptoBulkAll {H : Type} : List (DataW H) → Nat
  | [] => 0
  | d :: r => uptoBulk d + uptoBulkAll r
def uptoBulkEntries {H : Type} : List (Lit × DataW H) → Nat
  | [] => 0
  | x :: r => uptoBulkEntry x + uptoBulkEntries r
def uptoBulkEntry {H : Type} : Lit × DataW H → Nat
  | (.string bytes, d) => bytes.length + uptoBulk d + 1
  | (_, d) => uptoBulk d + 1
 end
def uptoSmall : (H : Type) → List (DataW H) → Bool := fun _ ds => decide (uptoBulkAll ds ≤ 1048576)
def OpenSpec.upto (s : _root_.Go.ChangeSpec) : _root_.Go.OpenSpec := { _root_.Go.OpenSpec.ofChange s with cond := some uptoSmall }

/-- 'distributarylaw19.EdfLater', WHERE WHAT IT READS IS OF BULK AT MOST 1048576: true; the input reads as it did. -/
def edfLaterUptoRow : OpenClaim := { program := "ytbnnkkojlclgjaa", sum := "7ab0d31c71a27c5951320c1b8b676bcbfc67bd70f6f2ba717ebe5cbe37defcbc", func := "distributary/distributarylaw19.EdfLater", spec := "edfLater", unfollowed := true, recurses := true, apart := false, narrowed := true }
def EdfLaterUptoSaid : Prop := edfLaterUptoRow.holds Try.pinned (OpenSpec.upto edfLaterSpec)

/-- 'distributarylaw19.EdfNone', WHERE WHAT IT READS IS OF BULK AT MOST 1048576: true; the input reads as it did. -/
def edfNoneUptoRow : OpenClaim := { program := "ytbnnkkojlclgjaa", sum := "7ab0d31c71a27c5951320c1b8b676bcbfc67bd70f6f2ba717ebe5cbe37defcbc", func := "distributary/distributarylaw19.EdfNone", spec := "edfNone", unfollowed := true, recurses := true, apart := false, narrowed := true }
def EdfNoneUptoSaid : Prop := edfNoneUptoRow.holds Try.pinned (OpenSpec.upto edfNoneSpec)

/-- 'distributarylaw19.EdfWhatever', WHERE WHAT IT READS IS OF BULK AT MOST 1048576: true; the input reads as it did. -/
def edfWhateverUptoRow : OpenClaim := { program := "ytbnnkkojlclgjaa", sum := "7ab0d31c71a27c5951320c1b8b676bcbfc67bd70f6f2ba717ebe5cbe37defcbc", func := "distributary/distributarylaw19.EdfWhatever", spec := "edfWhatever", unfollowed := true, recurses := true, apart := false, narrowed := true }
def EdfWhateverUptoSaid : Prop := edfWhateverUptoRow.holds Try.pinned (OpenSpec.upto edfWhateverSpec)

/-- 'distributarylaw19.EdfPlays', WHERE WHAT IT READS IS OF BULK AT MOST 1048576: true; the input reads as it did. -/
def edfPlaysUptoRow : OpenClaim := { program := "ytbnnkkojlclgjaa", sum := "7ab0d31c71a27c5951320c1b8b676bcbfc67bd70f6f2ba717ebe5cbe37defcbc", func := "distributary/distributarylaw19.EdfPlays", spec := "edfPlays", inPlace := ["maps.clone"], unfollowed := true, recurses := true, apart := false, narrowed := true }
def EdfPlaysUptoSaid : Prop := edfPlaysUptoRow.holds Try.pinned (OpenSpec.upto edfPlaysSpec)

end Rows
end Go.Proofs.Ytbnnkkojlclgjaa
