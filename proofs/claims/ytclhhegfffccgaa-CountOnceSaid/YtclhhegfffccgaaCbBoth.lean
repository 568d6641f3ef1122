/-
  The document's book of counters: both.
-/
import Derived.Test.YtclhhegfffccgaaCbWhere
namespace Go.Proofs.Ytclhhegfffccgaa
set_option linter.unusedVariables false
open Go.RowKit Go.Maps

/-- the places of all, and of a class -/
def BothTo (W : World) (base p : Nat) (B : Bk) (c : Int) (e : Ending) (W' : World) : Prop :=
  ∃ gb, W.heap.size ≤ gb ∧ (Below base W W' ∧ KeepD W W') ∧ ((c < 1 ∧ e = .returned (.slice (some ⟨gb, 0, none⟩) 1 1) ∧ Blk W' gb 3 #[.int .i64 0] ∧ CbAt W' base p B) ∨
    (1 ≤ c ∧ ∃ k : Nat, e = .returned (.slice (some ⟨gb, 0, none⟩) 2 2) ∧ Blk W' gb 3 #[.int .i64 0, .int .i64 k] ∧ k < (insB B c).length ∧ (insB B c)[k]? = some (c, getB B c) ∧ CbAt W' base p (insB B c)))
theorem both_any (c : Int) (base p : Nat) (B : Bk) (W : World) (h : CbAt W base p B) (hr : Rising B) (hn : B.length < 1000) (hc : (Lit.int .i64 c).wf = true) :
    Calls Try.prog 36 #[.pointer (some ⟨p, 0, none⟩), .int .i64 c] W (BothTo W base p B c) := by
  by_cases h1 : c < 1
  · have hb := (Below.refl W.heap.size W).alloc (Nat.le_refl _) (.cells #[.int .i64 0] 3)
    have HF := Lib.hid (And.intro (And.intro (hb.mono h.base_le) (KeepD.below hb)) (And.intro (Blk.new W 3 #[.int .i64 0]) (h.later hb)))
    clear h hb
    go_enter Try.func36, Try.ntmps36
    go_wp2_with fail
    go_ret
    exact ⟨W.heap.size, Nat.le_refl _, HF.out.1, .inl ⟨h1, rfl, HF.out.2⟩⟩
  · have hat := rat_any c base p B W h hr hn hc
    have hbl := h.base_le
    clear h
    go_enter Try.func36, Try.ntmps36
    go_wp2_with fail
    refine hat.mono ?_
    clear hat
    rintro e W1 ⟨k, rfl, hk, hkk, hcb, hb, hkd⟩
    have hb2 := (Below.refl W1.heap.size W1).alloc (Nat.le_refl _) (.cells #[.int .i64 0, .int .i64 k] 3)
    have hcb2 := hcb.later hb2
    have HF := Lib.hid (And.intro hb.size (And.intro (And.intro (hb.trans (hb2.mono (Nat.le_trans hbl hb.size))) (hkd.trans (KeepD.below hb2))) (And.intro (Blk.new W1 3 #[.int .i64 0, .int .i64 k]) (And.intro hk (And.intro hkk hcb2)))))
    clear hk hkk hcb hb hb2 hcb2 hkd
    go_wp2_with fail
    go_ret
    exact ⟨W1.heap.size, HF.out.1, HF.out.2.1, .inr ⟨by omega, k, rfl, HF.out.2.2.1, HF.out.2.2.2⟩⟩
end Go.Proofs.Ytclhhegfffccgaa
