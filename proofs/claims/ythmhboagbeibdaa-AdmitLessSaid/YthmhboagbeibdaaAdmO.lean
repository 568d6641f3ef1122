/-
  The book whose ghosts are a row of its own: New, Put, Settle.
-/
import Derived.Test.YthmhboagbeibdaaAdmDrop
namespace Go.Proofs.Ythmhboagbeibdaa
set_option linter.unusedVariables false
open Go.RowKit Go.Maps Go.Sort

theorem BkO.grownM {w w' : World} {base g m : Nat} {r : Int} {L L' : List (Int × Cv)} {G : List Cv} {vg : Value} (h : BkO w base g m r L G vg) (hb : BkAt w' g m r L' G vg) (hg : w.grownBy w' (some m)) : BkO w' base g m r L' G vg ∧ Below base w w' :=
  ⟨⟨hb, h.own.kept hg (own_map h.own h.bk.map), h.gb, h.mb⟩, (Below.refl base w).grown hg h.base_le (fun k e => by cases e; exact h.mb)⟩

def PutO (w : World) (base g m : Nat) (r : Int) (L : List (Int × Cv)) (G : List Cv) (vg : Value) (id : Int) (c : Cv) (e : Ending) (w' : World) : Prop :=
  e = .returned (.int .i64 (putC L G id c r)) ∧ BkO w' base g m r (putBk L G id c r) G vg ∧ Below base w w' ∧ Spare w w' g m vg
theorem putO_any (F0 L0 R0 id : Int) (base g m : Nat) (r : Int) (L : List (Int × Cv)) (G : List Cv) (vg : Value) (w : World) (hc : U F0 ∧ U L0 ∧ U R0) (hid : (Lit.int .i64 id).wf = true) (h : BkO w base g m r L G vg) (hf : L.length + G.length < 100000) :
    Calls Try.prog 10 #[.pointer (some ⟨g, 0, none⟩), .int .i64 id, .agg #[.int .u64 F0, .int .u64 L0, .int .u64 R0]] w (PutO w base g m r L G vg id (F0, L0, R0)) :=
  (put_any F0 L0 R0 id g m r L G vg w hc hid h.bk hf).mono fun e w' hp => ⟨hp.1, (h.grownM hp.2.1 hp.2.2).1, (h.grownM hp.2.1 hp.2.2).2, Spare.atM g m vg hp.2.2⟩

def SettleO (w : World) (base g m : Nat) (r : Int) (L : List (Int × Cv)) (G : List Cv) (vg : Value) (e : Ending) (w' : World) : Prop :=
  e = .returned (.int .i64 G.length) ∧ BkO w' base g m r L [] (.slice none 0 0) ∧ Below base w w' ∧ Spare w w' g m vg
theorem settleO_any (base g m : Nat) (r : Int) (L : List (Int × Cv)) (G : List Cv) (vg : Value) (w : World) (h : BkO w base g m r L G vg) :
    Calls Try.prog 20 #[.pointer (some ⟨g, 0, none⟩)] w (SettleO w base g m r L G vg) :=
  (settle_any g m r L G vg w h.bk).mono fun e w' hp => ⟨hp.1, ⟨hp.2.1, World.ownsRow_nil _ _ _ _, h.gb, h.mb⟩, (Below.refl base w).grown hp.2.2 h.base_le (fun k e => by cases e; exact h.gb), Spare.atG g m vg hp.2.2⟩
end Go.Proofs.Ythmhboagbeibdaa
