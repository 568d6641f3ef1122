/-
  A row of leaves between a law's calls; the chapter's example; acts played. (Printed by wip/mkedfstate.py.)
-/
import Derived.Test.YtbnnkkojlclgjaaGreatEdfTell
namespace Go.Proofs.YtbnnkkojlclgjaaGreat
set_option linter.unusedVariables false
open Go.RowKit Go.Maps
attribute [local go_sem ↓] Go.wp_at_zero Go.wp_at_succ
attribute [local go_sem] quietR quietAtR quietUponR midAt midUpon plain plainUpon

/-- a row made since w0 -/
def RS (w0 w : World) (r : Nat) (L : List En) : Prop := ∃ S, RowX w r S L ∧ (∀ b, S b → w0.heap.size ≤ b) ∧ Below w0.heap.size w0 w
section
variable {w0 w w' : World} {r : Nat} {L : List En}
theorem RS.below (h : RS w0 w r L) : Below w0.heap.size w0 w := h.choose_spec.2.2
theorem RS.inv (h : RS w0 w r L) : InvE L := h.choose_spec.1.inv
theorem RS.later (h : RS w0 w r L) (hb : Below w.heap.size w w') : RS w0 w' r L := by
  obtain ⟨S, h1, h2, h3⟩ := h
  exact ⟨S, h1.later hb, h2, h3.trans (hb.mono h3.size)⟩
theorem RS.turn {S : Nat → Prop} {M : List En} (h1 : RowX w r S L) (h2 : ∀ b, S b → w0.heap.size ≤ b) (h3 : Below w0.heap.size w0 w) (ht : TurnE w r S M w') : RS w0 w' r M := by
  obtain ⟨S', k1, k2, k3⟩ := ht
  have hs := h3.size
  exact ⟨S', k1, fun b hb => (k2 b hb).elim (h2 b) fun h => by omega, h3.trans (k3.below h2 hs)⟩
theorem RS.new (w : World) : Calls Tryz.prog 4 #[] w fun e w' => ∃ r, e = .returned (.pointer (some ⟨r, 0, none⟩)) ∧ RS w w' r [] :=
  (rnew_any w).mono fun e w' ⟨r, S, h1, h2, h3, h4⟩ => ⟨r, h1, S, h2, h4, h3⟩
theorem RS.put (h : RS w0 w r L) (i a b : Int) (hi : (Lit.int .i64 i).wf = true) (hfew : L.length < 900000) :
    Calls Tryz.prog 27 #[.pointer (some ⟨r, 0, none⟩), .int .i64 i, .int .u64 a, .int .u64 b] w fun e w' => e = .returned (.tuple #[]) ∧ RS w0 w' r (putI L i a b) := by
  obtain ⟨S, h1, h2, h3⟩ := h
  exact (rput_any r S L i a b w h1 hi hfew).mono fun e w' ⟨k1, k2⟩ => ⟨k1, RS.turn h1 h2 h3 k2⟩
theorem RS.drop (h : RS w0 w r L) (i : Int) (hi : (Lit.int .i64 i).wf = true) (hfew : L.length < 900000) :
    Calls Tryz.prog 26 #[.pointer (some ⟨r, 0, none⟩), .int .i64 i] w fun e w' => e = .returned (.bool (getIs L i)) ∧ RS w0 w' r (dropI L i) := by
  obtain ⟨S, h1, h2, h3⟩ := h
  exact (rdrop_any r S L i w h1 hi hfew).mono fun e w' ⟨k1, k2⟩ => ⟨k1, RS.turn h1 h2 h3 k2⟩
theorem RS.next (h : RS w0 w r L) (now : Int) :
    Calls Tryz.prog 33 #[.pointer (some ⟨r, 0, none⟩), .int .u64 now] w fun e w' => e = .returned (.tuple #[.int .i64 (nextId now L), .bool (nextIs now L)]) ∧ RS w0 w' r L := by
  obtain ⟨S, h1, h2, h3⟩ := h
  exact (rnext_any r S L now w h1).mono fun e w' ⟨k1, k2⟩ => ⟨k1, RS.later ⟨S, h1, h2, h3⟩ k2⟩
theorem RS.get (h : RS w0 w r L) (i : Int) (hi : (Lit.int .i64 i).wf = true) :
    Calls Tryz.prog 35 #[.pointer (some ⟨r, 0, none⟩), .int .i64 i] w fun e w' => e = .returned (.tuple #[.int .u64 (getA L i), .int .u64 (getB L i), .bool (getIs L i)]) ∧ RS w0 w' r L := by
  obtain ⟨S, h1, h2, h3⟩ := h
  exact (rget_any r S L i w h1 hi).mono fun e w' ⟨k1, k2⟩ => ⟨k1, RS.later ⟨S, h1, h2, h3⟩ k2⟩
theorem RS.tick (h : RS w0 w r L) (hok : OkE L) :
    Calls Tryz.prog 38 #[.pointer (some ⟨r, 0, none⟩)] w fun e w' => e = .returned (.int .u64 (tickL L)) ∧ RS w0 w' r L := by
  obtain ⟨S, h1, h2, h3⟩ := h
  exact (rtick_any r S L w h1 hok).mono fun e w' ⟨k1, k2⟩ => ⟨k1, RS.later ⟨S, h1, h2, h3⟩ k2⟩
theorem RS.len (h : RS w0 w r L) :
    Calls Tryz.prog 40 #[.pointer (some ⟨r, 0, none⟩)] w fun e w' => e = .returned (.int .i64 L.length) ∧ RS w0 w' r L := by
  obtain ⟨S, h1, h2, h3⟩ := h
  exact (rlen_any r S L w h1).mono fun e w' ⟨k1, k2⟩ => ⟨k1, S, k2 ▸ h1, h2, k2 ▸ h3⟩
theorem RS.ids (h : RS w0 w r L) (hfew : L.length < 1000000) :
    Calls Tryz.prog 37 #[.pointer (some ⟨r, 0, none⟩)] w fun e w' => ∃ v, e = .returned v ∧ w'.ownsRow w.heap.size 3 1 v L.length (idsV L) ∧ RS w0 w' r L := by
  obtain ⟨S, h1, h2, h3⟩ := h
  exact (rids_any r S L w h1 hfew).mono fun e w' ⟨v, k1, k2, _, k3⟩ => ⟨v, k1, k2, RS.later ⟨S, h1, h2, h3⟩ k3⟩
end

def PlayedW (w : World) (z : List EAct) (e : Ending) (w' : World) : Prop := ∃ r, e = .returned (.pointer (some ⟨r, 0, none⟩)) ∧ RS w w' r (playE z)
end Go.Proofs.YtbnnkkojlclgjaaGreat
