/-
  A left-leaning tree of red and black nodes in memory: the colours of a node and of both below are turned.
-/
import Derived.Test.YtbnnkkojlclgjaaGreatRbRot
import Derived.BigRegion
namespace Go.Proofs.YtbnnkkojlclgjaaGreat
set_option linter.unusedVariables false
open Go.RowKit
attribute [local go_sem ↓] Go.wp_at_zero Go.wp_at_succ
attribute [local go_sem] quietR quietAtR quietUponR midAt midUpon

def FlipW (w : World) (S : List Nat) (t' : RB) (e : Ending) (w' : World) : Prop := e = .returned (.tuple #[]) ∧ RBAt w' t' ∧ Fr (fun x => x ∈ S) w w'
set_option maxRecDepth 100000 in
set_option maxHeartbeats 4000000 in
theorem flip_walk (a : Nat) (k : Ky) (v : Int) (s : Ky) (c : Bool) (b : Nat) (k2 : Ky) (v2 : Int) (s2 : Ky) (c2 : Bool) (l2 r2 : RB) (d : Nat) (k3 : Ky) (v3 : Int) (s3 : Ky) (c3 : Bool) (l3 r3 : RB) (w : World) (h : RBAt w (.node a k v s c (.node b k2 v2 s2 c2 l2 r2) (.node d k3 v3 s3 c3 l3 r3)))
    (hn : (addrs (.node a k v s c (.node b k2 v2 s2 c2 l2 r2) (.node d k3 v3 s3 c3 l3 r3))).Nodup) :
    Calls Tryz.prog 106 #[.pointer (some ⟨a, 0, none⟩)] w (FlipW w (addrs (.node a k v s c (.node b k2 v2 s2 c2 l2 r2) (.node d k3 v3 s3 c3 l3 r3))) (.node a k v s (!c) (.node b k2 v2 s2 (!c2) l2 r2) (.node d k3 v3 s3 (!c3) l3 r3))) := by
  have hn' := hn
  simp only [addrs, List.nodup_cons, List.nodup_append, List.mem_append, List.mem_cons, not_or, List.cons_append] at hn'
  obtain ⟨hA, ⟨hB, hl2, hr2⟩, hD, hl3, hr3⟩ := h
  have HN := Lib.hid hn'
  have hab : ¬ a = b := by rintro rfl; simp at hn'
  have hba : ¬ b = a := fun e => hab e.symm
  have had : ¬ a = d := by rintro rfl; simp at hn'
  have hda : ¬ d = a := fun e => had e.symm
  have hbd : ¬ b = d := by rintro rfl; simp at hn'
  have hdb : ¬ d = b := fun e => hbd e.symm
  have H := Lib.hid (And.intro hA (And.intro hB (And.intro hl2 (And.intro hr2 (And.intro hD (And.intro hl3 hr3))))))
  have a5 := hA.cell 5; have a6 := hA.cell 6; have a7 := hA.cell 7; have b5 := hB.cell 5; have d5 := hD.cell 5
  have fa5 := hA.frozen 5; have fb5 := hB.frozen 5; have fd5 := hD.frozen 5
  unfold nodeC at a5 a6 a7 b5 d5
  simp only [List.getElem?_toArray, List.getElem?_cons_zero, List.getElem?_cons_succ, ptrV, adr, Option.map_some] at a5 a6 a7 b5 d5
  clear hn' hn hA hB hl2 hr2 hD hl3 hr3
  go_enter Tryz.func106, Tryz.ntmps106
  go_region
  go_returns
  obtain ⟨hA, hB, hl2, hr2, hD, hl3, hr3⟩ := H.out
  obtain ⟨⟨_, ⟨x1, x2⟩, _, x3, x4⟩, ⟨⟨y1, y2⟩, _, y3, y4⟩, _, ⟨⟨z3, z4⟩, _⟩, hlr⟩ := HN.out
  have z1 : d ∉ addrs l2 := fun h => hlr d (.inl h) d (.inl rfl) rfl
  have z2 : d ∉ addrs r2 := fun h => hlr d (.inr h) d (.inl rfl) rfl
  have kept : ∀ {t : RB}, RBAt w t → a ∉ addrs t → b ∉ addrs t → d ∉ addrs t → RBAt (((w.setCell ⟨a, 5, none⟩ (.bool !c)).setCell ⟨b, 5, none⟩ (.bool !c2)).setCell ⟨d, 5, none⟩ (.bool !c3)).drew t := fun ht h1 h2 h3 => ht.kept fun q hq =>
    (Below.heap_setCell _ ⟨d, 5, none⟩ _ q fun e => h3 (show d ∈ addrs _ from (show q = d from e) ▸ hq)).trans ((Below.heap_setCell _ ⟨b, 5, none⟩ _ q fun e => h2 (show b ∈ addrs _ from (show q = b from e) ▸ hq)).trans (Below.heap_setCell _ ⟨a, 5, none⟩ _ q fun e => h1 (show a ∈ addrs _ from (show q = a from e) ▸ hq)))
  have na := ((hA.set_ 5 (.bool !c)).far (p := ⟨b, 5, none⟩) hab (.bool !c2)).far (p := ⟨d, 5, none⟩) had (.bool !c3)
  have nb := ((hB.far (p := ⟨a, 5, none⟩) hba (.bool !c)).set_ 5 (.bool !c2)).far (p := ⟨d, 5, none⟩) hbd (.bool !c3)
  have nd := ((hD.far (p := ⟨a, 5, none⟩) hda (.bool !c)).far (p := ⟨b, 5, none⟩) hdb (.bool !c2)).set_ 5 (.bool !c3)
  refine ⟨rfl, ⟨na.drew, ⟨nb.drew, kept hl2 x1 y1 z1, kept hr2 x2 y2 z2⟩, ⟨nd.drew, kept hl3 x3 y3 z3, kept hr3 x4 y4 z4⟩⟩, ?_⟩
  · have f1 : Fr (fun x => x ∈ addrs (.node a k v s c (.node b k2 v2 s2 c2 l2 r2) (.node d k3 v3 s3 c3 l3 r3))) w (((w.setCell ⟨a, 5, none⟩ (.bool !c)).setCell ⟨b, 5, none⟩ (.bool !c2)).setCell ⟨d, 5, none⟩ (.bool !c3)) :=
      ((Fr.set (by simp [addrs])).trans (Fr.set (by simp [addrs]))).trans (Fr.set (by simp [addrs]))
    exact ⟨f1.os, f1.tape, f1.output, f1.size, f1.block⟩
theorem flip_any (t t' : RB) (w : World) (h : RBAt w t) (hn : (addrs t).Nodup) (e : flipT t = some t') :
    Calls Tryz.prog 106 #[ptrV t] w (FlipW w (addrs t) t') := by
  cases t with
  | nil => cases e
  | node a k v s c l r =>
    cases l with
    | nil => cases e
    | node b k2 v2 s2 c2 l2 r2 =>
      cases r with
      | nil => cases e
      | node d k3 v3 s3 c3 l3 r3 =>
        cases e
        exact flip_walk a k v s c b k2 v2 s2 c2 l2 r2 d k3 v3 s3 c3 l3 r3 w h hn
end Go.Proofs.YtbnnkkojlclgjaaGreat
