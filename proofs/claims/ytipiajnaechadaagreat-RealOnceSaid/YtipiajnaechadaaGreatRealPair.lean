/-
  A debt and the document's debt, together.
-/
import Derived.Test.YtipiajnaechadaaGreatDebts
namespace Go.Proofs.YtipiajnaechadaaGreat
set_option linter.unusedVariables false
open Go.RowKit

/-- both debts, as the laws find them -/
def PairD (w W : World) (d r g v p k : Nat) (F L R x : Int) (A : List (Int × Int)) (got : Int) (aw : Bool) (el n : Int) : Prop :=
  A.length ≤ k ∧ w.heap.size ≤ g ∧ w.heap.size ≤ d ∧ (0 ≤ got ∧ got ≤ 4611686018427387904) ∧ Deb W d r g F L R x A got aw el n ∧ RDebt W v p w.heap.size F L R x A got aw el n ∧ Below w.heap.size w W
section
variable {w W W1 W2 : World} {d r g v p k k' : Nat} {F L R x x' got got' el el' n n' : Int} {A A' : List (Int × Int)} {aw aw' : Bool}
theorem PairD.below (h : PairD w W d r g v p k F L R x A got aw el n) (hb : Below W.heap.size W W1) : PairD w W1 d r g v p k F L R x A got aw el n :=
  ⟨h.1, h.2.1, h.2.2.1, h.2.2.2.1, h.2.2.2.2.1.below hb, h.2.2.2.2.2.1.below hb, h.2.2.2.2.2.2.trans (hb.mono h.2.2.2.2.2.2.size)⟩
theorem PairD.after (h : PairD w W d r g v p k F L R x A got aw el n) (hk : Keeps W W1 g d) : RDebt W1 v p w.heap.size F L R x A got aw el n ∧ Below w.heap.size w W1 :=
  ⟨h.2.2.2.2.2.1.keeps h.2.2.2.2.1 hk, h.2.2.2.2.2.2.trans (hk.low _ h.2.1 h.2.2.1)⟩
theorem pair_done (hA : A'.length ≤ k') (hgw : w.heap.size ≤ g) (hdw : w.heap.size ≤ d) (hgot : 0 ≤ got' ∧ got' ≤ 4611686018427387904) (hd : Deb W1 d r g F L R x' A' got' aw' el' n') (hr0 : RDebt W1 v p w.heap.size F L R x A got aw el n) (hb : Below w.heap.size w W1) (hr : RDebt W2 v p w.heap.size F L R x' A' got' aw' el' n') (hg : DocGrown W1 W2 w.heap.size v p) : PairD w W2 d r g v p k' F L R x' A' got' aw' el' n' := by
  obtain ⟨vx, vy, hpb, _⟩ := hr0.2.1.at_
  exact ⟨hA, hgw, hdw, hgot, hd.doc hg hr0.1 hpb, hr, hb.trans (hg.low hr0.2.2 hr0.2.1.low hb.size)⟩
theorem Blk.keepsD {b : Nat} {t : TypeId} {cs : Array Value} (h : Blk W b t cs) (hd : Deb W d r g F L R x A got aw el n) (hk : Keeps W W1 g d) (h1 : t ≠ 87) (h2 : t ≠ 90) (h3 : t ≠ 45) : Blk W1 b t cs := by
  obtain ⟨cd, hdb⟩ := hd.dblk
  refine hk.blk _ _ _ h ?_ (blk_ne h hdb h3)
  rcases hd.run with k | ⟨_, ⟨K, hK⟩, _⟩
  · obtain ⟨a1, a2, hB2, _⟩ := k.2.1.blk
    exact blk_ne h hB2 h1
  · obtain ⟨u, hB2, _⟩ := hK.at_
    exact blk_ne h hB2 h2
theorem Blk.docD {base b : Nat} {t : TypeId} {cs : Array Value} (h : Blk W1 b t cs) (hr0 : RDebt W1 v p base F L R x A got aw el n) (hg : DocGrown W1 W2 base v p) (h1 : t ≠ 22) (h2 : t ≠ 49) (h3 : t ≠ 78) : Blk W2 b t cs := by
  obtain ⟨vx, vy, hpb, _⟩ := hr0.2.1.at_
  exact h.doc hg (blk_ne h hr0.1 h2) (blk_ne h hpb h3) h1
/-- another debt turns -/
theorem Deb.keeps {d2 r2 g2 : Nat} {x2 got2 el2 n2 : Int} {A2 : List (Int × Int)} {aw2 : Bool} (h : Deb W d2 r2 g2 F L R x2 A2 got2 aw2 el2 n2) (h' : Deb W d r g F L R x A got aw el n) (hk : Keeps W W1 g d) (hdd : d2 ≠ d) (hgg : g2 ≠ g) : Deb W1 d2 r2 g2 F L R x2 A2 got2 aw2 el2 n2 := by
  obtain ⟨cd, hdb⟩ := h'.dblk
  obtain ⟨t, cg, hgb, ht1, ht2, ht3⟩ : ∃ t cs, Blk W g t cs ∧ t ≠ 45 ∧ t ≠ 70 ∧ t ≠ 140 := by
    rcases h'.run with k | ⟨_, ⟨K, hK⟩, _⟩
    · obtain ⟨a1, a2, hB2, _⟩ := k.2.1.blk
      exact ⟨_, _, hB2, by decide, by decide, by decide⟩
    · obtain ⟨u, hB2, _⟩ := hK.at_
      exact ⟨_, _, hB2, by decide, by decide, by decide⟩
  obtain ⟨eI, dI, ⟨k1, k2, k3⟩, k4⟩ := h
  refine ⟨eI, dI, ⟨hk.blk _ _ _ k1 (blk_ne k1 hgb (Ne.symm ht1)) hdd, ?_, k3⟩, k4⟩
  rcases k2 with ⟨a1, a2, a3⟩ | ⟨a1, ⟨K, a2⟩, a3⟩
  · obtain ⟨⟨p1, q1, hB, h4⟩, h5⟩ := a2
    exact .inl ⟨hk.blk _ _ _ a1 (blk_ne a1 hgb (Ne.symm ht2)) (blk_ne a1 hdb (by decide)), ⟨⟨p1, q1, hk.blk _ _ _ hB hgg (blk_ne hB hdb (by decide)), h4⟩, h5, ‹_›, ‹_›, ‹_›, ‹_›, ‹_›⟩, a3⟩
  · obtain ⟨u, hB, hr⟩ := a2.at_
    refine .inr ⟨hk.blk _ _ _ a1 (blk_ne a1 hgb (Ne.symm ht2)) (blk_ne a1 hdb (by decide)), ⟨K, ⟨u, hk.blk _ _ _ hB hgg (blk_ne hB hdb (by decide)), ?_⟩, a2.may, a2.le, a2.run, a2.num, a2.x0, a2.x1, a2.few, a2.one⟩, a3⟩
    obtain ⟨hl, hz | ⟨b, cap, cur, hu, hb, hblk, hrr⟩⟩ := hr
    · exact ⟨hl, .inl hz⟩
    · have hrb : Blk W b 140 cur := hblk
      exact ⟨hl, .inr ⟨b, cap, cur, hu, hb, hk.blk b _ _ hrb (blk_ne hrb hgb (Ne.symm ht3)) (blk_ne hrb hdb (by decide)), hrr⟩⟩
theorem Deb.glt (h : Deb W d r g F L R x A got aw el n) : g < W.heap.size ∧ d < W.heap.size := by
  obtain ⟨cd, hdb⟩ := h.dblk
  have := h.run.lt
  exact ⟨by omega, hdb.lt⟩
end

end Go.Proofs.YtipiajnaechadaaGreat
