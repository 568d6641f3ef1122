/-
  A tree of classes in memory while it is changed: the maps turn, a row becomes another one.
-/
import Derived.Test.YtclhhegfffccgaaGreatHIns
import Derived.Test.YtclhhegfffccgaaGreatRegJ
namespace Go.Proofs.YtclhhegfffccgaaGreat
set_option linter.unusedVariables false
open Go.RowKit Go.Maps

def upd {α : Type} (f : Int → α) (k : Int) (v : α) : Int → α := fun j => if j = k then v else f j
structure TreeY (W : World) (base g ma mu : Nat) (U : List (Int × Value)) (M : Mp) (rv : Int → Value) (kd : Int → List Int) : Prop where
  blk : Blk W g 58 #[.map (some ma), .map (some mu)]
  all : MapI Tryz.prog 3 W ma (mapV clV M)
  und : MapI Tryz.prog 3 W mu U
  rows : ∀ k, W.ownsRow base 3 1 (rv k) (kd k).length ((kd k).map (Value.int .i64))
  apart : ∀ k k' b, k ≠ k' → (rv k).ownBlock = some b → (rv k').ownBlock = some b → False
  ne : ma ≠ mu
theorem row_blk {w : World} {base sz n g : Nat} {e t : TypeId} {v : Value} {xs : List Value} {cs : Array Value} (h : w.ownsRow base e sz v n xs) (hb : Blk w g t cs) (hne : e ≠ t) : v.ownBlock ≠ some g := by
  rcases h.2 with ⟨rfl, _⟩ | ⟨g', c, cur, rfl, _, h2, _⟩
  · simp [Value.ownBlock]
  · intro e'
    have e' : g' = g := by simpa [Value.ownBlock] using e'
    subst e'
    have := h2.symm.trans hb
    simp only [Option.some.injEq, Obj.cells.injEq] at this
    exact hne this.2.1
section
variable {W W' : World} {base g ma mu : Nat} {U U' : List (Int × Value)} {M M' : Mp} {rv : Int → Value} {kd : Int → List Int}
theorem TreeX.y (h : TreeX W base g ma mu U M) : TreeY W base g ma mu U M (rowV U) (kids M) := ⟨h.blk, h.all, h.und, h.rows, h.apart, h.ne⟩
theorem TreeY.later (h : TreeY W base g ma mu U M rv kd) (hb : Below W.heap.size W W') : TreeY W' base g ma mu U M rv kd :=
  ⟨h.blk.below hb h.blk.lt, h.all.kept (grown_noneH hb) (by simp), h.und.kept (grown_noneH hb) (by simp), fun k => owns_laterH (h.rows k) hb, h.apart, h.ne⟩
theorem TreeY.all_turn (h : TreeY W base g ma mu U M rv kd) (hm : MapI Tryz.prog 3 W' ma (mapV clV M')) (hg : W.grownBy W' (some ma)) : TreeY W' base g ma mu U M' rv kd :=
  ⟨h.blk.grown hg (by simpa using blk_map h.blk h.all), hm, h.und.kept hg (by simpa using h.ne.symm), fun k => (h.rows k).kept hg (row_map (h.rows k) h.all), h.apart, h.ne⟩
theorem TreeY.und_turn (h : TreeY W base g ma mu U M rv kd) (hm : MapI Tryz.prog 3 W' mu U') (hg : W.grownBy W' (some mu)) : TreeY W' base g ma mu U' M rv kd :=
  ⟨h.blk.grown hg (by simpa using blk_map h.blk h.und), h.all.kept hg (by simpa using h.ne), hm, fun k => (h.rows k).kept hg (row_map (h.rows k) h.und), h.apart, h.ne⟩
theorem TreeY.row_new (h : TreeY W base g ma mu U M rv kd) {pa : Int} {v' : Value} {l' : List Int} (ho : W'.ownsRow base 3 1 v' l'.length (l'.map (Value.int .i64))) (hg : W.grownBy W' (rv pa).ownBlock) (hat : v'.ownBlock = (rv pa).ownBlock ∨ v'.ownBlock = some W.heap.size ∨ v'.ownBlock = none) :
    TreeY W' base g ma mu U M (upd rv pa v') (upd kd pa l') := by
  have hrow := h.rows pa
  refine ⟨h.blk.grown hg (fun e => row_blk hrow h.blk (by decide) e.symm), h.all.kept hg ?_, h.und.kept hg ?_, fun k => ?_, fun k k' b hne h1 h2 => ?_, h.ne⟩
  · rcases row_map hrow h.all with e | e
    · rw [e]; simp
    · exact fun e2 => e e2.symm
  · rcases row_map hrow h.und with e | e
    · rw [e]; simp
    · exact fun e2 => e e2.symm
  · unfold upd
    by_cases e : k = pa
    · rw [if_pos e, if_pos e]; exact ho
    · rw [if_neg e, if_neg e]
      refine (h.rows k).kept hg ?_
      cases hv : (rv k).ownBlock with
      | none => exact .inl rfl
      | some b => exact .inr fun e2 => h.apart k pa b e hv e2.symm
  · unfold upd at h1 h2
    have key : ∀ k2, k2 ≠ pa → v'.ownBlock = some b → (rv k2).ownBlock = some b → False := fun k2 hk2 e1 e2 => by
      rcases hat with hat | hat | hat
      · exact h.apart k2 pa b hk2 e2 (by rw [← hat]; exact e1)
      · have := ((h.rows k2).lt b e2).2
        rw [hat] at e1
        cases e1
        omega
      · rw [hat] at e1; cases e1
    by_cases e : k = pa
    · rw [if_pos e] at h1
      rw [if_neg (by rw [← e]; exact hne.symm)] at h2
      exact key k' (by rw [← e]; exact hne.symm) h1 h2
    · rw [if_neg e] at h1
      by_cases e2 : k' = pa
      · rw [if_pos e2] at h2
        exact key k e h2 h1
      · rw [if_neg e2] at h2
        exact h.apart k k' b hne h1 h2
theorem rowV_put (U : List (Int × Value)) (k : Int) (v : Value) : rowV (putM U k v) = upd (rowV U) k v := by
  funext j
  unfold rowV upd
  by_cases e : j = k
  · subst e; rw [look_put_same, if_pos rfl]; rfl
  · rw [look_put_other v e, if_neg e]
theorem rowV_del (U : List (Int × Value)) (k : Int) : rowV (delM U k) = upd (rowV U) k (.slice none 0 0) := by
  funext j
  unfold rowV upd
  by_cases e : j = k
  · subst e; rw [look_del_same, if_pos rfl]; rfl
  · rw [look_del_other e, if_neg e]
theorem kids_upd {M : Mp} (hr : Rising M) {id : Int} {c : Cl} (hn : lookM M id = none) : kids (putM M id c) = upd (kids M) c.1.pa ((kids M c.1.pa).take ((kids M c.1.pa).countP (· < id)) ++ [id] ++ (kids M c.1.pa).drop ((kids M c.1.pa).countP (· < id))) := by
  funext j
  unfold upd
  by_cases e : j = c.1.pa
  · subst e; rw [if_pos rfl, kids_ins hr hn]
  · rw [if_neg e, kids_put_other (fun e2 => e e2.symm) hn]
theorem TreeY.x (h : TreeY W base g ma mu U M (rowV U) (kids M)) (gb : base ≤ g) (ab : base ≤ ma) (ub : base ≤ mu) (hk : ∀ q ∈ U, 0 ≤ q.1 ∧ q.1 ≤ 65535) (hi : InvT M) : TreeX W base g ma mu U M :=
  ⟨h.blk, h.all, h.und, h.rows, h.apart, gb, ab, ub, h.ne, hk, hi⟩
end
/-- what an act hands back -/
def ActW (w : World) (base g ma mu : Nat) (U : List (Int × Value)) (r : Int × Mp) (e : Ending) (w' : World) : Prop :=
  ∃ U', e = .returned (.int .i64 r.1) ∧ TreeX w' base g ma mu U' r.2 ∧ Fr (own ma mu U) w w' ∧ ∀ b, own ma mu U' b → own ma mu U b ∨ w.heap.size ≤ b
theorem ActW.same {w w' : World} {base g ma mu : Nat} {U : List (Int × Value)} {M : Mp} {r : Int × Mp} {er : Int} {e : Ending} (h : TreeX w base g ma mu U M) (hb : Below w.heap.size w w') (he : e = .returned (.int .i64 er)) (hr : r = (er, M)) : ActW w base g ma mu U r e w' := by
  subst hr
  exact ⟨U, he, h.later hb, Fr.of_below hb, fun b hb => .inl hb⟩
/-- an act under way: a box of its own -/
structure ActY (S : Nat → Prop) (w W : World) (base g ma mu : Nat) (U : List (Int × Value)) (M : Mp) (rv : Int → Value) (kd : Int → List Int) (t : TypeId) (cs : Array Value) : Prop where
  tree : TreeY W base g ma mu U M rv kd
  box : Blk W w.heap.size t cs
  fr : Fr S w W
section
variable {S : Nat → Prop} {w W W' : World} {base g ma mu : Nat} {U U' : List (Int × Value)} {M M' : Mp} {rv : Int → Value} {kd : Int → List Int} {t : TypeId} {cs : Array Value}
theorem ActY.later (h : ActY S w W base g ma mu U M rv kd t cs) (hb : Below W.heap.size W W') : ActY S w W' base g ma mu U M rv kd t cs :=
  ⟨h.tree.later hb, h.box.below hb h.box.lt, h.fr.trans (Fr.of_below hb)⟩
theorem ActY.all_turn (h : ActY S w W base g ma mu U M rv kd t cs) (hS : S ma) (hm : MapI Tryz.prog 3 W' ma (mapV clV M')) (hg : W.grownBy W' (some ma)) : ActY S w W' base g ma mu U M' rv kd t cs :=
  ⟨h.tree.all_turn hm hg, h.box.grown hg (by simpa using blk_map h.box h.tree.all), h.fr.trans (Fr.of_grown hg fun b e => by cases e; exact hS)⟩
theorem ActY.und_turn (h : ActY S w W base g ma mu U M rv kd t cs) (hS : S mu) (hm : MapI Tryz.prog 3 W' mu U') (hg : W.grownBy W' (some mu)) : ActY S w W' base g ma mu U' M rv kd t cs :=
  ⟨h.tree.und_turn hm hg, h.box.grown hg (by simpa using blk_map h.box h.tree.und), h.fr.trans (Fr.of_grown hg fun b e => by cases e; exact hS)⟩
theorem ActY.row_new (h : ActY S w W base g ma mu U M rv kd t cs) {pa : Int} {v' : Value} {l' : List Int} (ht : 3 ≠ t) (hS : ∀ b, (rv pa).ownBlock = some b → S b) (ho : W'.ownsRow base 3 1 v' l'.length (l'.map (Value.int .i64))) (hg : W.grownBy W' (rv pa).ownBlock) (hat : v'.ownBlock = (rv pa).ownBlock ∨ v'.ownBlock = some W.heap.size ∨ v'.ownBlock = none) :
    ActY S w W' base g ma mu U M (upd rv pa v') (upd kd pa l') t cs :=
  ⟨h.tree.row_new ho hg hat, h.box.grown hg (fun e => row_blk (h.tree.rows pa) h.box ht e.symm), h.fr.trans (Fr.of_grown hg hS)⟩
end
end Go.Proofs.YtclhhegfffccgaaGreat
