/-
  The book of curves: whether a curve can be kept beside those that are live.
-/
import Derived.Test.YthmhboagbeibdaaGreatAdmKeys
import Derived.Test.YthmhboagbeibdaaGreatConcat
import Derived.Test.YthmhboagbeibdaaGreatRegX
namespace Go.Proofs.YthmhboagbeibdaaGreat
set_option linter.unusedVariables false
open Go.RowKit Go.Maps Go.Sort
attribute [local go_sem ↓] Go.wp_at_zero Go.wp_at_succ
attribute [local go_sem] quietR quietAtR quietUponR midAt midUpon
attribute [local irreducible] TStep HStep

theorem fits_cast {p q : Prop} (h : p) (e : p = q) : q := e ▸ h
theorem owns_later {w w' : World} {base : Nat} {e : TypeId} {sz n : Nat} {v : Value} {xs : List Value} (h : w.ownsRow base e sz v n xs) (hb : Below w.heap.size w w') : w'.ownsRow base e sz v n xs :=
  h.kept (grown_none hb) (by cases hv : v.ownBlock <;> simp)
theorem owns_base {w : World} {base b' : Nat} {e : TypeId} {sz n : Nat} {v : Value} {xs : List Value} (h : w.ownsRow base e sz v n xs) (hb : b' ≤ base) : w.ownsRow b' e sz v n xs := by
  refine ⟨h.1, ?_⟩
  rcases h.2 with h2 | ⟨g, c, cur, e1, h3, h4⟩
  · exact .inl h2
  · exact .inr ⟨g, c, cur, e1, by omega, h4⟩
theorem rows_apart {w : World} {b1 b2 s1 s2 n1 n2 : Nat} {e1 e2 : TypeId} {v1 v2 : Value} {x1 x2 : List Value} (h1 : w.ownsRow b1 e1 s1 v1 n1 x1) (h2 : w.ownsRow b2 e2 s2 v2 n2 x2) (hne : e1 ≠ e2) : v1.ownBlock = none ∨ v1.ownBlock ≠ v2.ownBlock := by
  rcases h1.2 with ⟨rfl, _⟩ | ⟨g, c, cur, rfl, _, h3, _⟩
  · exact .inl rfl
  · rcases h2.2 with ⟨rfl, _⟩ | ⟨g', c', cur', rfl, _, h4, _⟩
    · exact .inr (by simp [Value.ownBlock])
    · refine .inr fun he => ?_
      simp [Value.ownBlock] at he
      subst he
      rw [h3] at h4
      cases h4
      exact hne rfl
theorem cvat_lit {w : World} {B : Nat} {c : Cv} (h : Blk w B 25 #[.int .u64 c.1, .int .u64 c.2.1, .int .u64 c.2.2]) (hu : U c.1 ∧ U c.2.1 ∧ U c.2.2) : CvAt w (.slice (some ⟨B, 0, none⟩) 1 1) [c] := by
  refine ⟨fun d hd => by simp at hd; subst hd; exact hu, by simp, _, _, rfl, .inr ⟨B, 0, rfl, h.lt, by simp, fun i d hi => ?_⟩⟩
  cases i with
  | zero => cases hi; exact ⟨h.cell 0, h.cell 1, h.cell 2⟩
  | succ i => simp at hi

theorem cnone_any (F L R : Int) (w : World) :
    Calls Tryz.prog 21 #[.agg #[.int .u64 F, .int .u64 L, .int .u64 R]] w fun e w' => e = .returned (.bool (decide ((F, L, R) = ((0, 0, 0) : Cv)))) ∧ Below w.heap.size w w' := by
  by_cases h1 : F = 0
  · by_cases h2 : L = 0
    · by_cases h3 : R = 0
      · subst h1 h2 h3
        go_enter Tryz.func21, Tryz.ntmps21
        go_wp2
        go_ret
        exact ⟨rfl, by go_grown⟩
      · go_enter Tryz.func21, Tryz.ntmps21
        go_wp2
        go_ret
        exact ⟨by simp [h3], by go_grown⟩
    · go_enter Tryz.func21, Tryz.ntmps21
      go_wp2
      go_ret
      exact ⟨by simp [h2], by go_grown⟩
  · go_enter Tryz.func21, Tryz.ntmps21
    go_wp2
    go_ret
    exact ⟨by simp [h1], by go_grown⟩

theorem look_at {α : Type} : ∀ {L : List (Int × α)} {i : Nat} {k : Int} {c : α}, Rising L → L[i]? = some (k, c) → lookM L k = some c
  | [], i, k, c, _, h => by simp at h
  | p :: r, i, k, c, hr, h => by
    cases i with
    | zero =>
      simp at h
      subst h
      simp [lookM]
    | succ i =>
      simp at h
      have h1 := (List.pairwise_cons.1 hr).1 _ (List.mem_of_getElem? h)
      have h2 := look_at (List.pairwise_cons.1 hr).2 h
      unfold lookM
      simp only at h1
      rw [if_neg (by omega)]
      exact h2

/-- a book in memory -/
structure BkAt (w : World) (g m : Nat) (r : Int) (L : List (Int × Cv)) (G : List Cv) (vg : Value) : Prop where
  blk : Blk w g 55 #[.int .u64 r, .map (some m), vg]
  map : MapI Tryz.prog 3 w m (mapV cvV L)
  gh : CvAt w vg G
  u : UU (L.map (·.2))
  wf : ∀ p ∈ L, (Lit.int .i64 p.1).wf = true
  few : L.length + G.length ≤ 100000
  rate : 1 ≤ r ∧ r ≤ 1048576
theorem BkAt.later {w w' : World} {g m : Nat} {r : Int} {L : List (Int × Cv)} {G : List Cv} {vg : Value} (h : BkAt w g m r L G vg) (hb : Below w.heap.size w w') : BkAt w' g m r L G vg :=
  ⟨h.blk.below hb h.blk.lt, h.map.kept (grown_none hb) (by simp), h.gh.later hb, h.u, h.wf, h.few, h.rate⟩
theorem BkAt.rising {w : World} {g m : Nat} {r : Int} {L : List (Int × Cv)} {G : List Cv} {vg : Value} (h : BkAt w g m r L G vg) : Rising L := by
  have := h.map.rising (int_keyed Tryz.underlying3)
  unfold Rising mapV at this
  rw [List.pairwise_map] at this
  exact this

theorem bnone_no (g : Nat) (r : Int) (w : World) (hc : w.cell? ⟨g, 0, none⟩ = some (.int .u64 r)) (hr : 1 ≤ r) :
    Calls Tryz.prog 17 #[.pointer (some ⟨g, 0, none⟩)] w fun e w' => e = .returned (.bool false) ∧ w = w' := by
  have h0 : (r == 0) = false := by simp; omega
  go_enter Tryz.func17, Tryz.ntmps17
  go_wp2
  go_ret
  exact ⟨rfl, rfl⟩

/-- those that count: live ones that are not left out -/
def liveBut (L : List (Int × Cv)) (q : Int → Bool) : List Cv := (L.filter fun p => !q p.1).map (·.2)
end Go.Proofs.YthmhboagbeibdaaGreat
