/-
  A row of leaves by eligible ticks and deadlines, in plain words: what is noted and dropped, who is next.
-/
import Derived.Test.YtbnnkkojlclgjaaGreatLlrbAsk
namespace Go.Proofs.YtbnnkkojlclgjaaGreat
set_option linter.unusedVariables false

def dropI (L : List En) (i : Int) : List En := L.filter fun e => !decide (e.1.2 = i)
def putI (L : List En) (i a b : Int) : List En := insE (dropI L i) ((a, i), b)
def getE (L : List En) (i : Int) : Option En := L.find? fun e => decide (e.1.2 = i)
structure InvE (L : List En) : Prop where
  sort : SortE L
  ids : L.Pairwise fun a b => a.1.2 ≠ b.1.2
theorem InvE.nil : InvE [] := ⟨.nil, .nil⟩
theorem getE_some {L : List En} {i : Int} {e : En} (h : getE L i = some e) : e ∈ L ∧ e.1.2 = i := ⟨List.mem_of_find?_eq_some h, by simpa using List.find?_some h⟩
theorem getE_none {L : List En} {i : Int} : getE L i = none ↔ ∀ e ∈ L, e.1.2 ≠ i := by
  unfold getE
  rw [List.find?_eq_none]
  simp
theorem same_id {L : List En} (h : L.Pairwise fun a b => a.1.2 ≠ b.1.2) {x y : En} (hx : x ∈ L) (hy : y ∈ L) (he : x.1.2 = y.1.2) : x = y := by
  induction L with
  | nil => cases hx
  | cons z L ih =>
    have hp := List.pairwise_cons.1 h
    rcases List.mem_cons.1 hx with e1 | hx2
    · rcases List.mem_cons.1 hy with e2 | hy2
      · rw [e1, e2]
      · rw [e1] at he
        exact absurd he (hp.1 y hy2)
    · rcases List.mem_cons.1 hy with e2 | hy2
      · rw [e2] at he
        exact absurd he.symm (hp.1 x hx2)
      · exact ih hp.2 hx2 hy2
theorem getE_mem {L : List En} (h : L.Pairwise fun a b => a.1.2 ≠ b.1.2) {e : En} (he : e ∈ L) : getE L e.1.2 = some e := by
  cases hg : getE L e.1.2 with
  | none => exact absurd rfl (getE_none.1 hg e he)
  | some x =>
    have := getE_some hg
    rw [same_id h this.1 he this.2]
theorem getE_iff {L : List En} (h : L.Pairwise fun a b => a.1.2 ≠ b.1.2) {i : Int} {e : En} : getE L i = some e ↔ e ∈ L ∧ e.1.2 = i :=
  ⟨getE_some, fun hh => by rw [← hh.2]; exact getE_mem h hh.1⟩
theorem mem_drop {L : List En} {i : Int} {e : En} : e ∈ dropI L i ↔ e ∈ L ∧ e.1.2 ≠ i := by
  unfold dropI
  rw [List.mem_filter]
  simp
theorem dropI_not {L : List En} {i : Int} (h : ∀ e ∈ L, e.1.2 ≠ i) : dropI L i = L := by
  unfold dropI
  rw [List.filter_eq_self]
  intro e he
  simpa using h e he
theorem InvE.drop {L : List En} (h : InvE L) (i : Int) : InvE (dropI L i) := ⟨h.sort.filter _, h.ids.filter _⟩
theorem ins_perm (e : En) : ∀ L : List En, (insE L e).Perm (e :: L)
  | [] => .refl _
  | x :: L => by
    unfold insE
    split
    · exact .refl _
    · exact (List.Perm.cons x (ins_perm e L)).trans (.swap e x L)
theorem InvE.put {L : List En} (h : InvE L) (i a b : Int) : InvE (putI L i a b) := by
  have hd := h.drop i
  have hn : ∀ z ∈ dropI L i, z.1.2 ≠ i := fun z hz => (mem_drop.1 hz).2
  refine ⟨sort_ins hd.sort fun z hz e => hn z hz (by rw [e]), ?_⟩
  refine (ins_perm _ _).symm.pairwise (List.pairwise_cons.2 ⟨fun z hz e => hn z hz e.symm, hd.ids⟩) fun hab e => hab e.symm
theorem mem_put {L : List En} {i a b : Int} {z : En} : z ∈ putI L i a b ↔ z = ((a, i), b) ∨ (z ∈ L ∧ z.1.2 ≠ i) := by
  unfold putI
  rw [mem_insE, mem_drop]
theorem get_put {L : List En} (h : InvE L) (i a b j : Int) : getE (putI L i a b) j = if j = i then some ((a, i), b) else getE L j := by
  by_cases hj : j = i
  · rw [if_pos hj, getE_iff (h.put i a b).ids]
    exact ⟨mem_put.2 (.inl rfl), hj.symm⟩
  · rw [if_neg hj]
    refine Option.ext fun e => ?_
    rw [getE_iff (h.put i a b).ids, getE_iff h.ids, mem_put]
    constructor
    · rintro ⟨rfl | ⟨h1, h2⟩, h3⟩
      · exact absurd h3.symm hj
      · exact ⟨h1, h3⟩
    · rintro ⟨h1, h3⟩
      exact ⟨.inr ⟨h1, fun h4 => hj (h3.symm.trans h4)⟩, h3⟩
theorem get_drop {L : List En} (h : InvE L) (i j : Int) : getE (dropI L i) j = if j = i then none else getE L j := by
  by_cases hj : j = i
  · rw [if_pos hj, getE_none]
    exact fun e he h2 => (mem_drop.1 he).2 (h2.trans hj)
  · rw [if_neg hj]
    refine Option.ext fun e => ?_
    rw [getE_iff (h.drop i).ids, getE_iff h.ids, mem_drop]
    exact ⟨fun hh => ⟨hh.1.1, hh.2⟩, fun hh => ⟨⟨hh.1, fun h4 => hj (hh.2.symm.trans h4)⟩, hh.2⟩⟩
theorem del_drop {L : List En} (h : InvE L) {k : Ky} {v : Int} (hk : (k, v) ∈ L) : delE L k = dropI L k.2 := by
  unfold delE dropI
  refine List.filter_congr fun e he => ?_
  have : e.1 = k ↔ e.1.2 = k.2 := ⟨fun hh => by rw [hh], fun hh => by rw [same_id h.ids he hk hh]⟩
  rw [decide_eq_decide.2 this]
theorem ins_length (e : En) (L : List En) : (insE L e).length = L.length + 1 := (ins_perm e L).length_eq
theorem drop_length {L : List En} (h : L.Pairwise fun a b => a.1.2 ≠ b.1.2) {e : En} (he : e ∈ L) : (dropI L e.1.2).length + 1 = L.length := by
  induction L with
  | nil => cases he
  | cons z L ih =>
    have hp := List.pairwise_cons.1 h
    rcases List.mem_cons.1 he with rfl | he
    · unfold dropI
      rw [List.filter_cons_of_neg (by simp)]
      have := dropI_not (i := e.1.2) fun x hx hh => hp.1 x hx hh.symm
      unfold dropI at this
      rw [this]; rfl
    · have hne : z.1.2 ≠ e.1.2 := hp.1 e he
      unfold dropI
      rw [List.filter_cons_of_pos (by simpa using hne)]
      have := ih hp.2 he
      unfold dropI at this
      simp only [List.length_cons]; omega
theorem drop_le (L : List En) (i : Int) : (dropI L i).length ≤ L.length := List.length_filter_le _ _
theorem put_le (L : List En) (i a b : Int) : (putI L i a b).length ≤ L.length + 1 := by
  unfold putI
  rw [ins_length]
  have := drop_le L i
  omega
theorem put_pos (L : List En) (i a b : Int) : 0 < (putI L i a b).length := by
  unfold putI
  rw [ins_length]
  omega

/-! ### Who is next -/
def nextL (now : Int) (L : List En) : Option Ky := (uptoL now L).foldl (fun o e => takeS o (ownE e)) none
theorem fold_least : ∀ (L : List En) (o : Option Ky) (M : List Ky), LeastO o M → LeastO (L.foldl (fun o e => takeS o (ownE e)) o) (M ++ L.map ownE)
  | [], o, M, h => by rw [List.map_nil, List.append_nil]; exact h
  | e :: L, o, M, h => by
    have := fold_least L _ _ (h.take (.one (ownE e)))
    rw [List.append_assoc] at this
    exact this
theorem next_least (now : Int) (L : List En) : LeastO (nextL now L) ((uptoL now L).map ownE) := fold_least _ none [] rfl
theorem upto_next (now : Int) {t : RB} (hs : SortE (listT t)) (hk : SumOk t) : uptoT now t none = nextL now (listT t) := by
  have h := upto_least now t none [] hs hk rfl
  exact LeastO.unique h (next_least now (listT t))
def fstL (L : List En) : Option Int := L.head?.map fun e => e.1.2
theorem mem_upto {now : Int} {L : List En} {e : En} : e ∈ uptoL now L ↔ e ∈ L ∧ e.1.1 ≤ now := by
  unfold uptoL
  rw [List.mem_filter]
  simp
/-- who is next is there, eligible, and none is due ahead of it -/
theorem next_some {now : Int} {L : List En} {h : Ky} (hn : nextL now L = some h) : (∃ a, ((a, h.2), h.1) ∈ L ∧ a ≤ now) ∧ ∀ e ∈ L, e.1.1 ≤ now → ¬ (e.2 < h.1 ∨ (e.2 = h.1 ∧ e.1.2 < h.2)) := by
  have hl := next_least now L
  rw [hn] at hl
  obtain ⟨e, he, hh⟩ := List.mem_map.1 hl.1
  have hm := mem_upto.1 he
  refine ⟨⟨e.1.1, ?_, hm.2⟩, fun x hx hle hlt => ?_⟩
  · rw [← hh]
    exact hm.1
  · have := hl.2 (ownE x) (List.mem_map.2 ⟨x, mem_upto.2 ⟨hx, hle⟩, rfl⟩)
    rw [lessK_iff.2 hlt] at this
    cases this
theorem next_none {now : Int} {L : List En} (hn : nextL now L = none) : ∀ e ∈ L, ¬ e.1.1 ≤ now := by
  have hl := next_least now L
  rw [hn] at hl
  have hl : (uptoL now L).map ownE = [] := hl
  intro e he hle
  have := List.map_eq_nil_iff.1 hl
  have hm := mem_upto.2 ⟨he, hle⟩
  rw [this] at hm
  cases hm
theorem next_is {now : Int} {L : List En} {e : En} (he : e ∈ L) (hle : e.1.1 ≤ now) : (nextL now L).isSome = true := by
  cases hn : nextL now L with
  | none => exact absurd hle (next_none hn e he)
  | some h => rfl
def tickL (L : List En) : Int := match L with
  | [] => 9223372036854775808
  | e :: _ => e.1.1
theorem tick_le {L : List En} (h : SortE L) : ∀ e ∈ L, tickL L ≤ e.1.1 := by
  cases L with
  | nil => intro e he; cases he
  | cons x L =>
    intro e he
    show x.1.1 ≤ e.1.1
    rcases List.mem_cons.1 he with rfl | he
    · omega
    · have := lessK_iff.1 ((List.pairwise_cons.1 h).1 e he)
      omega
end Go.Proofs.YtbnnkkojlclgjaaGreat
