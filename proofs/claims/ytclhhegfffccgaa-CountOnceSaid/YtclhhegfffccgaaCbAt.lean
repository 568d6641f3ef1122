/-
  The document's book of counters: up, down, bytes, where a class stands.
-/
import Derived.Test.YtclhhegfffccgaaCb
import Derived.Test.YtclhhegfffccgaaCountDo
import Derived.Maps.AppendAt
import Derived.ArgAppend
import Derived.Deep.Upon
namespace Go.Proofs.Ytclhhegfffccgaa
set_option linter.unusedVariables false
open Go.RowKit Go.Maps

theorem up_any (n x : Int) (w : World) (h0 : 0 ≤ n) (h1 : n ≤ 4611686018427387904) (hx : 0 ≤ x) (hx2 : x < 18446744073709551616) :
    Calls Try.prog 37 #[.int .u64 n, .int .u64 x] w fun e w' => e = .returned (.int .u64 (sumv n false x)) ∧ w = w' := by
  have hs : sumv n false x = n + min x (4611686018427387904 - n) := rfl
  by_cases h : 4611686018427387904 - n < x
  · have e : sumv n false x = 4611686018427387904 := by rw [hs]; omega
    rw [e]
    clear hs e
    go_enter Try.func37, Try.ntmps37
    go_wp2
    go_ret
    exact ⟨rfl, rfl⟩
  · have e : sumv n false x = n + x := by rw [hs]; omega
    rw [e]
    clear hs e
    go_enter Try.func37, Try.ntmps37
    go_wp2
    go_ret
    exact ⟨rfl, rfl⟩
theorem down_any (n x : Int) (w : World) (h0 : 0 ≤ n) (h1 : n ≤ 4611686018427387904) (hx : 0 ≤ x) (hx2 : x < 18446744073709551616) :
    Calls Try.prog 46 #[.int .u64 n, .int .u64 x] w fun e w' => e = .returned (.int .u64 (sumv n true x)) ∧ w = w' := by
  have hs : sumv n true x = n - min n x := rfl
  by_cases h : n < x
  · have e : sumv n true x = 0 := by rw [hs]; omega
    rw [e]
    clear hs e
    go_enter Try.func46, Try.ntmps46
    go_wp2
    go_ret
    exact ⟨rfl, rfl⟩
  · have e : sumv n true x = n - x := by rw [hs]; omega
    rw [e]
    clear hs e
    go_enter Try.func46, Try.ntmps46
    go_wp2
    go_ret
    exact ⟨rfl, rfl⟩
theorem rbytes_any (i c n t : Int) (w : World) (hn : (Lit.int .i64 n).wf = true) :
    Calls Try.prog 38 #[pktV i c n t] w fun e w' => e = .returned (.int .u64 (max n 0)) ∧ Below w.heap.size w w' := by
  have hw := i64_wf hn
  have hb := (Below.refl w.heap.size w).alloc (Nat.le_refl _) (.cells #[.int .u64 i, .int .i64 c, .int .i64 n, .int .u64 t] 24)
  unfold pktV
  by_cases h : n < 0
  · have e : max n 0 = 0 := by omega
    rw [e]
    clear e
    go_enter Try.func38, Try.ntmps38
    go_wp2
    go_ret
    exact ⟨rfl, hb⟩
  · have e : max n 0 = n := by omega
    rw [e]
    clear e
    have hwr : IntKind.u64.wrap n = n := IntWalk.u64_in _ (by omega)
    go_enter Try.func38, Try.ntmps38
    go_wp2
    go_ret
    exact ⟨rfl, hb⟩
theorem info_class : (Try.prog.info? 60).map (fun i => (i.zero, i.size, i.bytes)) = some (some (.agg #[.int .i64 0, .int .u64 0, .int .u64 0, .int .u64 0, .int .u64 0, .int .u64 0, .int .u64 0, .int .u64 0, .int .u64 0]), 9, 72) := by kernel_rfl
theorem clCells_one (B : Bk) : ∀ u ∈ clCells B, u.oneCell' = true := by
  intro u hu
  unfold clCells at hu
  obtain ⟨p, _, hp⟩ := List.mem_flatMap.1 hu
  simp [clC, stC] at hp
  rcases hp with rfl | rfl | rfl | rfl | rfl | rfl | rfl | rfl | rfl <;> rfl
theorem clCells_append (A B : Bk) : clCells (A ++ B) = clCells A ++ clCells B := by simp [clCells]
theorem app_cls (ty : TypeId) {A B : Bk} {w : World} {v : Value} {base m c : Nat} {a : Option Addr} (hown : w.ownsRow base 60 9 v A.length (clCells A)) (hv : ∃ g cp, v = .slice (some ⟨g, 0, none⟩) A.length cp) (hB : B.length = m)
    (hsrc : m = 0 ∨ ∃ b off, a = some ⟨b, off, none⟩ ∧ ∀ j u, (clCells B)[j]? = some u → w.cell? ⟨b, off + j, none⟩ = some u) (hb : base ≤ w.heap.size) (hl : A.length + B.length ≤ 1000000) :
    ∃ v' w', (Builtin.append_ #[61, 61] ty #[v, .slice a m c]).run Try.prog w = .ok v' w' ∧ w'.ownsRow base 60 9 v' (A ++ B).length (clCells (A ++ B)) ∧ w.grownBy w' v.ownBlock ∧ (v'.ownBlock = v.ownBlock ∨ v'.ownBlock = some w.heap.size) ∧ ∃ g cp, v' = .slice (some ⟨g, 0, none⟩) (A ++ B).length cp := by
  obtain ⟨i0, hi0, hz0, hz1, hz2⟩ := info_parts info_class
  by_cases h0 : m = 0
  · subst h0
    obtain rfl := List.eq_nil_of_length_eq_zero hB
    obtain ⟨g, cp, rfl⟩ := hv
    have hcp : A.length ≤ cp := by
      rcases hown.2 with ⟨h, _⟩ | ⟨g', c', cur, e, _, _, h3, _⟩
      · cases h
      · cases e; exact h3
    refine ⟨_, w, run_append_nothing w _ _ ty _ i0 Try.underlying61 hi0 _ A.length cp hcp _ ?_, by simpa using hown, ⟨rfl, rfl, rfl, Nat.le_refl _, fun _ _ _ => rfl⟩, .inl rfl, g, cp, by simp⟩
    cases a with
    | none => exact Src.ofNil w Try.underlying61 c
    | some ad => exact Src.ofSlice w Try.underlying61 ad 0 c [] (by simp) (fun j u hj => by simp at hj) (fun u hu => by simp at hu)
  · obtain ⟨b, off, rfl, hc⟩ := hsrc.resolve_left h0
    subst hB
    obtain ⟨v', w', hr, ho, hg, _, hat⟩ := run_append_own_at (P := Try.prog) w base 61 ty 60 i0 _ 9 72 Try.underlying61 hi0 hz0 hz1 hz2 rfl (by decide) v A.length (clCells A) hown ⟨b, off, none⟩ B.length c (clCells B) (clCells_len B) (fun j u hj => by rw [Addr.add_lit]; exact hc j u hj) (clCells_one B) (by unfold maxLen; omega) (by omega) hb
    have ho' : w'.ownsRow base 60 9 v' (A ++ B).length (clCells (A ++ B)) := by simpa [clCells_append] using ho
    refine ⟨v', w', hr, ho', hg, hat, ?_⟩
    rcases ho'.2 with ⟨_, h⟩ | ⟨g, cp, cur, e, _⟩
    · exact absurd (by simp at h; simp [h.2]) h0
    · exact ⟨g, cp, e⟩

theorem grown_setC (W : World) (q o : Nat) (v : Value) : W.grownBy (W.setCell ⟨q, o, none⟩ v) (some q) :=
  ⟨rfl, rfl, rfl, by simp [World.setCell], fun k hk hne => Below.heap_setCell W ⟨q, o, none⟩ v k (by show k ≠ q; rintro rfl; exact hne rfl)⟩
/-- blocks of other types stay -/
def KeepD (W W' : World) : Prop := ∀ b t cs, Blk W b t cs → t ≠ 60 → t ≠ 63 → Blk W' b t cs
theorem KeepD.below {W W' : World} (hb : Below W.heap.size W W') : KeepD W W' := fun b t cs h _ _ => h.below hb h.lt
theorem KeepD.trans {A B C : World} (h : KeepD A B) (k : KeepD B C) : KeepD A C := fun b t cs x h1 h2 => k b t cs (h b t cs x h1 h2) h1 h2
/-- where a class stands, once it is put in -/
def RatTo (W : World) (base p : Nat) (B : Bk) (c : Int) (e : Ending) (W' : World) : Prop :=
  ∃ k : Nat, e = .returned (.int .i64 k) ∧ k < (insB B c).length ∧ (insB B c)[k]? = some (c, getB B c) ∧ CbAt W' base p (insB B c) ∧ Below base W W' ∧ KeepD W W'
theorem ok_ins {B : Bk} (h : OkB B) (c : Int) : OkB (insB B c) := by
  unfold insB
  split
  · exact h
  · intro p hp
    rcases putM_mem hp with rfl | hp
    · exact ok_st0
    · exact h p hp
theorem get_look {B : Bk} {c : Int} {s : St} (h : lookM B c = some s) : getB B c = s := by unfold getB; rw [h]; rfl
theorem putM_cut {α : Type} {id : Int} {v : α} : ∀ {L : List (Int × α)} {k : Nat}, lookM L id = none → k ≤ L.length → (∀ x ∈ L.take k, x.1 < id) → (∀ x, L[k]? = some x → id ≤ x.1) → putM L id v = L.take k ++ [(id, v)] ++ L.drop k
  | [], k, _, hk, _, _ => by simp at hk; subst hk; rfl
  | p :: r, k, hn, hk, h1, h2 => by
    have hne : p.1 ≠ id := look_none.1 hn p (.head _)
    have hnr : lookM r id = none := look_none.2 fun q hq => look_none.1 hn q (.tail _ hq)
    cases k with
    | zero =>
      have := h2 p (by simp)
      unfold putM
      rw [if_pos (by omega)]
      rfl
    | succ k =>
      have hlt := h1 p (by simp)
      have ih := putM_cut (v := v) (L := r) (k := k) hnr (by simpa using hk) (fun x hx => h1 x (by rw [List.take_succ_cons]; exact List.mem_cons_of_mem _ hx)) (fun x hx => h2 x (by simpa using hx))
      unfold putM
      rw [if_neg (by omega), if_neg hne, ih]
      rfl
theorem CbAt.cellsOf {W : World} {g : Nat} {cur : Array Value} {B : Bk} (h2 : Blk W g 60 cur) (h3 : ClIn cur B) : ∀ j u, (clCells B)[j]? = some u → W.cell? ⟨g, j, none⟩ = some u := fun j u hj => by
  have hl : j < B.length * 9 := by have := (List.getElem?_eq_some_iff.1 hj).1; rwa [clCells_len] at this
  rw [h2.cell j, ← Array.getElem?_toList]
  rw [← h3.list, List.getElem?_take_of_lt hl] at hj
  exact hj
theorem clCells_drop (B : Bk) : ∀ k j, (clCells (B.drop k))[j]? = (clCells B)[k * 9 + j]? := by
  induction B with
  | nil => intro k j; simp [clCells]
  | cons p B ih =>
    intro k j
    cases k with
    | zero => simp
    | succ k =>
      have e : clCells (p :: B) = clC p ++ clCells B := rfl
      rw [List.drop_succ_cons, ih, e, List.getElem?_append_right (by rw [clC_len]; omega), clC_len]
      congr 1
      omega
theorem clCells_take (B : Bk) : ∀ k, (clCells B).take (k * 9) = clCells (B.take k) := by
  induction B with
  | nil => intro k; simp [clCells]
  | cons p B ih =>
    intro k
    cases k with
    | zero => simp [clCells]
    | succ k =>
      have e : clCells (p :: B) = clC p ++ clCells B := rfl
      have e2 : clCells ((p :: B).take (k + 1)) = clC p ++ clCells (B.take k) := rfl
      rw [e, e2, List.take_append, clC_len, List.take_of_length_le (by rw [clC_len]; omega), show (k + 1) * 9 - 9 = k * 9 by omega, ih]
theorem owns_takeC {w : World} {base g cap m sz at_ : Nat} {e : TypeId} {xs : List Value} (h : w.ownsRow base e sz (.slice (some ⟨g, 0, none⟩) m cap) m xs) (ha : at_ ≤ m) :
    w.ownsRow base e sz (.slice (some ⟨g, 0, none⟩) at_ cap) at_ (xs.take (at_ * sz)) := by
  obtain ⟨h1, h2⟩ := h
  have hm : at_ * sz ≤ m * sz := Nat.mul_le_mul_right sz ha
  refine ⟨by rw [List.length_take]; omega, ?_⟩
  rcases h2 with ⟨h2, _⟩ | ⟨g', c', cur, e', h3, h4, h5, h6, h7, h8⟩
  · cases h2
  · simp only [Value.slice.injEq, Option.some.injEq, Addr.mk.injEq, and_true, true_and] at e'
    obtain ⟨rfl, rfl⟩ := e'
    exact .inr ⟨_, _, cur, rfl, h3, h4, by omega, h6, h7, by rw [← h8, List.take_take, Nat.min_eq_left hm]⟩
theorem CbAt.owns {W : World} {base g cap : Nat} {cur : Array Value} {B : Bk} (h2 : Blk W g 60 cur) (h3 : ClIn cur B) (h4 : B.length ≤ cap) (h5 : cur.size = cap * 9) (h6 : cap ≤ maxLen) (h7 : base ≤ g) : W.ownsRow base 60 9 (.slice (some ⟨g, 0, none⟩) B.length cap) B.length (clCells B) :=
  ⟨clCells_len B, .inr ⟨g, cap, cur, rfl, h7, h2, h4, h6, h5, h3.list⟩⟩
/-- the row is another one -/
theorem CbAt.of {W : World} {base p g cap : Nat} {v0 : Value} {B : Bk} (hp : Blk W p 63 #[v0]) (ho : W.ownsRow base 60 9 (.slice (some ⟨g, 0, none⟩) B.length cap) B.length (clCells B)) (hB : OkB B) (hpb : base ≤ p) : CbAt (W.setCell ⟨p, 0, none⟩ (.slice (some ⟨g, 0, none⟩) B.length cap)) base p B := by
  rcases ho.2 with ⟨e, _⟩ | ⟨g', c', cur, e, h3, h4, h5, h6, h7, h8⟩
  · cases e
  · simp only [Value.slice.injEq, Option.some.injEq, Addr.mk.injEq, and_true, true_and] at e
    obtain ⟨rfl, rfl⟩ := e
    have hne : g ≠ p := by
      rintro rfl
      have := hp.symm.trans h4
      simp at this
    have hset : (W.setCell ⟨p, 0, none⟩ (.slice (some ⟨g, 0, none⟩) B.length cap)).heap[g]? = W.heap[g]? := Below.heap_setCell W ⟨p, 0, none⟩ _ g hne
    exact ⟨⟨g, cap, cur, by simpa using hp.set_ 0 (.slice (some ⟨g, 0, none⟩) B.length cap), hset.trans h4, ClIn.of_list h8, h5, h7, h6, h3⟩, hpb, hB⟩
end Go.Proofs.Ytclhhegfffccgaa
