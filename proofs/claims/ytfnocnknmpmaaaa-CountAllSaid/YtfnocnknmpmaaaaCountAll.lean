/-
  CountAll: the law's walk.
-/
import Derived.Test.YtfnocnknmpmaaaaCountAPlain
import Derived.Test.YtfnocnknmpmaaaaCountQ
import Derived.Test.YtfnocnknmpmaaaaCountTurned
namespace Go.Proofs.Ytfnocnknmpmaaaa
set_option linter.unusedVariables false
open Go.RowKit
attribute [local go_sem ↓] Go.wp_at_zero Go.wp_at_succ

/-- append at a step of a region that draws its order, onto such a row -/
theorem step_append_q {w : World} {ops : Array Oper} {o : Oper} {a : Act} {K : Act → World → Prop} {Q : Exit → Act → World → Prop} {E : Prop} (hgd : o.guard = none) (s x : Operand)
    (ho : o.op = .call { callee := .builtin .append, args := #[s, x], argTypes := #[37, 37] }) {base : Nat} {v : Value} {l : List CAct} (B : Nat) (q : CAct)
    (hs : a.eval s = v) (hx : a.eval x = .slice (some ⟨B, 0, none⟩) 1 1) (h0 : QAt w base v l) (hB : Blk w B 24 (pkC q).toArray) (hb : base ≤ w.heap.size) (hl : l.length < 1000000)
    (h : ∀ v' w', QAt w' base v' (l ++ [q]) → w.grownBy w' v.ownBlock → (v'.ownBlock = v.ownBlock ∨ ∃ k, v'.ownBlock = some k ∧ w.heap.size ≤ k) → K (a.put o.dst v') w') :
    if Region.wanted o (yielded ops a.tmps) = true then Oper.wp Try.prog o a w K Q else E := by
  have hw : Region.wanted o (yielded ops a.tmps) = true := by simp [Region.wanted, hgd]
  rw [if_pos hw]
  obtain ⟨v', w', hr, h1, h2, h3⟩ := h0.append o.type B q hB hb hl
  unfold Oper.wp execOp
  simp only [ho, resolve, invoke, builtin, Sem.run_bind, Sem.run_pure, Result.andThen_ok, List.map_toArray, List.map_cons, List.map_nil, hs, hx, hr]
  exact h v' w' h1 h2 h3

structure AAt (w W : World) (g m ar base : Nat) (s : AS) (vs : Array Value) : Prop where
  book : BookAt W g m s.B
  below : Below w.heap.size w W
  lo : w.heap.size ≤ m
  la : w.heap.size ≤ ar
  gb : g < base
  mb : m < base
  ab : ar < base
  am : ar ≠ m
  ag : g ≠ ar
  hW : base ≤ W.heap.size
  arr : Blk W ar 38 vs
  sz : vs.size = 61
  q : ∀ c : Nat, c < 61 → ∃ v, vs[c]? = some v ∧ QAt W base v (s.Q c)
  ap : ∀ (c c' : Nat) v v', c ≠ c' → vs[c]? = some v → vs[c']? = some v' → ∀ k, v.ownBlock = some k → v'.ownBlock ≠ some k
theorem own_ne' {w : World} {base m : Nat} {v : Value} {l : List CAct} (h : QAt w base v l) (hm : m < base) : v.ownBlock = none ∨ v.ownBlock ≠ some m := by
  cases e : v.ownBlock with
  | none => exact .inl rfl
  | some k => right; have := (h.block k e).1; intro h2; cases h2; omega
theorem AAt.later {w W W' : World} {g m ar base : Nat} {s : AS} {vs : Array Value} (h : AAt w W g m ar base s vs) (hb : Below W.heap.size W W') : AAt w W' g m ar base s vs :=
  ⟨h.book.grown (grown_none hb), h.below.trans (hb.mono h.below.size), h.lo, h.la, h.gb, h.mb, h.ab, h.am, h.ag, Nat.le_trans h.hW hb.size, h.arr.below hb h.arr.lt, h.sz,
    fun c hc => by obtain ⟨v, e, hq⟩ := h.q c hc; exact ⟨v, e, hq.kept (grown_none hb) (by cases v.ownBlock <;> simp)⟩, h.ap⟩
theorem AAt.told {w W W' : World} {g m ar base : Nat} {s : AS} {vs : Array Value} {B' : Bk} (h : AAt w W g m ar base s vs) (hT : TellAt W g m B' W') : AAt w W' g m ar base ⟨B', s.Q⟩ vs :=
  ⟨hT.book, h.below.grown hT.grown h.below.size (fun k e => by cases e; exact h.lo), h.lo, h.la, h.gb, h.mb, h.ab, h.am, h.ag, Nat.le_trans h.hW hT.grown.size, h.arr.grown hT.grown (by simp [h.am]), h.sz,
    fun c hc => by obtain ⟨v, e, hq⟩ := h.q c hc; exact ⟨v, e, hq.kept hT.grown (own_ne' hq h.mb)⟩, h.ap⟩
theorem set_get {vs : Array Value} {c c' : Nat} {v u : Value} (hsz : c < vs.size) (h : (vs.setIfInBounds c u)[c']? = some v) : (c' = c ∧ v = u) ∨ (c' ≠ c ∧ vs[c']? = some v) := by
  rw [Array.getElem?_setIfInBounds] at h
  by_cases e : c = c'
  · rw [if_pos e, if_pos hsz] at h; cases h
    exact .inl ⟨e.symm, rfl⟩
  · rw [if_neg e] at h
    exact .inr ⟨fun x => e x.symm, h⟩
/-- a row's slot is written: with a row that lies where it lay, or in new memory -/
theorem AAt.put {w W W1 : World} {g m ar base : Nat} {s : AS} {vs : Array Value} {c : Nat} {v v' : Value} {l : List CAct} (h : AAt w W g m ar base s vs) (hc : c < 61) (hv : vs[c]? = some v)
    (hq : QAt W1 base v' l) (hg : W.grownBy W1 v.ownBlock) (hv' : v'.ownBlock = v.ownBlock ∨ ∃ k, v'.ownBlock = some k ∧ W.heap.size ≤ k) :
    AAt w (W1.setCell ⟨ar, c, none⟩ v') g m ar base ⟨s.B, setQ s.Q c l⟩ (vs.setIfInBounds c v') := by
  obtain ⟨v0, e0, hq0⟩ := h.q c hc
  obtain rfl : v0 = v := Option.some.inj (e0.symm.trans hv)
  have hrow : ∀ k, v0.ownBlock = some k → base ≤ k := fun k e => (hq0.block k e).1
  have hne : ∀ x, x < base → some x ≠ v0.ownBlock := fun x hx e => by have := hrow x e.symm; omega
  have hset := grownBy_setC W1 ar c v'
  have hlt := h.arr.lt
  refine ⟨?_, ?_, h.lo, h.la, h.gb, h.mb, h.ab, h.am, h.ag, ?_, ?_, by simp [h.sz], ?_, ?_⟩
  · have hb1 : BookAt W1 g m s.B := ⟨h.book.blk.grown hg (hne g h.gb), h.book.map.kept hg (hne m h.mb), h.book.ok⟩
    exact hb1.kept hset h.ag (Ne.symm h.am)
  · exact (h.below.grown hg h.below.size (fun k e => by have := hrow k e; have := h.la; have := h.ab; omega)).grown hset (by have := hg.size; have := h.below.size; omega) (fun k e => by cases e; exact h.la)
  · have := hg.size; have := hset.size; have := h.hW; omega
  · exact (h.arr.grown hg (hne ar h.ab)).set_ c v'
  · intro c' hc'
    by_cases e : c' = c
    · subst e
      refine ⟨v', by rw [Array.getElem?_setIfInBounds, if_pos rfl, if_pos (by rw [h.sz]; exact hc)], ?_⟩
      dsimp only [setQ]
      rw [if_pos rfl]
      exact hq.kept hset (own_ne' hq h.ab)
    · obtain ⟨u, e1, hu⟩ := h.q c' hc'
      refine ⟨u, by rw [Array.getElem?_setIfInBounds, if_neg (fun x => e x.symm)]; exact e1, ?_⟩
      dsimp only [setQ]
      rw [if_neg (by omega)]
      have hu1 : QAt W1 base u (s.Q c') := hu.kept hg (by
        cases e2 : u.ownBlock with
        | none => exact .inl rfl
        | some k => right; intro e3; exact h.ap c' c u v0 e e1 hv k e2 e3.symm)
      exact hu1.kept hset (own_ne' hu1 h.ab)
  · intro c1 c2 u1 u2 hne12 h1 h2 k hk
    rcases set_get (by rw [h.sz]; exact hc) h1 with ⟨a1, rfl⟩ | ⟨a1, a2⟩
    · rcases set_get (by rw [h.sz]; exact hc) h2 with ⟨b1, _⟩ | ⟨b1, b2⟩
      · exact absurd (a1.trans b1.symm) hne12
      · rcases hv' with hv' | ⟨k', hv', hk'⟩
        · rw [hv'] at hk; exact h.ap c c2 v0 u2 (fun e => b1 e.symm) hv b2 k hk
        · rw [hv'] at hk; cases hk
          intro e
          have hc2 : c2 < 61 := by have := (Array.getElem?_eq_some_iff.1 b2).1; rw [h.sz] at this; exact this
          obtain ⟨u, e1, hu⟩ := h.q c2 hc2
          obtain rfl : u = u2 := Option.some.inj (e1.symm.trans b2)
          have := (hu.block _ e).2.1; omega
    · rcases set_get (by rw [h.sz]; exact hc) h2 with ⟨b1, rfl⟩ | ⟨b1, b2⟩
      · rcases hv' with hv' | ⟨k', hv', hk'⟩
        · rw [hv']; exact h.ap c1 c u1 v0 a1 a2 hv k hk
        · rw [hv']; intro e; cases e
          have hc1 : c1 < 61 := by have := (Array.getElem?_eq_some_iff.1 a2).1; rw [h.sz] at this; exact this
          obtain ⟨u, e1, hu⟩ := h.q c1 hc1
          obtain rfl : u = u1 := Option.some.inj (e1.symm.trans a2)
          have := (hu.block _ hk).2.1; omega
      · exact h.ap c1 c2 u1 u2 hne12 a2 b2 k hk
theorem AAt.box {w W W' : World} {g m ar base x : Nat} {s : AS} {vs cs : Array Value} {row : Nat} (h : AAt w W g m ar base s vs) (hx : Blk W x 40 cs) (hg : W.grownBy W' (some x)) (hlo : w.heap.size ≤ x) (h1 : g ≠ x) (h2 : m ≠ x) (h3 : ar ≠ x) (hr : row = x) :
    AAt w W' g m ar base s vs :=
  ⟨h.book.kept hg h1 h2, h.below.grown hg h.below.size (fun k e => by cases e; exact hlo), h.lo, h.la, h.gb, h.mb, h.ab, h.am, h.ag, Nat.le_trans h.hW hg.size, h.arr.grown hg (by simp [h3]), h.sz,
    fun c hc => (by
      obtain ⟨v, e, hq⟩ := h.q c hc
      refine ⟨v, e, hq.kept hg ?_⟩
      cases e2 : v.ownBlock with
      | none => exact .inl rfl
      | some k =>
        right; intro e3; cases e3
        obtain ⟨_, _, cur, hc2⟩ := hq.block _ e2
        unfold Blk at hx
        rw [hx] at hc2; cases hc2), h.ap⟩
/-- behind a packet's coming to wait -/
def MidA (w W : World) (g m ar base : Nat) (s : AS) (bx : Nat) (q : CAct) : Prop :=
  ∃ vs, AAt w W g m ar base s vs ∧ Blk W bx 40 #[.int .u8 q.k, .int .u8 q.r, .int .u64 q.i, .int .i64 q.c, .int .i64 q.n, .int .u64 q.t]
def afold (l : List CAct) (k : Nat) : AS := (l.take k).foldl astep as0
theorem afold_succ {l : List CAct} {k : Nat} {q : CAct} (h : l[k]? = some q) : afold l (k + 1) = astep (afold l k) q := by
  unfold afold; rw [List.take_add_one, h]; simp

theorem afold_ne : ∀ (l : List CAct) (s : AS), s.B ≠ [] → (l.foldl astep s).B ≠ []
  | [], s, h => h
  | a :: l, s, h => afold_ne l _ (by
    unfold astep
    split
    · exact tellA_ne _ _ h
    · split
      · split
        · exact h
        · exact tellA_ne _ _ h
      · exact tellA_ne _ _ h)
set_option maxRecDepth 100000 in
set_option maxHeartbeats 1000000 in
/-- two counts together -/
theorem plus_any (s t : St) (w : World) (hs : ∀ f, f < 8 → 0 ≤ s f ∧ s f ≤ 4611686018427387904) (ht : ∀ f, f < 8 → 0 ≤ t f ∧ t f ≤ 4611686018427387904) :
    Calls Try.prog 29 #[stV s, stV t] w fun e w' => e = .returned (stV fun f => s f + t f) ∧ Below w.heap.size w w' := by
  have s0 := hs 0 (by omega); have s1 := hs 1 (by omega); have s2 := hs 2 (by omega); have s3 := hs 3 (by omega); have s4 := hs 4 (by omega); have s5 := hs 5 (by omega); have s6 := hs 6 (by omega); have s7 := hs 7 (by omega)
  have t0 := ht 0 (by omega); have t1 := ht 1 (by omega); have t2 := ht 2 (by omega); have t3 := ht 3 (by omega); have t4 := ht 4 (by omega); have t5 := ht 5 (by omega); have t6 := ht 6 (by omega); have t7 := ht 7 (by omega)
  clear hs ht
  unfold stV stC
  go_enter Try.func29, Try.ntmps29
  go_wp2
  refine bodyPost_ret (v := stV fun f => s f + t f) (by simp [results, Try.results29, go_sem, stV, stC]) rfl ⟨rfl, ?_⟩
  go_grown

def stI (a : Nat → Int) : Array Value := #[.int .u64 (a 0), .int .u64 (a 1), .int .u64 (a 2), .int .u64 (a 3), .int .u64 (a 4), .int .u64 (a 5), .int .u64 (a 6), .int .u64 (a 7)]
/-- between two rounds of the second loop -/
structure SumAt (w W : World) (g m sb gb : Nat) (s : AS) (j : Nat) : Prop where
  book : BookAt W g m s.B
  below : Below w.heap.size w W
  sum : Blk W sb 44 (stC fun f => idSum s.B ((idsB s.B).take j) f)
  ids : ∀ i x, (idsB s.B)[i]? = some x → W.cell? ⟨gb, i, none⟩ = some (.int .i64 x)
  hs : w.heap.size ≤ sb
  hg : g ≠ sb
  hm : m ≠ sb
  hgb : gb ≠ sb
  lt : gb < W.heap.size
theorem SumAt.later {w W W' : World} {g m sb gb : Nat} {s : AS} {j : Nat} (h : SumAt w W g m sb gb s j) (hb : Below W.heap.size W W') : SumAt w W' g m sb gb s j :=
  ⟨h.book.grown (grown_none hb), h.below.trans (hb.mono h.below.size), h.sum.below hb h.sum.lt, fun i x hx => (hb.cell (p := ⟨gb, i, none⟩) h.lt).trans (h.ids i x hx), h.hs, h.hg, h.hm, h.hgb, Nat.lt_of_lt_of_le h.lt hb.size⟩
theorem SumAt.set_ {w W W' : World} {g m sb gb : Nat} {s : AS} {j : Nat} (h : SumAt w W g m sb gb s j) (hg : W.grownBy W' (some sb)) (hS : Blk W' sb 44 (stC fun f => idSum s.B ((idsB s.B).take (j + 1)) f)) : SumAt w W' g m sb gb s (j + 1) :=
  ⟨h.book.kept hg h.hg h.hm, h.below.grown hg h.below.size (fun k e => by cases e; exact h.hs), hS, fun i x hx => (hg.cell_far ⟨gb, i, none⟩ h.lt (by simp [h.hgb])).trans (h.ids i x hx), h.hs, h.hg, h.hm, h.hgb, Nat.lt_of_lt_of_le h.lt hg.size⟩
def zeros61 : Array Value := Array.replicate 61 (.slice none 0 0)
set_option maxRecDepth 100000 in
set_option maxHeartbeats 8000000 in
theorem countAll_any (a : Option Addr) (len cap : Nat) (l : List CAct) (w : World) (hl : len ≤ 9223372036854775807) (hz : CActsAt w a len l) :
    Calls Try.prog 4 #[.slice a len cap] w fun e w' => e = .returned (.bool true) ∧ Below w.heap.size w w' := by
  go_enter Try.func4, Try.ntmps4
  go_wp2_with fail
  refine (awake_any _).mono ?_
  rintro e w1 ⟨rfl, hb1⟩
  go_wp2_with fail
  refine (long_any a len cap _ hl).mono ?_
  rintro e w' ⟨rfl, rfl⟩
  by_cases hlong : 200 < len
  · have hd : decide (200 < len) = true := decide_eq_true hlong
    rw [hd]
    go_wp2_with fail
    go_ret
    exact ⟨rfl, hb1⟩
  · have hd : decide (200 < len) = false := decide_eq_false hlong
    rw [hd]
    clear hd
    go_wp2_with fail
    refine (new_any _).mono ?_
    rintro e w2 ⟨g, m, rfl, hB1, hb2, hg1, hm1⟩
    have h2 : AAt w (w2.alloc (.cells zeros61 38)) g m w2.heap.size (w2.heap.size + 1) as0 zeros61 := by
      have hl1 := hB1.map.lt; have hl2 := hB1.blk.lt
      have hbb := hb1.trans (hb2.mono hb1.size)
      refine ⟨hB1.grown (World.grownBy_alloc _ _ _), hbb.alloc hbb.size _, Nat.le_trans hb1.size hm1, Nat.le_trans hb1.size hb2.size, by omega, by omega, by omega, by omega, by omega, by simp, Blk.new _ _ _, by simp [zeros61], fun c hc => ⟨.slice none 0 0, by simp [zeros61, hc], QAt.nil _ _⟩, fun c c' v v' _ hv _ k e => ?_⟩
      have : v = .slice none 0 0 := by
        unfold zeros61 at hv
        rw [Array.getElem?_replicate] at hv
        split at hv
        · cases hv; rfl
        · cases hv
      rw [this] at e; simp [Value.ownBlock] at e
    have H2 := Lib.hid h2
    clear hB1 hb2 hg1 hm1 h2 hb1
    have hlen := hz.1
    have hzl : ∀ k q, l[k]? = some q → CFit q := fun k q hq => hz.2.1 q (List.mem_of_getElem? hq)
    go_wp2_with fail
    go_loopw [5] (fun iv W => ∃ (k : Nat) (s : AS) (vs : Array Value), k ≤ len ∧ iv = .int .i64 k ∧ s = afold l k ∧ AAt w W g m w2.heap.size (w2.heap.size + 1) s vs ∧ AInv k s) (fun iv _ => len - (intOf iv).toNat)
    case atStart => exact ⟨0, as0, zeros61, by omega, rfl, rfl, H2.out, ainv0⟩
    case round =>
      obtain ⟨k, s, vs, hk, rfl, hs, hT, hI⟩ := hrel
      have HS := Lib.hid hs
      have HI := Lib.hid hI
      clear hs hI
      by_cases hlt : k < len
      · obtain ⟨q, hq⟩ : ∃ q, l[k]? = some q := ⟨_, List.getElem?_eq_getElem (by omega)⟩
        have hcells := (hz.below hT.below).2.2
        have hqf := hzl k q hq
        rcases hcells with h0 | ⟨b, off, rfl, hbl, hcells⟩
        · omega
        · obtain ⟨c0, c1, c2, c3, c4, c5⟩ := hcells k q hq
          clear hcells
          have HT := Lib.hid hT
          clear hT
          go_wp2_with fail
          refine (fits_any q _).mono ?_
          rintro e w5 ⟨rfl, hb5⟩
          have hA := (Blk.new wr 40 #[.int .u8 q.k, .int .u8 q.r, .int .u64 q.i, .int .i64 q.c, .int .i64 q.n, .int .u64 q.t]).below hb5 (by simp)
          have HT5 := Lib.hid ((HT.out.later ((Below.refl _ wr).alloc (Nat.le_refl _) _)).later hb5)
          clear hb5 c0 c1 c2 c3 c4 c5
          cases hf : fitB q
          · go_wp2_with fail
            go_ret
            exact ⟨rfl, HT5.out.below⟩
          · have hfc := fit_c hf
            have hfn : 0 ≤ q.n ∧ q.n < 65536 := by unfold fitB at hf; have := of_decide_eq_true hf; omega
            obtain ⟨hn0, hn1⟩ := hfn
            have HA := Lib.hid hA
            have d0 := hA.cell 0; have d1 := hA.cell 1; have d2 := hA.cell 2; have d3 := hA.cell 3; have d4 := hA.cell 4; have d5 := hA.cell 5
            simp only [List.getElem?_toArray, List.getElem?_cons_zero, List.getElem?_cons_succ] at d0 d1 d2 d3 d4 d5
            clear hA
            have hw := ainv_step HI.out hf hqf (by omega)
            have HW := Lib.hid hw
            clear hw
            have hs2 : astep s q = afold l (k + 1) := by rw [afold_succ hq, ← HS.out]
            have HS2 := Lib.hid hs2
            clear hs2
            obtain ⟨cn, hcn⟩ : ∃ cn : Nat, q.c = (cn : Int) := ⟨q.c.toNat, by omega⟩
            have hcn1 : cn < 61 := by omega
            have hbm : wr.heap.size ≠ m := by have := HT.out.mb; have := HT.out.hW; omega
            have hba : wr.heap.size ≠ w2.heap.size := by have := HT.out.ab; have := HT.out.hW; omega
            obtain ⟨vq, hvq, hqq⟩ := HT5.out.q cn hcn1
            have cA := HT5.out.arr.cell cn
            have zA := HT5.out.arr.frozen cn
            rw [hvq] at cA
            have hk0 := hqf.1.1; have hk1 := hqf.1.2
            obtain ⟨r, hr⟩ : ∃ r, q.k % 6 = r := ⟨_, rfl⟩
            have hr1 : 0 ≤ r := by omega
            have hr2 : r < 6 := by omega
            have HR := Lib.hid hr
            have HCN := Lib.hid hcn
            rw [hcn] at d3
            rw [← hcn] at d3
            have HQQ := Lib.hid hqq
            have HVQ := Lib.hid hvq
            clear hqq hvq
            rcases (by omega : r = 0 ∨ r = 2 ∨ (r = 1 ∨ r = 3 ∨ r = 4 ∨ r = 5)) with rfl | rfl | hr3
            · go_upto_region 15 with (fail)
              go_cut [43] (fun v43 wx => MidA w wx g m w2.heap.size (w2.heap.size + 1) ⟨s.B, setQ s.Q cn (s.Q cn ++ [q])⟩ wr.heap.size q)
              case first =>
                have hQB : ∀ W : World, Below w5.heap.size w5 W → QAt W (w2.heap.size + 1) vq (s.Q cn) := fun W hb => HQQ.out.kept (grown_none hb) (by cases vq.ownBlock <;> simp)
                have HQB := Lib.hid hQB
                have hbase := HT5.out.hW
                have hqlen : (s.Q cn).length < 1000000 := by have := HI.out.few cn; omega
                have hAx := HT5.out.ab
                have hne1 : ∀ k, vq.ownBlock = some k → k ≠ w2.heap.size ∧ k ≠ wr.heap.size := by
                  intro k hk
                  obtain ⟨h1, h2, cur, h3⟩ := HQQ.out.block k hk
                  refine ⟨by omega, fun e => ?_⟩
                  have h4 := HA.out
                  unfold Blk at h4
                  rw [e, h4] at h3; cases h3
                have hAR : ∀ W W7 : World, Below w5.heap.size w5 W → W.grownBy W7 vq.ownBlock → Blk W7 w2.heap.size 38 vs ∧ Blk W7 wr.heap.size 40 #[.int .u8 q.k, .int .u8 q.r, .int .u64 q.i, .int .i64 q.c, .int .i64 q.n, .int .u64 q.t] := fun W W7 hb hg =>
                  ⟨(HT5.out.arr.below hb HT5.out.arr.lt).grown hg (fun e => (hne1 _ e.symm).1 rfl), (HA.out.below hb HA.out.lt).grown hg (fun e => (hne1 _ e.symm).2 rfl)⟩
                have hBk : ∀ W : World, Below (w5.heap.size + 1) (w5.alloc (.cells #[.int .u64 q.i, .int .i64 (cn : Int), .int .i64 q.n, .int .u64 q.t] 24)) W → Blk W w5.heap.size 24 (pkC q).toArray := fun W hb => by
                  unfold pkC; rw [HCN.out]
                  exact (Blk.new w5 _ _).below hb (by omega)
                have hPUT : ∀ W W7 v7, Below w5.heap.size w5 W → QAt W7 (w2.heap.size + 1) v7 (s.Q cn ++ [q]) → W.grownBy W7 vq.ownBlock → (v7.ownBlock = vq.ownBlock ∨ ∃ k, v7.ownBlock = some k ∧ W.heap.size ≤ k) → MidA w (W7.setCell ⟨w2.heap.size, cn, none⟩ v7) g m w2.heap.size (w2.heap.size + 1) ⟨s.B, setQ s.Q cn (s.Q cn ++ [q])⟩ wr.heap.size q := fun W W7 v7 hb hq hg hv =>
                  ⟨_, (HT5.out.later hb).put hcn1 HVQ.out hq hg hv, (hAR W W7 hb hg).2.far (by show wr.heap.size ≠ w2.heap.size; exact hba) _⟩
                have HAR := Lib.hid hAR; have HBK := Lib.hid hBk; have HPUT := Lib.hid hPUT
                have hvq2 := HVQ.out
                clear hQB hne1 hAR hBk hPUT
                have HV2 := Lib.hid hvq2
                clear hvq2
                have hi0 : ((cn : Int) < 61) := by omega
                have hi1 : decide ((cn : Int) < 61) = true := decide_eq_true hi0
                have hali : w2.heap.size < w5.heap.size := by omega
                have cA2 : ∀ n o, ((w5.drewN n).alloc o).cell? ⟨w2.heap.size, cn, none⟩ = some vq := fun n o => ((below_drewN (Below.refl w5.heap.size w5) n).alloc (Nat.le_refl _) o).cell (p := ⟨w2.heap.size, cn, none⟩) hali |>.trans cA
                go_region_law (refine step_append_q rfl (.tmp 39) (.tmp 42) rfl _ q rfl rfl (HQB.out _ (by go_grown <;> exact below_drewN (Below.refl _ _) _)) (HBK.out _ (by first | exact (Below.refl _ _).drew | exact below_drewN (Below.refl _ _) _ | exact Below.refl _ _)) (by simp; omega) hqlen ?_; intro v7 w7 hq7 hg7 hv7; obtain ⟨p7, k7, rfl⟩ : ∃ p c, v7 = .slice p ((s.Q cn).length + 1) c := (by simpa using hq7.form); have hB7 := (HAR.out _ w7 (by go_grown <;> exact below_drewN (Below.refl _ _) _) hg7).1; have e7 := hB7.cell cn; have f7 := hB7.frozen cn; rw [HV2.out] at e7)
                all_goals
                  go_wp2
                  go_meet
                  exact HPUT.out _ _ _ (by go_grown <;> exact below_drewN (Below.refl _ _) _) hq7 hg7 hv7
              case rest =>
                obtain ⟨vs', hA', hbx⟩ := hcut
                have hst : astep s q = ⟨tellA s.B q, setQ s.Q cn (s.Q cn ++ [q])⟩ := by unfold astep; rw [if_pos HR.out, HCN.out]
                rw [hst] at HS2 HW
                have hkr := HR.out
                clear hst d0 d1 d2 d3 d4 d5 cA zA
                have d0 := hbx.cell 0; have d1 := hbx.cell 1; have d2 := hbx.cell 2; have d3 := hbx.cell 3; have d4 := hbx.cell 4; have d5 := hbx.cell 5
                simp only [List.getElem?_toArray, List.getElem?_cons_zero, List.getElem?_cons_succ] at d0 d1 d2 d3 d4 d5
                have HX := Lib.hid hA'
                clear hA' hbx
                have ht : Calls Try.prog 27 #[.pointer (some ⟨g, 0, none⟩), .agg #[.int .u8 q.k, .int .u8 q.r, .int .u64 q.i, .int .i64 (cn : Int), .int .i64 q.n, .int .u64 q.t]] wc fun e w' => e = .returned (.tuple #[]) ∧ TellAt wc g m (tellA s.B q) w' := by
                  rw [← HCN.out]
                  exact ltell_any g m s.B q wc HX.out.book hqf (by have := HI.out.len; omega)
                have HTT := Lib.hid ht
                clear ht
                go_wp2_with fail
                refine HTT.out.mono ?_
                rintro e w8 ⟨rfl, hT8⟩
                have HZ := Lib.hid (HX.out.told hT8)
                clear hT8
                go_wp2_with fail
                go_roundw
                case rel => exact ⟨k + 1, _, _, by omega, by go_num, HS2.out, HZ.out, HW.out⟩
                case measure => simp [intOf]; omega
            · cases hQ : s.Q (cn : Int) with
              | nil =>
                have hst : astep s q = s := by unfold astep; rw [if_neg (by rw [HR.out]; omega), if_pos HR.out, HCN.out]; simp [hQ]
                rw [hst] at HS2 HW
                have hqq := HQQ.out
                rw [hQ] at hqq
                obtain ⟨pv, cv, hvv⟩ := hqq.form
                subst hvv
                clear hst hqq
                go_wp2_with fail
                go_roundw
                case rel => exact ⟨k + 1, _, _, by omega, by go_num, HS2.out, HT5.out, HW.out⟩
                case measure => simp [intOf]; omega
              | cons p rest =>
                have hst : astep s q = ⟨tellA s.B (headA q p), setQ s.Q cn rest⟩ := by unfold astep; rw [if_neg (by rw [HR.out]; omega), if_pos HR.out, HCN.out, hQ]
                rw [hst] at HS2 HW
                obtain ⟨hpf, hpc, hpw⟩ := HI.out.hQ cn p (by rw [hQ]; simp)
                have HPF := Lib.hid hpf; have HPC := Lib.hid hpc; have HPW := Lib.hid hpw
                have hqc := HQQ.out
                rw [hQ] at hqc
                rcases hqc with ⟨_, h0⟩ | ⟨gq, oq, capq, cur, hv4, hge, hcur, hcl, hcm, hcs, hel⟩
                · cases h0
                have hqc2 : QAt w5 (w2.heap.size + 1) (.slice (some ⟨gq, oq, none⟩) (rest.length + 1) capq) (p :: rest) := .inr ⟨gq, oq, capq, cur, by simp, hge, hcur, hcl, hcm, hcs, hel⟩
                have hgq : gq < w5.heap.size := (Array.getElem?_eq_some_iff.1 hcur).1
                have hgb : gq ≠ wr.heap.size := by
                  intro e
                  have h4 := HA.out
                  unfold Blk at h4
                  rw [e, h4] at hcur; cases hcur
                have hga : gq ≠ w2.heap.size := by omega
                simp only [List.length_cons] at hv4 hcl
                subst hv4
                have HQ := Lib.hid hqc2
                have k0 := HQ.out.cell 0 _ (by rfl); have k1 := HQ.out.cell 1 _ (by rfl); have k2 := HQ.out.cell 2 _ (by rfl); have k3 := HQ.out.cell 3 _ (by rfl)
                simp only [Nat.add_zero] at k0
                have zB : ∀ i, w5.frozen? ⟨wr.heap.size, i, none⟩ = false := fun i => HA.out.frozen i
                have hi0 : ((cn : Int) < 61) := by omega
                clear hqc2 hcur hel hcs hst hpf hpc hpw
                by_cases hc1 : 1 < capq
                · have hgx : g ≠ wr.heap.size := by have := HT.out.gb; have := HT.out.hW; omega
                  have hb8 := ((((HA.out.set_ 2 (.int .u64 p.i)).set_ 3 (.int .i64 p.c)).set_ 4 (.int .i64 p.n)).set_ 5 (.int .u64 p.t))
                  have hg8 := (((grownBy_setC w5 wr.heap.size 2 (.int .u64 p.i)).trans (grownBy_setC _ wr.heap.size 3 (.int .i64 p.c))).trans (grownBy_setC _ wr.heap.size 4 (.int .i64 p.n))).trans (grownBy_setC _ wr.heap.size 5 (.int .u64 p.t))
                  have hA8 := HT5.out.box (row := wr.heap.size) HA.out hg8 (HT.out.below.size) hgx (Ne.symm hbm) (Ne.symm hba) rfl
                  have hQ8 := HQ.out.kept hg8 (.inr (by simp [Value.ownBlock]; exact hgb))
                  have hA9 := hA8.put hcn1 HVQ.out (hQ8.pop hc1) (World.grownBy.refl _ _) (.inl rfl)
                  have ht := ltell_any g m s.B (headA q p) _ hA9.book ⟨hqf.1, HPW.out.2.1, HPW.out.2.2⟩ (by have := HI.out.len; omega)
                  have HTT := Lib.hid ht
                  have HX := Lib.hid hA9
                  clear hb8 hg8 hA8 hQ8 hA9 ht
                  go_wp2_with fail
                  refine HTT.out.mono ?_
                  rintro e w8 ⟨rfl, hT8⟩
                  have HZ := Lib.hid (HX.out.told hT8)
                  clear hT8
                  go_wp2_with fail
                  go_roundw
                  case rel => exact ⟨k + 1, _, _, by omega, by go_num, HS2.out, HZ.out, HW.out⟩
                  case measure => simp [intOf]; omega
                · obtain rfl : capq = 1 := by omega
                  obtain ⟨hr0, _⟩ := HQ.out.pop1
                  subst hr0
                  have hgx : g ≠ wr.heap.size := by have := HT.out.gb; have := HT.out.hW; omega
                  have hb8 := ((((HA.out.set_ 2 (.int .u64 p.i)).set_ 3 (.int .i64 p.c)).set_ 4 (.int .i64 p.n)).set_ 5 (.int .u64 p.t))
                  have hg8 := (((grownBy_setC w5 wr.heap.size 2 (.int .u64 p.i)).trans (grownBy_setC _ wr.heap.size 3 (.int .i64 p.c))).trans (grownBy_setC _ wr.heap.size 4 (.int .i64 p.n))).trans (grownBy_setC _ wr.heap.size 5 (.int .u64 p.t))
                  have hA8 := HT5.out.box (row := wr.heap.size) HA.out hg8 (HT.out.below.size) hgx (Ne.symm hbm) (Ne.symm hba) rfl
                  have hQ8 := HQ.out.kept hg8 (.inr (by simp [Value.ownBlock]; exact hgb))
                  have hA9 := hA8.put hcn1 HVQ.out hQ8.pop1.2 (World.grownBy.refl _ _) (.inl rfl)
                  have ht := ltell_any g m s.B (headA q p) _ hA9.book ⟨hqf.1, HPW.out.2.1, HPW.out.2.2⟩ (by have := HI.out.len; omega)
                  have HTT := Lib.hid ht
                  have HX := Lib.hid hA9
                  clear hb8 hg8 hA8 hQ8 hA9 ht
                  go_wp2_with fail
                  refine HTT.out.mono ?_
                  rintro e w8 ⟨rfl, hT8⟩
                  have HZ := Lib.hid (HX.out.told hT8)
                  clear hT8
                  go_wp2_with fail
                  go_roundw
                  case rel => exact ⟨k + 1, _, _, by omega, by go_num, HS2.out, HZ.out, HW.out⟩
                  case measure => simp [intOf]; omega
            · have hst : astep s q = ⟨tellA s.B q, s.Q⟩ := by unfold astep; rw [if_neg (by rw [HR.out]; omega), if_neg (by rw [HR.out]; omega)]
              rw [hst] at HS2 HW
              have ht : Calls Try.prog 27 #[.pointer (some ⟨g, 0, none⟩), .agg #[.int .u8 q.k, .int .u8 q.r, .int .u64 q.i, .int .i64 (cn : Int), .int .i64 q.n, .int .u64 q.t]] w5 fun e w' => e = .returned (.tuple #[]) ∧ TellAt w5 g m (tellA s.B q) w' := by
                rw [← HCN.out]
                exact ltell_any g m s.B q w5 HT5.out.book hqf (by have := HI.out.len; omega)
              have HTT := Lib.hid ht
              clear ht hst
              have hr0 : (r == 0) = false := by simp; omega
              have hr4 : (r == 2) = false := by simp; omega
              go_wp2_with fail
              refine HTT.out.mono ?_
              rintro e w8 ⟨rfl, hT8⟩
              have HZ := Lib.hid (HT5.out.told hT8)
              clear hT8
              go_wp2_with fail
              go_roundw
              case rel => exact ⟨k + 1, _, _, by omega, by go_num, HS2.out, HZ.out, HW.out⟩
              case measure => simp [intOf]; omega
      · obtain rfl : k = len := by omega
        have hk200 : k ≤ 200 := by omega
        have HT := Lib.hid hT
        clear hT
        have hne : s.B ≠ [] := by
          rw [HS.out]
          exact afold_ne _ _ (by simp [as0])
        have HNE := Lib.hid hne
        clear hne
        go_wp2_with fail
        have hA1 := HT.out.later ((Below.refl _ wr).alloc (Nat.le_refl _) (.cells (stC st0) 44))
        have hS1 := Blk.new wr 44 (stC st0)
        have hgx : g ≠ wr.heap.size := by have := HT.out.gb; have := HT.out.hW; omega
        have hmx : m ≠ wr.heap.size := by have := HT.out.mb; have := HT.out.hW; omega
        have hsl := HT.out.below.size
        have hids := ids_any g m s.B _ hA1.book (by have := HI.out.len; omega) HNE.out
        have HA1 := Lib.hid hA1; have HS1 := Lib.hid hS1; have HIDS := Lib.hid hids
        clear hA1 hS1 hids
        unfold stC st0 at HIDS
        refine HIDS.out.mono ?_
        rintro e w5 ⟨v, rfl, hrow, hb5⟩
        obtain ⟨pv, cv, gb, rfl, hgb, hcells⟩ : ∃ pv cv gb, v = .slice pv (idsB s.B).length cv ∧ (0 < (idsB s.B).length → pv = some ⟨gb, 0, none⟩ ∧ wr.heap.size < gb ∧ gb < w5.heap.size) ∧ ∀ i x, (idsB s.B)[i]? = some x → w5.cell? ⟨gb, i, none⟩ = some (.int .i64 x) := by
          rcases hrow.2 with ⟨h1, h2⟩ | ⟨gb, cap', cur, h1, h2, h3, h4, h5, h6, h7⟩
          · refine ⟨none, 0, 0, by rw [h1, h2], fun h => by omega, fun i x hx => ?_⟩
            have := (List.getElem?_eq_some_iff.1 hx).1; omega
          · refine ⟨_, _, gb, h1, fun _ => ⟨rfl, by simp at h2; omega, (Array.getElem?_eq_some_iff.1 h3).1⟩, fun i x hx => ?_⟩
            have hi := (List.getElem?_eq_some_iff.1 hx).1
            rw [cell_of_row w5 gb i cur _ (0, 0) h3]
            have h8 : (cur.toList.take ((idsB s.B).length * 1))[i]? = ((idsB s.B).map (Value.int .i64))[i]? := by rw [h7]
            rw [List.getElem?_take_of_lt (by omega), Array.getElem?_toList, List.getElem?_map, hx] at h8
            exact h8
        have hb5' : Below (wr.alloc (.cells (stC st0) 44)).heap.size (wr.alloc (.cells (stC st0) 44)) w5 := hb5
        have HB := Lib.hid (HA1.out.later hb5')
        have HSS := Lib.hid (HS1.out.below hb5' HS1.out.lt)
        clear hrow hb5 hb5'
        have hnl : (idsB s.B).length ≤ 9223372036854775807 := by
          have h1 := List.length_filter_le (fun x : Int => !decide (x = 0)) (s.B.map (·.1))
          have h2 := HI.out.len
          simp only [List.length_map] at h1
          have h3 : (idsB s.B).length = ((s.B.map (·.1)).filter fun x => !decide (x = 0)).length := rfl
          omega
        go_wp2_with fail
        go_loopw [10] (fun jv W => ∃ j : Nat, j ≤ (idsB s.B).length ∧ jv = .int .i64 j ∧ (BookAt W g m s.B ∧ Below w.heap.size w W ∧ Blk W wr.heap.size 44 (stC fun f => idSum s.B ((idsB s.B).take j) f)) ∧ (0 < (idsB s.B).length → SumAt w W g m wr.heap.size gb s j)) (fun jv _ => (idsB s.B).length - (intOf jv).toNat)
        case atStart =>
          refine ⟨0, by omega, rfl, ⟨HB.out.book, HB.out.below, HSS.out⟩, fun h => ?_⟩
          obtain ⟨_, h2, h3⟩ := hgb h
          exact ⟨HB.out.book, HB.out.below, HSS.out, hcells, hsl, hgx, hmx, by omega, h3⟩
        case round =>
          obtain ⟨j, hj, rfl, hX, hY⟩ := hrel
          obtain ⟨wx, rfl⟩ : ∃ wx : World, wx = wr := ⟨_, rfl⟩
          by_cases hjl : j < (idsB s.B).length
          · have hY := hY (by omega)
            obtain ⟨rfl, hg1, hg2⟩ := hgb (by omega)
            obtain ⟨x, hx⟩ : ∃ x, (idsB s.B)[j]? = some x := ⟨_, List.getElem?_eq_getElem hjl⟩
            have hxr := id_range HI.out (List.mem_of_getElem? hx)
            have hcx := hY.ids j x hx
            have hwf : (Lit.int .i64 x).wf = true := wf_i64 (by omega) (by omega)
            have hlo := fun f hf => HI.out.lo x f hf
            have hup := fun f hf => HI.out.up x f hf
            have hsl0 : ∀ f, f < 8 → 0 ≤ idSum s.B ((idsB s.B).take j) f ∧ idSum s.B ((idsB s.B).take j) f ≤ 4611686018427387904 := fun f hf => idSum_range HI.out hf j (by omega)
            have hnext := fun f => idSum_take s.B (idsB s.B) f j x hx
            obtain ⟨A, hA⟩ : ∃ A : Nat → Int, ∀ f, A f = idSum s.B ((idsB s.B).take j) f := ⟨_, fun _ => rfl⟩
            obtain ⟨T, hT2⟩ : ∃ T : Nat → Int, ∀ f, T f = getB s.B x f := ⟨_, fun _ => rfl⟩
            have ha := fun f (hf : f < 8) => (by rw [hA]; exact hsl0 f hf : 0 ≤ A f ∧ A f ≤ 4611686018427387904)
            have htt := fun f (hf : f < 8) => (by rw [hT2]; exact ⟨hlo f hf, by have := hup f hf; omega⟩ : 0 ≤ T f ∧ T f ≤ 4611686018427387904)
            have hnxt : ∀ f, A f + T f = idSum s.B ((idsB s.B).take (j + 1)) f := fun f => by rw [hnext f, hA, hT2]
            have HAF := Lib.hid hA; have HTF := Lib.hid hT2; have HSL := Lib.hid hsl0; have HLO := Lib.hid hlo; have HUP := Lib.hid hup; have HWF := Lib.hid hwf; have HNX := Lib.hid hnxt; have HY0 := Lib.hid hY; have HXX := Lib.hid hX
            clear hX hlo hup hsl0 hnext hA hT2 hnxt hY hwf ha htt
            have hd1 : decide (x < 1) = false := decide_eq_false (by omega)
            have hd2 : decide (1 ≤ x) = true := decide_eq_true (by omega)
            have hzx : 0 < (idsB s.B).length := by omega
            rcases Nat.eq_zero_or_pos j with rfl | hjp
            · go_wp2_with fail
              go_quiet (fail)
              obtain ⟨W2, hW2⟩ : ∃ W2, W2 = wx.drewN nq := ⟨_, rfl⟩
              rw [← hW2]
              have hY2 := HY0.out.later (below_drewN (Below.refl wx.heap.size wx) nq)
              rw [← hW2] at hY2
              clear hW2
              have hplus := fun e => plus_any A T (over W2 e) (fun f hf => by rw [HAF.out]; exact HSL.out f hf) (fun f hf => by rw [HTF.out]; exact ⟨HLO.out f hf, by have := HUP.out f hf; omega⟩)
              have hget := fun e => get_any g m s.B x (over W2 e) (hY2.book.grown (grown_none (over_below W2 e))) HWF.out
              have hXS : Blk W2 wr.heap.size 44 (stI A) := by
                have h1 := hY2.sum
                unfold stC at h1
                unfold stI
                simp only [HAF.out]
                exact h1
              have hgetv : stV (getB s.B x) = .agg (stI T) := by unfold stV stC stI; simp only [HTF.out]
              rw [hgetv] at hget
              unfold stV stC at hplus
              unfold stI at hXS hget
              have HXS := Lib.hid hXS; have HGET := Lib.hid hget; have HPLUS := Lib.hid hplus; have HY := Lib.hid hY2
              have hcx2 := hY2.ids _ x hx
              have o0 := fun e => (over_cell (w := W2) (e := e) (o := 0) HXS.out.lt).trans (HXS.out.cell 0)
              have o1 := fun e => (over_cell (w := W2) (e := e) (o := 1) HXS.out.lt).trans (HXS.out.cell 1)
              have o2 := fun e => (over_cell (w := W2) (e := e) (o := 2) HXS.out.lt).trans (HXS.out.cell 2)
              have o3 := fun e => (over_cell (w := W2) (e := e) (o := 3) HXS.out.lt).trans (HXS.out.cell 3)
              have o4 := fun e => (over_cell (w := W2) (e := e) (o := 4) HXS.out.lt).trans (HXS.out.cell 4)
              have o5 := fun e => (over_cell (w := W2) (e := e) (o := 5) HXS.out.lt).trans (HXS.out.cell 5)
              have o6 := fun e => (over_cell (w := W2) (e := e) (o := 6) HXS.out.lt).trans (HXS.out.cell 6)
              have o7 := fun e => (over_cell (w := W2) (e := e) (o := 7) HXS.out.lt).trans (HXS.out.cell 7)
              simp only [List.getElem?_toArray, List.getElem?_cons_zero, List.getElem?_cons_succ] at o0 o1 o2 o3 o4 o5 o6 o7
              have oi := fun e => (over_cell (w := W2) (e := e) HY.out.lt).trans hcx2
              clear hplus hget hXS hgetv hY2 hcx2
              go_wp2
              refine wp_region_over_tail 8 (by kernel_rfl) (by kernel_rfl) ?_
              simp only [List.take_succ_cons, List.take_zero, List.drop_succ_cons, List.drop_zero]
              repeat (first | go_big_quiet_skip | (go_big_quiet_want; go_big_quiet_op; first | go_big_quiet_on | (apply Exists.intro; refine ⟨fun e => ?_, ?_⟩; (focus (first | (go_at_call 30; with_reducible exact calls_over (HGET.out _)) | (go_at_call 29; with_reducible exact calls_over (HPLUS.out _)))); go_big_quiet_on)))
              refine wpQuiet_nil ?_
              rintro W3 ⟨e3, he3⟩
              have hb3 := over_below W2 e3
              rw [← he3] at hb3
              clear he3 o0 o1 o2 o3 o4 o5 o6 o7 oi
              have hS3 := HXS.out.below hb3 HXS.out.lt
              have HY3 := Lib.hid (HY.out.later hb3)
              have HS3 := Lib.hid hS3
              have c0 := hS3.cell 0; have c1 := hS3.cell 1; have c2 := hS3.cell 2; have c3 := hS3.cell 3; have c4 := hS3.cell 4; have c5 := hS3.cell 5; have c6 := hS3.cell 6; have c7 := hS3.cell 7
              have z := fun i => hS3.frozen i
              simp only [List.getElem?_toArray, List.getElem?_cons_zero, List.getElem?_cons_succ] at c0 c1 c2 c3 c4 c5 c6 c7
              clear hb3 hS3
              go_wp2
              go_roundw
              case rel =>
                have hg9 := (((((((grownBy_setC W3 wr.heap.size 0 (.int .u64 (A 0 + T 0))).trans (grownBy_setC _ wr.heap.size 1 (.int .u64 (A 1 + T 1)))).trans (grownBy_setC _ wr.heap.size 2 (.int .u64 (A 2 + T 2)))).trans (grownBy_setC _ wr.heap.size 3 (.int .u64 (A 3 + T 3)))).trans (grownBy_setC _ wr.heap.size 4 (.int .u64 (A 4 + T 4)))).trans (grownBy_setC _ wr.heap.size 5 (.int .u64 (A 5 + T 5)))).trans (grownBy_setC _ wr.heap.size 6 (.int .u64 (A 6 + T 6)))).trans (grownBy_setC _ wr.heap.size 7 (.int .u64 (A 7 + T 7)))
                have hS9 := (((((((HS3.out.set_ 0 (.int .u64 (A 0 + T 0))).set_ 1 (.int .u64 (A 1 + T 1))).set_ 2 (.int .u64 (A 2 + T 2))).set_ 3 (.int .u64 (A 3 + T 3))).set_ 4 (.int .u64 (A 4 + T 4))).set_ 5 (.int .u64 (A 5 + T 5))).set_ 6 (.int .u64 (A 6 + T 6))).set_ 7 (.int .u64 (A 7 + T 7))
                have e11 : (fun f => A f + T f) = fun f => idSum s.B ((idsB s.B).take _) f := funext HNX.out
                have hS10 : Blk _ wr.heap.size 44 (stC fun f => A f + T f) := hS9
                rw [e11] at hS10
                have hnew := HY3.out.set_ hg9 hS10
                exact ⟨_, Nat.succ_le_of_lt hjl, by go_num, ⟨hnew.book, hnew.below, hnew.sum⟩, fun _ => hnew⟩
              case measure => simp [intOf]; omega
            · obtain ⟨y, hy⟩ : ∃ y, (idsB s.B)[j - 1]? = some y := ⟨_, List.getElem?_eq_getElem (by omega)⟩
              have hst := ids_strict HI.out.rise
              have hyx : y < x := by
                rw [List.pairwise_iff_getElem] at hst
                obtain ⟨h1, e1⟩ := List.getElem?_eq_some_iff.1 hy
                obtain ⟨h2, e2⟩ := List.getElem?_eq_some_iff.1 hx
                have := hst (j - 1) j h1 h2 (by omega)
                rw [e1, e2] at this; exact this
              clear hst
              have hcy := HY0.out.ids (j - 1) y hy
              have hd3 : decide (x ≤ y) = false := decide_eq_false (by omega)
              have hd4 : decide ((0 : Int) < (j : Int)) = true := decide_eq_true (by omega)
              have hw2 : 0 ≤ (j : Int) - 1 := by omega
              have hw4 : decide ((j : Int) - 1 < ((idsB s.B).length : Int)) = true := decide_eq_true (by omega)
              have hw3 : ((j : Int) - 1).toNat = j - 1 := by omega
              have hw1 : IntKind.i64.wrap ((j : Int) - 1) = (j : Int) - 1 := IntWalk.i64_in _ (by omega)
              go_wp2_with fail
              go_quiet (fail)
              clear hw1 hw2 hw3 hw4 hd3 hd4 hcy
              obtain ⟨W2, hW2⟩ : ∃ W2, W2 = wx.drewN nq := ⟨_, rfl⟩
              rw [← hW2]
              have hY2 := HY0.out.later (below_drewN (Below.refl wx.heap.size wx) nq)
              rw [← hW2] at hY2
              clear hW2
              have hplus := fun e => plus_any A T (over W2 e) (fun f hf => by rw [HAF.out]; exact HSL.out f hf) (fun f hf => by rw [HTF.out]; exact ⟨HLO.out f hf, by have := HUP.out f hf; omega⟩)
              have hget := fun e => get_any g m s.B x (over W2 e) (hY2.book.grown (grown_none (over_below W2 e))) HWF.out
              have hXS : Blk W2 wr.heap.size 44 (stI A) := by
                have h1 := hY2.sum
                unfold stC at h1
                unfold stI
                simp only [HAF.out]
                exact h1
              have hgetv : stV (getB s.B x) = .agg (stI T) := by unfold stV stC stI; simp only [HTF.out]
              rw [hgetv] at hget
              unfold stV stC at hplus
              unfold stI at hXS hget
              have HXS := Lib.hid hXS; have HGET := Lib.hid hget; have HPLUS := Lib.hid hplus; have HY := Lib.hid hY2
              have hcx2 := hY2.ids _ x hx
              have o0 := fun e => (over_cell (w := W2) (e := e) (o := 0) HXS.out.lt).trans (HXS.out.cell 0)
              have o1 := fun e => (over_cell (w := W2) (e := e) (o := 1) HXS.out.lt).trans (HXS.out.cell 1)
              have o2 := fun e => (over_cell (w := W2) (e := e) (o := 2) HXS.out.lt).trans (HXS.out.cell 2)
              have o3 := fun e => (over_cell (w := W2) (e := e) (o := 3) HXS.out.lt).trans (HXS.out.cell 3)
              have o4 := fun e => (over_cell (w := W2) (e := e) (o := 4) HXS.out.lt).trans (HXS.out.cell 4)
              have o5 := fun e => (over_cell (w := W2) (e := e) (o := 5) HXS.out.lt).trans (HXS.out.cell 5)
              have o6 := fun e => (over_cell (w := W2) (e := e) (o := 6) HXS.out.lt).trans (HXS.out.cell 6)
              have o7 := fun e => (over_cell (w := W2) (e := e) (o := 7) HXS.out.lt).trans (HXS.out.cell 7)
              simp only [List.getElem?_toArray, List.getElem?_cons_zero, List.getElem?_cons_succ] at o0 o1 o2 o3 o4 o5 o6 o7
              have oi := fun e => (over_cell (w := W2) (e := e) HY.out.lt).trans hcx2
              clear hplus hget hXS hgetv hY2 hcx2
              go_wp2
              refine wp_region_over_tail 8 (by kernel_rfl) (by kernel_rfl) ?_
              simp only [List.take_succ_cons, List.take_zero, List.drop_succ_cons, List.drop_zero]
              repeat (first | go_big_quiet_skip | (go_big_quiet_want; go_big_quiet_op; first | go_big_quiet_on | (apply Exists.intro; refine ⟨fun e => ?_, ?_⟩; (focus (first | (go_at_call 30; with_reducible exact calls_over (HGET.out _)) | (go_at_call 29; with_reducible exact calls_over (HPLUS.out _)))); go_big_quiet_on)))
              refine wpQuiet_nil ?_
              rintro W3 ⟨e3, he3⟩
              have hb3 := over_below W2 e3
              rw [← he3] at hb3
              clear he3 o0 o1 o2 o3 o4 o5 o6 o7 oi
              have hS3 := HXS.out.below hb3 HXS.out.lt
              have HY3 := Lib.hid (HY.out.later hb3)
              have HS3 := Lib.hid hS3
              have c0 := hS3.cell 0; have c1 := hS3.cell 1; have c2 := hS3.cell 2; have c3 := hS3.cell 3; have c4 := hS3.cell 4; have c5 := hS3.cell 5; have c6 := hS3.cell 6; have c7 := hS3.cell 7
              have z := fun i => hS3.frozen i
              simp only [List.getElem?_toArray, List.getElem?_cons_zero, List.getElem?_cons_succ] at c0 c1 c2 c3 c4 c5 c6 c7
              clear hb3 hS3
              go_wp2
              go_roundw
              case rel =>
                have hg9 := (((((((grownBy_setC W3 wr.heap.size 0 (.int .u64 (A 0 + T 0))).trans (grownBy_setC _ wr.heap.size 1 (.int .u64 (A 1 + T 1)))).trans (grownBy_setC _ wr.heap.size 2 (.int .u64 (A 2 + T 2)))).trans (grownBy_setC _ wr.heap.size 3 (.int .u64 (A 3 + T 3)))).trans (grownBy_setC _ wr.heap.size 4 (.int .u64 (A 4 + T 4)))).trans (grownBy_setC _ wr.heap.size 5 (.int .u64 (A 5 + T 5)))).trans (grownBy_setC _ wr.heap.size 6 (.int .u64 (A 6 + T 6)))).trans (grownBy_setC _ wr.heap.size 7 (.int .u64 (A 7 + T 7)))
                have hS9 := (((((((HS3.out.set_ 0 (.int .u64 (A 0 + T 0))).set_ 1 (.int .u64 (A 1 + T 1))).set_ 2 (.int .u64 (A 2 + T 2))).set_ 3 (.int .u64 (A 3 + T 3))).set_ 4 (.int .u64 (A 4 + T 4))).set_ 5 (.int .u64 (A 5 + T 5))).set_ 6 (.int .u64 (A 6 + T 6))).set_ 7 (.int .u64 (A 7 + T 7))
                have e11 : (fun f => A f + T f) = fun f => idSum s.B ((idsB s.B).take _) f := funext HNX.out
                have hS10 : Blk _ wr.heap.size 44 (stC fun f => A f + T f) := hS9
                rw [e11] at hS10
                have hnew := HY3.out.set_ hg9 hS10
                exact ⟨_, Nat.succ_le_of_lt hjl, by go_num, ⟨hnew.book, hnew.below, hnew.sum⟩, fun _ => hnew⟩
              case measure => simp [intOf]; omega
          · obtain rfl : j = (idsB s.B).length := by omega
            obtain ⟨T, hT2⟩ : ∃ T : Nat → Int, ∀ f, T f = getB s.B 0 f := ⟨_, fun _ => rfl⟩
            have hXS : Blk wx wr.heap.size 44 (stI T) := by
              have h1 := hX.2.2
              rw [List.take_length] at h1
              unfold stC at h1
              dsimp only at h1
              rw [all_sum HI.out (f := 0) (by omega), all_sum HI.out (f := 1) (by omega), all_sum HI.out (f := 2) (by omega), all_sum HI.out (f := 3) (by omega), all_sum HI.out (f := 4) (by omega), all_sum HI.out (f := 5) (by omega), all_sum HI.out (f := 6) (by omega), all_sum HI.out (f := 7) (by omega)] at h1
              unfold stI
              simp only [hT2]
              exact h1
            have hget := fun e => get_any g m s.B 0 (over wx e) (hX.1.grown (grown_none (over_below wx e))) (by decide)
            have hgetv : stV (getB s.B 0) = .agg (stI T) := by unfold stV stC stI; simp only [hT2]
            rw [hgetv] at hget
            unfold stI at hXS hget
            have HXS := Lib.hid hXS; have HGET := Lib.hid hget; have HXX := Lib.hid hX
            clear hX hY hT2 hXS hget hgetv
            have o0 := fun e => (over_cell (w := wx) (e := e) (o := 0) HXS.out.lt).trans (HXS.out.cell 0)
            have o1 := fun e => (over_cell (w := wx) (e := e) (o := 1) HXS.out.lt).trans (HXS.out.cell 1)
            have o2 := fun e => (over_cell (w := wx) (e := e) (o := 2) HXS.out.lt).trans (HXS.out.cell 2)
            have o3 := fun e => (over_cell (w := wx) (e := e) (o := 3) HXS.out.lt).trans (HXS.out.cell 3)
            have o4 := fun e => (over_cell (w := wx) (e := e) (o := 4) HXS.out.lt).trans (HXS.out.cell 4)
            have o5 := fun e => (over_cell (w := wx) (e := e) (o := 5) HXS.out.lt).trans (HXS.out.cell 5)
            have o6 := fun e => (over_cell (w := wx) (e := e) (o := 6) HXS.out.lt).trans (HXS.out.cell 6)
            have o7 := fun e => (over_cell (w := wx) (e := e) (o := 7) HXS.out.lt).trans (HXS.out.cell 7)
            simp only [List.getElem?_toArray, List.getElem?_cons_zero, List.getElem?_cons_succ] at o0 o1 o2 o3 o4 o5 o6 o7
            go_wp2_with fail
            refine wp_region_over (by kernel_rfl) (by kernel_rfl) ?_
            repeat (first | go_big_quiet_skip | (go_big_quiet_want; go_big_quiet_op; first | go_big_quiet_on | (apply Exists.intro; refine ⟨fun e => ?_, ?_⟩; (focus (go_at_call 30; with_reducible exact calls_over (HGET.out _))); go_big_quiet_on)))
            refine wpQuiet_nil ?_
            rintro W3 ⟨e3, he3⟩
            have hb3 := over_below wx e3
            rw [← he3] at hb3
            go_wp2
            go_ret
            exact ⟨rfl, HXX.out.2.1.trans (hb3.mono HXX.out.2.1.size)⟩
end Go.Proofs.Ytfnocnknmpmaaaa
