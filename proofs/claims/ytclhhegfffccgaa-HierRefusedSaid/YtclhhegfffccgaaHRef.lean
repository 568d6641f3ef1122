/-
  A tree of classes: what is refused changes nothing; a class that can come can go again. (Printed by wip/mkhref.py.)
-/
import Derived.Test.YtclhhegfffccgaaHRefPlain
import Derived.BigQuiet
import Derived.Deep.CutRange
import Derived.Deep.DeepCutAuto
namespace Go.Proofs.Ytclhhegfffccgaa
set_option linter.unusedVariables false
open Go.RowKit Go.Maps
attribute [local go_sem ↓] Go.wp_at_zero Go.wp_at_succ
attribute [local go_sem] quietR quietAtR quietUponR midAt midUpon

theorem sp_ne (s : Sp) (W : World) : (binOp .neq 46 (.agg #[.int .i64 s.id, .int .i64 s.pa, .bool s.lf, .int .u64 s.r.1, .int .u64 s.r.2.1, .int .u64 s.r.2.2, .int .u64 s.s.1, .int .u64 s.s.2.1, .int .u64 s.s.2.2, .int .u64 s.u.1, .int .u64 s.u.2.1, .int .u64 s.u.2.2, .int .i64 s.pk, .int .i64 s.by_]) (.agg #[.int .i64 s.id, .int .i64 s.pa, .bool s.lf, .int .u64 s.r.1, .int .u64 s.r.2.1, .int .u64 s.r.2.2, .int .u64 s.s.1, .int .u64 s.s.2.1, .int .u64 s.s.2.2, .int .u64 s.u.1, .int .u64 s.u.2.1, .int .u64 s.u.2.2, .int .i64 s.pk, .int .i64 s.by_])).run Try.prog W = .ok (.bool false) W := by go_simp
theorem sp_eq (s : Sp) (W : World) : (binOp .eql 46 (.agg #[.int .i64 s.id, .int .i64 s.pa, .bool s.lf, .int .u64 s.r.1, .int .u64 s.r.2.1, .int .u64 s.r.2.2, .int .u64 s.s.1, .int .u64 s.s.2.1, .int .u64 s.s.2.2, .int .u64 s.u.1, .int .u64 s.u.2.1, .int .u64 s.u.2.2, .int .i64 s.pk, .int .i64 s.by_]) (.agg #[.int .i64 s.id, .int .i64 s.pa, .bool s.lf, .int .u64 s.r.1, .int .u64 s.r.2.1, .int .u64 s.r.2.2, .int .u64 s.s.1, .int .u64 s.s.2.1, .int .u64 s.s.2.2, .int .u64 s.u.1, .int .u64 s.u.2.1, .int .u64 s.u.2.2, .int .i64 s.pk, .int .i64 s.by_])).run Try.prog W = .ok (.bool true) W := by go_simp
theorem cv_ne (c : Cv) (W : World) : (binOp .neq 44 (.agg #[.int .u64 c.1, .int .u64 c.2.1, .int .u64 c.2.2]) (.agg #[.int .u64 c.1, .int .u64 c.2.1, .int .u64 c.2.2])).run Try.prog W = .ok (.bool false) W := by go_simp
/-- the state between calls -/
structure RS (w W : World) (base g ma mu : Nat) (M : Mp) (X : Nat → Prop) (vi : Value) (ks : List Int) (vu : Value) (us : List Int) (cs : Array Value) (b8 : Nat) (c8 : Array Value) : Prop where
  tp : TP w W base g ma mu M X
  box : Blk W w.heap.size 46 cs
  xb : X w.heap.size
  ids : IntX X W vi ks
  und : IntX X W vu us
  was : Blk W b8 46 c8
  xw : X b8
section
variable {w W W' : World} {base g ma mu : Nat} {M M' : Mp} {X : Nat → Prop} {vi vu : Value} {ks us : List Int} {cs c8 : Array Value} {b8 : Nat}
theorem RS.later (h : RS w W base g ma mu M X vi ks vu us cs b8 c8) (hb : Below W.heap.size W W') : ∃ X', RS w W' base g ma mu M X' vi ks vu us cs b8 c8 ∧ ∀ b, W.heap.size ≤ b → b < W'.heap.size → X' b :=
  ⟨_, ⟨h.tp.later hb, h.box.below hb h.box.lt, .inl h.xb, h.ids.later hb fun _ => .inl, h.und.later hb fun _ => .inl, h.was.below hb h.was.lt, .inl h.xw⟩, fun b h1 h2 => .inr ⟨h1, h2⟩⟩
theorem Blk.keptX {t : TypeId} {b : Nat} {c : Array Value} (h : Blk W b t c) (hk : ∀ b, X b → W'.heap[b]? = W.heap[b]?) (hx : X b) : Blk W' b t c := (hk b hx).trans h
theorem RS.act (h : RS w W base g ma mu M X vi ks vu us cs b8 c8) (ht : TP w W' base g ma mu M' X) (hk : ∀ b, X b → W'.heap[b]? = W.heap[b]?) : RS w W' base g ma mu M' X vi ks vu us cs b8 c8 :=
  ⟨ht, h.box.keptX hk h.xb, h.xb, h.ids.kept hk ht.old, h.und.kept hk ht.old, h.was.keptX hk h.xw, h.xw⟩
end
theorem TP.set {w W W' : World} {base g ma mu b : Nat} {M : Mp} {X : Nat → Prop} {cb : Array Value} (h : TP w W base g ma mu M X) (hb : Blk W b 46 cb) (hx : X b) (hg : W.grownBy W' (some b)) (hlo : w.heap.size ≤ b) : TP w W' base g ma mu M X := by
  obtain ⟨⟨U, ht, ho⟩, hl, hb0, hold⟩ := h
  have hno := ho b hx
  have hgb : some g ≠ some b := by
    intro e
    cases e
    have := ht.blk.symm.trans hb
    simp only [Option.some.injEq, Obj.cells.injEq] at this
    exact absurd this.2.1 (by decide)
  refine ⟨⟨U, ⟨ht.blk.grown hg hgb, ht.all.kept hg (by intro e; cases e; exact hno (.inl rfl)), ht.und.kept hg (by intro e; cases e; exact hno (.inr (.inl rfl))), fun k => (ht.rows k).kept hg (.inr fun e => hno (.inr (.inr ⟨k, e⟩))), ht.apart, ht.gb, ht.ab, ht.ub, ht.ne, ht.keys, ht.inv⟩, ho⟩, hl, hb0.grown hg hb0.size (fun q e => by cases e; exact hlo), fun b' hb' => Nat.lt_of_lt_of_le (hold b' hb') hg.size⟩
theorem IntX.set {X : Nat → Prop} {W W' : World} {v : Value} {ks : List Int} {b : Nat} (h : IntX X W v ks) (hg : W.grownBy W' (some b)) (hne : ks ≠ [] → v.ownBlock ≠ some b) : IntX X W' v ks := by
  obtain ⟨⟨hl, a, cap, rfl, h3⟩, hx⟩ := h
  refine ⟨⟨hl, a, cap, rfl, ?_⟩, hx⟩
  rcases h3 with h3 | ⟨b', off, rfl, hb, hc, hcell⟩
  · exact .inl h3
  · by_cases h0 : ks = []
    · exact .inl h0
    · have e := hg.block b' hb (fun e => hne h0 e)
      exact .inr ⟨b', off, rfl, Nat.lt_of_lt_of_le hb hg.size, hc, fun i k hi => (World.cell?_of_block (a := ⟨b', off + i, none⟩) e).trans (hcell i k hi)⟩
theorem RS.set {w W W' : World} {base g ma mu : Nat} {M : Mp} {X : Nat → Prop} {vi vu : Value} {ks us : List Int} {cs c8 cb : Array Value} {b8 b : Nat} (h : RS w W base g ma mu M X vi ks vu us cs b8 c8) (hb : Blk W b 46 cb) (hx : X b) (hg : W.grownBy W' (some b)) (hlo : w.heap.size < b) (h8 : b8 < b) (hi : ks ≠ [] → vi.ownBlock ≠ some b) (hu : us ≠ [] → vu.ownBlock ≠ some b) : RS w W' base g ma mu M X vi ks vu us cs b8 c8 :=
  ⟨h.tp.set hb hx hg (Nat.le_of_lt hlo), h.box.grown hg (by intro e; cases e; omega), h.xb, h.ids.set hg hi, h.und.set hg hu, h.was.grown hg (by intro e; cases e; omega), h.xw⟩
theorem look_get {M : Mp} {id : Int} : (lookM M id = none ∧ getS M id = sp0) ∨ ∃ c, lookM M id = some c ∧ getS M id = c.1 := by
  unfold getS
  cases e : lookM M id with
  | none => exact .inl ⟨rfl, rfl⟩
  | some c => exact .inr ⟨c, rfl, rfl⟩

set_option maxRecDepth 100000 in
set_option maxHeartbeats 8000000 in
/-- the law -/
theorem hierRefused_any (a0 : Option Addr) (len cap : Nat) (z : List HAct) (s : Sp) (w : World) (hl : len ≤ 9223372036854775807) (hz : HActsAt w a0 len z) (hw : WfSp s) :
    Calls Try.prog 5 #[.slice a0 len cap, spV s] w fun e w' => e = .returned (.bool true) ∧ Below w.heap.size w w' := by
  have hb0 := (Below.refl w.heap.size w).alloc (Nat.le_refl _) (.cells (spC s) 46)
  have hB0 := Blk.new w 46 (spC s)
  have HZ := Lib.hid (And.intro hz (And.intro hb0 hB0)); have HW := Lib.hid hw
  have hzl : z.length = len := hz.1
  have hid : (Lit.int .i64 s.id).wf = true := hw.1.1
  have hpa : (Lit.int .i64 s.pa).wf = true := hw.1.2.1
  clear hz hb0 hB0 hw
  unfold spV
  unfold spC at *
  go_enter Try.func5, Try.ntmps5
  go_wp2_with fail
  refine (hawake_any _).mono ?_
  rintro e w1 ⟨rfl, hb1⟩
  have H1 := Lib.hid (And.intro (HZ.out.2.1.trans (hb1.mono HZ.out.2.1.size)) (HZ.out.2.2.below hb1 HZ.out.2.2.lt))
  have hs1 : w.heap.size < w1.heap.size := Nat.lt_of_lt_of_le HZ.out.2.2.lt hb1.size
  clear hb1
  go_wp2_with fail
  refine (hlong_any a0 len cap w1 hl).mono ?_
  rintro e w1' ⟨rfl, rfl⟩
  by_cases hlong : 150 < len
  · have hd : decide (150 < len) = true := decide_eq_true hlong
    rw [hd]
    clear hd
    go_wp2_with fail
    go_ret
    exact ⟨rfl, H1.out.1⟩
  · have hd : decide (150 < len) = false := decide_eq_false hlong
    rw [hd]
    clear hd
    subst hzl
    have hpl := hplayed_any a0 cap z w1 (HZ.out.1.below H1.out.1) (by omega)
    go_wp2_with fail
    refine hpl.mono ?_
    clear hpl
    rintro e w2 ⟨g, ma, mu, rfl, hT⟩
    generalize playH z = M at hT
    have hTw : TS w w2 w1.heap.size g ma mu M := ⟨hT.tree, H1.out.1.size, H1.out.1.trans (hT.below.mono H1.out.1.size)⟩
    have HT := Lib.hid (And.intro hTw (H1.out.2.below hT.below H1.out.2.lt))
    have HI := Lib.hid hTw.inv
    clear hT hTw
    generalize w1.heap.size = base at HT hs1
    obtain ⟨ks, hks⟩ : ∃ ks, M.map (·.1) = ks := ⟨_, rfl⟩
    obtain ⟨us, hus⟩ : ∃ us, kids M s.pa = us := ⟨_, rfl⟩
    have hkl : ks.length ≤ 64 := by rw [← hks, List.length_map]; exact HI.out.few
    have hul : us.length ≤ 64 := by have := kids_len M s.pa; have := HI.out.few; rw [← hus]; omega
    have HK := Lib.hid (And.intro hks (And.intro hus (And.intro hkl hul)))
    clear hks hus hkl hul
    go_upto_region 8 with fail
    have l1 := HT.out.2.lt
    have o1 := fun e => (over_cell (w := w2) (e := e) (o := 1) l1).trans (HT.out.2.cell 1)
    simp only [List.getElem?_toArray, List.getElem?_cons_zero, List.getElem?_cons_succ] at o1
    have hids := fun W (hb : Below w2.heap.size w2 W) => (HT.out.1.later hb).ids
    have hund := fun W (hb : Below w2.heap.size w2 W) => (HT.out.1.later hb).under s.pa hpa
    rw [HK.out.1] at hids
    rw [HK.out.2.1] at hund
    have HC := Lib.hid (And.intro hids hund)
    clear hids hund
    refine wp_region_midg (w := w2) 6 2 [1, 5] [] [(1, fun u W' => W'.ownsRow w2.heap.size 3 1 u ks.length (ks.map (Value.int .i64))), (5, fun u W' => W'.ownsRow w2.heap.size 3 1 u us.length (us.map (Value.int .i64)))] rfl (by kernel_rfl) (by kernel_rfl) (by kernel_rfl) (by kernel_rfl) (fun _ _ _ _ _ h => h) ⟨fun v W1 W2 h hb => owns_laterH h hb, fun v W1 W2 h hb => owns_laterH h hb, trivial⟩ ?_
    intro LL hL
    have HL := Lib.hid hL
    clear hL
    simp only [List.take_succ_cons, List.take_zero, putL]
    iterate 6 (first | refine wpHead_skip (by decide) ?_ | (refine wpHead_step (by decide) (fun K hK => ?_); go_simp; refine hK _ ?_; clear hK K))
    refine wpHead_nil (HL.out _ ⟨?_, ?_, trivial⟩ ?_)
    · intro vs W2 hb2 hf
      clear hf HL
      change TStep _ _ _ (Act.put (Act.put _ (some 25) (vs 1)) (some 29) (vs 5)) _ _
      refine tstep_yes (by kernel_rfl) ?_
      have hm := (HC.out.1 W2 hb2).mono (R' := fun e w' => ∃ v, e = .returned v ∧ Below W2.heap.size W2 w' ∧ w'.ownsRow w2.heap.size 3 1 v ks.length (ks.map (Value.int .i64))) fun e w' ⟨v, he, h1, h2⟩ => ⟨v, he, h2, owns_baseH h1 hb2.size⟩
      go_simp
      try exact hm
    · intro vs W2 hb2 hf
      clear hf HL
      change TStep _ _ _ (Act.put (Act.put _ (some 25) (vs 1)) (some 29) (vs 5)) _ _
      refine tstep_yes (by kernel_rfl) ?_
      have hm := (HC.out.2 W2 hb2).mono (R' := fun e w' => ∃ v, e = .returned v ∧ Below W2.heap.size W2 w' ∧ w'.ownsRow w2.heap.size 3 1 v us.length (us.map (Value.int .i64))) fun e w' ⟨v, he, h1, h2⟩ => ⟨v, he, h2, owns_baseH h1 hb2.size⟩
      go_simp
      try exact hm
    · intro vs W3 hb3 hf
      have hf := fits_cast (q := (W3.ownsRow w2.heap.size 3 1 (vs 1) ks.length (ks.map (Value.int .i64))) ∧ (W3.ownsRow w2.heap.size 3 1 (vs 5) us.length (us.map (Value.int .i64))) ∧ True) hf (by kernel_rfl)
      clear HL
      change wpList _ _ _ _ (Act.put (Act.put _ (some 25) (vs 1)) (some 29) (vs 5)) _
      generalize vs 1 = vi at hf ⊢
      generalize vs 5 = vu at hf ⊢
      have htp := HT.out.1.tp.later hb3
      obtain ⟨ai, ci, rfl⟩ := owns_sliceH hf.1
      have hi3 := IntX.of_owns (X := fun b => b < base ∨ (w2.heap.size ≤ b ∧ b < W3.heap.size)) hf.1 (by have := HK.out.2.2.1; omega) (fun b h1 h2 => .inr ⟨h1, h2⟩)
      have hu3 := IntX.of_owns (X := fun b => b < base ∨ (w2.heap.size ≤ b ∧ b < W3.heap.size)) hf.2.1 (by have := HK.out.2.2.2; omega) (fun b h1 h2 => .inr ⟨h1, h2⟩)
      have H3 := Lib.hid (And.intro htp (And.intro (HT.out.2.below hb3 HT.out.2.lt) (And.intro hi3 hu3)))
      clear hf htp hi3 hu3 hb3 o1 l1 HC HT
      simp only [List.drop_succ_cons, List.drop_zero, List.take_succ_cons, List.take_zero]
      have hga := H3.out.1.ts.get s.id hid
      obtain ⟨wS, hwS⟩ : ∃ x, getS M s.id = x := ⟨_, rfl⟩
      obtain ⟨had, hhad⟩ : ∃ b, (lookM M s.id).isSome = b := ⟨_, rfl⟩
      unfold GetW spV spC at hga
      rw [hwS, hhad] at hga
      have HWS := Lib.hid (And.intro hwS hhad)
      clear hwS hhad
      have k0 := H3.out.2.1.cell 0
      simp only [List.getElem?_toArray, List.getElem?_cons_zero, List.getElem?_cons_succ] at k0
      go_wp2_with fail
      refine hga.mono ?_
      clear hga k0
      rintro e W4 ⟨rfl, hb4⟩
      have hbx := (Below.refl W4.heap.size W4).alloc (Nat.le_refl _) (.cells #[.int .i64 wS.id, .int .i64 wS.pa, .bool wS.lf, .int .u64 wS.r.1, .int .u64 wS.r.2.1, .int .u64 wS.r.2.2, .int .u64 wS.s.1, .int .u64 wS.s.2.1, .int .u64 wS.s.2.2, .int .u64 wS.u.1, .int .u64 wS.u.2.1, .int .u64 wS.u.2.2, .int .i64 wS.pk, .int .i64 wS.by_] 46)
      have hBx := Blk.new W4 46 #[.int .i64 wS.id, .int .i64 wS.pa, .bool wS.lf, .int .u64 wS.r.1, .int .u64 wS.r.2.1, .int .u64 wS.r.2.2, .int .u64 wS.s.1, .int .u64 wS.s.2.1, .int .u64 wS.s.2.2, .int .u64 wS.u.1, .int .u64 wS.u.2.1, .int .u64 wS.u.2.2, .int .i64 wS.pk, .int .i64 wS.by_]
      have hb5 := hb4.trans (hbx.mono hb4.size)
      have hlt5 := hBx.lt
      have H5 := Lib.hid (show ∃ X, RS w (W4.alloc (.cells #[.int .i64 wS.id, .int .i64 wS.pa, .bool wS.lf, .int .u64 wS.r.1, .int .u64 wS.r.2.1, .int .u64 wS.r.2.2, .int .u64 wS.s.1, .int .u64 wS.s.2.1, .int .u64 wS.s.2.2, .int .u64 wS.u.1, .int .u64 wS.u.2.1, .int .u64 wS.u.2.2, .int .i64 wS.pk, .int .i64 wS.by_] 46)) base g ma mu M X (.slice ai ks.length ci) ks vu us #[.int .i64 s.id, .int .i64 s.pa, .bool s.lf, .int .u64 s.r.1, .int .u64 s.r.2.1, .int .u64 s.r.2.2, .int .u64 s.s.1, .int .u64 s.s.2.1, .int .u64 s.s.2.2, .int .u64 s.u.1, .int .u64 s.u.2.1, .int .u64 s.u.2.2, .int .i64 s.pk, .int .i64 s.by_] W4.heap.size #[.int .i64 wS.id, .int .i64 wS.pa, .bool wS.lf, .int .u64 wS.r.1, .int .u64 wS.r.2.1, .int .u64 wS.r.2.2, .int .u64 wS.s.1, .int .u64 wS.s.2.1, .int .u64 wS.s.2.2, .int .u64 wS.u.1, .int .u64 wS.u.2.1, .int .u64 wS.u.2.2, .int .i64 wS.pk, .int .i64 wS.by_] from
        ⟨_, ⟨H3.out.1.later hb5, H3.out.2.1.below hb5 H3.out.2.1.lt, .inl (.inl hs1), H3.out.2.2.1.later hb5 (fun _ => .inl), H3.out.2.2.2.later hb5 (fun _ => .inl), hBx, .inr ⟨hb4.size, hlt5⟩⟩⟩)
      clear hbx hBx hb5 hlt5 hb4 H3
      obtain ⟨b8, hb8⟩ : ∃ b, b = W4.heap.size := ⟨_, rfl⟩
      rw [← hb8] at H5
      go_upto_region 10 with fail
      rw [← hb8]
      generalize W4.alloc (.cells #[.int .i64 wS.id, .int .i64 wS.pa, .bool wS.lf, .int .u64 wS.r.1, .int .u64 wS.r.2.1, .int .u64 wS.r.2.2, .int .u64 wS.s.1, .int .u64 wS.s.2.1, .int .u64 wS.s.2.2, .int .u64 wS.u.1, .int .u64 wS.u.2.1, .int .u64 wS.u.2.2, .int .i64 wS.pk, .int .i64 wS.by_] 46) = W5 at H5 ⊢
      clear hb8
      obtain ⟨X5, hr5⟩ := H5.out
      have H6 := Lib.hid hr5
      clear hr5 H5
      have hadd := H6.out.tp.add s HW.out
      unfold spV spC at hadd
      have k0 := H6.out.box.cell 0; have k1 := H6.out.box.cell 1; have k2 := H6.out.box.cell 2; have k3 := H6.out.box.cell 3; have k4 := H6.out.box.cell 4; have k5 := H6.out.box.cell 5; have k6 := H6.out.box.cell 6; have k7 := H6.out.box.cell 7; have k8 := H6.out.box.cell 8; have k9 := H6.out.box.cell 9; have k10 := H6.out.box.cell 10; have k11 := H6.out.box.cell 11; have k12 := H6.out.box.cell 12; have k13 := H6.out.box.cell 13
      simp only [List.getElem?_toArray, List.getElem?_cons_zero, List.getElem?_cons_succ] at k0 k1 k2 k3 k4 k5 k6 k7 k8 k9 k10 k11 k12 k13
      go_wp2_with fail
      refine hadd.mono ?_
      clear hadd k0 k1 k2 k3 k4 k5 k6 k7 k8 k9 k10 k11 k12 k13
      rintro e W6 ⟨rfl, ht6, hk6⟩
      have H7 := Lib.hid (H6.out.act ht6 hk6)
      clear ht6 hk6 H6
      obtain ⟨er, her⟩ : ∃ x, (addM M s).1 = x := ⟨_, rfl⟩
      rw [her]
      have HER := Lib.hid her
      clear her
      go_upto_if 41 with fail
      go_cut [11, 12] from 41 to 73 (fun v11 v12 wx => ∃ X, RS w wx base g ma mu M X (.slice ai ks.length ci) ks vu us #[.int .i64 s.id, .int .i64 s.pa, .bool s.lf, .int .u64 s.r.1, .int .u64 s.r.2.1, .int .u64 s.r.2.2, .int .u64 s.s.1, .int .u64 s.s.2.1, .int .u64 s.s.2.2, .int .u64 s.u.1, .int .u64 s.u.2.1, .int .u64 s.u.2.2, .int .i64 s.pk, .int .i64 s.by_] b8 #[.int .i64 wS.id, .int .i64 wS.pa, .bool wS.lf, .int .u64 wS.r.1, .int .u64 wS.r.2.1, .int .u64 wS.r.2.2, .int .u64 wS.s.1, .int .u64 wS.s.2.1, .int .u64 wS.s.2.2, .int .u64 wS.u.1, .int .u64 wS.u.2.1, .int .u64 wS.u.2.2, .int .i64 wS.pk, .int .i64 wS.by_])
      case first =>
        by_cases he0 : er = 0
        · subst he0
          obtain ⟨hm, hlen, hnone, hM1⟩ := add_ok HER.out
          obtain rfl : had = false := by have := HWS.out.2; rw [hnone] at this; exact this.symm
          have hdrop := add_drop HI.out HER.out
          generalize (addM M s).2 = M1 at H7 hM1 hdrop
          have hl1 : M1.length = ks.length + 1 := by
            rw [hM1, put_len_new hnone, ← HK.out.1, List.length_map]
          have hga := H7.out.tp.ts.get s.id hid
          unfold GetW getS spV spC at hga
          rw [hM1, look_put_same] at hga
          dsimp only [Option.getD, Option.isSome] at hga
          have HD := Lib.hid (And.intro hl1 hdrop)
          clear hm hlen hnone hM1 hl1 hdrop
          have k0 := H7.out.box.cell 0
          simp only [List.getElem?_toArray, List.getElem?_cons_zero, List.getElem?_cons_succ] at k0
          go_upto_region 12 with fail
          go_wp2_with fail
          refine hga.mono ?_
          clear hga k0
          rintro e W7 ⟨rfl, hb7⟩
          have hbx := (Below.refl W7.heap.size W7).alloc (Nat.le_refl _) (.cells #[.int .i64 s.id, .int .i64 s.pa, .bool s.lf, .int .u64 s.r.1, .int .u64 s.r.2.1, .int .u64 s.r.2.2, .int .u64 s.s.1, .int .u64 s.s.2.1, .int .u64 s.s.2.2, .int .u64 s.u.1, .int .u64 s.u.2.1, .int .u64 s.u.2.2, .int .i64 s.pk, .int .i64 s.by_] 46)
          have hBx := Blk.new W7 46 #[.int .i64 s.id, .int .i64 s.pa, .bool s.lf, .int .u64 s.r.1, .int .u64 s.r.2.1, .int .u64 s.r.2.2, .int .u64 s.s.1, .int .u64 s.s.2.1, .int .u64 s.s.2.2, .int .u64 s.u.1, .int .u64 s.u.2.1, .int .u64 s.u.2.2, .int .i64 s.pk, .int .i64 s.by_]
          obtain ⟨X8, hr8, hX8⟩ := H7.out.later (hb7.trans (hbx.mono hb7.size))
          have H8 := Lib.hid (And.intro hr8 hBx)
          clear hbx hBx hr8 hX8 hb7 H7
          obtain ⟨b11, hb11⟩ : ∃ b, b = W7.heap.size := ⟨_, rfl⟩
          rw [← hb11] at H8
          go_upto_region 13 with fail
          rw [← hb11]
          generalize W7.alloc (.cells #[.int .i64 s.id, .int .i64 s.pa, .bool s.lf, .int .u64 s.r.1, .int .u64 s.r.2.1, .int .u64 s.r.2.2, .int .u64 s.s.1, .int .u64 s.s.2.1, .int .u64 s.s.2.2, .int .u64 s.u.1, .int .u64 s.u.2.1, .int .u64 s.u.2.2, .int .i64 s.pk, .int .i64 s.by_] 46) = W8 at H8 ⊢
          clear hb11
          have k0 := H8.out.1.box.cell 0; have k1 := H8.out.1.box.cell 1; have k2 := H8.out.1.box.cell 2; have k3 := H8.out.1.box.cell 3; have k4 := H8.out.1.box.cell 4; have k5 := H8.out.1.box.cell 5; have k6 := H8.out.1.box.cell 6; have k7 := H8.out.1.box.cell 7; have k8 := H8.out.1.box.cell 8; have k9 := H8.out.1.box.cell 9; have k10 := H8.out.1.box.cell 10; have k11 := H8.out.1.box.cell 11; have k12 := H8.out.1.box.cell 12; have k13 := H8.out.1.box.cell 13
          simp only [List.getElem?_toArray, List.getElem?_cons_zero, List.getElem?_cons_succ] at k0 k1 k2 k3 k4 k5 k6 k7 k8 k9 k10 k11 k12 k13
          have q0 := H8.out.2.cell 0; have q1 := H8.out.2.cell 1; have q2 := H8.out.2.cell 2; have q3 := H8.out.2.cell 3; have q4 := H8.out.2.cell 4; have q5 := H8.out.2.cell 5; have q6 := H8.out.2.cell 6; have q7 := H8.out.2.cell 7; have q8 := H8.out.2.cell 8; have q9 := H8.out.2.cell 9; have q10 := H8.out.2.cell 10; have q11 := H8.out.2.cell 11; have q12 := H8.out.2.cell 12; have q13 := H8.out.2.cell 13
          simp only [List.getElem?_toArray, List.getElem?_cons_zero, List.getElem?_cons_succ] at q0 q1 q2 q3 q4 q5 q6 q7 q8 q9 q10 q11 q12 q13
          have hsne := sp_ne s
          have hlen := H8.out.1.tp.ts.len
          rw [HD.out.1] at hlen
          go_wp2_with fail
          refine hlen.mono ?_
          clear hlen k0 k1 k2 k3 k4 k5 k6 k7 k8 k9 k10 k11 k12 k13 q0 q1 q2 q3 q4 q5 q6 q7 q8 q9 q10 q11 q12 q13
          rintro e W9 ⟨rfl, hb9⟩
          obtain ⟨X9, hr9, _⟩ := H8.out.1.later hb9
          have H9 := Lib.hid hr9
          clear hr9 hb9 H8
          have k0 := H9.out.box.cell 0
          simp only [List.getElem?_toArray, List.getElem?_cons_zero, List.getElem?_cons_succ] at k0
          have hkn := HK.out.2.2.1
          have wadd : IntKind.i64.wrap ((ks.length : Int) + 1) = (ks.length : Int) + 1 := IntWalk.i64_in _ (by omega)
          have hdr := H9.out.tp.drop s.id hid
          rw [HD.out.2] at hdr
          go_wp2_with fail
          refine hdr.mono ?_
          clear hdr k0 wadd
          rintro e W10 ⟨rfl, ht10, hk10⟩
          have H10 := Lib.hid (H9.out.act ht10 hk10)
          clear ht10 hk10 H9 hsne
          go_wp2_with fail
          go_meet
          exact ⟨_, H10.out⟩
        · have hM := add_no (M := M) (s := s) (by rw [HER.out]; exact he0)
          have heb : (er == 0) = false := by simpa using he0
          have H8 := Lib.hid (show RS w _ base g ma mu M X5 (.slice ai ks.length ci) ks vu us #[.int .i64 s.id, .int .i64 s.pa, .bool s.lf, .int .u64 s.r.1, .int .u64 s.r.2.1, .int .u64 s.r.2.2, .int .u64 s.s.1, .int .u64 s.s.2.1, .int .u64 s.s.2.2, .int .u64 s.u.1, .int .u64 s.u.2.1, .int .u64 s.u.2.2, .int .i64 s.pk, .int .i64 s.by_] b8 #[.int .i64 wS.id, .int .i64 wS.pa, .bool wS.lf, .int .u64 wS.r.1, .int .u64 wS.r.2.1, .int .u64 wS.r.2.2, .int .u64 wS.s.1, .int .u64 wS.s.2.1, .int .u64 wS.s.2.2, .int .u64 wS.u.1, .int .u64 wS.u.2.1, .int .u64 wS.u.2.2, .int .i64 wS.pk, .int .i64 wS.by_] by rw [← hM]; exact H7.out)
          clear hM H7
          go_wp2_with fail
          go_meet
          exact ⟨_, H8.out⟩
      case rest =>
        obtain ⟨X9, hr9⟩ := hcut
        obtain ⟨W9, rfl⟩ : ∃ W, W = wc := ⟨_, rfl⟩
        have H9 := Lib.hid hr9
        clear hr9 H7
        have hch := H9.out.tp.change s HW.out
        unfold spV spC at hch
        have HCC := Lib.hid (change_cases M s)
        have k0 := H9.out.box.cell 0; have k1 := H9.out.box.cell 1; have k2 := H9.out.box.cell 2; have k3 := H9.out.box.cell 3; have k4 := H9.out.box.cell 4; have k5 := H9.out.box.cell 5; have k6 := H9.out.box.cell 6; have k7 := H9.out.box.cell 7; have k8 := H9.out.box.cell 8; have k9 := H9.out.box.cell 9; have k10 := H9.out.box.cell 10; have k11 := H9.out.box.cell 11; have k12 := H9.out.box.cell 12; have k13 := H9.out.box.cell 13
        simp only [List.getElem?_toArray, List.getElem?_cons_zero, List.getElem?_cons_succ] at k0 k1 k2 k3 k4 k5 k6 k7 k8 k9 k10 k11 k12 k13
        go_wp2_with fail
        refine hch.mono ?_
        clear hch k0 k1 k2 k3 k4 k5 k6 k7 k8 k9 k10 k11 k12 k13
        rintro e W10 ⟨rfl, ht10, hk10⟩
        have H10 := Lib.hid (H9.out.act ht10 hk10)
        clear ht10 hk10 H9
        rcases HCC.out with ⟨hn, hc⟩ | ⟨c, hn, hc | hc⟩
        · obtain rfl : had = false := by have := HWS.out.2; rw [hn] at this; exact this.symm
          have H11 := Lib.hid (show RS w W10 base g ma mu M X9 (.slice ai ks.length ci) ks vu us #[.int .i64 s.id, .int .i64 s.pa, .bool s.lf, .int .u64 s.r.1, .int .u64 s.r.2.1, .int .u64 s.r.2.2, .int .u64 s.s.1, .int .u64 s.s.2.1, .int .u64 s.s.2.2, .int .u64 s.u.1, .int .u64 s.u.2.1, .int .u64 s.u.2.2, .int .i64 s.pk, .int .i64 s.by_] b8 #[.int .i64 wS.id, .int .i64 wS.pa, .bool wS.lf, .int .u64 wS.r.1, .int .u64 wS.r.2.1, .int .u64 wS.r.2.2, .int .u64 wS.s.1, .int .u64 wS.s.2.1, .int .u64 wS.s.2.2, .int .u64 wS.u.1, .int .u64 wS.u.2.1, .int .u64 wS.u.2.2, .int .i64 wS.pk, .int .i64 wS.by_] by have := H10.out; rw [hc] at this; exact this)
          rw [hc]
          clear hn hc H10 HCC
          have hga := H11.out.tp.ts.get s.id hid
          unfold GetW spV spC at hga
          rw [HWS.out.1, HWS.out.2] at hga
          have k0 := H11.out.box.cell 0
          simp only [List.getElem?_toArray, List.getElem?_cons_zero, List.getElem?_cons_succ] at k0
          go_wp2_with fail
          refine hga.mono ?_
          clear hga k0
          rintro e W11 ⟨rfl, hb11⟩
          have hbx := (Below.refl W11.heap.size W11).alloc (Nat.le_refl _) (.cells #[.int .i64 wS.id, .int .i64 wS.pa, .bool wS.lf, .int .u64 wS.r.1, .int .u64 wS.r.2.1, .int .u64 wS.r.2.2, .int .u64 wS.s.1, .int .u64 wS.s.2.1, .int .u64 wS.s.2.2, .int .u64 wS.u.1, .int .u64 wS.u.2.1, .int .u64 wS.u.2.2, .int .i64 wS.pk, .int .i64 wS.by_] 46)
          have hBx := Blk.new W11 46 #[.int .i64 wS.id, .int .i64 wS.pa, .bool wS.lf, .int .u64 wS.r.1, .int .u64 wS.r.2.1, .int .u64 wS.r.2.2, .int .u64 wS.s.1, .int .u64 wS.s.2.1, .int .u64 wS.s.2.2, .int .u64 wS.u.1, .int .u64 wS.u.2.1, .int .u64 wS.u.2.2, .int .i64 wS.pk, .int .i64 wS.by_]
          have hlt11 := hBx.lt
          obtain ⟨X11, hr11, _⟩ := H11.out.later hb11
          have HNE := Lib.hid (show (ks ≠ [] → (Value.slice ai ks.length ci).ownBlock ≠ some W11.heap.size) ∧ (us ≠ [] → vu.ownBlock ≠ some W11.heap.size) ∧ b8 < W11.heap.size ∧ w.heap.size < W11.heap.size from ⟨fun h0 e => absurd (hr11.tp.old _ (hr11.ids.2 h0 _ e)) (Nat.lt_irrefl _), fun h0 e => absurd (hr11.tp.old _ (hr11.und.2 h0 _ e)) (Nat.lt_irrefl _), hr11.tp.old _ hr11.xw, hr11.tp.old _ hr11.xb⟩)
          clear hr11
          obtain ⟨X12, hr12, hX12⟩ := H11.out.later (hb11.trans (hbx.mono hb11.size))
          have H12 := Lib.hid (And.intro hr12 (And.intro hBx (hX12 _ hb11.size hlt11)))
          clear hbx hBx hr12 hX12 hb11 hlt11 H11
          obtain ⟨b14, hb14⟩ : ∃ b, b = W11.heap.size := ⟨_, rfl⟩
          rw [← hb14] at H12 HNE
          go_upto_region 17 with fail
          rw [← hb14]
          generalize W11.alloc (.cells #[.int .i64 wS.id, .int .i64 wS.pa, .bool wS.lf, .int .u64 wS.r.1, .int .u64 wS.r.2.1, .int .u64 wS.r.2.2, .int .u64 wS.s.1, .int .u64 wS.s.2.1, .int .u64 wS.s.2.2, .int .u64 wS.u.1, .int .u64 wS.u.2.1, .int .u64 wS.u.2.2, .int .i64 wS.pk, .int .i64 wS.by_] 46) = W12 at H12 ⊢
          clear hb14
          have hwne := sp_ne wS
          have k0 := H12.out.1.was.cell 0; have k1 := H12.out.1.was.cell 1; have k2 := H12.out.1.was.cell 2; have k3 := H12.out.1.was.cell 3; have k4 := H12.out.1.was.cell 4; have k5 := H12.out.1.was.cell 5; have k6 := H12.out.1.was.cell 6; have k7 := H12.out.1.was.cell 7; have k8 := H12.out.1.was.cell 8; have k9 := H12.out.1.was.cell 9; have k10 := H12.out.1.was.cell 10; have k11 := H12.out.1.was.cell 11; have k12 := H12.out.1.was.cell 12; have k13 := H12.out.1.was.cell 13
          simp only [List.getElem?_toArray, List.getElem?_cons_zero, List.getElem?_cons_succ] at k0 k1 k2 k3 k4 k5 k6 k7 k8 k9 k10 k11 k12 k13
          have q0 := H12.out.2.1.cell 0; have q1 := H12.out.2.1.cell 1; have q2 := H12.out.2.1.cell 2; have q3 := H12.out.2.1.cell 3; have q4 := H12.out.2.1.cell 4; have q5 := H12.out.2.1.cell 5; have q6 := H12.out.2.1.cell 6; have q7 := H12.out.2.1.cell 7; have q8 := H12.out.2.1.cell 8; have q9 := H12.out.2.1.cell 9; have q10 := H12.out.2.1.cell 10; have q11 := H12.out.2.1.cell 11; have q12 := H12.out.2.1.cell 12; have q13 := H12.out.2.1.cell 13
          simp only [List.getElem?_toArray, List.getElem?_cons_zero, List.getElem?_cons_succ] at q0 q1 q2 q3 q4 q5 q6 q7 q8 q9 q10 q11 q12 q13
          go_upto_region 23 with fail
          clear hwne k0 k1 k2 k3 k4 k5 k6 k7 k8 k9 k10 k11 k12 k13 q0 q1 q2 q3 q4 q5 q6 q7 q8 q9 q10 q11 q12 q13
          have k0 := H12.out.1.was.cell 0; have k1 := H12.out.1.was.cell 1; have k2 := H12.out.1.was.cell 2; have k3 := H12.out.1.was.cell 3; have k4 := H12.out.1.was.cell 4; have k5 := H12.out.1.was.cell 5; have k6 := H12.out.1.was.cell 6; have k7 := H12.out.1.was.cell 7; have k8 := H12.out.1.was.cell 8; have k9 := H12.out.1.was.cell 9; have k10 := H12.out.1.was.cell 10; have k11 := H12.out.1.was.cell 11; have k12 := H12.out.1.was.cell 12; have k13 := H12.out.1.was.cell 13
          simp only [List.getElem?_toArray, List.getElem?_cons_zero, List.getElem?_cons_succ] at k0 k1 k2 k3 k4 k5 k6 k7 k8 k9 k10 k11 k12 k13
          have q0 := H12.out.2.1.cell 0; have q1 := H12.out.2.1.cell 1; have q2 := H12.out.2.1.cell 2; have q3 := H12.out.2.1.cell 3; have q4 := H12.out.2.1.cell 4; have q5 := H12.out.2.1.cell 5; have q6 := H12.out.2.1.cell 6; have q7 := H12.out.2.1.cell 7; have q8 := H12.out.2.1.cell 8; have q9 := H12.out.2.1.cell 9; have q10 := H12.out.2.1.cell 10; have q11 := H12.out.2.1.cell 11; have q12 := H12.out.2.1.cell 12; have q13 := H12.out.2.1.cell 13
          simp only [List.getElem?_toArray, List.getElem?_cons_zero, List.getElem?_cons_succ] at q0 q1 q2 q3 q4 q5 q6 q7 q8 q9 q10 q11 q12 q13
          have hseq := sp_eq wS
          have hx := H12.out.1.tp.ts.ids
          rw [HK.out.1] at hx
          go_wp2_with fail
          refine hx.mono ?_
          clear hx k0 k1 k2 k3 k4 k5 k6 k7 k8 k9 k10 k11 k12 k13 q0 q1 q2 q3 q4 q5 q6 q7 q8 q9 q10 q11 q12 q13
          rintro e W13 ⟨v1, rfl, ho1, hb13⟩
          obtain ⟨X13, hr13, _⟩ := H12.out.1.later hb13
          have hsm := same16_any v1 (.slice ai ks.length ci) ks W13 (IntAt.of_owns ho1 (by have := HK.out.2.2.1; omega)) hr13.ids.1
          have H13 := Lib.hid hr13
          clear hr13 ho1 hb13 H12
          go_wp2_with fail
          refine hsm.mono ?_
          clear hsm
          rintro e W14 ⟨rfl, hb14⟩
          obtain ⟨X14, hr14, _⟩ := H13.out.later hb14
          have H14 := Lib.hid hr14
          clear hr14 hb14 H13
          have k1 := H14.out.box.cell 1
          simp only [List.getElem?_toArray, List.getElem?_cons_zero, List.getElem?_cons_succ] at k1
          have hx := H14.out.tp.ts.under s.pa hpa
          rw [HK.out.2.1] at hx
          go_wp2_with fail
          refine hx.mono ?_
          clear hx k1
          rintro e W15 ⟨v2, rfl, ho2, hb15⟩
          obtain ⟨X15, hr15, _⟩ := H14.out.later hb15
          have hsm := same16_any v2 vu us W15 (IntAt.of_owns ho2 (by have := HK.out.2.2.2; omega)) hr15.und.1
          have H15 := Lib.hid hr15
          clear hr15 ho2 hb15 H14
          go_wp2_with fail
          refine hsm.mono ?_
          clear hsm
          rintro e W16 ⟨rfl, hb16⟩
          obtain ⟨X16, hr16, _⟩ := H15.out.later hb16
          have H16 := Lib.hid hr16
          clear hr16 hb16 H15
          go_wp2_with fail
          go_ret
          exact ⟨rfl, H16.out.tp.below⟩
        · obtain rfl : had = true := by have := HWS.out.2; rw [hn] at this; exact this.symm
          have H11 := Lib.hid (show RS w W10 base g ma mu M X9 (.slice ai ks.length ci) ks vu us #[.int .i64 s.id, .int .i64 s.pa, .bool s.lf, .int .u64 s.r.1, .int .u64 s.r.2.1, .int .u64 s.r.2.2, .int .u64 s.s.1, .int .u64 s.s.2.1, .int .u64 s.s.2.2, .int .u64 s.u.1, .int .u64 s.u.2.1, .int .u64 s.u.2.2, .int .i64 s.pk, .int .i64 s.by_] b8 #[.int .i64 wS.id, .int .i64 wS.pa, .bool wS.lf, .int .u64 wS.r.1, .int .u64 wS.r.2.1, .int .u64 wS.r.2.2, .int .u64 wS.s.1, .int .u64 wS.s.2.1, .int .u64 wS.s.2.2, .int .u64 wS.u.1, .int .u64 wS.u.2.1, .int .u64 wS.u.2.2, .int .i64 wS.pk, .int .i64 wS.by_] by have := H10.out; rw [hc] at this; exact this)
          rw [hc]
          clear hn hc H10 HCC
          have hga := H11.out.tp.ts.get s.id hid
          unfold GetW spV spC at hga
          rw [HWS.out.1, HWS.out.2] at hga
          have k0 := H11.out.box.cell 0
          simp only [List.getElem?_toArray, List.getElem?_cons_zero, List.getElem?_cons_succ] at k0
          go_wp2_with fail
          refine hga.mono ?_
          clear hga k0
          rintro e W11 ⟨rfl, hb11⟩
          have hbx := (Below.refl W11.heap.size W11).alloc (Nat.le_refl _) (.cells #[.int .i64 wS.id, .int .i64 wS.pa, .bool wS.lf, .int .u64 wS.r.1, .int .u64 wS.r.2.1, .int .u64 wS.r.2.2, .int .u64 wS.s.1, .int .u64 wS.s.2.1, .int .u64 wS.s.2.2, .int .u64 wS.u.1, .int .u64 wS.u.2.1, .int .u64 wS.u.2.2, .int .i64 wS.pk, .int .i64 wS.by_] 46)
          have hBx := Blk.new W11 46 #[.int .i64 wS.id, .int .i64 wS.pa, .bool wS.lf, .int .u64 wS.r.1, .int .u64 wS.r.2.1, .int .u64 wS.r.2.2, .int .u64 wS.s.1, .int .u64 wS.s.2.1, .int .u64 wS.s.2.2, .int .u64 wS.u.1, .int .u64 wS.u.2.1, .int .u64 wS.u.2.2, .int .i64 wS.pk, .int .i64 wS.by_]
          have hlt11 := hBx.lt
          obtain ⟨X11, hr11, _⟩ := H11.out.later hb11
          have HNE := Lib.hid (show (ks ≠ [] → (Value.slice ai ks.length ci).ownBlock ≠ some W11.heap.size) ∧ (us ≠ [] → vu.ownBlock ≠ some W11.heap.size) ∧ b8 < W11.heap.size ∧ w.heap.size < W11.heap.size from ⟨fun h0 e => absurd (hr11.tp.old _ (hr11.ids.2 h0 _ e)) (Nat.lt_irrefl _), fun h0 e => absurd (hr11.tp.old _ (hr11.und.2 h0 _ e)) (Nat.lt_irrefl _), hr11.tp.old _ hr11.xw, hr11.tp.old _ hr11.xb⟩)
          clear hr11
          obtain ⟨X12, hr12, hX12⟩ := H11.out.later (hb11.trans (hbx.mono hb11.size))
          have H12 := Lib.hid (And.intro hr12 (And.intro hBx (hX12 _ hb11.size hlt11)))
          clear hbx hBx hr12 hX12 hb11 hlt11 H11
          obtain ⟨b14, hb14⟩ : ∃ b, b = W11.heap.size := ⟨_, rfl⟩
          rw [← hb14] at H12 HNE
          go_upto_region 17 with fail
          rw [← hb14]
          generalize W11.alloc (.cells #[.int .i64 wS.id, .int .i64 wS.pa, .bool wS.lf, .int .u64 wS.r.1, .int .u64 wS.r.2.1, .int .u64 wS.r.2.2, .int .u64 wS.s.1, .int .u64 wS.s.2.1, .int .u64 wS.s.2.2, .int .u64 wS.u.1, .int .u64 wS.u.2.1, .int .u64 wS.u.2.2, .int .i64 wS.pk, .int .i64 wS.by_] 46) = W12 at H12 ⊢
          clear hb14
          have hwne := sp_ne wS
          have k0 := H12.out.1.was.cell 0; have k1 := H12.out.1.was.cell 1; have k2 := H12.out.1.was.cell 2; have k3 := H12.out.1.was.cell 3; have k4 := H12.out.1.was.cell 4; have k5 := H12.out.1.was.cell 5; have k6 := H12.out.1.was.cell 6; have k7 := H12.out.1.was.cell 7; have k8 := H12.out.1.was.cell 8; have k9 := H12.out.1.was.cell 9; have k10 := H12.out.1.was.cell 10; have k11 := H12.out.1.was.cell 11; have k12 := H12.out.1.was.cell 12; have k13 := H12.out.1.was.cell 13
          simp only [List.getElem?_toArray, List.getElem?_cons_zero, List.getElem?_cons_succ] at k0 k1 k2 k3 k4 k5 k6 k7 k8 k9 k10 k11 k12 k13
          have q0 := H12.out.2.1.cell 0; have q1 := H12.out.2.1.cell 1; have q2 := H12.out.2.1.cell 2; have q3 := H12.out.2.1.cell 3; have q4 := H12.out.2.1.cell 4; have q5 := H12.out.2.1.cell 5; have q6 := H12.out.2.1.cell 6; have q7 := H12.out.2.1.cell 7; have q8 := H12.out.2.1.cell 8; have q9 := H12.out.2.1.cell 9; have q10 := H12.out.2.1.cell 10; have q11 := H12.out.2.1.cell 11; have q12 := H12.out.2.1.cell 12; have q13 := H12.out.2.1.cell 13
          simp only [List.getElem?_toArray, List.getElem?_cons_zero, List.getElem?_cons_succ] at q0 q1 q2 q3 q4 q5 q6 q7 q8 q9 q10 q11 q12 q13
          go_upto_region 23 with fail
          clear hwne k0 k1 k2 k3 k4 k5 k6 k7 k8 k9 k10 k11 k12 k13 q0 q1 q2 q3 q4 q5 q6 q7 q8 q9 q10 q11 q12 q13
          have k0 := H12.out.1.was.cell 0; have k1 := H12.out.1.was.cell 1; have k2 := H12.out.1.was.cell 2; have k3 := H12.out.1.was.cell 3; have k4 := H12.out.1.was.cell 4; have k5 := H12.out.1.was.cell 5; have k6 := H12.out.1.was.cell 6; have k7 := H12.out.1.was.cell 7; have k8 := H12.out.1.was.cell 8; have k9 := H12.out.1.was.cell 9; have k10 := H12.out.1.was.cell 10; have k11 := H12.out.1.was.cell 11; have k12 := H12.out.1.was.cell 12; have k13 := H12.out.1.was.cell 13
          simp only [List.getElem?_toArray, List.getElem?_cons_zero, List.getElem?_cons_succ] at k0 k1 k2 k3 k4 k5 k6 k7 k8 k9 k10 k11 k12 k13
          have q0 := H12.out.2.1.cell 0; have q1 := H12.out.2.1.cell 1; have q2 := H12.out.2.1.cell 2; have q3 := H12.out.2.1.cell 3; have q4 := H12.out.2.1.cell 4; have q5 := H12.out.2.1.cell 5; have q6 := H12.out.2.1.cell 6; have q7 := H12.out.2.1.cell 7; have q8 := H12.out.2.1.cell 8; have q9 := H12.out.2.1.cell 9; have q10 := H12.out.2.1.cell 10; have q11 := H12.out.2.1.cell 11; have q12 := H12.out.2.1.cell 12; have q13 := H12.out.2.1.cell 13
          simp only [List.getElem?_toArray, List.getElem?_cons_zero, List.getElem?_cons_succ] at q0 q1 q2 q3 q4 q5 q6 q7 q8 q9 q10 q11 q12 q13
          have hseq := sp_eq wS
          have hx := H12.out.1.tp.ts.ids
          rw [HK.out.1] at hx
          go_wp2_with fail
          refine hx.mono ?_
          clear hx k0 k1 k2 k3 k4 k5 k6 k7 k8 k9 k10 k11 k12 k13 q0 q1 q2 q3 q4 q5 q6 q7 q8 q9 q10 q11 q12 q13
          rintro e W13 ⟨v1, rfl, ho1, hb13⟩
          obtain ⟨X13, hr13, _⟩ := H12.out.1.later hb13
          have hsm := same16_any v1 (.slice ai ks.length ci) ks W13 (IntAt.of_owns ho1 (by have := HK.out.2.2.1; omega)) hr13.ids.1
          have H13 := Lib.hid hr13
          clear hr13 ho1 hb13 H12
          go_wp2_with fail
          refine hsm.mono ?_
          clear hsm
          rintro e W14 ⟨rfl, hb14⟩
          obtain ⟨X14, hr14, _⟩ := H13.out.later hb14
          have H14 := Lib.hid hr14
          clear hr14 hb14 H13
          have k1 := H14.out.box.cell 1
          simp only [List.getElem?_toArray, List.getElem?_cons_zero, List.getElem?_cons_succ] at k1
          have hx := H14.out.tp.ts.under s.pa hpa
          rw [HK.out.2.1] at hx
          go_wp2_with fail
          refine hx.mono ?_
          clear hx k1
          rintro e W15 ⟨v2, rfl, ho2, hb15⟩
          obtain ⟨X15, hr15, _⟩ := H14.out.later hb15
          have hsm := same16_any v2 vu us W15 (IntAt.of_owns ho2 (by have := HK.out.2.2.2; omega)) hr15.und.1
          have H15 := Lib.hid hr15
          clear hr15 ho2 hb15 H14
          go_wp2_with fail
          refine hsm.mono ?_
          clear hsm
          rintro e W16 ⟨rfl, hb16⟩
          obtain ⟨X16, hr16, _⟩ := H15.out.later hb16
          have H16 := Lib.hid hr16
          clear hr16 hb16 H15
          go_wp2_with fail
          go_ret
          exact ⟨rfl, H16.out.tp.below⟩
        · obtain rfl : had = true := by have := HWS.out.2; rw [hn] at this; exact this.symm
          have hwc : c.1 = wS := by have := HWS.out.1; unfold getS at this; rw [hn] at this; exact this
          have hback := change_back HI.out hn
          have hwfc := (HI.out.ok _ _ hn).wf
          have hgn : getS (putM M s.id (withC c.1 s, c.2)) s.id = withC c.1 s := by unfold getS; rw [look_put_same]; rfl
          have hgs : (lookM (putM M s.id (withC c.1 s, c.2)) s.id).isSome = true := by rw [look_put_same]; rfl
          rw [hwc] at hback hwfc hgn hgs
          have H11 := Lib.hid (show RS w W10 base g ma mu (putM M s.id (withC wS s, c.2)) X9 (.slice ai ks.length ci) ks vu us #[.int .i64 s.id, .int .i64 s.pa, .bool s.lf, .int .u64 s.r.1, .int .u64 s.r.2.1, .int .u64 s.r.2.2, .int .u64 s.s.1, .int .u64 s.s.2.1, .int .u64 s.s.2.2, .int .u64 s.u.1, .int .u64 s.u.2.1, .int .u64 s.u.2.2, .int .i64 s.pk, .int .i64 s.by_] b8 #[.int .i64 wS.id, .int .i64 wS.pa, .bool wS.lf, .int .u64 wS.r.1, .int .u64 wS.r.2.1, .int .u64 wS.r.2.2, .int .u64 wS.s.1, .int .u64 wS.s.2.1, .int .u64 wS.s.2.2, .int .u64 wS.u.1, .int .u64 wS.u.2.1, .int .u64 wS.u.2.2, .int .i64 wS.pk, .int .i64 wS.by_] by have := H10.out; rw [hc, hwc] at this; exact this)
          rw [hc]
          have HB := Lib.hid (And.intro hback (And.intro hwfc (And.intro hgn hgs)))
          clear hn hc H10 HCC hback hwfc hgn hgs hwc
          generalize putM M s.id (withC wS s, c.2) = M2 at H11 HB
          have hga := H11.out.tp.ts.get s.id hid
          unfold GetW spV spC at hga
          rw [HB.out.2.2.1, HB.out.2.2.2] at hga
          unfold withC at hga
          dsimp only at hga
          have k0 := H11.out.box.cell 0
          simp only [List.getElem?_toArray, List.getElem?_cons_zero, List.getElem?_cons_succ] at k0
          go_wp2_with fail
          refine hga.mono ?_
          clear hga k0
          rintro e W11 ⟨rfl, hb11⟩
          have hbx := (Below.refl W11.heap.size W11).alloc (Nat.le_refl _) (.cells #[.int .i64 wS.id, .int .i64 wS.pa, .bool wS.lf, .int .u64 s.r.1, .int .u64 s.r.2.1, .int .u64 s.r.2.2, .int .u64 s.s.1, .int .u64 s.s.2.1, .int .u64 s.s.2.2, .int .u64 s.u.1, .int .u64 s.u.2.1, .int .u64 s.u.2.2, .int .i64 wS.pk, .int .i64 wS.by_] 46)
          have hBx := Blk.new W11 46 #[.int .i64 wS.id, .int .i64 wS.pa, .bool wS.lf, .int .u64 s.r.1, .int .u64 s.r.2.1, .int .u64 s.r.2.2, .int .u64 s.s.1, .int .u64 s.s.2.1, .int .u64 s.s.2.2, .int .u64 s.u.1, .int .u64 s.u.2.1, .int .u64 s.u.2.2, .int .i64 wS.pk, .int .i64 wS.by_]
          have hlt11 := hBx.lt
          obtain ⟨X11, hr11, _⟩ := H11.out.later hb11
          have HNE := Lib.hid (show (ks ≠ [] → (Value.slice ai ks.length ci).ownBlock ≠ some W11.heap.size) ∧ (us ≠ [] → vu.ownBlock ≠ some W11.heap.size) ∧ b8 < W11.heap.size ∧ w.heap.size < W11.heap.size from ⟨fun h0 e => absurd (hr11.tp.old _ (hr11.ids.2 h0 _ e)) (Nat.lt_irrefl _), fun h0 e => absurd (hr11.tp.old _ (hr11.und.2 h0 _ e)) (Nat.lt_irrefl _), hr11.tp.old _ hr11.xw, hr11.tp.old _ hr11.xb⟩)
          clear hr11
          obtain ⟨X12, hr12, hX12⟩ := H11.out.later (hb11.trans (hbx.mono hb11.size))
          have H12 := Lib.hid (And.intro hr12 (And.intro hBx (hX12 _ hb11.size hlt11)))
          clear hbx hBx hr12 hX12 hb11 hlt11 H11
          obtain ⟨b14, hb14⟩ : ∃ b, b = W11.heap.size := ⟨_, rfl⟩
          rw [← hb14] at H12 HNE
          go_upto_region 17 with fail
          rw [← hb14]
          generalize W11.alloc (.cells #[.int .i64 wS.id, .int .i64 wS.pa, .bool wS.lf, .int .u64 s.r.1, .int .u64 s.r.2.1, .int .u64 s.r.2.2, .int .u64 s.s.1, .int .u64 s.s.2.1, .int .u64 s.s.2.2, .int .u64 s.u.1, .int .u64 s.u.2.1, .int .u64 s.u.2.2, .int .i64 wS.pk, .int .i64 wS.by_] 46) = W12 at H12 ⊢
          clear hb14
          have q0 := H12.out.2.1.cell 0; have q1 := H12.out.2.1.cell 1; have q2 := H12.out.2.1.cell 2; have q3 := H12.out.2.1.cell 3; have q4 := H12.out.2.1.cell 4; have q5 := H12.out.2.1.cell 5; have q6 := H12.out.2.1.cell 6; have q7 := H12.out.2.1.cell 7; have q8 := H12.out.2.1.cell 8; have q9 := H12.out.2.1.cell 9; have q10 := H12.out.2.1.cell 10; have q11 := H12.out.2.1.cell 11; have q12 := H12.out.2.1.cell 12; have q13 := H12.out.2.1.cell 13
          simp only [List.getElem?_toArray, List.getElem?_cons_zero, List.getElem?_cons_succ] at q0 q1 q2 q3 q4 q5 q6 q7 q8 q9 q10 q11 q12 q13
          go_upto_region 20 with fail
          clear q0 q1 q2 q3 q4 q5 q6 q7 q8 q9 q10 q11 q12 q13
          have k0 := H12.out.1.was.cell 0; have k1 := H12.out.1.was.cell 1; have k2 := H12.out.1.was.cell 2; have k3 := H12.out.1.was.cell 3; have k4 := H12.out.1.was.cell 4; have k5 := H12.out.1.was.cell 5; have k6 := H12.out.1.was.cell 6; have k7 := H12.out.1.was.cell 7; have k8 := H12.out.1.was.cell 8; have k9 := H12.out.1.was.cell 9; have k10 := H12.out.1.was.cell 10; have k11 := H12.out.1.was.cell 11; have k12 := H12.out.1.was.cell 12; have k13 := H12.out.1.was.cell 13
          simp only [List.getElem?_toArray, List.getElem?_cons_zero, List.getElem?_cons_succ] at k0 k1 k2 k3 k4 k5 k6 k7 k8 k9 k10 k11 k12 k13
          have q0 := H12.out.2.1.cell 0; have q1 := H12.out.2.1.cell 1; have q2 := H12.out.2.1.cell 2; have q3 := H12.out.2.1.cell 3; have q4 := H12.out.2.1.cell 4; have q5 := H12.out.2.1.cell 5; have q6 := H12.out.2.1.cell 6; have q7 := H12.out.2.1.cell 7; have q8 := H12.out.2.1.cell 8; have q9 := H12.out.2.1.cell 9; have q10 := H12.out.2.1.cell 10; have q11 := H12.out.2.1.cell 11; have q12 := H12.out.2.1.cell 12; have q13 := H12.out.2.1.cell 13
          simp only [List.getElem?_toArray, List.getElem?_cons_zero, List.getElem?_cons_succ] at q0 q1 q2 q3 q4 q5 q6 q7 q8 q9 q10 q11 q12 q13
          have r0 := H12.out.1.box.cell 0; have r1 := H12.out.1.box.cell 1; have r2 := H12.out.1.box.cell 2; have r3 := H12.out.1.box.cell 3; have r4 := H12.out.1.box.cell 4; have r5 := H12.out.1.box.cell 5; have r6 := H12.out.1.box.cell 6; have r7 := H12.out.1.box.cell 7; have r8 := H12.out.1.box.cell 8; have r9 := H12.out.1.box.cell 9; have r10 := H12.out.1.box.cell 10; have r11 := H12.out.1.box.cell 11; have r12 := H12.out.1.box.cell 12; have r13 := H12.out.1.box.cell 13
          simp only [List.getElem?_toArray, List.getElem?_cons_zero, List.getElem?_cons_succ] at r0 r1 r2 r3 r4 r5 r6 r7 r8 r9 r10 r11 r12 r13
          have hcn1 := cv_ne s.r
          have hcn2 := cv_ne s.s
          have hcn3 := cv_ne s.u
          have hch := H12.out.1.tp.change wS HB.out.2.1
          rw [HB.out.1] at hch
          unfold spV spC at hch
          go_wp2_with fail
          refine hch.mono ?_
          clear hch k0 k1 k2 k3 k4 k5 k6 k7 k8 k9 k10 k11 k12 k13 q0 q1 q2 q3 q4 q5 q6 q7 q8 q9 q10 q11 q12 q13 r0 r1 r2 r3 r4 r5 r6 r7 r8 r9 r10 r11 r12 r13 hcn1 hcn2 hcn3
          rintro e W13 ⟨rfl, ht13, hk13⟩
          have H13 := Lib.hid (And.intro (H12.out.1.act ht13 hk13) (And.intro (H12.out.2.1.keptX hk13 H12.out.2.2) H12.out.2.2))
          clear ht13 hk13 H12
          have hga := H13.out.1.tp.ts.get s.id hid
          unfold GetW spV spC at hga
          rw [HWS.out.1, HWS.out.2] at hga
          have k0 := H13.out.1.box.cell 0
          simp only [List.getElem?_toArray, List.getElem?_cons_zero, List.getElem?_cons_succ] at k0
          go_wp2_with fail
          refine hga.mono ?_
          clear hga k0
          rintro e W14 ⟨rfl, hb14⟩
          have hr14 : RS w W14 base g ma mu M (fun b => X12 b ∨ (W13.heap.size ≤ b ∧ b < W14.heap.size)) (.slice ai ks.length ci) ks vu us #[.int .i64 s.id, .int .i64 s.pa, .bool s.lf, .int .u64 s.r.1, .int .u64 s.r.2.1, .int .u64 s.r.2.2, .int .u64 s.s.1, .int .u64 s.s.2.1, .int .u64 s.s.2.2, .int .u64 s.u.1, .int .u64 s.u.2.1, .int .u64 s.u.2.2, .int .i64 s.pk, .int .i64 s.by_] b8 #[.int .i64 wS.id, .int .i64 wS.pa, .bool wS.lf, .int .u64 wS.r.1, .int .u64 wS.r.2.1, .int .u64 wS.r.2.2, .int .u64 wS.s.1, .int .u64 wS.s.2.1, .int .u64 wS.s.2.2, .int .u64 wS.u.1, .int .u64 wS.u.2.1, .int .u64 wS.u.2.2, .int .i64 wS.pk, .int .i64 wS.by_] := ⟨H13.out.1.tp.later hb14, H13.out.1.box.below hb14 H13.out.1.box.lt, .inl H13.out.1.xb, H13.out.1.ids.later hb14 (fun _ => .inl), H13.out.1.und.later hb14 (fun _ => .inl), H13.out.1.was.below hb14 H13.out.1.was.lt, .inl H13.out.1.xw⟩
          have hq14 := H13.out.2.1.below hb14 H13.out.2.1.lt
          have hg14 := grown_setCells b14 [.int .i64 wS.id, .int .i64 wS.pa, .bool wS.lf, .int .u64 wS.r.1, .int .u64 wS.r.2.1, .int .u64 wS.r.2.2, .int .u64 wS.s.1, .int .u64 wS.s.2.1, .int .u64 wS.s.2.2, .int .u64 wS.u.1, .int .u64 wS.u.2.1, .int .u64 wS.u.2.2, .int .i64 wS.pk, .int .i64 wS.by_] 0 W14
          have hn14 := hq14.setCells [.int .i64 wS.id, .int .i64 wS.pa, .bool wS.lf, .int .u64 wS.r.1, .int .u64 wS.r.2.1, .int .u64 wS.r.2.2, .int .u64 wS.s.1, .int .u64 wS.s.2.1, .int .u64 wS.s.2.2, .int .u64 wS.u.1, .int .u64 wS.u.2.1, .int .u64 wS.u.2.2, .int .i64 wS.pk, .int .i64 wS.by_] 0
          rw [setL_all _ _ (by simp)] at hn14
          have H12 := Lib.hid (And.intro (hr14.set hq14 (.inl H13.out.2.2) hg14 HNE.out.2.2.2 HNE.out.2.2.1 HNE.out.1 HNE.out.2.1) (And.intro hn14 trivial))
          have HQ14 := Lib.hid hq14
          clear hr14 hg14 hn14 hq14 hb14 H13
          have q0 := HQ14.out.cell 0; have q1 := HQ14.out.cell 1; have q2 := HQ14.out.cell 2; have q3 := HQ14.out.cell 3; have q4 := HQ14.out.cell 4; have q5 := HQ14.out.cell 5; have q6 := HQ14.out.cell 6; have q7 := HQ14.out.cell 7; have q8 := HQ14.out.cell 8; have q9 := HQ14.out.cell 9; have q10 := HQ14.out.cell 10; have q11 := HQ14.out.cell 11; have q12 := HQ14.out.cell 12; have q13 := HQ14.out.cell 13
          simp only [List.getElem?_toArray, List.getElem?_cons_zero, List.getElem?_cons_succ] at q0 q1 q2 q3 q4 q5 q6 q7 q8 q9 q10 q11 q12 q13
          have f0 := HQ14.out.frozen 0; have f1 := HQ14.out.frozen 1; have f2 := HQ14.out.frozen 2; have f3 := HQ14.out.frozen 3; have f4 := HQ14.out.frozen 4; have f5 := HQ14.out.frozen 5; have f6 := HQ14.out.frozen 6; have f7 := HQ14.out.frozen 7; have f8 := HQ14.out.frozen 8; have f9 := HQ14.out.frozen 9; have f10 := HQ14.out.frozen 10; have f11 := HQ14.out.frozen 11; have f12 := HQ14.out.frozen 12; have f13 := HQ14.out.frozen 13
          go_upto_region 23 with fail
          clear q0 q1 q2 q3 q4 q5 q6 q7 q8 q9 q10 q11 q12 q13 f0 f1 f2 f3 f4 f5 f6 f7 f8 f9 f10 f11 f12 f13
          have eW : W14.setCells b14 0 [.int .i64 wS.id, .int .i64 wS.pa, .bool wS.lf, .int .u64 wS.r.1, .int .u64 wS.r.2.1, .int .u64 wS.r.2.2, .int .u64 wS.s.1, .int .u64 wS.s.2.1, .int .u64 wS.s.2.2, .int .u64 wS.u.1, .int .u64 wS.u.2.1, .int .u64 wS.u.2.2, .int .i64 wS.pk, .int .i64 wS.by_] = ((((((((((((((W14.setCell ⟨b14, 0, none⟩ (.int .i64 wS.id)).setCell ⟨b14, 1, none⟩ (.int .i64 wS.pa)).setCell ⟨b14, 2, none⟩ (.bool wS.lf)).setCell ⟨b14, 3, none⟩ (.int .u64 wS.r.1)).setCell ⟨b14, 4, none⟩ (.int .u64 wS.r.2.1)).setCell ⟨b14, 5, none⟩ (.int .u64 wS.r.2.2)).setCell ⟨b14, 6, none⟩ (.int .u64 wS.s.1)).setCell ⟨b14, 7, none⟩ (.int .u64 wS.s.2.1)).setCell ⟨b14, 8, none⟩ (.int .u64 wS.s.2.2)).setCell ⟨b14, 9, none⟩ (.int .u64 wS.u.1)).setCell ⟨b14, 10, none⟩ (.int .u64 wS.u.2.1)).setCell ⟨b14, 11, none⟩ (.int .u64 wS.u.2.2)).setCell ⟨b14, 12, none⟩ (.int .i64 wS.pk)).setCell ⟨b14, 13, none⟩ (.int .i64 wS.by_)) := rfl
          rw [eW] at H12
          generalize ((((((((((((((W14.setCell ⟨b14, 0, none⟩ (.int .i64 wS.id)).setCell ⟨b14, 1, none⟩ (.int .i64 wS.pa)).setCell ⟨b14, 2, none⟩ (.bool wS.lf)).setCell ⟨b14, 3, none⟩ (.int .u64 wS.r.1)).setCell ⟨b14, 4, none⟩ (.int .u64 wS.r.2.1)).setCell ⟨b14, 5, none⟩ (.int .u64 wS.r.2.2)).setCell ⟨b14, 6, none⟩ (.int .u64 wS.s.1)).setCell ⟨b14, 7, none⟩ (.int .u64 wS.s.2.1)).setCell ⟨b14, 8, none⟩ (.int .u64 wS.s.2.2)).setCell ⟨b14, 9, none⟩ (.int .u64 wS.u.1)).setCell ⟨b14, 10, none⟩ (.int .u64 wS.u.2.1)).setCell ⟨b14, 11, none⟩ (.int .u64 wS.u.2.2)).setCell ⟨b14, 12, none⟩ (.int .i64 wS.pk)).setCell ⟨b14, 13, none⟩ (.int .i64 wS.by_)) = W15 at H12 ⊢
          clear eW HQ14
          have k0 := H12.out.1.was.cell 0; have k1 := H12.out.1.was.cell 1; have k2 := H12.out.1.was.cell 2; have k3 := H12.out.1.was.cell 3; have k4 := H12.out.1.was.cell 4; have k5 := H12.out.1.was.cell 5; have k6 := H12.out.1.was.cell 6; have k7 := H12.out.1.was.cell 7; have k8 := H12.out.1.was.cell 8; have k9 := H12.out.1.was.cell 9; have k10 := H12.out.1.was.cell 10; have k11 := H12.out.1.was.cell 11; have k12 := H12.out.1.was.cell 12; have k13 := H12.out.1.was.cell 13
          simp only [List.getElem?_toArray, List.getElem?_cons_zero, List.getElem?_cons_succ] at k0 k1 k2 k3 k4 k5 k6 k7 k8 k9 k10 k11 k12 k13
          have q0 := H12.out.2.1.cell 0; have q1 := H12.out.2.1.cell 1; have q2 := H12.out.2.1.cell 2; have q3 := H12.out.2.1.cell 3; have q4 := H12.out.2.1.cell 4; have q5 := H12.out.2.1.cell 5; have q6 := H12.out.2.1.cell 6; have q7 := H12.out.2.1.cell 7; have q8 := H12.out.2.1.cell 8; have q9 := H12.out.2.1.cell 9; have q10 := H12.out.2.1.cell 10; have q11 := H12.out.2.1.cell 11; have q12 := H12.out.2.1.cell 12; have q13 := H12.out.2.1.cell 13
          simp only [List.getElem?_toArray, List.getElem?_cons_zero, List.getElem?_cons_succ] at q0 q1 q2 q3 q4 q5 q6 q7 q8 q9 q10 q11 q12 q13
          have hseq := sp_eq wS
          have hx := H12.out.1.tp.ts.ids
          rw [HK.out.1] at hx
          go_wp2_with fail
          refine hx.mono ?_
          clear hx k0 k1 k2 k3 k4 k5 k6 k7 k8 k9 k10 k11 k12 k13 q0 q1 q2 q3 q4 q5 q6 q7 q8 q9 q10 q11 q12 q13
          rintro e W13 ⟨v1, rfl, ho1, hb13⟩
          obtain ⟨X13, hr13, _⟩ := H12.out.1.later hb13
          have hsm := same16_any v1 (.slice ai ks.length ci) ks W13 (IntAt.of_owns ho1 (by have := HK.out.2.2.1; omega)) hr13.ids.1
          have H13 := Lib.hid hr13
          clear hr13 ho1 hb13 H12
          go_wp2_with fail
          refine hsm.mono ?_
          clear hsm
          rintro e W14 ⟨rfl, hb14⟩
          obtain ⟨X14, hr14, _⟩ := H13.out.later hb14
          have H14 := Lib.hid hr14
          clear hr14 hb14 H13
          have k1 := H14.out.box.cell 1
          simp only [List.getElem?_toArray, List.getElem?_cons_zero, List.getElem?_cons_succ] at k1
          have hx := H14.out.tp.ts.under s.pa hpa
          rw [HK.out.2.1] at hx
          go_wp2_with fail
          refine hx.mono ?_
          clear hx k1
          rintro e W15 ⟨v2, rfl, ho2, hb15⟩
          obtain ⟨X15, hr15, _⟩ := H14.out.later hb15
          have hsm := same16_any v2 vu us W15 (IntAt.of_owns ho2 (by have := HK.out.2.2.2; omega)) hr15.und.1
          have H15 := Lib.hid hr15
          clear hr15 ho2 hb15 H14
          go_wp2_with fail
          refine hsm.mono ?_
          clear hsm
          rintro e W16 ⟨rfl, hb16⟩
          obtain ⟨X16, hr16, _⟩ := H15.out.later hb16
          have H16 := Lib.hid hr16
          clear hr16 hb16 H15
          go_wp2_with fail
          go_ret
          exact ⟨rfl, H16.out.tp.below⟩
end Go.Proofs.Ytclhhegfffccgaa
