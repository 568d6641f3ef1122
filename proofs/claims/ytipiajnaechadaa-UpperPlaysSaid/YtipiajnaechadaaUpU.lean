/-
  A limit of either kind (held back by a run, or free) and the document's: contracts that serve both.
-/
import Derived.Test.YtipiajnaechadaaRunSame
import Derived.Test.YtipiajnaechadaaUpRun
import Derived.Test.YtipiajnaechadaaRunCopy
import Derived.Test.YtipiajnaechadaaUpActs
namespace Go.Proofs.Ytipiajnaechadaa
set_option linter.unusedVariables false
open Go.RowKit
attribute [local go_sem] quietR quietAtR quietUponR midAt midUpon

/-- a limit in memory; fr: it is free -/
def LimU (w : World) (l r g : Nat) (fr : Bool) (F L R x : Int) (A : List (Int × Int)) : Prop :=
  match fr with | true => LFree w l | false => LimAt w l r g F L R x A
/-- the document's limit -/
def RefU (w : World) (q base : Nat) (fr : Bool) (F L R x : Int) (A : List (Int × Int)) : Prop :=
  match fr with
  | true => ∃ p, Blk w q 87 #[.int .u64 0, .int .u64 0, .int .u64 0, .pointer p]
  | false => ¬ (F = 0 ∧ L = 0 ∧ R = 0) ∧ ∃ p, Blk w q 87 #[.int .u64 F, .int .u64 L, .int .u64 R, .pointer (some ⟨p, 0, none⟩)] ∧ RefAt w p base F L R x A
/-- what a start turns -/
def UpFr (fr : Bool) (W W' : World) (g : Nat) : Prop := match fr with | true => Below W.heap.size W W' | false => W.grownBy W' (some g)
def fitU (fr : Bool) (v : Int) : Int := match fr with | true => 0 | false => v
def mostU (fr : Bool) (v : Int) : Int := match fr with | true => 4611686018427387904 | false => v

section
variable {w w' : World} {l r g q base : Nat} {fr : Bool} {F L R x : Int} {A : List (Int × Int)}
theorem LimU.below (h : LimU w l r g fr F L R x A) (hb : Below w.heap.size w w') : LimU w' l r g fr F L R x A := by
  cases fr with
  | true => exact Blk.below h hb (Blk.lt h)
  | false => exact LimAt.below h hb
theorem RefU.below (h : RefU w q base fr F L R x A) (hb : Below w.heap.size w w') : RefU w' q base fr F L R x A := by
  cases fr with
  | true => obtain ⟨p, h⟩ := h; exact ⟨p, h.below hb h.lt⟩
  | false => obtain ⟨h0, p, h, h2⟩ := h; exact ⟨h0, p, h.below hb h.lt, h2.below hb⟩
theorem RefU.nums (h : RefU w q base false F L R x A) : Nums x A := by obtain ⟨h0, p, h, h2⟩ := h; exact h2.nums
theorem UpFr.low {n : Nat} (h : UpFr fr w w' g) (hn : n ≤ w.heap.size) (hg : n ≤ g) : Below n w w' := by
  cases fr with
  | true => exact Below.mono h hn
  | false => exact ⟨h.os, h.tape, h.output, h.size, fun k hk => h.block k (by omega) (by simp; omega)⟩
/-- another limit's run starts -/
theorem LimU.stay {l2 r2 g2 : Nat} {x2 : Int} {A2 : List (Int × Int)} (h : LimU w l r g fr F L R x A) (h2 : LimU w l2 r2 g2 fr F L R x2 A2) (hg : fr = false → g2 ≠ g) (hw : UpFr fr w w' g2) : LimU w' l r g fr F L R x A := by
  cases fr with
  | true => exact LimU.below (fr := true) (r := r) (g := g) (F := F) (L := L) (R := R) (x := x) (A := A) h hw
  | false =>
    obtain ⟨t, cs, hB, ht1, ht2⟩ := RunAt.gblk h2.2.1
    have hne : t ≠ 83 := by
      rcases h2.2.1 with k | ⟨_, ⟨K, hK⟩, _⟩
      · obtain ⟨a1, a2, hB2, _⟩ := k.2.1.blk
        intro he; subst he
        exact blk_ne hB hB2 (by decide) rfl
      · obtain ⟨v, hB2, _⟩ := hK.at_
        intro he; subst he
        exact blk_ne hB hB2 (by decide) rfl
    exact ⟨h.1.grown hw (by have := blk_ne hB h.1 hne; simpa using Ne.symm this), h.2.1.stay h2.2.1 (hg rfl) hw, h.2.2⟩
theorem LimU.glt (h : LimU w l r g fr F L R x A) (hf : fr = false) : g < w.heap.size := by
  subst hf
  have h1 := LimAt.glt h
  have h2 := h.1.lt
  omega
theorem Blk.upFr {b : Nat} {t : TypeId} {cs : Array Value} (h : Blk w b t cs) {x2 : Int} {A2 : List (Int × Int)} {l2 r2 g2 : Nat} (h2 : LimU w l2 r2 g2 fr F L R x2 A2) (hw : UpFr fr w w' g2) (ht1 : t ≠ 105) (ht2 : t ≠ 91) : Blk w' b t cs := by
  cases fr with
  | true => exact h.below hw h.lt
  | false =>
    refine h.grown hw ?_
    have : g2 ≠ b := by
      rcases h2.2.1 with k | ⟨_, ⟨K, hK⟩, _⟩
      · obtain ⟨a1, a2, hB2, _⟩ := k.2.1.blk
        exact blk_ne hB2 h (Ne.symm ht1)
      · obtain ⟨v, hB2, _⟩ := hK.at_
        exact blk_ne hB2 h (Ne.symm ht2)
    simpa using Ne.symm this
theorem RefU.stay (h : RefU w q base fr F L R x A) {x2 : Int} {A2 : List (Int × Int)} {l2 r2 g2 : Nat} (h2 : LimU w l2 r2 g2 fr F L R x2 A2) (hw : UpFr fr w w' g2) : RefU w' q base fr F L R x A := by
  cases fr with
  | true => exact RefU.below (fr := true) (base := base) (F := F) (L := L) (R := R) (x := x) (A := A) h hw
  | false =>
    obtain ⟨h0, p, hB, h3⟩ := h
    refine ⟨h0, p, hB.grown hw ?_, h3.stay h2.2.1 hw⟩
    have : g2 ≠ q := by
      rcases h2.2.1 with k | ⟨_, ⟨K, hK⟩, _⟩
      · obtain ⟨a1, a2, hB2, _⟩ := k.2.1.blk
        exact blk_ne hB2 hB (by decide)
      · obtain ⟨v, hB2, _⟩ := hK.at_
        exact blk_ne hB2 hB (by decide)
    simpa using Ne.symm this

theorem ulim_wake (h : LimU w l r g fr F L R x A) (t y X Y : Int) (ht : U t) (hy : U y) (hX : X = max (min t 9223372036854775808) x) (hY : Y = min y 4611686018427387904) (hfew : A.length < 900000) :
    Calls Try.prog 15 #[.pointer (some ⟨l, 0, none⟩), .int .u64 t, .int .u64 y] w fun e w' => e = .returned (.tuple #[]) ∧ LimU w' l r g fr F L R X (A ++ [(X, Y)]) ∧ UpFr fr w w' g := by
  cases fr with
  | false => exact lwake h t y X Y ht hy hX hY hfew
  | true =>
    have H := Lib.hid (show LFree w l from h); clear h hX hY
    go_enter Try.func15, Try.ntmps15
    go_wp2_with (go_at_call 47; refine (lbound_free H.out).mono ?_; rintro e w0 ⟨rfl, hb0⟩)
    go_returns
    exact ⟨rfl, H.out.below hb0 H.out.lt, hb0⟩

theorem ulim_fit (h : LimU w l r g fr F L R x A) (y : Int) (hy : U y) :
    Calls Try.prog 18 #[.pointer (some ⟨l, 0, none⟩), .int .u64 y] w fun e w' => e = .returned (.int .u64 (fitU fr (qR F L R x A y))) ∧ Below w.heap.size w w' := by
  cases fr with
  | true => exact lfit_free y h
  | false =>
    have H := Lib.hid (show LimAt w l r g F L R x A from h); clear h
    unfold fitU
    go_enter Try.func18, Try.ntmps18
    go_wp2_with (first
      | (go_at_call 47; refine (lbound_some H.out).mono ?_; rintro e w0 ⟨rfl, hb0⟩; have hq := H.out.below hb0; clear H; have H := Lib.hid hq; clear hq)
      | (go_at_call 38; refine (urun_reach H.out.2.1 y hy).mono ?_; rintro e w1 ⟨rfl, hb1⟩))
    go_ret
    exact ⟨rfl, hb0.trans (hb1.mono hb0.size)⟩
theorem ulim_most (h : LimU w l r g fr F L R x A) (t : Int) (ht : U t) :
    Calls Try.prog 20 #[.pointer (some ⟨l, 0, none⟩), .int .u64 t] w fun e w' => e = .returned (.int .u64 (mostU fr (qA F L R x A t))) ∧ Below w.heap.size w w' := by
  cases fr with
  | true =>
    have H := Lib.hid (show LFree w l from h); clear h
    go_enter Try.func20, Try.ntmps20
    go_wp2_with (go_at_call 47; refine (lbound_free H.out).mono ?_; rintro e w0 ⟨rfl, hb0⟩)
    go_ret
    exact ⟨rfl, hb0⟩
  | false =>
    have H := Lib.hid (show LimAt w l r g F L R x A from h); clear h
    unfold mostU
    go_enter Try.func20, Try.ntmps20
    go_wp2_with (first
      | (go_at_call 47; refine (lbound_some H.out).mono ?_; rintro e w0 ⟨rfl, hb0⟩; have hq := H.out.below hb0; clear H; have H := Lib.hid hq; clear hq)
      | (go_at_call 36; refine (urun_at H.out.2.1 t ht).mono ?_; rintro e w1 ⟨rfl, hb1⟩))
    go_ret
    exact ⟨rfl, hb0.trans (hb1.mono hb0.size)⟩

theorem rnone_free {p : Option Addr} (h : Blk w q 87 #[.int .u64 0, .int .u64 0, .int .u64 0, .pointer p]) :
    Calls Try.prog 48 #[.pointer (some ⟨q, 0, none⟩)] w fun e w' => e = .returned (.bool true) ∧ w = w' := by
  have c0 := h.cell 0; have c1 := h.cell 1; have c2 := h.cell 2
  simp only [List.getElem?_toArray, List.getElem?_cons_zero, List.getElem?_cons_succ] at c0 c1 c2
  clear h
  go_enter Try.func48, Try.ntmps48
  go_wp2
  go_ret
  exact ⟨rfl, rfl⟩
theorem rnone_held {p : Option Addr} (h0 : ¬ (F = 0 ∧ L = 0 ∧ R = 0)) (h : Blk w q 87 #[.int .u64 F, .int .u64 L, .int .u64 R, .pointer p]) :
    Calls Try.prog 48 #[.pointer (some ⟨q, 0, none⟩)] w fun e w' => e = .returned (.bool false) ∧ w = w' := by
  have c0 := h.cell 0; have c1 := h.cell 1; have c2 := h.cell 2
  simp only [List.getElem?_toArray, List.getElem?_cons_zero, List.getElem?_cons_succ] at c0 c1 c2
  clear h
  by_cases h1 : F = 0
  · by_cases h2 : L = 0
    · have h3 : ¬ R = 0 := fun h3 => h0 ⟨h1, h2, h3⟩
      subst h1 h2
      clear h0
      go_enter Try.func48, Try.ntmps48
      go_wp2
      go_ret
      exact ⟨by simp [h3], rfl⟩
    · clear h0
      go_enter Try.func48, Try.ntmps48
      go_wp2
      go_ret
      exact ⟨by simp [h2], rfl⟩
  · clear h0
    go_enter Try.func48, Try.ntmps48
    go_wp2
    go_ret
    exact ⟨by simp [h1], rfl⟩

/-- what the document's start turns -/
def RefFr (fr : Bool) (W W' : World) (base q : Nat) : Prop := match fr with | true => Below W.heap.size W W' | false => ∃ p cs, RefGrown W W' base p ∧ Blk W p 70 cs ∧ base ≤ p
theorem RefFr.low (h : RefFr fr w w' base q) (hn : base ≤ w.heap.size) : Below base w w' := by
  cases fr with
  | true => exact Below.mono h hn
  | false => obtain ⟨p, cs, h1, _, h2⟩ := h; exact h1.low h2 hn
theorem LimU.ref (h : LimU w l r g fr F L R x A) (hw : RefFr fr w w' base q) : LimU w' l r g fr F L R x A := by
  cases fr with
  | true => exact LimU.below (fr := true) (r := r) (g := g) (F := F) (L := L) (R := R) (x := x) (A := A) h hw
  | false =>
    obtain ⟨p, cs, h1, h2, _⟩ := hw
    exact ⟨h.1.ref h1 (blk_ne h.1 h2 (by decide)) (by decide), h.2.1.ref h1 h2, h.2.2⟩
theorem Blk.refFr {b : Nat} {t : TypeId} {cs : Array Value} (h : Blk w b t cs) (hw : RefFr fr w w' base q) (ht : t ≠ 70) (ht2 : t ≠ 22) : Blk w' b t cs := by
  cases fr with
  | true => exact h.below hw h.lt
  | false =>
    obtain ⟨p, cs, h1, h2, _⟩ := hw
    exact h.ref h1 (blk_ne h h2 ht) ht2

set_option maxHeartbeats 1000000 in
theorem uref_wake (h : RefU w q base fr F L R x A) (hbs : base ≤ w.heap.size) (t y X Y : Int) (ht : U t) (hy : U y) (hX : X = max (min t 9223372036854775808) x) (hY : Y = min y 4611686018427387904) (hfew : A.length < 900000) :
    Calls Try.prog 16 #[.pointer (some ⟨q, 0, none⟩), .int .u64 t, .int .u64 y] w fun e w' => e = .returned (.tuple #[]) ∧ RefU w' q base fr F L R X (A ++ [(X, Y)]) ∧ RefFr fr w w' base q := by
  cases fr with
  | true =>
    obtain ⟨p, hB⟩ := h
    have HB := Lib.hid hB; clear hB hX hY
    go_enter Try.func16, Try.ntmps16
    go_wp2_with (go_at_call 48; refine (rnone_free HB.out).mono ?_; rintro e w0 ⟨rfl, rfl⟩)
    go_returns
    exact ⟨rfl, ⟨p, HB.out⟩, Below.refl _ _⟩
  | false =>
    obtain ⟨h0, p, hB, hr⟩ := h
    have c3 := hB.cell 3
    simp only [List.getElem?_toArray, List.getElem?_cons_zero, List.getElem?_cons_succ] at c3
    obtain ⟨vx, vy, hrb, _⟩ := hr.at_
    have HB := Lib.hid hB; have H0 := Lib.hid h0; have HR := Lib.hid hr; have HX := Lib.hid hX; have HY := Lib.hid hY; have HRB := Lib.hid hrb
    clear hB h0 hr hX hY hrb
    go_enter Try.func16, Try.ntmps16
    go_wp2_with (first
      | (go_at_call 48; refine (rnone_held H0.out HB.out).mono ?_; rintro e w0 ⟨rfl, rfl⟩)
      | (go_at_call 11; refine (ref_start HR.out hbs t y X Y ht hy HX.out HY.out hfew).mono ?_; rintro e w1 ⟨rfl, hr1, hg1⟩; have HR1 := Lib.hid hr1; clear hr1))
    go_returns
    exact ⟨rfl, ⟨H0.out, p, HB.out.ref hg1 (blk_ne HB.out HRB.out (by decide)) (by decide), HR1.out⟩, p, _, hg1, HRB.out, HR.out.low⟩

theorem uref_fit (h : RefU w q base fr F L R x A) (y : Int) (hy : U y) :
    Calls Try.prog 19 #[.pointer (some ⟨q, 0, none⟩), .int .u64 y] w fun e w' => e = .returned (.int .u64 (fitU fr (qR F L R x A y))) ∧ Below w.heap.size w w' := by
  cases fr with
  | true =>
    obtain ⟨p, hB⟩ := h
    have HB := Lib.hid hB; clear hB
    go_enter Try.func19, Try.ntmps19
    go_wp2_with (go_at_call 48; refine (rnone_free HB.out).mono ?_; rintro e w0 ⟨rfl, rfl⟩)
    go_ret
    exact ⟨rfl, Below.refl _ _⟩
  | false =>
    obtain ⟨h0, p, hB, hr⟩ := h
    have c3 := hB.cell 3
    simp only [List.getElem?_toArray, List.getElem?_cons_zero, List.getElem?_cons_succ] at c3
    have HB := Lib.hid hB; have H0 := Lib.hid h0; have HR := Lib.hid hr
    clear hB h0 hr
    unfold fitU
    go_enter Try.func19, Try.ntmps19
    go_wp2_with (first
      | (go_at_call 48; refine (rnone_held H0.out HB.out).mono ?_; rintro e w0 ⟨rfl, rfl⟩)
      | (go_at_call 39; refine (ref_reach HR.out y hy).mono ?_; rintro e w1 ⟨rfl, hb1⟩))
    go_ret
    exact ⟨rfl, hb1⟩
theorem uref_most (h : RefU w q base fr F L R x A) (t : Int) (ht : U t) :
    Calls Try.prog 21 #[.pointer (some ⟨q, 0, none⟩), .int .u64 t] w fun e w' => e = .returned (.int .u64 (mostU fr (qA F L R x A t))) ∧ Below w.heap.size w w' := by
  cases fr with
  | true =>
    obtain ⟨p, hB⟩ := h
    have HB := Lib.hid hB; clear hB
    go_enter Try.func21, Try.ntmps21
    go_wp2_with (go_at_call 48; refine (rnone_free HB.out).mono ?_; rintro e w0 ⟨rfl, rfl⟩)
    go_ret
    exact ⟨rfl, Below.refl _ _⟩
  | false =>
    obtain ⟨h0, p, hB, hr⟩ := h
    have c3 := hB.cell 3
    simp only [List.getElem?_toArray, List.getElem?_cons_zero, List.getElem?_cons_succ] at c3
    have HB := Lib.hid hB; have H0 := Lib.hid h0; have HR := Lib.hid hr
    clear hB h0 hr
    unfold mostU
    go_enter Try.func21, Try.ntmps21
    go_wp2_with (first
      | (go_at_call 48; refine (rnone_held H0.out HB.out).mono ?_; rintro e w0 ⟨rfl, rfl⟩)
      | (go_at_call 37; refine (ref_at HR.out t ht).mono ?_; rintro e w1 ⟨rfl, hb1⟩))
    go_ret
    exact ⟨rfl, hb1⟩
end

def NewRef (n : Nat) (F L R : Int) (u : Value) (W' : World) : Prop := ∃ q, u = .pointer (some ⟨q, 0, none⟩) ∧ RefAt W' q n F L R 0 []
set_option maxRecDepth 20000 in
set_option maxHeartbeats 1000000 in
theorem rlnew_yes (F L R : Int) (w : World) (base : Nat) (hF : 0 ≤ F) (hL : 0 ≤ L) (hR : 0 ≤ R) (hbase : base ≤ w.heap.size) (h1 : mayB F L R = true) :
    Calls Try.prog 14 #[.agg #[.int .u64 F, .int .u64 L, .int .u64 R]] w fun e w' => ∃ q, e = .returned (.pointer (some ⟨q, 0, none⟩)) ∧ (∃ p, Blk w' q 87 #[.int .u64 F, .int .u64 L, .int .u64 R, .pointer (some ⟨p, 0, none⟩)] ∧ RefAt w' p base F L R 0 []) ∧ Below w.heap.size w w' := by
  have hal := (Below.refl w.heap.size w).alloc (Nat.le_refl _) (.cells #[.int .u64 F, .int .u64 L, .int .u64 R] 24)
  have nb := Blk.new w 24 #[.int .u64 F, .int .u64 L, .int .u64 R]
  have NB := Lib.hid nb; have HAL := Lib.hid hal; clear nb hal
  have H := Lib.hid h1; clear h1
  go_enter Try.func14, Try.ntmps14
  go_wp2_with (go_at_call 30; refine (rmay_any F L R _ hL).mono ?_; rintro e w1 ⟨rfl, hb1⟩; rw [H.out])
  have HN2 := Lib.hid (NB.out.below hb1 NB.out.lt)
  have HW := Lib.hid (HAL.out.trans (hb1.mono HAL.out.size))
  have o0 := fun e => (over_cell (w := w1) (e := e) (o := 0) HN2.out.lt).trans (HN2.out.cell 0)
  have o1 := fun e => (over_cell (w := w1) (e := e) (o := 1) HN2.out.lt).trans (HN2.out.cell 1)
  have o2 := fun e => (over_cell (w := w1) (e := e) (o := 2) HN2.out.lt).trans (HN2.out.cell 2)
  simp only [List.getElem?_toArray, List.getElem?_cons_zero, List.getElem?_cons_succ] at o0 o1 o2
  refine wp_region_mid (w := w1) 3 3 [2] [] [(2, fun u W' => NewRef base F L R u W')] rfl (by kernel_rfl) (by kernel_rfl) (by kernel_rfl) (by kernel_rfl) (fun _ _ _ _ _ h => h) ⟨?st1, trivial⟩ ?_
  case st1 => exact fun v W1 W2 ⟨q, h1, h3⟩ hb => ⟨q, h1, h3.below hb⟩
  intro LL hL
  have HL := Lib.hid hL
  clear hL
  simp only [List.take_succ_cons, List.take_zero, putL]
  repeat (first | refine wpHead_skip (by decide) ?_ | (refine wpHead_step (by decide) (fun K hK => ?_); go_simp; first | (refine hK _ ?_; clear hK K) | (apply Exists.intro; refine ⟨fun _ => ?_, hK _ ?_⟩; (fail); clear hK K)))
  refine wpHead_nil (HL.out _ ⟨?_, trivial⟩ ?_)
  · intro vs W1 hb1 hf
    clear hf HL
    change midAt _ _ (Act.put _ (some 9) (vs 2)) _ _
    go_simp
    exact (refnew_some F L R W1 base hF hL hR (Nat.le_trans hbase (Nat.le_trans HW.out.size hb1.size)) H.out).mono fun e W2 ⟨q, he, hs, hb⟩ => ⟨_, he, hb, q, rfl, hs⟩
  · intro vs W1 hb1 hf
    obtain ⟨⟨p, hf2, href⟩, hff⟩ := hf
    clear hff
    clear HL o0 o1 o2
    change wpList _ _ _ _ (Act.put _ (some 9) (vs 2)) _
    rw [hf2]
    clear hf2
    simp only [List.drop_succ_cons, List.drop_zero, List.take_succ_cons, List.take_zero]
    have HRF := Lib.hid href; clear href
    go_wp2
    go_ret
    have hb2 := HW.out.trans (hb1.mono HW.out.size)
    have hb3 := hb2.alloc hb2.size (.cells #[.int .u64 F, .int .u64 L, .int .u64 R, .pointer (some ⟨p, 0, none⟩)] 87)
    exact ⟨W1.heap.size, rfl, ⟨p, Blk.new _ _ _, HRF.out.below ((Below.refl _ _).alloc (Nat.le_refl _) _)⟩, hb3⟩
set_option maxRecDepth 20000 in
set_option maxHeartbeats 1000000 in
theorem rlnew_no (F L R : Int) (w : World) (base : Nat) (hF : 0 ≤ F) (hL : 0 ≤ L) (hR : 0 ≤ R) (hbase : base ≤ w.heap.size) (h1 : mayB F L R = false) :
    Calls Try.prog 14 #[.agg #[.int .u64 F, .int .u64 L, .int .u64 R]] w fun e w' => ∃ q, e = .returned (.pointer (some ⟨q, 0, none⟩)) ∧ (∃ p, Blk w' q 87 #[.int .u64 0, .int .u64 0, .int .u64 0, .pointer p]) ∧ Below w.heap.size w w' := by
  have hal := (Below.refl w.heap.size w).alloc (Nat.le_refl _) (.cells #[.int .u64 F, .int .u64 L, .int .u64 R] 24)
  have nb := Blk.new w 24 #[.int .u64 F, .int .u64 L, .int .u64 R]
  have NB := Lib.hid nb; have HAL := Lib.hid hal; clear nb hal
  have H := Lib.hid h1; clear h1
  go_enter Try.func14, Try.ntmps14
  go_wp2_with (go_at_call 30; refine (rmay_any F L R _ hL).mono ?_; rintro e w1 ⟨rfl, hb1⟩; rw [H.out]; have n1 := NB.out.below hb1 NB.out.lt; have c0 := n1.cell 0; have c1 := n1.cell 1; have c2 := n1.cell 2; have z0 := n1.frozen 0; have z1 := n1.frozen 1; have z2 := n1.frozen 2; simp only [List.getElem?_toArray, List.getElem?_cons_zero, List.getElem?_cons_succ] at c0 c1 c2)
  have hst := (((HAL.out.trans (hb1.mono HAL.out.size)).setCell (p := ⟨w.heap.size, 0, none⟩) (by simp) (.int .u64 0)).setCell (p := ⟨w.heap.size, 1, none⟩) (by simp) (.int .u64 0)).setCell (p := ⟨w.heap.size, 2, none⟩) (by simp) (.int .u64 0)
  have n2 := ((n1.set_ 0 (.int .u64 0)).set_ 1 (.int .u64 0)).set_ 2 (.int .u64 0)
  simp only [List.setIfInBounds_toArray, List.set_cons_zero, List.set_cons_succ] at n2
  obtain ⟨W0, hW0⟩ : ∃ W0, ((w1.setCell ⟨w.heap.size, 0, none⟩ (.int .u64 0)).setCell ⟨w.heap.size, 1, none⟩ (.int .u64 0)).setCell ⟨w.heap.size, 2, none⟩ (.int .u64 0) = W0 := ⟨_, rfl⟩
  rw [hW0] at hst n2 ⊢
  have HN2 := Lib.hid n2
  have HW := Lib.hid hst
  clear hst n2 n1 c0 c1 c2 z0 z1 z2 hW0
  have o0 := fun e => (over_cell (w := W0) (e := e) (o := 0) HN2.out.lt).trans (HN2.out.cell 0)
  have o1 := fun e => (over_cell (w := W0) (e := e) (o := 1) HN2.out.lt).trans (HN2.out.cell 1)
  have o2 := fun e => (over_cell (w := W0) (e := e) (o := 2) HN2.out.lt).trans (HN2.out.cell 2)
  simp only [List.getElem?_toArray, List.getElem?_cons_zero, List.getElem?_cons_succ] at o0 o1 o2
  refine wp_region_mid (w := W0) 3 3 [2] [] [(2, fun u W' => NewRef base 0 0 0 u W')] rfl (by kernel_rfl) (by kernel_rfl) (by kernel_rfl) (by kernel_rfl) (fun _ _ _ _ _ h => h) ⟨?st1, trivial⟩ ?_
  case st1 => exact fun v W1 W2 ⟨q, h1, h3⟩ hb => ⟨q, h1, h3.below hb⟩
  intro LL hL
  have HL := Lib.hid hL
  clear hL
  simp only [List.take_succ_cons, List.take_zero, putL]
  repeat (first | refine wpHead_skip (by decide) ?_ | (refine wpHead_step (by decide) (fun K hK => ?_); go_simp; first | (refine hK _ ?_; clear hK K) | (apply Exists.intro; refine ⟨fun _ => ?_, hK _ ?_⟩; (fail); clear hK K)))
  refine wpHead_nil (HL.out _ ⟨?_, trivial⟩ ?_)
  · intro vs W1 hb1 hf
    clear hf HL
    change midAt _ _ (Act.put _ (some 9) (vs 2)) _ _
    go_simp
    exact (refnew_some 0 0 0 W1 base (by decide) (by decide) (by decide) (Nat.le_trans hbase (Nat.le_trans HW.out.size hb1.size)) (by decide)).mono fun e W2 ⟨q, he, hs, hb⟩ => ⟨_, he, hb, q, rfl, hs⟩
  · intro vs W1 hb1 hf
    obtain ⟨⟨p, hf2, href⟩, hff⟩ := hf
    clear hff
    clear HL o0 o1 o2
    change wpList _ _ _ _ (Act.put _ (some 9) (vs 2)) _
    rw [hf2]
    clear hf2
    simp only [List.drop_succ_cons, List.drop_zero, List.take_succ_cons, List.take_zero]
    have HRF := Lib.hid href; clear href
    go_wp2
    go_ret
    have hb2 := HW.out.trans (hb1.mono HW.out.size)
    have hb3 := hb2.alloc hb2.size (.cells #[.int .u64 0, .int .u64 0, .int .u64 0, .pointer (some ⟨p, 0, none⟩)] 87)
    exact ⟨W1.heap.size, rfl, ⟨_, Blk.new _ _ _⟩, hb3⟩

/-- which kind of limit a curve makes -/
def KindU (fr : Bool) (F L R : Int) : Prop := match fr with | true => (F = 0 ∧ L = 0 ∧ R = 0) ∨ mayB F L R = false | false => ¬ (F = 0 ∧ L = 0 ∧ R = 0) ∧ mayB F L R = true
theorem kindU_any (F L R : Int) : ∃ fr, KindU fr F L R := by
  by_cases h0 : F = 0 ∧ L = 0 ∧ R = 0
  · exact ⟨true, .inl h0⟩
  · cases h : mayB F L R with
    | false => exact ⟨true, .inr h⟩
    | true => exact ⟨false, h0, h⟩
/-- a new limit; the document's -/
def NewLim (n : Nat) (fr : Bool) (F L R : Int) (u : Value) (W' : World) : Prop := ∃ l r g, u = .pointer (some ⟨l, 0, none⟩) ∧ n ≤ g ∧ n ≤ l ∧ LimU W' l r g fr F L R 0 []
def NewRefU (n : Nat) (fr : Bool) (F L R : Int) (u : Value) (W' : World) : Prop := ∃ q, u = .pointer (some ⟨q, 0, none⟩) ∧ RefU W' q n fr F L R 0 []
theorem ulim_new {fr : Bool} (F L R : Int) (w : World) (n : Nat) (hF : 0 ≤ F) (hL : 0 ≤ L) (hR : 0 ≤ R) (hn : n ≤ w.heap.size) (hk : KindU fr F L R) :
    Calls Try.prog 13 #[.agg #[.int .u64 F, .int .u64 L, .int .u64 R]] w fun e w' => ∃ u, e = .returned u ∧ Below w.heap.size w w' ∧ NewLim n fr F L R u w' := by
  cases fr with
  | true => exact (lnew_free F L R w hL hk).mono fun e w' ⟨l, he, hl, hf, hb⟩ => ⟨_, he, hb, l, l, l, rfl, Nat.le_trans hn hl, Nat.le_trans hn hl, hf⟩
  | false => exact (lnew_some F L R w hF hL hR hk.1 hk.2).mono fun e w' ⟨l, r, g, he, hg, hf, hb⟩ => ⟨_, he, hb, l, r, g, rfl, Nat.le_trans hn hg, by have := hf.glt; omega, hf⟩
theorem uref_new {fr : Bool} (F L R : Int) (w : World) (n : Nat) (hF : 0 ≤ F) (hL : 0 ≤ L) (hR : 0 ≤ R) (hn : n ≤ w.heap.size) (hk : KindU fr F L R) :
    Calls Try.prog 14 #[.agg #[.int .u64 F, .int .u64 L, .int .u64 R]] w fun e w' => ∃ u, e = .returned u ∧ Below w.heap.size w w' ∧ NewRefU n fr F L R u w' := by
  cases fr with
  | true =>
    rcases hk with hk | hk
    · obtain ⟨rfl, rfl, rfl⟩ := hk
      exact (rlnew_yes 0 0 0 w n hF hL hR hn (by decide)).mono fun e w' ⟨q, he, ⟨p, hf, _⟩, hb⟩ => ⟨_, he, hb, q, rfl, _, hf⟩
    · exact (rlnew_no F L R w n hF hL hR hn hk).mono fun e w' ⟨q, he, ⟨p, hf⟩, hb⟩ => ⟨_, he, hb, q, rfl, p, hf⟩
  | false => exact (rlnew_yes F L R w n hF hL hR hn hk.2).mono fun e w' ⟨q, he, ⟨p, hf, hr⟩, hb⟩ => ⟨_, he, hb, q, rfl, hk.1, p, hf, hr⟩

set_option maxRecDepth 20000 in
theorem ulim_copy {w : World} {l r g : Nat} {fr : Bool} {F L R x : Int} {A : List (Int × Int)} (h : LimU w l r g fr F L R x A) :
    Calls Try.prog 17 #[.pointer (some ⟨l, 0, none⟩)] w fun e w' => ∃ l' r' g', e = .returned (.pointer (some ⟨l', 0, none⟩)) ∧ w.heap.size ≤ l' ∧ w.heap.size ≤ g' ∧ LimU w' l' r' g' fr F L R x A ∧ Below w.heap.size w w' := by
  cases fr with
  | true =>
    have H := Lib.hid (show LFree w l from h); clear h
    go_enter Try.func17, Try.ntmps17
    go_wp2_with (go_at_call 47; refine (lbound_free H.out).mono ?_; rintro e w0 ⟨rfl, hb0⟩; have c0 := (H.out.below hb0 H.out.lt).cell 0; simp only [List.getElem?_toArray, List.getElem?_cons_zero, List.getElem?_cons_succ] at c0)
    go_ret
    exact ⟨w0.heap.size, 0, w0.heap.size, rfl, hb0.size, hb0.size, Blk.new _ _ _, hb0.alloc hb0.size _⟩
  | false =>
    have H := Lib.hid (show LimAt w l r g F L R x A from h); clear h
    go_enter Try.func17, Try.ntmps17
    go_wp2_with (first
      | (go_at_call 47; refine (lbound_some H.out).mono ?_; rintro e w0 ⟨rfl, hb0⟩; have hq := H.out.below hb0; clear H; have H := Lib.hid hq; clear hq)
      | (go_at_call 8; refine (run_copy H.out.2.1).mono ?_; rintro e w1 ⟨r', g', rfl, hg', hr', hb1⟩; have HR := Lib.hid hr'; clear hr'))
    go_ret
    have hb2 := hb0.trans (hb1.mono hb0.size)
    have hal := (Below.refl w1.heap.size w1).alloc (Nat.le_refl _) (.cells #[.iface 85 (.agg #[.pointer (some ⟨r', 0, none⟩)])] 83)
    exact ⟨w1.heap.size, r', g', rfl, hb2.size, Nat.le_trans hb0.size hg', ⟨Blk.new _ _ _, HR.out.below hal, HR.out.lt.2⟩, hb2.trans (hal.mono hb2.size)⟩

end Go.Proofs.Ytipiajnaechadaa
