/-
  The law SaggedRuns: a sagging run tells what the document's copies tell, whatever copies start, and keeps as many; a copy goes on alone; its walk.
-/
import Derived.Test.YtipiajnaechadaaRunSame
import Derived.Test.YtipiajnaechadaaRefKept
import Derived.Test.YtipiajnaechadaaSagNo
import Derived.Test.YtipiajnaechadaaSagNone
import Derived.Test.YtipiajnaechadaaRunCopy
import Derived.Test.YtipiajnaechadaaRunStarted
import Derived.Test.YtipiajnaechadaaActs
import Derived.Test.YtipiajnaechadaaStrs
namespace Go.Proofs.Ytipiajnaechadaa
set_option linter.unusedVariables false
open Go.RowKit
/-- the document's copies at block c: A started, the last one at x -/
structure RefC (w : World) (c base : Nat) (F L R x : Int) (A : List (Int × Int)) : Prop where
  at_ : ∃ vx vy, Blk w c 77 #[.int .u64 F, .int .u64 L, .int .u64 R, vx, vy] ∧ RowU w base vx (A.map (·.1)) ∧ RowU w base vy (A.map (·.2)) ∧ (vx.ownBlock = none ∨ vx.ownBlock ≠ vy.ownBlock)
  may : MayC F L R
  nums : Nums x A
  low : base ≤ c
/-- a sagging run whose copies are kept as they should be -/
def LiveK (w : World) (g : Nat) (F L R x : Int) (A : List (Int × Int)) : Prop := ∃ K, Live w g F L R x K A ∧ Stk F L R x K

section
variable {w w' : World} {c base g : Nat} {F L R x : Int} {A : List (Int × Int)}
theorem RefC.copies (h : RefC w c base F L R x A) : CopiesAt w c base F L R A := by obtain ⟨vx, vy, h1, h2, h3, _⟩ := h.at_; exact ⟨vx, vy, h1, h2, h3⟩
theorem RefC.below (h : RefC w c base F L R x A) (hb : Below w.heap.size w w') : RefC w' c base F L R x A := by
  obtain ⟨vx, vy, h1, h2, h3, h4⟩ := h.at_
  exact ⟨⟨vx, vy, h1.below hb h1.lt, h2.below hb, h3.below hb, h4⟩, h.may, h.nums, h.low⟩
theorem LiveK.below (h : LiveK w g F L R x A) (hb : Below w.heap.size w w') : LiveK w' g F L R x A := by obtain ⟨K, h1, h2⟩ := h; exact ⟨K, h1.below hb, h2⟩
theorem LiveK.lt (h : LiveK w g F L R x A) : g < w.heap.size := by obtain ⟨K, h1, _⟩ := h; exact h1.lt
theorem LiveK.blk (h : LiveK w g F L R x A) : ∃ cs, Blk w g 91 cs := by obtain ⟨K, h1, _⟩ := h; obtain ⟨v, hB, _⟩ := h1.at_; exact ⟨_, hB⟩
theorem LiveK.nil_K {K : List (Int × Int)} (h : Live w g F L R x K []) : K = [] := List.eq_nil_of_length_eq_zero (Nat.le_zero.1 h.run.sub.length_le)

theorem refc_start (h : RefC w c base F L R x A) (hbs : base ≤ w.heap.size) (t y X Y : Int) (ht : U t) (hy : U y) (hX : X = max (min t 9223372036854775808) x) (hY : Y = min y 4611686018427387904) (hfew : A.length < 900000) :
    Calls Try.prog 27 #[.pointer (some ⟨c, 0, none⟩), .int .u64 t, .int .u64 y] w fun e w' => e = .returned (.tuple #[]) ∧ RefC w' c base F L R X (A ++ [(X, Y)]) ∧ RefGrown w w' base c := by
  obtain ⟨vx, vy, h1, h2, h3, h4⟩ := h.at_
  exact (copies_start h1 h2 h3 h4 hbs h.nums t y X Y hX hY hfew).mono fun e w' ⟨he, vx', vy', k1, k2, k3, k4, k5⟩ => ⟨he, ⟨⟨vx', vy', k1, k2, k3, k4⟩, h.may, h.nums.start t y X Y ht hy hX hY hfew, h.low⟩, k5⟩
theorem livek_start (h : LiveK w g F L R x A) (t y X Y : Int) (ht : U t) (hy : U y) (hX : X = max (min t 9223372036854775808) x) (hY : Y = min y 4611686018427387904) (hfew : A.length < 900000) :
    Calls Try.prog 26 #[.pointer (some ⟨g, 0, none⟩), .int .u64 t, .int .u64 y] w fun e w' => e = .returned (.tuple #[]) ∧ LiveK w' g F L R X (A ++ [(X, Y)]) ∧ w.grownBy w' (some g) := by
  obtain ⟨K, h1, h2⟩ := h
  exact (live_start h1 t y X Y ht hy hX hY hfew).mono fun e w' ⟨he, hl, hg⟩ => ⟨he, ⟨_, hl, startK_stk _ _ _ _ _ _⟩, hg⟩
theorem livek_copy (h : LiveK w g F L R x A) :
    Calls Try.prog 24 #[.pointer (some ⟨g, 0, none⟩)] w fun e w' => ∃ g', e = .returned (.pointer (some ⟨g', 0, none⟩)) ∧ w.heap.size ≤ g' ∧ LiveK w' g' F L R x A ∧ Below w.heap.size w w' := by
  obtain ⟨K, h1, h2⟩ := h
  exact (live_copy h1).mono fun e w' ⟨g', he, hg, hl, hb⟩ => ⟨g', he, hg, ⟨K, hl, h2⟩, hb⟩
/-- what stays -/
theorem LiveK.stay {g' : Nat} {t : Nat} {cs : Array Value} (h : LiveK w g F L R x A) (hg : g' ≠ g) (hB : Blk w g' t cs) (ht : t ≠ 94) (hw : w.grownBy w' (some g')) : LiveK w' g F L R x A := by
  obtain ⟨K, h1, h2⟩ := h
  exact ⟨K, h1.stay2 hg hB ht hw, h2⟩
theorem RefC.stay {t : Nat} {cs : Array Value} (h : RefC w c base F L R x A) (hB : Blk w g t cs) (ht : t ≠ 22) (ht2 : t ≠ 77) (hw : w.grownBy w' (some g)) : RefC w' c base F L R x A := by
  obtain ⟨vx, vy, h1, h2, h3, h4⟩ := h.at_
  refine ⟨⟨vx, vy, h1.grown hw ?_, h2.kept hw (.inr (Ne.symm (row_blk h2 hB ht))), h3.kept hw (.inr (Ne.symm (row_blk h3 hB ht))), h4⟩, h.may, h.nums, h.low⟩
  have := blk_ne h1 hB (Ne.symm ht2)
  simpa using this
theorem ownsRow_refc {B size n : Nat} {e : TypeId} {v : Value} {xs : List Value} (h : w.ownsRow B e size v n xs) (hg : RefGrown w w' base c) (he : e ≠ 22) (hc : ∀ cs, ¬ Blk w c e cs) : w'.ownsRow B e size v n xs := ownsRow_ref h hg he hc
theorem LiveK.ref {cs : Array Value} (h : LiveK w g F L R x A) (hg : RefGrown w w' base c) (hc : Blk w c 77 cs) : LiveK w' g F L R x A := by
  obtain ⟨K, h2, hs⟩ := h
  obtain ⟨v, hB, hr⟩ := h2.at_
  exact ⟨K, ⟨⟨v, hB.ref hg (blk_ne hB hc (by decide)) (by decide), ownsRow_ref hr hg (by decide) (fun cs' hb => blk_ne hb hc (by decide) rfl)⟩, h2.may, h2.le, h2.run, h2.num, h2.x0, h2.x1, h2.few, h2.one⟩, hs⟩

theorem ks_last (h : LiveK w g F L R x A) (hl : lastX A = x) :
    Calls Try.prog 52 #[.pointer (some ⟨g, 0, none⟩)] w fun e w' => e = .returned (.tuple #[.int .u64 x, .bool (!A.isEmpty)]) ∧ w = w' := by
  obtain ⟨K, h, _⟩ := h
  by_cases hA : A = []
  · subst hA; obtain rfl : 0 = x := hl; exact slast_none _ _ h.none
  · rw [not_empty hA]; exact live_last h hA
theorem ks_starts (h : LiveK w g F L R x A) :
    Calls Try.prog 55 #[.pointer (some ⟨g, 0, none⟩)] w fun e w' => e = .returned (.int .i64 A.length) ∧ w = w' := by
  obtain ⟨K, h, _⟩ := h
  by_cases hA : A = []
  · subst hA; exact sstarts_none _ _ h.none
  · exact live_starts h hA
theorem ks_kept (h : LiveK w g F L R x A) :
    Calls Try.prog 56 #[.pointer (some ⟨g, 0, none⟩)] w fun e w' => e = .returned (.int .i64 (keptN F L R x A)) ∧ w = w' := by
  obtain ⟨K, h, hs⟩ := h
  by_cases hA : A = []
  · subst hA; exact skept_none _ _ h.none
  · rw [kept_count h.sag h.run hs]; exact live_kept h hA
theorem ks_at (h : LiveK w g F L R x A) (t : Int) (ht : U t) :
    Calls Try.prog 58 #[.pointer (some ⟨g, 0, none⟩), .int .u64 t] w fun e w' => e = .returned (.int .u64 (qA F L R x A t)) ∧ Below w.heap.size w w' := by
  obtain ⟨K, h, hs⟩ := h
  by_cases hA : A = []
  · subst hA; exact (sat_none _ t _ h.none).mono fun e w' ⟨he, hb⟩ => ⟨he, hb⟩
  · have e : qA F L R x A t = vA F L R A (max t x) := by unfold qA; rw [not_empty hA]; rfl
    rw [e]; exact live_at h hA t ht
theorem ks_line (h : LiveK w g F L R x A) (t : Int) (ht : U t) :
    Calls Try.prog 62 #[.pointer (some ⟨g, 0, none⟩), .int .u64 t] w fun e w' => e = .returned (.int .u64 (qE F L R x A t)) ∧ Below w.heap.size w w' := by
  obtain ⟨K, h, hs⟩ := h
  by_cases hA : A = []
  · subst hA; exact (sline_none _ t _ h.none).mono fun e w' ⟨he, hb⟩ => ⟨he, hb⟩
  · have e : qE F L R x A t = vL R A (max t x) := by unfold qE; rw [not_empty hA, h.vE_eq]; rfl
    rw [e]; exact live_line h hA t ht
theorem ks_reach (h : LiveK w g F L R x A) (y : Int) (hy : U y) :
    Calls Try.prog 60 #[.pointer (some ⟨g, 0, none⟩), .int .u64 y] w fun e w' => e = .returned (.int .u64 (qR F L R x A y)) ∧ Below w.heap.size w w' := by
  obtain ⟨K, h, hs⟩ := h
  by_cases hA : A = []
  · subst hA; exact (sreach_none _ y _ h.none).mono fun e w' ⟨he, hb⟩ => ⟨he, hb⟩
  · have e : qR F L R x A y = lastAt (reachC F L R) y K x := by
      unfold qR
      rw [not_empty hA]
      exact ((live_back (y := y) h hA).1.ans (vA_max_mono h.may (fun a ha => ⟨h.run.le a ha, (h.num a ha).2.1⟩))).symm
    rw [e]; exact live_reach h hA y hy
theorem ks_ahead (h : LiveK w g F L R x A) (y : Int) (hy : U y) :
    Calls Try.prog 63 #[.pointer (some ⟨g, 0, none⟩), .int .u64 y] w fun e w' => e = .returned (.int .u64 (qL F L R x A y)) ∧ Below w.heap.size w w' := by
  obtain ⟨K, h, hs⟩ := h
  by_cases hA : A = []
  · subst hA
    exact (sahead_none _ y _ h.none (fun g' hg' => by obtain ⟨v, hb, _⟩ := h.at_; cases hg'; exact ⟨R, hb.cell 2⟩)).mono fun e w' ⟨he, hb⟩ => ⟨he, hb⟩
  · have e : qL F L R x A y = lastAt (reachC 0 0 R) y K x := by
      unfold qL
      rw [not_empty hA, h.vE_eq]
      have hm := vE_max_mono (x := x) (A := A) h.may (fun a ha => ⟨h.run.le a ha, (h.num a ha).2.1⟩)
      rw [h.vE_eq] at hm
      exact ((live_back (y := y) h hA).2.1.ans hm).symm
    rw [e]; exact live_ahead h hA y hy
theorem cop_at (h : CopiesAt w c base F L R A) (hM : MayC F L R) (hN : Nums x A) (t : Int) (ht : U t) :
    Calls Try.prog 59 #[.pointer (some ⟨c, 0, none⟩), .int .u64 t] w fun e w' => e = .returned (.int .u64 (qA F L R x A t)) ∧ Below w.heap.size w w' := by
  by_cases hA : A = []
  · subst hA; exact (copies_at0 h t).mono fun e w' ⟨he, hw⟩ => ⟨he, by rw [← hw]; exact Below.refl _ _⟩
  · have e : qA F L R x A t = vA F L R A (max t x) := by unfold qA; rw [not_empty hA]; rfl
    rw [e]; exact copies_at h hM hN hA t ht
theorem cop_reach (h : CopiesAt w c base F L R A) (hM : MayC F L R) (hN : Nums x A) (y : Int) (hy : U y) :
    Calls Try.prog 61 #[.pointer (some ⟨c, 0, none⟩), .int .u64 y] w fun e w' => e = .returned (.int .u64 (qR F L R x A y)) ∧ Below w.heap.size w w' := by
  by_cases hA : A = []
  · subst hA; exact (copies_reach0 h y).mono fun e w' ⟨he, hw⟩ => ⟨he, by rw [← hw]; exact Below.refl _ _⟩
  · have e : qR F L R x A y = ansI (fun t => vA F L R A (max t x)) x y := by unfold qR; rw [not_empty hA]; rfl
    rw [e]; exact (copies_reach h hM hN hA y hy).mono fun _ _ k => k.fix (vA_max_mono hM hN.low)
theorem qA_line (hs : ¬ R < F) (hN : Nums x A) (t : Int) : qA 0 0 R x A t = qE F L R x A t := by
  unfold qA qE
  rw [vA_line hs hN (by omega)]
theorem qR_line (hs : ¬ R < F) (hN : Nums x A) (y : Int) : qR 0 0 R x A y = qL F L R x A y := by
  unfold qR qL
  have : (fun t => vA 0 0 R A (max t x)) = fun t => vE F L R A (max t x) := by funext t; exact vA_line hs hN (by omega)
  rw [this]
theorem LiveK.sag (h : LiveK w g F L R x A) : ¬ R < F := by obtain ⟨K, h, _⟩ := h; have := h.le; omega

set_option maxRecDepth 100000 in
set_option maxHeartbeats 4000000 in
theorem same06 (h : LiveK w g F L R x A) (k : RefC w c base F L R x A) (X Y T N : Int) (hT : U T) (hN : U N) :
    Calls Try.prog 25 #[.pointer (some ⟨g, 0, none⟩), .pointer (some ⟨c, 0, none⟩), .agg #[.int .u64 X, .int .u64 Y, .int .u64 T, .int .u64 N]] w fun e w' => e = .returned (.bool true) ∧ Below w.heap.size w w' := by
  have hal := (Below.refl w.heap.size w).alloc (Nat.le_refl _) (.cells #[.int .u64 X, .int .u64 Y, .int .u64 T, .int .u64 N] 33)
  have nb := Blk.new w 33 #[.int .u64 X, .int .u64 Y, .int .u64 T, .int .u64 N]
  have hl := k.nums.last
  have hcases : (A.isEmpty = true ∧ A.length = 0) ∨ (A.isEmpty = false ∧ 0 < A.length) := by cases A <;> simp
  have H0 := Lib.hid (h.below hal); have K0 := Lib.hid (k.below hal); have NB0 := Lib.hid nb; have HB0 := Lib.hid hal; have HL := Lib.hid hl
  clear h k nb hal hl
  rcases hcases with ⟨he, hlen⟩ | ⟨he, hlen⟩
  case' inl => have hz : (A.length : Int) = 0 := by omega
  case' inr =>
    have hz : decide ((0 : Int) < (A.length : Int)) = true := by simp; omega
    have hz2 : decide (0 < A.length) = true := by simpa using hlen
  all_goals
    go_enter Try.func25, Try.ntmps25
    go_wp2_with (first
      | (go_at_call 52; refine (ks_last H0.out HL.out).mono ?_; rintro e w' ⟨rfl, rfl⟩)
      | (go_at_call 53; refine (ref_lines K0.out.copies).mono ?_; rintro e w1 ⟨c2, rfl, hc2, hcop, hb⟩; have H1 := Lib.hid (H0.out.below hb); have K1 := Lib.hid (K0.out.below hb); have L1 := Lib.hid hcop; have n1 := NB0.out.below hb NB0.out.lt; have HB1 := Lib.hid (HB0.out.trans (hb.mono HB0.out.size)); have NB1 := Lib.hid n1; clear n1 hcop))
    obtain ⟨vx, vy, hkb, hrx, _⟩ := K1.out.at_
    obtain ⟨ax, cx, hvx⟩ := hrx.shape
    rw [List.length_map] at hvx
    subst hvx
    have d3 := fun e => (over_cell (w := w1) (e := e) (o := 3) hkb.lt).trans (hkb.cell 3)
    simp only [List.getElem?_toArray, List.getElem?_cons_zero, List.getElem?_cons_succ] at d3
    clear hkb hrx
    have hkd := fun (e : World) => (copies_last (K1.out.below (over_below w1 e)).copies K1.out.nums.few)
    rw [K1.out.nums.last] at hkd
    have HKD : Hid (∀ e, Calls Try.prog 54 #[.pointer (some ⟨c, 0, none⟩)] (over w1 e) fun r w' => r = .returned (.int .u64 x) ∧ Below (over w1 e).heap.size (over w1 e) w') := Lib.hid fun e => (hkd e).mono fun r w' ⟨hr, n, hn⟩ => ⟨hr, by rw [hn]; exact below_drewN (Below.refl _ _) n⟩
    clear hkd
    refine wp_region_over (by kernel_rfl) (by kernel_rfl) ?_
    repeat (first | go_big_quiet_skip | (go_big_quiet_want; go_big_quiet_op; first | go_big_quiet_on | (apply Exists.intro; refine ⟨fun e => ?_, ?_⟩; (focus (first | (go_at_call 54; exact calls_over (HKD.out e)) | (go_at_call 55; exact calls_over_same (ks_starts (H1.out.below (over_below _ e)))) | (go_at_call 56; exact calls_over_same (ks_kept (H1.out.below (over_below _ e)))) | (go_at_call 57; exact calls_over (ref_kept (K1.out.below (over_below _ e)).copies K1.out.may K1.out.nums)))); go_big_quiet_on)))
    refine wpQuiet_nil ?_
    rintro W2 ⟨e, he2⟩
    have hb2 := over_below w1 e
    rw [← he2] at hb2
    clear he2 d3
    have H2 := Lib.hid (H1.out.below hb2); have K2 := Lib.hid (K1.out.below hb2); have L2 := Lib.hid (L1.out.below hb2); have HB2 := Lib.hid (HB1.out.trans (hb2.mono HB1.out.size))
    have n2 := NB1.out.below hb2 NB1.out.lt
    have a2 := fun e => (over_cell (w := W2) (e := e) (o := 2) n2.lt).trans (n2.cell 2)
    have a3 := fun e => (over_cell (w := W2) (e := e) (o := 3) n2.lt).trans (n2.cell 3)
    simp only [List.getElem?_toArray, List.getElem?_cons_zero, List.getElem?_cons_succ] at a2 a3
    have la := fun (e : World) => cop_at (L2.out.below (over_below W2 e)) K2.out.may.line K2.out.nums T hT
    have lr := fun (e : World) => cop_reach (L2.out.below (over_below W2 e)) K2.out.may.line K2.out.nums N hN
    rw [qA_line (F := F) (L := L) H2.out.sag K2.out.nums] at la
    rw [qR_line (F := F) (L := L) H2.out.sag K2.out.nums] at lr
    have LA := Lib.hid la; have LR := Lib.hid lr
    have hcc : c2 ≠ c := by have := K0.out.at_; obtain ⟨vx, vy, hB, _⟩ := this; have := hB.lt; omega
    clear n2 la lr hb2
    go_wp2
    refine wp_region_over (by kernel_rfl) (by kernel_rfl) ?_
    repeat (first | go_big_quiet_skip | (go_big_quiet_want; go_big_quiet_op; first | go_big_quiet_on | (apply Exists.intro; refine ⟨fun e => ?_, ?_⟩; (focus (first | (go_at_call 58; exact calls_over (ks_at (H2.out.below (over_below _ e)) T hT)) | (go_at_call_of 59 (Value.pointer (some ⟨c, 0, none⟩)); exact calls_over (cop_at (K2.out.below (over_below _ e)).copies K2.out.may K2.out.nums T hT)) | (go_at_call_of 59 (Value.pointer (some ⟨c2, 0, none⟩)); exact calls_over (LA.out _)) | (go_at_call 60; exact calls_over (ks_reach (H2.out.below (over_below _ e)) N hN)) | (go_at_call_of 61 (Value.pointer (some ⟨c, 0, none⟩)); exact calls_over (cop_reach (K2.out.below (over_below _ e)).copies K2.out.may K2.out.nums N hN)) | (go_at_call_of 61 (Value.pointer (some ⟨c2, 0, none⟩)); exact calls_over (LR.out _)) | (go_at_call 62; exact calls_over (ks_line (H2.out.below (over_below _ e)) T hT)) | (go_at_call 63; exact calls_over (ks_ahead (H2.out.below (over_below _ e)) N hN)))); go_big_quiet_on)))
    refine wpQuiet_nil ?_
    rintro W3 ⟨e, he3⟩
    have hb3 := over_below W2 e
    rw [← he3] at hb3
    clear he3 a2 a3
    go_wp2
    go_ret
    exact ⟨rfl, HB2.out.trans (hb3.mono HB2.out.size)⟩
end

attribute [local go_sem] quietR quietAtR quietUponR midAt midUpon

theorem new6_no (F L R : Int) (w : World) (hL : 0 ≤ L) (h : mayB F L R = false ∨ (mayB F L R = true ∧ R < F)) :
    Calls Try.prog 23 #[.agg #[.int .u64 F, .int .u64 L, .int .u64 R]] w fun e w' => e = .returned (.tuple #[.pointer none, .int .i64 30]) ∧ Below w.heap.size w w' := by
  have hal := (Below.refl w.heap.size w).alloc (Nat.le_refl _) (.cells #[.int .u64 F, .int .u64 L, .int .u64 R] 24)
  have nb := Blk.new w 24 #[.int .u64 F, .int .u64 L, .int .u64 R]
  have NB := Lib.hid nb; clear nb
  rcases h with h | ⟨h, hb⟩
  · have H := Lib.hid h; clear h
    go_enter Try.func23, Try.ntmps23
    go_wp2_with (go_at_call 30; refine (rmay_any F L R _ hL).mono ?_; rintro e w1 ⟨rfl, hb1⟩; rw [H.out])
    go_ret2
    exact ⟨rfl, hal.trans (hb1.mono hal.size)⟩
  · have H := Lib.hid h; clear h
    have hd : decide (R < F) = true := by simpa using hb
    have HD := Lib.hid hd; clear hd hb
    go_enter Try.func23, Try.ntmps23
    go_wp2_with (first
      | (go_at_call 30; refine (rmay_any F L R _ hL).mono ?_; rintro e w1 ⟨rfl, hb1⟩; rw [H.out]; have n1 := NB.out.below hb1 NB.out.lt; have a0 := n1.cell 0; have a1 := n1.cell 1; have a2 := n1.cell 2; simp only [List.getElem?_toArray, List.getElem?_cons_zero, List.getElem?_cons_succ] at a0 a1 a2)
      | (go_at_call 50; refine (rbent_any F L R _).mono ?_; rintro e w2 ⟨rfl, hb2⟩; rw [HD.out]))
    go_ret2
    exact ⟨rfl, hal.trans ((hb1.trans (hb2.mono hb1.size)).mono hal.size)⟩
theorem new6_ok (F L R : Int) (w : World) (base : Nat) (hF : 0 ≤ F) (hL : 0 ≤ L) (hR : 0 ≤ R) (hbase : base ≤ w.heap.size) (h : mayB F L R = true) (hb : F ≤ R) :
    Calls Try.prog 23 #[.agg #[.int .u64 F, .int .u64 L, .int .u64 R]] w fun e w' => ∃ c, e = .returned (.tuple #[.pointer (some ⟨c, 0, none⟩), .int .i64 0]) ∧ RefC w' c base F L R 0 [] ∧ Below w.heap.size w w' := by
  have hal := (Below.refl w.heap.size w).alloc (Nat.le_refl _) (.cells #[.int .u64 F, .int .u64 L, .int .u64 R] 24)
  have nb := Blk.new w 24 #[.int .u64 F, .int .u64 L, .int .u64 R]
  have NB := Lib.hid nb; clear nb
  have hM := mayB_spec hF hL hR h
  have H := Lib.hid h; clear h
  have hd : decide (R < F) = false := by simp; omega
  have HD := Lib.hid hd; clear hd
  go_enter Try.func23, Try.ntmps23
  go_wp2_with (first
    | (go_at_call 30; refine (rmay_any F L R _ hL).mono ?_; rintro e w1 ⟨rfl, hb1⟩; rw [H.out]; have n1 := NB.out.below hb1 NB.out.lt; have a0 := n1.cell 0; have a1 := n1.cell 1; have a2 := n1.cell 2; simp only [List.getElem?_toArray, List.getElem?_cons_zero, List.getElem?_cons_succ] at a0 a1 a2)
    | (go_at_call 50; refine (rbent_any F L R _).mono ?_; rintro e w2 ⟨rfl, hb2⟩; rw [HD.out]; have n2 := n1.below hb2 n1.lt; have b0 := n2.cell 0; have b1 := n2.cell 1; have b2 := n2.cell 2; simp only [List.getElem?_toArray, List.getElem?_cons_zero, List.getElem?_cons_succ] at b0 b1 b2))
  go_ret2
  have hb3 := hal.trans ((hb1.trans (hb2.mono hb1.size)).mono hal.size)
  exact ⟨w2.heap.size, rfl, ⟨⟨_, _, Blk.new _ _ _, World.ownsRow_nil _ _ _ _, World.ownsRow_nil _ _ _ _, .inl rfl⟩, hM, Nums.nil, Nat.le_trans hbase hb3.size⟩, hb3.alloc hb3.size _⟩

theorem sruns_long (F L R at' : Int) (a : Option Addr) (len cap : Nat) (w : World) (h25 : 25 < len) (hlen : len ≤ 9223372036854775807) :
    Calls Try.prog 5 #[.agg #[.int .u64 F, .int .u64 L, .int .u64 R], .slice a len cap, .int .i64 at'] w fun e' w' => e' = .returned (.bool true) ∧ Below w.heap.size w w' := by
  go_enter Try.func5, Try.ntmps5
  go_wp2
  go_ret
  exact ⟨rfl, by go_grown⟩

set_option maxHeartbeats 1000000 in
theorem sruns_nil (F L R at' : Int) (a : Option Addr) (len cap : Nat) (w : World) (hL : 0 ≤ L) (h25 : len ≤ 25) (h : mayB F L R = false ∨ (mayB F L R = true ∧ R < F)) :
    Calls Try.prog 5 #[.agg #[.int .u64 F, .int .u64 L, .int .u64 R], .slice a len cap, .int .i64 at'] w fun e' w' => e' = .returned (.bool true) ∧ Below w.heap.size w w' := by
  have nb := Blk.new w 24 #[.int .u64 F, .int .u64 L, .int .u64 R]
  have hal := (Below.refl w.heap.size w).alloc (Nat.le_refl _) (.cells #[.int .u64 F, .int .u64 L, .int .u64 R] 24)
  have NB := Lib.hid nb; have H := Lib.hid h; clear nb h
  go_enter Try.func5, Try.ntmps5
  go_wp2_with (first
    | (go_at_call 22; refine (snew_no F L R _ hL H.out).mono ?_; rintro e w1 ⟨rfl, hb1⟩; have n1 := NB.out.below hb1 NB.out.lt; have a0 := n1.cell 0; have a1 := n1.cell 1; have a2 := n1.cell 2; simp only [List.getElem?_toArray, List.getElem?_cons_zero, List.getElem?_cons_succ] at a0 a1 a2)
    | (go_at_call 23; refine (new6_no F L R _ hL H.out).mono ?_; rintro e w2 ⟨rfl, hb2⟩))
  go_ret
  exact ⟨rfl, hal.trans ((hb1.trans (hb2.mono hb1.size)).mono hal.size)⟩

/-- the run and the document's copies, as the loop finds them -/
def BothC (w W : World) (g c : Nat) (F L R : Int) (z : List Act4) : Prop :=
  LiveK W g F L R (runA z).1 (runA z).2 ∧ RefC W c w.heap.size F L R (runA z).1 (runA z).2 ∧ Below w.heap.size w W
theorem BothC.below {w W W' : World} {g c : Nat} {F L R : Int} {z : List Act4} (h : BothC w W g c F L R z) (hb : Below W.heap.size W W') : BothC w W' g c F L R z :=
  ⟨h.1.below hb, h.2.1.below hb, h.2.2.trans (hb.mono h.2.2.size)⟩
theorem BothC.stayC {w W W' : World} {g c : Nat} {F L R : Int} {z : List Act4} (h : BothC w W g c F L R z) (hw : W.grownBy W' (some g)) : RefC W' c w.heap.size F L R (runA z).1 (runA z).2 := by
  obtain ⟨cs, hB⟩ := h.1.blk
  exact h.2.1.stay hB (by decide) (by decide) hw
theorem BothC.stay {w W W' : World} {g c g2 : Nat} {F L R x2 : Int} {z : List Act4} {A2 : List (Int × Int)} (h : BothC w W g c F L R z) (h2 : LiveK W g2 F L R x2 A2) (hg : g2 ≠ g) (hw2 : w.heap.size ≤ g2) (hw : W.grownBy W' (some g2)) : BothC w W' g c F L R z := by
  obtain ⟨cs, hB⟩ := h2.blk
  exact ⟨h.1.stay hg hB (by decide) hw, h.2.1.stay hB (by decide) (by decide) hw, h.2.2.grown hw h.2.2.size (fun j hj => by injection hj with hj; omega)⟩

set_option maxRecDepth 100000 in
set_option maxHeartbeats 4000000 in
theorem sruns_some (F L R at' : Int) (a : Option Addr) (len cap : Nat) (z : List Act4) (w : World) (hF : U F) (hL : U L) (hR : U R) (hz : ActsAt w a len z) (h25 : len ≤ 25) (h1 : mayB F L R = true) (hs : F ≤ R) :
    Calls Try.prog 5 #[.agg #[.int .u64 F, .int .u64 L, .int .u64 R], .slice a len cap, .int .i64 at'] w fun e' w' => e' = .returned (.bool true) ∧ Below w.heap.size w w' := by
    have nb := Blk.new w 24 #[.int .u64 F, .int .u64 L, .int .u64 R]
    have hal := (Below.refl w.heap.size w).alloc (Nat.le_refl _) (.cells #[.int .u64 F, .int .u64 L, .int .u64 R] 24)
    have HAL := Lib.hid hal
    have H := Lib.hid h1
    have HZ := Lib.hid hz
    have NB := Lib.hid nb
    have hF0 := hF.1; have hL0 := hL.1; have hR0 := hR.1
    clear nb h1 hz hF hL hR hal
    go_enter Try.func5, Try.ntmps5
    go_wp2_with (first
      | (go_at_call 22; refine (live_new _ hF0 hL0 hR0 H.out hs).mono ?_; rintro e w1 ⟨g, rfl, hgw, hlive, hb1⟩; have n1 := NB.out.below hb1 NB.out.lt; have a0 := n1.cell 0; have a1 := n1.cell 1; have a2 := n1.cell 2; simp only [List.getElem?_toArray, List.getElem?_cons_zero, List.getElem?_cons_succ] at a0 a1 a2; have HLV := Lib.hid hlive; have HB1 := Lib.hid (HAL.out.trans (hb1.mono HAL.out.size)); have HGW := Lib.hid (Nat.le_trans HAL.out.size hgw); clear hlive n1 hgw)
      | (go_at_call 23; refine (new6_ok F L R _ w.heap.size hF0 hL0 hR0 HB1.out.size H.out hs).mono ?_; rintro e w2 ⟨c, rfl, hrc, hb2⟩; have HRC := Lib.hid hrc; clear hrc))
    have hgw := HGW.out
    have hboth : BothC w w2 g c F L R (z.take 0) := ⟨⟨[], HLV.out.below hb2, List.Pairwise.nil⟩, HRC.out, HB1.out.trans (hb2.mono HB1.out.size)⟩
    have HBO := Lib.hid hboth
    clear hboth hb1 hb2 HLV HRC HB1 HGW a0 a1 a2
    go_loopw [11] (fun i W => ∃ (k : Nat), k ≤ len ∧ i = .int .i64 k ∧ BothC w W g c F L R (z.take k)) (fun i _ => len - (intOf i).toNat)
    case atStart => exact ⟨0, by omega, rfl, HBO.out⟩
    case round =>
      clear HBO
      obtain ⟨wo, rfl⟩ : ∃ wo : World, wo = wr := ⟨_, rfl⟩
      obtain ⟨k, hk, rfl, hbo⟩ := hrel
      have HBO := Lib.hid hbo; clear hbo
      by_cases hlt : k < len
      · obtain ⟨⟨X, Y, T, N⟩, hq⟩ : ∃ q, z[k]? = some q := ⟨_, List.getElem?_eq_getElem (by have := HZ.out.1; omega)⟩
        have hu := HZ.out.2.1 _ (List.mem_of_getElem? hq)
        obtain ⟨b, off, hab, hbl, hcl⟩ := HZ.out.2.2.resolve_left (by omega)
        subst hab
        have hcells := hcl k _ hq
        have HC := Lib.hid hcells
        have hsn := runA_snoc hq
        have HN := Lib.hid hsn
        have hfew : (runA (z.take k)).2.length < 900000 := by rw [runA_len, List.length_take]; omega
        have hfk : (runA (z.take k)).2.length ≤ k := by rw [runA_len, List.length_take]; omega
        have HCL := Lib.hid hcl
        have HQ := Lib.hid hq
        clear hcells hsn hcl hq
        go_upto_if 59 with fail
        go_cut [11] from 51 to 132 (fun s11 wx => s11 = .int .i64 k ∧ BothC w wx g c F L R (z.take k))
        case first =>
          by_cases hat : (k : Int) = at'
          · subst hat
            have TC := Lib.hid (show True from trivial)
            go_wp2_with (first
              | (go_at_call 24; refine (livek_copy HBO.out.1).mono ?_; rintro e W1 ⟨g2, rfl, hg2, hr2, hb1⟩; have HB1 := Lib.hid (HBO.out.below hb1); have HR2 := Lib.hid hr2; have HG2 := Lib.hid hg2; have d0 := (HB1.out.2.2.cell (p := ⟨b, off + k * 4, none⟩) hbl).trans HC.out.1; have d1 := (HB1.out.2.2.cell (p := ⟨b, off + k * 4 + 1, none⟩) hbl).trans HC.out.2.1; have d2 := (HB1.out.2.2.cell (p := ⟨b, off + k * 4 + 2, none⟩) hbl).trans HC.out.2.2.1; have d3 := (HB1.out.2.2.cell (p := ⟨b, off + k * 4 + 3, none⟩) hbl).trans HC.out.2.2.2; clear hr2 hg2)
              | (go_at_call 25; refine (same06 HR2.out HB1.out.2.1 X Y T N hu.2.2.1 hu.2.2.2).mono ?_; rintro e W2 ⟨rfl, hb2⟩; have HB2 := Lib.hid (HB1.out.below hb2); have HR3 := Lib.hid (HR2.out.below hb2); clear d0 d1 d2 d3))
            have hgn : g2 ≠ g := by have h1 := HBO.out.1.lt; have h2 := HG2.out; omega
            have hgw2 : w.heap.size ≤ g2 := Nat.le_trans HBO.out.2.2.size HG2.out
            go_loopw [13] (fun i W => ∃ (j : Nat) (x2 : Int) (A2 : List (Int × Int)), k ≤ j ∧ j ≤ len ∧ i = .int .i64 j ∧ A2.length ≤ j ∧ LiveK W g2 F L R x2 A2 ∧ BothC w W g c F L R (z.take k)) (fun i _ => len - (intOf i).toNat)
            case atStart => exact ⟨k, _, _, Nat.le_refl _, hk, rfl, hfk, HR3.out, HB2.out⟩
            case round =>
              obtain ⟨j, x2, A2, hkj, hjl, rfl, hA2, hr2, hbo⟩ := hrel
              have HR4 := Lib.hid hr2; have HBO4 := Lib.hid hbo; clear hr2 hbo
              by_cases hlt2 : j < len
              · obtain ⟨⟨X2, Y2, T2, N2⟩, hq2⟩ : ∃ q, z[j]? = some q := ⟨_, List.getElem?_eq_getElem (by have := HZ.out.1; omega)⟩
                have hu2 := HZ.out.2.1 _ (List.mem_of_getElem? hq2)
                obtain ⟨c0, c1, _, _⟩ := HCL.out j _ hq2
                have hbw := Nat.lt_of_lt_of_le hbl HBO4.out.2.2.size
                have o0 := fun e => (over_cell (w := wr) (e := e) hbw).trans ((HBO4.out.2.2.cell (p := ⟨b, off + j * 4, none⟩) hbl).trans c0)
                have o1 := fun e => (over_cell (w := wr) (e := e) hbw).trans ((HBO4.out.2.2.cell (p := ⟨b, off + j * 4 + 1, none⟩) hbl).trans c1)
                clear hq2 c0 c1
                go_wp2
                refine wp_region_over_tail 11 (by kernel_rfl) (by kernel_rfl) ?_
                simp only [List.take_succ_cons, List.take_zero, List.drop_succ_cons, List.drop_zero]
                repeat (first | go_big_quiet_skip | (go_big_quiet_want; go_big_quiet_op; go_big_quiet_on))
                refine wpQuiet_nil ?_
                rintro W3 ⟨e, he⟩
                have hb33 := over_below wr e
                rw [← he] at hb33
                clear he o0 o1
                have HR5 := Lib.hid (HR4.out.below hb33); have HBO5 := Lib.hid (HBO4.out.below hb33)
                go_wp2_with (go_at_call 26; refine (livek_start HR5.out Y2 X2 _ _ hu2.2.1 hu2.1 rfl rfl (by omega)).mono ?_; rintro e W4 ⟨rfl, hl4, hg4⟩; have HR6 := Lib.hid hl4; clear hl4)
                go_roundw
                case rel => exact ⟨j + 1, _, _, by omega, by omega, by go_num, by simp; omega, HR6.out, HBO5.out.stay HR5.out hgn hgw2 hg4⟩
                case measure => simp [intOf]; omega
              · obtain rfl : j = len := by omega
                go_wp2
                go_meet
                exact ⟨rfl, HBO4.out⟩
          · have hne : ((k : Int) == at') = false := by simpa using hat
            go_wp2
            go_meet
            exact ⟨rfl, HBO.out⟩
        case rest =>
          obtain ⟨rfl, hbo⟩ := hcut
          have HB0 := Lib.hid hbo; clear hbo HBO
          have d0 := (HB0.out.2.2.cell (p := ⟨b, off + k * 4, none⟩) hbl).trans HC.out.1; have d1 := (HB0.out.2.2.cell (p := ⟨b, off + k * 4 + 1, none⟩) hbl).trans HC.out.2.1; have d2 := (HB0.out.2.2.cell (p := ⟨b, off + k * 4 + 2, none⟩) hbl).trans HC.out.2.2.1; have d3 := (HB0.out.2.2.cell (p := ⟨b, off + k * 4 + 3, none⟩) hbl).trans HC.out.2.2.2
          go_wp2_with (go_at_call 25; refine (same06 HB0.out.1 HB0.out.2.1 X Y T N hu.2.2.1 hu.2.2.2).mono ?_; rintro e W1 ⟨rfl, hb1⟩; have HB1 := Lib.hid (HB0.out.below hb1); clear d0 d1 d2 d3)
          have hbw2 := Nat.lt_of_lt_of_le hbl HB1.out.2.2.size
          have o0 := fun e => (over_cell (w := W1) (e := e) hbw2).trans ((HB1.out.2.2.cell (p := ⟨b, off + k * 4, none⟩) hbl).trans HC.out.1)
          have o1 := fun e => (over_cell (w := W1) (e := e) hbw2).trans ((HB1.out.2.2.cell (p := ⟨b, off + k * 4 + 1, none⟩) hbl).trans HC.out.2.1)
          refine wp_region_over_tail 11 (by kernel_rfl) (by kernel_rfl) ?_
          simp only [List.take_succ_cons, List.take_zero, List.drop_succ_cons, List.drop_zero]
          repeat (first | go_big_quiet_skip | (go_big_quiet_want; go_big_quiet_op; go_big_quiet_on))
          refine wpQuiet_nil ?_
          rintro W2 ⟨e, he⟩
          have hb2 := over_below W1 e
          rw [← he] at hb2
          clear he o0 o1
          have HB2 := Lib.hid (HB1.out.below hb2)
          go_wp2_with (go_at_call 26; refine (livek_start HB2.out.1 X Y _ _ hu.1 hu.2.1 rfl rfl hfew).mono ?_; rintro e W3 ⟨rfl, hl3, hg3⟩; have HR3 := Lib.hid hl3; have HQ3 := Lib.hid (HB2.out.stayC hg3); have HW3 := Lib.hid (HB2.out.2.2.grown hg3 HB2.out.2.2.size (fun j hj => by injection hj with hj; omega)); clear hl3)
          have hb3s := HW3.out.size
          have hbwx := Nat.lt_of_lt_of_le hbl hb3s
          have o0 := fun e => (over_cell (w := W3) (e := e) hbwx).trans ((HW3.out.cell (p := ⟨b, off + k * 4, none⟩) hbl).trans HC.out.1)
          have o1 := fun e => (over_cell (w := W3) (e := e) hbwx).trans ((HW3.out.cell (p := ⟨b, off + k * 4 + 1, none⟩) hbl).trans HC.out.2.1)
          refine wp_region_over_tail 11 (by kernel_rfl) (by kernel_rfl) ?_
          simp only [List.take_succ_cons, List.take_zero, List.drop_succ_cons, List.drop_zero]
          repeat (first | go_big_quiet_skip | (go_big_quiet_want; go_big_quiet_op; go_big_quiet_on))
          refine wpQuiet_nil ?_
          rintro W4 ⟨e, he⟩
          have hb4 := over_below W3 e
          rw [← he] at hb4
          clear he o0 o1
          have HR4 := Lib.hid (HR3.out.below hb4); have HQ4 := Lib.hid (HQ3.out.below hb4); have HW4 := Lib.hid (HW3.out.trans (hb4.mono hb3s))
          have TS := Lib.hid (show True from trivial)
          go_wp2_with (first
            | (go_at_call 27; refine (refc_start HQ4.out HW4.out.size X Y _ _ hu.1 hu.2.1 rfl rfl hfew).mono ?_; rintro e W5 ⟨rfl, hl5, hg5⟩; obtain ⟨vx, vy, hqb, _⟩ := HQ4.out.at_; have HR5 := Lib.hid (HR4.out.ref hg5 hqb); have HW5 := Lib.hid (HW4.out.trans (hg5.low HQ4.out.low HW4.out.size)); have HQ5 := Lib.hid hl5; clear hl5 hqb; have d0 := (HW5.out.cell (p := ⟨b, off + k * 4, none⟩) hbl).trans HC.out.1; have d1 := (HW5.out.cell (p := ⟨b, off + k * 4 + 1, none⟩) hbl).trans HC.out.2.1; have d2 := (HW5.out.cell (p := ⟨b, off + k * 4 + 2, none⟩) hbl).trans HC.out.2.2.1; have d3 := (HW5.out.cell (p := ⟨b, off + k * 4 + 3, none⟩) hbl).trans HC.out.2.2.2)
            | (go_at_call 25; refine (same06 HR5.out HQ5.out X Y T N hu.2.2.1 hu.2.2.2).mono ?_; rintro e W6 ⟨rfl, hb6⟩; have HR6 := Lib.hid (HR5.out.below hb6); have HQ6 := Lib.hid (HQ5.out.below hb6); have HW6 := Lib.hid (HW5.out.trans (hb6.mono HW5.out.size)); clear d0 d1 d2 d3))
          have fin : BothC w W6 g c F L R (z.take (k + 1)) := by
            refine ⟨?_, ?_, HW6.out⟩
            · rw [HN.out]; exact HR6.out
            · rw [HN.out]; exact HQ6.out
          go_roundw
          case rel => exact ⟨k + 1, by omega, by go_num, fin⟩
          case measure => simp [intOf]; omega
      · obtain rfl : k = len := by omega
        go_wp2
        go_ret
        exact ⟨rfl, HBO.out.2.2⟩

theorem sruns_walk (F L R at' : Int) (a : Option Addr) (len cap : Nat) (z : List (List Value)) (w : World) (hF : U F) (hL : U L) (hR : U R) (hz : IsRows [some .u64, some .u64, some .u64, some .u64] w a len cap z) :
    Calls Try.prog 5 #[.agg #[.int .u64 F, .int .u64 L, .int .u64 R], .slice a len cap, .int .i64 at'] w fun e' w' => e' = .returned (.bool true) ∧ Below w.heap.size w w' := by
  obtain ⟨hlen, l, hl⟩ := acts_of hz
  by_cases h25 : 25 < len
  · exact sruns_long F L R at' a len cap w h25 hlen
  · cases h1 : mayB F L R with
    | false => exact sruns_nil F L R at' a len cap w hL.1 (by omega) (.inl h1)
    | true =>
      by_cases hs : R < F
      · exact sruns_nil F L R at' a len cap w hL.1 (by omega) (.inr ⟨h1, hs⟩)
      · exact sruns_some F L R at' a len cap l w hF hL hR hl (by omega) h1 (by omega)

end Go.Proofs.Ytipiajnaechadaa
