/-
  The law SaggedAbove: how far the line is above what a run has; its walk.
-/
import Derived.Test.YtmmodhhheojkfaaSagBack
namespace Go.Proofs.Ytmmodhhheojkfaa
open Go.RowKit

theorem minF_at (g : Int × Int → Int) : ∀ (l : List (Int × Int)) (m : Int), minF g m l = m ∨ ∃ k ∈ l, minF g m l = g k
  | [], m => .inl rfl
  | k :: l, m => by
    have h : minF g m (k :: l) = minF g (min m (g k)) l := rfl
    rw [h]
    rcases minF_at g l (min m (g k)) with h1 | ⟨j, hj, h1⟩
    · by_cases h2 : m ≤ g k
      · exact .inl (by omega)
      · exact .inr ⟨k, by simp, by omega⟩
    · exact .inr ⟨j, by simp [hj], h1⟩

/-- how far a line is above its curve behind the corner -/
def overK (F L R : Int) : Int := if L = 0 then 0 else (R - F) * L

theorem over_bd {F L R : Int} (h : MayC F L R) (hs : F ≤ R) : 0 ≤ overK F L R ∧ overK F L R ≤ 1152921504606846976 := by
  unfold overK
  split
  · omega
  · have h1 := h.f0; have h2 := h.r1; have h3 := h.l0; have h4 := h.l1
    have := mul_bd (a := R - F) (t := L) (A := 1048576) (T := 1099511627776) (by omega) (by omega) h3 h4
    omega

theorem above_law {F L R s t : Int} {A : List (Int × Int)} (h : MayC F L R) (hs : F ≤ R) (hA : ∀ a ∈ A, a.1 ≤ s ∧ 0 ≤ a.2) (ht : s ≤ t) :
    minF (atK F L R t) 4611686018427387904 A ≤ minF (linK R t) 4611686018427387904 A ∧
    minF (linK R t) 4611686018427387904 A ≤ cap (minF (atK F L R t) 4611686018427387904 A + overK F L R) ∧
    (s + L ≤ t → minF (linK R t) 4611686018427387904 A = 4611686018427387904 ∨ minF (linK R t) 4611686018427387904 A = minF (atK F L R t) 4611686018427387904 A + overK F L R) := by
  have ho := over_bd h hs
  have each : ∀ a ∈ A, atK F L R t a = cap (hasK F L R a t) ∧ linK R t a = cap (hasK F L R a t + gapK F L R (t - a.1)) ∧ 0 ≤ gapK F L R (t - a.1) ∧ gapK F L R (t - a.1) ≤ overK F L R ∧ (s + L ≤ t → gapK F L R (t - a.1) = overK F L R) := by
    intro a ha
    have h1 := hA a ha
    have hg : SagC F L R := ⟨h, .inr hs⟩
    refine ⟨atK_has h1.2, by rw [linK_line h1.2, line_gap F L R], gap_nonneg hg (by omega), gap_le hg (by omega), fun hl => gap_late hg (by omega)⟩
  refine ⟨?_, ?_, ?_⟩
  · refine le_minF _ _ A _ (minF_le_start _ A _) fun a ha => ?_
    have h1 := minF_le (atK F L R t) A 4611686018427387904 a ha
    obtain ⟨e1, e2, g0, _, _⟩ := each a ha
    rw [e1] at h1; rw [e2]
    unfold cap at *; split <;> split at h1 <;> omega
  · rcases minF_at (atK F L R t) A 4611686018427387904 with h1 | ⟨a, ha, h1⟩
    · have := minF_le_start (linK R t) A 4611686018427387904
      rw [h1]; unfold cap; split <;> omega
    · obtain ⟨e1, e2, g0, g1, _⟩ := each a ha
      have h2 := minF_le (linK R t) A 4611686018427387904 a ha
      have h3 := minF_le_start (linK R t) A 4611686018427387904
      rw [h1, e1]
      rw [e2] at h2
      unfold cap at *; split at h2 <;> split <;> split <;> omega
  · intro hl
    rcases minF_at (linK R t) A 4611686018427387904 with h1 | ⟨a, ha, h1⟩
    · exact .inl h1
    · obtain ⟨e1, e2, g0, _, g2⟩ := each a ha
      have g2 := g2 hl
      have h2 := minF_le (atK F L R t) A 4611686018427387904 a ha
      rw [e1] at h2
      rw [e2, g2] at h1
      by_cases hc : 4611686018427387904 < hasK F L R a t + overK F L R
      · left; rw [h1]; unfold cap; rw [if_pos hc]
      · right
        rcases minF_at (atK F L R t) A 4611686018427387904 with h3 | ⟨b, hb, h3⟩
        · have : cap (hasK F L R a t) = hasK F L R a t := cap_of_le (by omega)
          have : cap (hasK F L R a t + overK F L R) = hasK F L R a t + overK F L R := cap_of_le (by omega)
          omega
        · obtain ⟨f1, f2, _, _, f3⟩ := each b hb
          have h4 := minF_le (linK R t) A 4611686018427387904 b hb
          rw [f2, f3 hl] at h4
          rw [f1] at h3
          have : cap (hasK F L R a t) = hasK F L R a t := cap_of_le (by omega)
          have : cap (hasK F L R a t + overK F L R) = hasK F L R a t + overK F L R := cap_of_le (by omega)
          have : cap (hasK F L R b t) = hasK F L R b t ∨ cap (hasK F L R b t) = 4611686018427387904 := by unfold cap; split <;> simp
          have : cap (hasK F L R b t + overK F L R) ≤ hasK F L R b t + overK F L R := cap_le_self _
          omega

set_option maxRecDepth 100000 in
set_option maxHeartbeats 2000000 in
theorem above_nil (F L R y : Int) (a : Option Addr) (len cap : Nat) (w : World) (hL : 0 ≤ L) (hlen : len ≤ 9223372036854775807) (h : mayB F L R = false ∨ (mayB F L R = true ∧ R < F)) :
    Calls Try.prog 7 #[.agg #[.int .u64 F, .int .u64 L, .int .u64 R], .slice a len cap, .int .u64 y] w fun e w' => e = .returned (.bool true) ∧ Below w.heap.size w w' := by
  have nb := Blk.new w 30 #[.int .u64 F, .int .u64 L, .int .u64 R]
  have hal := (Below.refl w.heap.size w).alloc (Nat.le_refl _) (.cells #[.int .u64 F, .int .u64 L, .int .u64 R] 30)
  have H := Lib.hid h; clear h
  have NB := Lib.hid nb; clear nb
  go_enter Try.func7, Try.ntmps7
  go_wp2_with (first | (go_at_call 33; refine (awake_any _).mono ?_; rintro e w1 ⟨rfl, hb1⟩; have n1 := NB.out.below hb1 NB.out.lt; have a0 := n1.cell 0; have a1 := n1.cell 1; have a2 := n1.cell 2; simp only [List.getElem?_toArray, List.getElem?_cons_zero, List.getElem?_cons_succ] at a0 a1 a2; have hbw1 := hal.trans (hb1.mono hal.size)) | (go_at_call 34; refine (started_nil F L R a len cap _ hL hlen H.out).mono ?_; rintro e w2 ⟨rfl, hb2⟩))
  all_goals
    go_ret
    exact ⟨rfl, hbw1.trans (hb2.mono hbw1.size)⟩

set_option maxRecDepth 100000 in
set_option maxHeartbeats 2000000 in
theorem above_many (F L R y : Int) (a : Option Addr) (len cap : Nat) (w : World) (hF : 0 ≤ F) (hL : 0 ≤ L) (hR : 0 ≤ R) (hlen : len ≤ 9223372036854775807) (h40 : 40 < len) (h1 : mayB F L R = true) (h2 : F ≤ R) :
    Calls Try.prog 7 #[.agg #[.int .u64 F, .int .u64 L, .int .u64 R], .slice a len cap, .int .u64 y] w fun e w' => e = .returned (.bool true) ∧ Below w.heap.size w w' := by
  have nb := Blk.new w 30 #[.int .u64 F, .int .u64 L, .int .u64 R]
  have hal := (Below.refl w.heap.size w).alloc (Nat.le_refl _) (.cells #[.int .u64 F, .int .u64 L, .int .u64 R] 30)
  have H := Lib.hid h1; clear h1
  have NB := Lib.hid nb; clear nb
  go_enter Try.func7, Try.ntmps7
  go_wp2_with (first | (go_at_call 33; refine (awake_any _).mono ?_; rintro e w1 ⟨rfl, hb1⟩; have n1 := NB.out.below hb1 NB.out.lt; have a0 := n1.cell 0; have a1 := n1.cell 1; have a2 := n1.cell 2; simp only [List.getElem?_toArray, List.getElem?_cons_zero, List.getElem?_cons_succ] at a0 a1 a2; have hbw1 := hal.trans (hb1.mono hal.size)) | (go_at_call 34; refine (started_many F L R a len cap _ hF hL hR hlen h40 H.out h2).mono ?_; rintro e w2 ⟨rfl, hb2⟩))
  all_goals
    go_ret
    exact ⟨rfl, hbw1.trans (hb2.mono hbw1.size)⟩

set_option maxRecDepth 100000 in
set_option maxHeartbeats 2000000 in
theorem above_zero (F L R y : Int) (a : Option Addr) (len cap : Nat) (z : List Act4) (w : World) (hF : 0 ≤ F) (hL : 0 ≤ L) (hR : 0 ≤ R) (hz : ActsAt w a len z) (h0 : len = 0) (h1 : mayB F L R = true) (h2 : F ≤ R) :
    Calls Try.prog 7 #[.agg #[.int .u64 F, .int .u64 L, .int .u64 R], .slice a len cap, .int .u64 y] w fun e w' => e = .returned (.bool true) ∧ Below w.heap.size w w' := by
  have nb := Blk.new w 30 #[.int .u64 F, .int .u64 L, .int .u64 R]
  have hal := (Below.refl w.heap.size w).alloc (Nat.le_refl _) (.cells #[.int .u64 F, .int .u64 L, .int .u64 R] 30)
  have H := Lib.hid h1; have HZ := Lib.hid hz; clear h1 hz
  subst h0
  have h40 : 0 ≤ 40 := by omega
  have NB := Lib.hid nb; clear nb
  go_enter Try.func7, Try.ntmps7
  go_wp2_with (first | (go_at_call 33; refine (awake_any _).mono ?_; rintro e w1 ⟨rfl, hb1⟩; have n1 := NB.out.below hb1 NB.out.lt; have a0 := n1.cell 0; have a1 := n1.cell 1; have a2 := n1.cell 2; simp only [List.getElem?_toArray, List.getElem?_cons_zero, List.getElem?_cons_succ] at a0 a1 a2; have hbw1 := hal.trans (hb1.mono hal.size)) | (go_at_call 34; refine (started_some F L R a _ cap z _ hF hL hR ((HZ.out.below hal).below hb1) h40 H.out h2).mono ?_; rintro e w2 ⟨g, K, rfl, hg, hl, hb2⟩; have hbw2 := hbw1.trans (hb2.mono hbw1.size); have HL := Lib.hid hl; clear hl hb2))
  all_goals
    go_ret
    exact ⟨rfl, hbw2⟩

theorem over_pp {F L R ov pp : Int} (h : ov = if L = 0 then 0 else (R - F) * L) (hp : Proofs.Ytmmodhhheojkfaa.cap ((R - F) * L) = pp) (hb : ov ≤ 1152921504606846976) : (L = 0 → ov = 0) ∧ (L ≠ 0 → pp = ov) := by
  refine ⟨fun h0 => by rw [h, if_pos h0], fun h0 => ?_⟩
  rw [if_neg h0] at h
  rw [← hp, ← h]
  exact cap_of_le (by omega)
theorem above_facts {w : World} {g : Nat} {F L R x T : Int} {K A : List (Int × Int)} (h : Live w g F L R x K A) (hT : x ≤ T) :
    0 ≤ minF (atK F L R T) 4611686018427387904 A ∧ minF (atK F L R T) 4611686018427387904 A ≤ minF (linK R T) 4611686018427387904 A ∧ minF (linK R T) 4611686018427387904 A ≤ 4611686018427387904 ∧
    (minF (linK R T) 4611686018427387904 A ≤ Proofs.Ytmmodhhheojkfaa.cap (minF (atK F L R T) 4611686018427387904 A + overK F L R) ∧
      (x + L ≤ T → minF (linK R T) 4611686018427387904 A = 4611686018427387904 ∨ minF (linK R T) 4611686018427387904 A = minF (atK F L R T) 4611686018427387904 A + overK F L R)) := by
  obtain ⟨h1, h2, h3⟩ := above_law (s := x) (t := T) h.may h.le (fun a ha => ⟨h.run.le a ha, (h.num a ha).2.1⟩) hT
  refine ⟨le_minF _ 0 A _ (by omega) fun k hk => ?_, h1, minF_le_start _ _ _, h2, h3⟩
  have := h.num k hk
  have := h.run.le k hk
  rw [atK_has (by omega)]
  refine cap_nonneg ?_
  unfold hasK
  have := W_nonneg h.may.f0 h.may.r0 h.may.l0 (t := T - k.1) (by omega)
  omega
set_option maxRecDepth 100000 in
set_option maxHeartbeats 2000000 in
theorem above_some (F L R y : Int) (a : Option Addr) (len cap : Nat) (z : List Act4) (w : World) (hF : 0 ≤ F) (hL : 0 ≤ L) (hR : 0 ≤ R) (hy : U y) (hz : ActsAt w a len z) (h40 : len ≤ 40) (hpos : 0 < len) (h1 : mayB F L R = true) (h2 : F ≤ R) :
    Calls Try.prog 7 #[.agg #[.int .u64 F, .int .u64 L, .int .u64 R], .slice a len cap, .int .u64 y] w fun e w' => e = .returned (.bool true) ∧ Below w.heap.size w w' := by
  have nb := Blk.new w 30 #[.int .u64 F, .int .u64 L, .int .u64 R]
  have hal := (Below.refl w.heap.size w).alloc (Nat.le_refl _) (.cells #[.int .u64 F, .int .u64 L, .int .u64 R] 30)
  have hA : (runA z).2 ≠ [] := by
    intro h
    have := congrArg List.length h
    rw [runA_len, hz.1] at this
    simp at this; omega
  have HA := Lib.hid hA
  have hM := mayB_spec hF hL hR h1
  have hob := over_bd hM h2
  have hl1 := hM.l1; have hr1 := hM.r1
  have ho2 : overK F L R = if L = 0 then 0 else (R - F) * L := rfl
  obtain ⟨ov, hov⟩ : ∃ o, overK F L R = o := ⟨_, rfl⟩
  rw [hov] at hob ho2
  have HO := Lib.hid hov; have HO2 := Lib.hid ho2
  have uL : U L := ⟨hL, by omega⟩
  have uRF : U (R - F) := ⟨by omega, by omega⟩
  have H := Lib.hid h1; have HZ := Lib.hid hz; clear h1 hz hA hov ho2
  have NB := Lib.hid nb; clear nb
  go_enter Try.func7, Try.ntmps7
  go_wp2_with (first | (go_at_call 33; refine (awake_any _).mono ?_; rintro e w1 ⟨rfl, hb1⟩; have n1 := NB.out.below hb1 NB.out.lt; have a0 := n1.cell 0; have a1 := n1.cell 1; have a2 := n1.cell 2; simp only [List.getElem?_toArray, List.getElem?_cons_zero, List.getElem?_cons_succ] at a0 a1 a2; have hbw1 := hal.trans (hb1.mono hal.size)) | (go_at_call 34; refine (started_some F L R a _ cap z _ hF hL hR ((HZ.out.below hal).below hb1) h40 H.out h2).mono ?_; rintro e w2 ⟨g, K, rfl, hg, hl, hb2⟩; have n2 := n1.below hb2 n1.lt; have N1 := Lib.hid n2; clear n2; have hbw2 := hbw1.trans (hb2.mono hbw1.size); have HL := Lib.hid hl; clear hl hb2) | (go_at_call 18; refine (live_last HL.out HA.out).mono ?_; rintro e w' ⟨rfl, rfl⟩; have hx0 := HL.out.x0; have hx1 := HL.out.x1; obtain ⟨hA0, hAL, hLC, hlaw⟩ := above_facts HL.out (T := max y (runA z).1) (by omega); obtain ⟨x, hx⟩ : ∃ x, (runA z).1 = x := ⟨_, rfl⟩; rw [hx] at hx0 hx1 hA0 hAL hLC hlaw; rw [HO.out] at hlaw; obtain ⟨vA, hvA⟩ : ∃ v, minF (atK F L R (max y x)) 4611686018427387904 (runA z).2 = v := ⟨_, rfl⟩; obtain ⟨vL, hvL⟩ : ∃ v, minF (linK R (max y x)) 4611686018427387904 (runA z).2 = v := ⟨_, rfl⟩; rw [hvA] at hA0 hAL hlaw; rw [hvL] at hAL hLC hlaw; have HX := Lib.hid hx; have HA1 := Lib.hid hvA; have HL1 := Lib.hid hvL; have HLaw := Lib.hid hlaw; rw [hx]; clear hx hvA hvL hlaw) | (go_at_call 21; refine (live_at' HL.out HA.out _ vA ⟨by omega, by omega⟩ (by rw [HX.out, ← HA1.out] <;> congr 2 <;> omega)).mono ?_; rintro e w5 ⟨rfl, hb5⟩; have hL5 := HL.out.below hb5; have hb6 := hbw2.trans (hb5.mono hbw2.size); clear HL hbw2; have HL := Lib.hid hL5; have hbw2 := hb6; clear hL5 hb6; have n5 := N1.out.below hb5 N1.out.lt; clear N1 hb5; have b0 := n5.cell 0; have b1 := n5.cell 1; have b2 := n5.cell 2; simp only [List.getElem?_toArray, List.getElem?_cons_zero, List.getElem?_cons_succ] at b0 b1 b2; have N1 := Lib.hid n5; clear n5) | (go_at_call 22; refine (live_line' HL.out HA.out _ vL ⟨by omega, by omega⟩ (by rw [HX.out, ← HL1.out] <;> congr 2 <;> omega)).mono ?_; rintro e w5 ⟨rfl, hb5⟩; have hL5 := HL.out.below hb5; have hb6 := hbw2.trans (hb5.mono hbw2.size); clear HL hbw2; have HL := Lib.hid hL5; have hbw2 := hb6; clear hL5 hb6; have n5 := N1.out.below hb5 N1.out.lt; clear N1 hb5; have b0 := n5.cell 0; have b1 := n5.cell 1; have b2 := n5.cell 2; simp only [List.getElem?_toArray, List.getElem?_cons_zero, List.getElem?_cons_succ] at b0 b1 b2; have N1 := Lib.hid n5; clear n5) | (go_at_call 37; refine (times_any (R - F) L _ uRF uL).mono ?_; rintro e w6 ⟨rfl, hb7⟩; obtain ⟨pp, hp⟩ : ∃ p, Go.Proofs.Ytmmodhhheojkfaa.cap ((R - F) * L) = p := ⟨_, rfl⟩; rw [hp]; have hpo : (L = 0 → ov = 0) ∧ (L ≠ 0 → pp = ov) := over_pp HO2.out hp hob.2; have hp0 : 0 ≤ pp := hp ▸ cap_nonneg (Int.mul_nonneg uRF.1 hL); have hp1 : pp ≤ 4611686018427387904 := hp ▸ cap_le _; have HPO := Lib.hid hpo; clear hp hpo; have hL5 := HL.out.below hb7; have hb6 := hbw2.trans (hb7.mono hbw2.size); clear HL hbw2; have HL := Lib.hid hL5; have hbw2 := hb6; clear hL5 hb6; have n5 := N1.out.below hb7 N1.out.lt; clear N1 hb7; have b0 := n5.cell 0; have b1 := n5.cell 1; have b2 := n5.cell 2; simp only [List.getElem?_toArray, List.getElem?_cons_zero, List.getElem?_cons_succ] at b0 b1 b2; have N1 := Lib.hid n5; clear n5) | (go_at_call 35; refine (rplus_any _ _ _ ⟨by omega, by omega⟩ ⟨by omega, by omega⟩).mono ?_; rintro e w' ⟨rfl, rfl⟩))
  all_goals
    go_ret
    first
      | exact ⟨rfl, hbw2⟩
      | (have hlaw := HLaw.out; have hpo := HPO.out; clear HL HA H HZ NB N1 HLaw HPO; refine ⟨?_, hbw2⟩; unfold Go.Proofs.Ytmmodhhheojkfaa.cap at *; simp only [beq_iff_eq, beq_eq_false_iff_ne, ne_eq] at *; simp; omega)
      | (have hlaw := HLaw.out; have hpo := HPO.out; clear HL HA H HZ NB N1 HLaw HPO; exfalso; unfold Go.Proofs.Ytmmodhhheojkfaa.cap at *; simp only [beq_iff_eq, beq_eq_false_iff_ne, ne_eq] at *; omega)

theorem above_walk (F L R y : Int) (a : Option Addr) (len cap : Nat) (zs : List (List Value)) (w : World) (hF : U F) (hL : U L) (hR : U R) (hy : U y) (hz : IsRows [some .u64, some .u64, some .u64, some .u64] w a len cap zs) :
    Calls Try.prog 7 #[.agg #[.int .u64 F, .int .u64 L, .int .u64 R], .slice a len cap, .int .u64 y] w fun e w' => e = .returned (.bool true) ∧ Below w.heap.size w w' := by
  obtain ⟨hlen, z, hz'⟩ := acts_of hz
  by_cases h1 : mayB F L R = true
  · by_cases h2 : F ≤ R
    · by_cases h40 : len ≤ 40
      · by_cases h0 : len = 0
        · exact above_zero F L R y a len cap z w hF.1 hL.1 hR.1 hz' h0 h1 h2
        · exact above_some F L R y a len cap z w hF.1 hL.1 hR.1 hy hz' h40 (by omega) h1 h2
      · exact above_many F L R y a len cap w hF.1 hL.1 hR.1 hlen (by omega) h1 h2
    · exact above_nil F L R y a len cap w hL.1 hlen (.inr ⟨h1, by omega⟩)
  · exact above_nil F L R y a len cap w hL.1 hlen (.inl (by simpa using h1))

end Go.Proofs.Ytmmodhhheojkfaa
