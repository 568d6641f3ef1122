/-
  The walk of the law SaggedBack.
-/
import Derived.Test.YtmmodhhheojkfaaSagBack
namespace Go.Proofs.Ytmmodhhheojkfaa
open Go.RowKit

set_option maxRecDepth 100000 in
set_option maxHeartbeats 2000000 in
theorem back_nil (F L R y : Int) (a : Option Addr) (len cap : Nat) (w : World) (hL : 0 ≤ L) (hlen : len ≤ 9223372036854775807) (h : mayB F L R = false ∨ (mayB F L R = true ∧ R < F)) :
    Calls Try.prog 8 #[.agg #[.int .u64 F, .int .u64 L, .int .u64 R], .slice a len cap, .int .u64 y] w fun e w' => e = .returned (.bool true) ∧ Below w.heap.size w w' := by
  have nb := Blk.new w 30 #[.int .u64 F, .int .u64 L, .int .u64 R]
  have hal := (Below.refl w.heap.size w).alloc (Nat.le_refl _) (.cells #[.int .u64 F, .int .u64 L, .int .u64 R] 30)
  have H := Lib.hid h; clear h
  have NB := Lib.hid nb; clear nb
  go_enter Try.func8, Try.ntmps8
  go_wp2_with (first | (go_at_call 33; refine (awake_any _).mono ?_; rintro e w1 ⟨rfl, hb1⟩; have n1 := NB.out.below hb1 NB.out.lt; have a0 := n1.cell 0; have a1 := n1.cell 1; have a2 := n1.cell 2; simp only [List.getElem?_toArray, List.getElem?_cons_zero, List.getElem?_cons_succ] at a0 a1 a2; have hbw1 := hal.trans (hb1.mono hal.size)) | (go_at_call 34; refine (started_nil F L R a len cap _ hL hlen H.out).mono ?_; rintro e w2 ⟨rfl, hb2⟩))
  all_goals
    go_ret
    exact ⟨rfl, hbw1.trans (hb2.mono hbw1.size)⟩

set_option maxRecDepth 100000 in
set_option maxHeartbeats 2000000 in
theorem back_many (F L R y : Int) (a : Option Addr) (len cap : Nat) (w : World) (hF : 0 ≤ F) (hL : 0 ≤ L) (hR : 0 ≤ R) (hlen : len ≤ 9223372036854775807) (h40 : 40 < len) (h1 : mayB F L R = true) (h2 : F ≤ R) :
    Calls Try.prog 8 #[.agg #[.int .u64 F, .int .u64 L, .int .u64 R], .slice a len cap, .int .u64 y] w fun e w' => e = .returned (.bool true) ∧ Below w.heap.size w w' := by
  have nb := Blk.new w 30 #[.int .u64 F, .int .u64 L, .int .u64 R]
  have hal := (Below.refl w.heap.size w).alloc (Nat.le_refl _) (.cells #[.int .u64 F, .int .u64 L, .int .u64 R] 30)
  have H := Lib.hid h1; clear h1
  have NB := Lib.hid nb; clear nb
  go_enter Try.func8, Try.ntmps8
  go_wp2_with (first | (go_at_call 33; refine (awake_any _).mono ?_; rintro e w1 ⟨rfl, hb1⟩; have n1 := NB.out.below hb1 NB.out.lt; have a0 := n1.cell 0; have a1 := n1.cell 1; have a2 := n1.cell 2; simp only [List.getElem?_toArray, List.getElem?_cons_zero, List.getElem?_cons_succ] at a0 a1 a2; have hbw1 := hal.trans (hb1.mono hal.size)) | (go_at_call 34; refine (started_many F L R a len cap _ hF hL hR hlen h40 H.out h2).mono ?_; rintro e w2 ⟨rfl, hb2⟩))
  all_goals
    go_ret
    exact ⟨rfl, hbw1.trans (hb2.mono hbw1.size)⟩

set_option maxRecDepth 100000 in
set_option maxHeartbeats 2000000 in
theorem back_zero (F L R y : Int) (a : Option Addr) (len cap : Nat) (z : List Act4) (w : World) (hF : 0 ≤ F) (hL : 0 ≤ L) (hR : 0 ≤ R) (hz : ActsAt w a len z) (h0 : len = 0) (h1 : mayB F L R = true) (h2 : F ≤ R) :
    Calls Try.prog 8 #[.agg #[.int .u64 F, .int .u64 L, .int .u64 R], .slice a len cap, .int .u64 y] w fun e w' => e = .returned (.bool true) ∧ Below w.heap.size w w' := by
  have nb := Blk.new w 30 #[.int .u64 F, .int .u64 L, .int .u64 R]
  have hal := (Below.refl w.heap.size w).alloc (Nat.le_refl _) (.cells #[.int .u64 F, .int .u64 L, .int .u64 R] 30)
  have H := Lib.hid h1; have HZ := Lib.hid hz; clear h1 hz
  subst h0
  have h40 : 0 ≤ 40 := by omega
  have NB := Lib.hid nb; clear nb
  go_enter Try.func8, Try.ntmps8
  go_wp2_with (first | (go_at_call 33; refine (awake_any _).mono ?_; rintro e w1 ⟨rfl, hb1⟩; have n1 := NB.out.below hb1 NB.out.lt; have a0 := n1.cell 0; have a1 := n1.cell 1; have a2 := n1.cell 2; simp only [List.getElem?_toArray, List.getElem?_cons_zero, List.getElem?_cons_succ] at a0 a1 a2; have hbw1 := hal.trans (hb1.mono hal.size)) | (go_at_call 34; refine (started_some F L R a _ cap z _ hF hL hR ((HZ.out.below hal).below hb1) h40 H.out h2).mono ?_; rintro e w2 ⟨g, K, rfl, hg, hl, hb2⟩; have hbw2 := hbw1.trans (hb2.mono hbw1.size); have HL := Lib.hid hl; clear hl hb2))
  all_goals
    go_ret
    exact ⟨rfl, hbw2⟩

/-- the two answers and what is known of them -/
def Two (F L R : Int) (z : List Act4) (K : List (Int × Int)) (y : Int) : Prop :=
  Back (fun t => minF (atK F L R (max t (runA z).1)) 4611686018427387904 (runA z).2) (runA z).1 y (lastAt (reachC F L R) y K (runA z).1) ∧
  Back (fun t => minF (linK R (max t (runA z).1)) 4611686018427387904 (runA z).2) (runA z).1 y (lastAt (reachC 0 0 R) y K (runA z).1) ∧
  lastAt (reachC 0 0 R) y K (runA z).1 ≤ lastAt (reachC F L R) y K (runA z).1

theorem lastAt_U {needs : Int → Int} {y s : Int} {K : List (Int × Int)} (hs0 : 0 ≤ s) (hs : s ≤ 9223372036854775808) : U (lastAt needs y K s) := by
  have h1 := lastAt_le needs y K hs
  have h2 : 0 ≤ lastAt needs y K s := by
    unfold lastAt; split
    · omega
    · have : ∀ (K : List (Int × Int)) (s : Int), 0 ≤ s → 0 ≤ lastL needs y K s := by
        intro K
        induction K with
        | nil => intro s hs; exact hs
        | cons k K ih =>
          intro s hs
          unfold lastL
          split
          · omega
          · exact ih _ (by omega)
      exact this K s hs0
  exact ⟨h2, by omega⟩

set_option maxRecDepth 100000 in
set_option maxHeartbeats 2000000 in
theorem back_some (F L R y : Int) (a : Option Addr) (len cap : Nat) (z : List Act4) (w : World) (hF : 0 ≤ F) (hL : 0 ≤ L) (hR : 0 ≤ R) (hy : U y) (hz : ActsAt w a len z) (h40 : len ≤ 40) (hpos : 0 < len) (h1 : mayB F L R = true) (h2 : F ≤ R) :
    Calls Try.prog 8 #[.agg #[.int .u64 F, .int .u64 L, .int .u64 R], .slice a len cap, .int .u64 y] w fun e w' => e = .returned (.bool true) ∧ Below w.heap.size w w' := by
  have nb := Blk.new w 30 #[.int .u64 F, .int .u64 L, .int .u64 R]
  have hal := (Below.refl w.heap.size w).alloc (Nat.le_refl _) (.cells #[.int .u64 F, .int .u64 L, .int .u64 R] 30)
  have hA : (runA z).2 ≠ [] := by
    intro h
    have := congrArg List.length h
    rw [runA_len, hz.1] at this
    simp at this; omega
  have HA := Lib.hid hA
  have H := Lib.hid h1; have HZ := Lib.hid hz; clear h1 hz hA
  have NB := Lib.hid nb; clear nb
  go_enter Try.func8, Try.ntmps8
  go_wp2_with (first | (go_at_call 33; refine (awake_any _).mono ?_; rintro e w1 ⟨rfl, hb1⟩; have n1 := NB.out.below hb1 NB.out.lt; have a0 := n1.cell 0; have a1 := n1.cell 1; have a2 := n1.cell 2; simp only [List.getElem?_toArray, List.getElem?_cons_zero, List.getElem?_cons_succ] at a0 a1 a2; have hbw1 := hal.trans (hb1.mono hal.size)) | (go_at_call 34; refine (started_some F L R a _ cap z _ hF hL hR ((HZ.out.below hal).below hb1) h40 H.out h2).mono ?_; rintro e w2 ⟨g, K, rfl, hg, hl, hb2⟩; have hbw2 := hbw1.trans (hb2.mono hbw1.size); have HL := Lib.hid hl; clear hl hb2) | (go_at_call 18; refine (live_last HL.out HA.out).mono ?_; rintro e w' ⟨rfl, rfl⟩) | (go_at_call 19; fail))
  have hx0 := HL.out.x0; have hx1 := HL.out.x1
  obtain ⟨hk1, hk2, hmn⟩ := live_back (y := y) HL.out HA.out
  have hnU : U (lastAt (reachC F L R) y K (runA z).1) := lastAt_U hx0 hx1
  have hmU : U (lastAt (reachC 0 0 R) y K (runA z).1) := lastAt_U hx0 hx1
  have hn1 := lastAt_le (reachC F L R) y K hx1
  obtain ⟨n, hn⟩ : ∃ n, lastAt (reachC F L R) y K (runA z).1 = n := ⟨_, rfl⟩
  obtain ⟨m, hm⟩ : ∃ m, lastAt (reachC 0 0 R) y K (runA z).1 = m := ⟨_, rfl⟩
  rw [hn] at hk1 hmn hnU hn1
  rw [hm] at hk2 hmn hmU
  have HN := Lib.hid hn; have HM := Lib.hid hm
  clear hn hm
  obtain ⟨x, hx⟩ : ∃ x, (runA z).1 = x := ⟨_, rfl⟩
  rw [hx] at hk1 hk2 hx0 hx1
  have HX := Lib.hid hx
  rw [hx]
  clear hx
  obtain ⟨vA, hvA⟩ : ∃ v : Int → Int, v = fun t => minF (atK F L R (max t (runA z).1)) 4611686018427387904 (runA z).2 := ⟨_, rfl⟩
  obtain ⟨vL, hvL⟩ : ∃ v : Int → Int, v = fun t => minF (linK R (max t (runA z).1)) 4611686018427387904 (runA z).2 := ⟨_, rfl⟩
  rw [HX.out] at hvA hvL
  rw [← hvA] at hk1
  rw [← hvL] at hk2
  have HVA := Lib.hid hvA; have HVL := Lib.hid hvL
  clear hvA hvL
  have hn0 := hnU.1; have hm0 := hmU.1
  go_wp2_with ((go_at_call 19; refine (live_reach' HL.out HA.out y n hy HN.out).mono ?_; rintro e w3 ⟨rfl, hb3⟩))
  go_wp2_with (first | (go_at_call 20; refine (live_ahead' (HL.out.below hb3) HA.out y m hy HM.out).mono ?_; rintro e w4 ⟨rfl, hb4⟩; have hL4 := (HL.out.below hb3).below hb4; have HL4 := Lib.hid hL4; have hb4w := (hbw2.trans (hb3.mono hbw2.size)).trans (hb4.mono (Nat.le_trans hbw2.size hb3.size)); clear hL4 hb3 hb4) | (go_at_call 21; (refine (live_at' HL4.out HA.out _ _ ⟨by omega, by omega⟩ (show _ = vA _ by rw [HVA.out, HX.out])).mono ?_; rintro e w5 ⟨rfl, hb5⟩; have hL5 := HL4.out.below hb5; have hb6 := hb4w.trans (hb5.mono hb4w.size); clear HL4 hb4w hb5; have HL4 := Lib.hid hL5; have hb4w := hb6; clear hL5 hb6)) | (go_at_call 22; (refine (live_line' HL4.out HA.out _ _ ⟨by omega, by omega⟩ (show _ = vL _ by rw [HVL.out, HX.out])).mono ?_; rintro e w5 ⟨rfl, hb5⟩; have hL5 := HL4.out.below hb5; have hb6 := hb4w.trans (hb5.mono hb4w.size); clear HL4 hb4w hb5; have HL4 := Lib.hid hL5; have hb4w := hb6; clear hL5 hb6)))
  all_goals
    go_ret
    clear HL HA H HZ NB HL4
    unfold Back at hk1 hk2
    first
      | (refine ⟨?_, hb4w⟩; simp; omega)
      | exact ⟨rfl, hb4w⟩
      | (exfalso; omega)
      | (refine ⟨?_, hb4w⟩; congr 1; congr 1; simp; omega)

theorem back_walk (F L R y : Int) (a : Option Addr) (len cap : Nat) (zs : List (List Value)) (w : World) (hF : U F) (hL : U L) (hR : U R) (hy : U y) (hz : IsRows [some .u64, some .u64, some .u64, some .u64] w a len cap zs) :
    Calls Try.prog 8 #[.agg #[.int .u64 F, .int .u64 L, .int .u64 R], .slice a len cap, .int .u64 y] w fun e w' => e = .returned (.bool true) ∧ Below w.heap.size w w' := by
  obtain ⟨hlen, z, hz'⟩ := acts_of hz
  by_cases h1 : mayB F L R = true
  · by_cases h2 : F ≤ R
    · by_cases h40 : len ≤ 40
      · by_cases h0 : len = 0
        · exact back_zero F L R y a len cap z w hF.1 hL.1 hR.1 hz' h0 h1 h2
        · exact back_some F L R y a len cap z w hF.1 hL.1 hR.1 hy hz' h40 (by omega) h1 h2
      · exact back_many F L R y a len cap w hF.1 hL.1 hR.1 hlen (by omega) h1 h2
    · exact back_nil F L R y a len cap w hL.1 hlen (.inr ⟨h1, by omega⟩)
  · exact back_nil F L R y a len cap w hL.1 hlen (.inl (by simpa using h1))

end Go.Proofs.Ytmmodhhheojkfaa
