/-
  The law RunKept: what becomes eligible behind a tick, by fewer copies, and is due by a later one; its walk.
-/
import Derived.Test.YtflnlapfomjggaaRunDue
namespace Go.Proofs.Ytflnlapfomjggaa
set_option linter.unusedVariables false
open Go.RowKit

theorem runA_part (z : List Act4) (k : Nat) : ∃ B, (runA z).2 = (runA (z.take k)).2 ++ B := by
  have ext : ∀ (z : List Act4) (s : Int × List (Int × Int)), ∃ B, (z.foldl stp s).2 = s.2 ++ B := by
    intro z
    induction z with
    | nil => intro s; exact ⟨[], by simp⟩
    | cons q z ih =>
      intro s
      obtain ⟨B, hB⟩ := ih (stp s q)
      refine ⟨(stp s q).2.drop s.2.length ++ B, ?_⟩
      rw [List.foldl_cons, hB]
      simp [stp]
  have h : runA z = (z.drop k).foldl stp (runA (z.take k)) := by
    unfold runA
    rw [← List.foldl_append, List.take_append_drop]
  rw [h]
  exact ext _ _

theorem ActsAt.take {w : World} {a : Option Addr} {len : Nat} {z : List Act4} (h : ActsAt w a len z) (k : Nat) (hk : k ≤ len) : ActsAt w a k (z.take k) := by
  obtain ⟨h1, h2, h3⟩ := h
  refine ⟨by rw [List.length_take]; omega, fun q hq => h2 q (List.mem_of_mem_take hq), ?_⟩
  rcases h3 with h3 | ⟨b, off, e, hl, hc⟩
  · exact .inl (by omega)
  · refine .inr ⟨b, off, e, hl, fun i q hq => hc i q ?_⟩
    rw [List.getElem?_take] at hq
    split at hq
    · exact hq
    · cases hq

theorem pos_of {k : Nat} (h : ((k : Int) == 0) = false) : 0 < k := by
  rcases k with _ | k
  · cases h
  · omega

theorem kept_law {F L R xe xl from_ to_ s e n m : Int} {A B : List (Int × Int)} (h : MayC F L R) (hA : ∀ a ∈ A, a.1 ≤ xe ∧ 0 ≤ a.2) (hB : ∀ a ∈ A ++ B, a.1 ≤ xl ∧ 0 ≤ a.2) (hk1 : Back (fun t => vE F L R A (max t xe)) xe from_ n) (hk2 : Back (fun t => vA F L R (A ++ B) (max t xl)) xl to_ m)
    (hs : xe ≤ s) (hn : s < n) (hm : m ≤ e) (he : e < 4611686018427387904) (hse : s ≤ e) (hf : 0 ≤ from_) : to_ - from_ ≤ cap (W F L R (e - s)) := by
  have h1 := hk1.gt (vE_max_mono h hA) hs hn
  have h2 := hk2.le (vA_max_mono h hB) hm (by omega)

  rw [Int.max_eq_left hs] at h1
  have hxe : xl ≤ e := by omega
  rw [Int.max_eq_left hxe] at h2
  have h3 : vA F L R (A ++ B) e ≤ vA F L R A e := minF_more _ _ _ _
  have h4 := ahead_law h hA hs (show 0 ≤ e - s by omega)
  rw [show s + (e - s) = e by omega] at h4
  have h5 := W_nonneg h.f0 h.r0 h.l0 (show 0 ≤ e - s by omega)
  have h6 := vE_nonneg h hA hs
  have h7 : vA F L R A e ≤ 4611686018427387904 := vA_le
  unfold cap at *; omega

set_option maxRecDepth 100000 in
set_option maxHeartbeats 2000000 in
theorem kept_early (F L R fs s e fr to_ : Int) (a : Option Addr) (len cap : Nat) (w : World) (h : 40 < len ∨ 4611686018427387904 ≤ s ∨ 4611686018427387904 ≤ e ∨ e < s ∨ to_ ≤ fr) :
    Calls Try.prog 4 #[.agg #[.int .u64 F, .int .u64 L, .int .u64 R], .slice a len cap, .int .i64 fs, .int .u64 s, .int .u64 e, .int .u64 fr, .int .u64 to_] w fun e' w' => e' = .returned (.bool true) ∧ Below w.heap.size w w' := by
  have nb := Blk.new w 24 #[.int .u64 F, .int .u64 L, .int .u64 R]
  have hal := (Below.refl w.heap.size w).alloc (Nat.le_refl _) (.cells #[.int .u64 F, .int .u64 L, .int .u64 R] 24)
  have NB := Lib.hid nb; clear nb
  go_enter Try.func4, Try.ntmps4
  go_wp2_with (go_at_call 15; refine (awake_any _).mono ?_; rintro e' w1 ⟨rfl, hb1⟩; have n1 := NB.out.below hb1 NB.out.lt; have a0 := n1.cell 0; have a1 := n1.cell 1; have a2 := n1.cell 2; simp only [List.getElem?_toArray, List.getElem?_cons_zero, List.getElem?_cons_succ] at a0 a1 a2; have hbw1 := hal.trans (hb1.mono hal.size); clear hb1)
  all_goals first
    | (exfalso; omega)
    | (go_ret; exact ⟨rfl, hbw1⟩)

set_option maxRecDepth 100000 in
set_option maxHeartbeats 2000000 in
theorem kept_no (F L R fs s e fr to_ : Int) (a : Option Addr) (len cap : Nat) (hs : U s) (he : U e) (hfr : U fr) (hto : U to_) (h40 : len ≤ 40) (h2 : s < 4611686018427387904) (h3 : e < 4611686018427387904) (h4 : s ≤ e) (h5 : fr < to_) (k : Nat) (hkl : k ≤ len) (hcap : len ≤ cap) (hc2 : cap ≤ 9223372036854775807) (hk : wrap64 ((IntKind.u64.wrap fs).tmod ((len : Int) + 1)) = (k : Int)) (hL : 0 ≤ L) (w : World) (h : mayB F L R = false) (ha : 0 < len → ∃ b off e, a = some ⟨b, off, e⟩) :
    Calls Try.prog 4 #[.agg #[.int .u64 F, .int .u64 L, .int .u64 R], .slice a len cap, .int .i64 fs, .int .u64 s, .int .u64 e, .int .u64 fr, .int .u64 to_] w fun e' w' => e' = .returned (.bool true) ∧ Below w.heap.size w w' := by
  have nb := Blk.new w 24 #[.int .u64 F, .int .u64 L, .int .u64 R]
  have hal := (Below.refl w.heap.size w).alloc (Nat.le_refl _) (.cells #[.int .u64 F, .int .u64 L, .int .u64 R] 24)
  have NB := Lib.hid nb; clear nb
  have H := Lib.hid h; clear h
  have hs0 := hs.1; have he0 := he.1; have hf0 := hfr.1; have ht0 := hto.1; have ht1 := hto.2
  go_enter Try.func4, Try.ntmps4
  go_wp2_with (go_at_call 15; refine (awake_any _).mono ?_; rintro e' w1 ⟨rfl, hb1⟩; have n1 := NB.out.below hb1 NB.out.lt; have a0 := n1.cell 0; have a1 := n1.cell 1; have a2 := n1.cell 2; simp only [List.getElem?_toArray, List.getElem?_cons_zero, List.getElem?_cons_succ] at a0 a1 a2; have hbw1 := hal.trans (hb1.mono hal.size); clear hb1)
  refine wp_region_over_tail 4 (by kernel_rfl) (by kernel_rfl) ?_
  simp only [List.take_succ_cons, List.take_zero, List.drop_succ_cons, List.drop_zero]
  have o0 := fun e => (over_cell (w := w1) (e := e) n1.lt).trans a0
  have o1 := fun e => (over_cell (w := w1) (e := e) n1.lt).trans a1
  have o2 := fun e => (over_cell (w := w1) (e := e) n1.lt).trans a2
  repeat (first | go_big_quiet_skip | (go_big_quiet_want; go_big_quiet_op; go_big_quiet_on))
  refine wpQuiet_nil ?_
  rintro W2 ⟨e2, he2⟩
  have hb2 := over_below w1 e2
  rw [← he2] at hb2
  clear he2 o0 o1 o2 a0 a1 a2
  have n2 := n1.below hb2 n1.lt
  have hbw2 := hbw1.trans (hb2.mono hbw1.size)
  have N2 := Lib.hid n2
  have a0 := n2.cell 0; have a1 := n2.cell 1; have a2 := n2.cell 2
  simp only [List.getElem?_toArray, List.getElem?_cons_zero, List.getElem?_cons_succ] at a0 a1 a2
  clear n1 n2 hb2 hbw1

  go_wp2_with (go_at_call 16; refine (started_nil F L R _ _ _ _ hL (by omega) H.out).mono ?_; rintro e' w3 ⟨rfl, hb3⟩; have n3 := N2.out.below hb3 N2.out.lt; have a0 := n3.cell 0; have a1 := n3.cell 1; have a2 := n3.cell 2; simp only [List.getElem?_toArray, List.getElem?_cons_zero, List.getElem?_cons_succ] at a0 a1 a2; have hbw3 := hbw2.trans (hb3.mono hbw2.size); clear N2 hbw2 hb3; have N2 := Lib.hid n3; have hbw2 := hbw3; clear hbw3 n3)
  all_goals
    go_ret
    exact ⟨rfl, hbw2⟩

set_option maxRecDepth 100000 in
set_option maxHeartbeats 2000000 in
theorem kept_some (F L R fs s e fr to_ : Int) (a : Option Addr) (len cap : Nat) (hs : U s) (he : U e) (hfr : U fr) (hto : U to_) (h40 : len ≤ 40) (h2 : s < 4611686018427387904) (h3 : e < 4611686018427387904) (h4 : s ≤ e) (h5 : fr < to_) (k : Nat) (hkl : k ≤ len) (hcap : len ≤ cap) (hc2 : cap ≤ 9223372036854775807) (hk : wrap64 ((IntKind.u64.wrap fs).tmod ((len : Int) + 1)) = (k : Int)) (hF : U F) (hL : U L) (hR : U R) (w : World) (z : List Act4) (xe xl : Int) (A B : List (Int × Int)) (h1 : mayB F L R = true) (hz1 : ActsAt w a k (z.take k)) (hz2 : ActsAt w a len z) (e1 : runA (z.take k) = (xe, A)) (e2 : runA z = (xl, A ++ B)) (hA0 : 0 < k → A ≠ []) (hA1 : 0 < k → A ++ B ≠ []) :
    Calls Try.prog 4 #[.agg #[.int .u64 F, .int .u64 L, .int .u64 R], .slice a len cap, .int .i64 fs, .int .u64 s, .int .u64 e, .int .u64 fr, .int .u64 to_] w fun e' w' => e' = .returned (.bool true) ∧ Below w.heap.size w w' := by
  have nb := Blk.new w 24 #[.int .u64 F, .int .u64 L, .int .u64 R]
  have hal := (Below.refl w.heap.size w).alloc (Nat.le_refl _) (.cells #[.int .u64 F, .int .u64 L, .int .u64 R] 24)
  have NB := Lib.hid nb; clear nb
  have hM := mayB_spec hF.1 hL.1 hR.1 h1
  have H := Lib.hid h1; have HZ1 := Lib.hid hz1; have HZ2 := Lib.hid hz2; have E1 := Lib.hid e1; have E2 := Lib.hid e2; have HA0 := Lib.hid hA0; have HA1 := Lib.hid hA1; have HM := Lib.hid hM
  have hu3 : U F ∧ U L ∧ U R := ⟨hF, hL, hR⟩
  have HU := Lib.hid hu3
  clear h1 hz1 hz2 e1 e2 hA0 hA1 hM hu3
  have hF := hF.1; have hL := hL.1; have hR := hR.1
  have hs0 := hs.1; have he0 := he.1; have hf0 := hfr.1; have ht0 := hto.1; have ht1 := hto.2
  go_enter Try.func4, Try.ntmps4
  go_wp2_with (go_at_call 15; refine (awake_any _).mono ?_; rintro e' w1 ⟨rfl, hb1⟩; have n1 := NB.out.below hb1 NB.out.lt; have a0 := n1.cell 0; have a1 := n1.cell 1; have a2 := n1.cell 2; simp only [List.getElem?_toArray, List.getElem?_cons_zero, List.getElem?_cons_succ] at a0 a1 a2; have hbw1 := hal.trans (hb1.mono hal.size); clear hb1)
  refine wp_region_over_tail 4 (by kernel_rfl) (by kernel_rfl) ?_
  simp only [List.take_succ_cons, List.take_zero, List.drop_succ_cons, List.drop_zero]
  have o0 := fun e => (over_cell (w := w1) (e := e) n1.lt).trans a0
  have o1 := fun e => (over_cell (w := w1) (e := e) n1.lt).trans a1
  have o2 := fun e => (over_cell (w := w1) (e := e) n1.lt).trans a2
  repeat (first | go_big_quiet_skip | (go_big_quiet_want; go_big_quiet_op; go_big_quiet_on))
  refine wpQuiet_nil ?_
  rintro W2 ⟨e2, he2⟩
  have hb2 := over_below w1 e2
  rw [← he2] at hb2
  clear he2 o0 o1 o2 a0 a1 a2
  have n2 := n1.below hb2 n1.lt
  have hbw2 := hbw1.trans (hb2.mono hbw1.size)
  have N2 := Lib.hid n2
  have a0 := n2.cell 0; have a1 := n2.cell 1; have a2 := n2.cell 2
  simp only [List.getElem?_toArray, List.getElem?_cons_zero, List.getElem?_cons_succ] at a0 a1 a2
  clear n1 n2 hb2 hbw1

  go_wp2_with (first
    | (go_at_call 16; refine (started_some F L R _ _ _ (z.take k) _ hF hL hR ((HZ1.out.below hbw2)) (by omega) H.out).mono ?_; rintro e' w3 ⟨r1, g1, rfl, hg, hl, hb3⟩; rw [E1.out] at hl; have HE := Lib.hid hl; clear hl hg HZ1; have n3 := N2.out.below hb3 N2.out.lt; have a0 := n3.cell 0; have a1 := n3.cell 1; have a2 := n3.cell 2; simp only [List.getElem?_toArray, List.getElem?_cons_zero, List.getElem?_cons_succ] at a0 a1 a2; have hbw3 := hbw2.trans (hb3.mono hbw2.size); clear N2 hbw2 hb3; have N2 := Lib.hid n3; have hbw2 := hbw3; clear hbw3 n3)
    | (go_at_call 16; refine (started_some F L R _ _ _ z _ hF hL hR ((HZ2.out.below hbw2)) (by omega) H.out).mono ?_; rintro e' w4 ⟨r2, g2, rfl, hg, hl, hb4⟩; rw [E2.out] at hl; have HLT := Lib.hid hl; clear hl hg HZ2; have hq := HE.out.below hb4; clear HE; have HE := Lib.hid hq; clear hq; have n3 := N2.out.below hb4 N2.out.lt; have a0 := n3.cell 0; have a1 := n3.cell 1; have a2 := n3.cell 2; simp only [List.getElem?_toArray, List.getElem?_cons_zero, List.getElem?_cons_succ] at a0 a1 a2; have hbw3 := hbw2.trans (hb4.mono hbw2.size); clear N2 hbw2 hb4; have N2 := Lib.hid n3; have hbw2 := hbw3; clear hbw3 n3)
    | (go_at_call 17; refine (run_last HE.out (HA0.out (pos_of ‹_›))).mono ?_; rintro e' w5 ⟨rfl, rfl⟩; have hnum := HE.out.num; have HN1 := Lib.hid hnum; have hnum2 := HLT.out.num; have HN2 := Lib.hid hnum2; obtain ⟨-, hx0, hx1⟩ := hnum; clear hnum2)
    | (go_at_call 18; refine (run_elig HE.out (HA0.out (pos_of ‹_›)) fr hfr).mono ?_; rintro e' w6 ⟨n, rfl, hk1, hn0, hn1, hb6⟩; have HK1 := Lib.hid hk1; clear hk1; have hq := HE.out.below hb6; clear HE; have HE := Lib.hid hq; clear hq; have hq := HLT.out.below hb6; clear HLT; have HLT := Lib.hid hq; clear hq; have n3 := N2.out.below hb6 N2.out.lt; have a0 := n3.cell 0; have a1 := n3.cell 1; have a2 := n3.cell 2; simp only [List.getElem?_toArray, List.getElem?_cons_zero, List.getElem?_cons_succ] at a0 a1 a2; have hbw3 := hbw2.trans (hb6.mono hbw2.size); clear N2 hbw2 hb6; have N2 := Lib.hid n3; have hbw2 := hbw3; clear hbw3 n3)
    | (go_at_call 19; refine (run_reach HLT.out (HA1.out (pos_of ‹_›)) to_ hto).mono ?_; rintro e' w7 ⟨m, rfl, hk2, hm0, hm1, hb7⟩; have HK2 := Lib.hid hk2; clear hk2; have hq := HE.out.below hb7; clear HE; have HE := Lib.hid hq; clear hq; have hq := HLT.out.below hb7; clear HLT; have HLT := Lib.hid hq; clear hq; have n3 := N2.out.below hb7 N2.out.lt; have a0 := n3.cell 0; have a1 := n3.cell 1; have a2 := n3.cell 2; simp only [List.getElem?_toArray, List.getElem?_cons_zero, List.getElem?_cons_succ] at a0 a1 a2; have hbw3 := hbw2.trans (hb7.mono hbw2.size); clear N2 hbw2 hb7; have N2 := Lib.hid n3; have hbw2 := hbw3; clear hbw3 n3)
    | (go_at_call 22; refine (at_any F L R _ _ HU.out.1 HU.out.2.1 HU.out.2.2 ⟨by omega, by omega⟩).mono ?_; rintro e' w8 ⟨rfl, hb8⟩; have hlaw := kept_law (to_ := to_) (from_ := fr) (s := s) (e := e) HM.out HN1.out.1 HN2.out.1 HK1.out HK2.out (by omega) (by omega) (by omega) (by omega) (by omega) (by omega); have hbw3 := hbw2.trans (hb8.mono hbw2.size); clear N2 hbw2 hb8; have hbw2 := hbw3; clear hbw3))
  all_goals
    go_ret
    first
      | exact ⟨rfl, hbw2⟩
      | (refine ⟨?_, hbw2⟩; simp; omega)


theorem kept_walk (F L R fs s e fr to_ : Int) (a : Option Addr) (len cap : Nat) (zs : List (List Value)) (w : World) (hF : U F) (hL : U L) (hR : U R) (hs : U s) (he : U e) (hfr : U fr) (hto : U to_) (hz : IsRows [some .u64, some .u64, some .u64, some .u64] w a len cap zs) (hc : len ≤ cap) (hc2 : cap ≤ 9223372036854775807) :
    Calls Try.prog 4 #[.agg #[.int .u64 F, .int .u64 L, .int .u64 R], .slice a len cap, .int .i64 fs, .int .u64 s, .int .u64 e, .int .u64 fr, .int .u64 to_] w fun e' w' => e' = .returned (.bool true) ∧ Below w.heap.size w w' := by
  obtain ⟨hlen, z, hz'⟩ := acts_of hz
  by_cases h : 40 < len ∨ 4611686018427387904 ≤ s ∨ 4611686018427387904 ≤ e ∨ e < s ∨ to_ ≤ fr
  · exact kept_early F L R fs s e fr to_ a len cap w h
  · obtain ⟨k, hk, hkl⟩ : ∃ k : Nat, wrap64 ((IntKind.u64.wrap fs).tmod ((len : Int) + 1)) = (k : Int) ∧ k ≤ len := by
      have h0 : IntKind.u64.wrap fs = fs % 18446744073709551616 := by simp [IntKind.wrap, IntKind.signed, IntKind.bits]
      rw [h0]
      have h1 : 0 ≤ fs % 18446744073709551616 := by omega
      generalize fs % 18446744073709551616 = u at h1
      rw [Int.tmod_eq_emod_of_nonneg h1]
      have h2 := Int.emod_nonneg u (show (len : Int) + 1 ≠ 0 by omega)
      have h3 := Int.emod_lt_of_pos u (show 0 < (len : Int) + 1 by omega)
      refine ⟨(u % ((len : Int) + 1)).toNat, ?_, by omega⟩
      unfold wrap64
      omega
    have h40 : len ≤ 40 := by omega
    have ha : 0 < len → ∃ b off e, a = some ⟨b, off, e⟩ := by
      intro h0
      rcases hz'.2.2 with h1 | ⟨b, off, h1, _⟩
      · omega
      · exact ⟨b, off, none, h1⟩
    by_cases h1 : mayB F L R = true
    · obtain ⟨B, hB⟩ := runA_part z k
      have hl1 := runA_len (z.take k); have hl2 := runA_len z
      rw [List.length_take, hz'.1] at hl1
      rw [hz'.1] at hl2
      refine kept_some F L R fs s e fr to_ a len cap hs he hfr hto h40 (by omega) (by omega) (by omega) (by omega) k hkl hc hc2 hk hF hL hR w z (runA (z.take k)).1 (runA z).1 (runA (z.take k)).2 B h1 (hz'.take k hkl) hz' rfl (by rw [← hB]) ?_ ?_
      · intro h0 hn; rw [hn] at hl1; simp at hl1; omega
      · intro h0 hn; rw [hB, hn] at hl2; simp at hl2; omega
    · exact kept_no F L R fs s e fr to_ a len cap hs he hfr hto h40 (by omega) (by omega) (by omega) (by omega) k hkl hc hc2 hk hL.1 w (by simpa using h1) ha

end Go.Proofs.Ytflnlapfomjggaa
