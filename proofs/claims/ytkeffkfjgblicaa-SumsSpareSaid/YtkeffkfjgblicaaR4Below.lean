/-
  The document's Below: ref04.Below.
-/
import Derived.Test.YtkeffkfjgblicaaR4At
import Derived.Test.YtkeffkfjgblicaaBelow
namespace Go.Proofs.Ytkeffkfjgblicaa
set_option linter.unusedVariables false
open Go.RowKit
attribute [local go_sem ↓] Go.wp_at_zero Go.wp_at_succ
attribute [local go_sem] quietR quietAtR quietUponR midAt midUpon
attribute [local irreducible] TStep

set_option maxRecDepth 100000 in
set_option maxHeartbeats 4000000 in
theorem r4below_any (a b : Cv) (w : World) (ua : U a.1 ∧ U a.2.1 ∧ U a.2.2) (ub : U b.1 ∧ U b.2.1 ∧ U b.2.2) :
    Calls Try.prog 24 #[cvV a, cvV b] w (BelW w a b) := by
  obtain ⟨F, L, R⟩ := a
  obtain ⟨G, M, S⟩ := b
  unfold cvV
  dsimp only at ua ub ⊢
  have hma := fun w => rmay_any F L R w ua.2.1.1
  have hmb := fun w => rmay_any G M S w ub.2.1.1
  rw [show mayB F L R = okC (F, L, R) from rfl] at hma
  rw [show mayB G M S = okC (G, M, S) from rfl] at hmb
  have hA := (Blk.new w 31 #[.int .u64 F, .int .u64 L, .int .u64 R]).alloc (.cells #[.int .u64 G, .int .u64 M, .int .u64 S] 31)
  have hB := Blk.new (w.alloc (.cells #[.int .u64 F, .int .u64 L, .int .u64 R] 31)) 31 #[.int .u64 G, .int .u64 M, .int .u64 S]
  rw [World.size_alloc] at hB
  have hb0 := ((Below.refl w.heap.size w).alloc (Nat.le_refl _) (.cells #[.int .u64 F, .int .u64 L, .int .u64 R] 31)).alloc (by simp) (.cells #[.int .u64 G, .int .u64 M, .int .u64 S] 31)
  have hab : ∀ W, Below ((w.alloc (.cells #[.int .u64 F, .int .u64 L, .int .u64 R] 31)).alloc (.cells #[.int .u64 G, .int .u64 M, .int .u64 S] 31)).heap.size ((w.alloc (.cells #[.int .u64 F, .int .u64 L, .int .u64 R] 31)).alloc (.cells #[.int .u64 G, .int .u64 M, .int .u64 S] 31)) W →
      ((W.cell? ⟨w.heap.size, 0, none⟩ = some (.int .u64 F) ∧ W.cell? ⟨w.heap.size, 1, none⟩ = some (.int .u64 L) ∧ W.cell? ⟨w.heap.size, 2, none⟩ = some (.int .u64 R)) ∧
       (W.cell? ⟨w.heap.size + 1, 0, none⟩ = some (.int .u64 G) ∧ W.cell? ⟨w.heap.size + 1, 1, none⟩ = some (.int .u64 M) ∧ W.cell? ⟨w.heap.size + 1, 2, none⟩ = some (.int .u64 S))) ∧ Below w.heap.size w W ∧ w.heap.size + 2 ≤ W.heap.size := fun W hW => by
    have h1 := hA.below hW hA.lt; have h2 := hB.below hW hB.lt
    exact ⟨⟨⟨h1.cell 0, h1.cell 1, h1.cell 2⟩, ⟨h2.cell 0, h2.cell 1, h2.cell 2⟩⟩, hb0.trans (hW.mono (by simp; omega)), by have := hW.size; simp at this; omega⟩
  have HAB := Lib.hid hab
  clear hA hB hb0 hab
  by_cases oa : okC (F, L, R) = true
  · by_cases ob : okC (G, M, S) = true
    · rw [oa] at hma
      rw [ob] at hmb
      have HMA := Lib.hid hma; have HMB := Lib.hid hmb
      clear hma hmb
      go_enter Try.func24, Try.ntmps24
      go_wp2_with fail
      refine (HMA.out _).mono ?_
      rintro e w1 ⟨rfl, hb1⟩
      obtain ⟨⟨⟨c0, c1, c2⟩, ⟨d0, d1, d2⟩⟩, hbw, hsz⟩ := HAB.out _ hb1
      have HB1 := Lib.hid hb1
      clear hb1
      go_wp2_with fail
      refine (HMB.out _).mono ?_
      clear c0 c1 c2 d0 d1 d2 hbw hsz
      rintro e w2 ⟨rfl, hb2⟩
      have hb2' := HB1.out.trans (hb2.mono HB1.out.size)
      obtain ⟨⟨⟨c0, c1, c2⟩, ⟨d0, d1, d2⟩⟩, hbw, hsz⟩ := HAB.out _ hb2'
      have HB2 := Lib.hid hb2'
      clear hb2 hb2' HB1 hbw hsz
      go_wp2_with fail
      clear c0 c1 c2 d0 d1 d2
      have hce : ∀ W, Below (w2.alloc (.cells #[.int .u64 1, .int .u64 L, .int .u64 M, .int .u64 9223372036854775807] 23)).heap.size (w2.alloc (.cells #[.int .u64 1, .int .u64 L, .int .u64 M, .int .u64 9223372036854775807] 23)) W → ∀ (j : Nat) (t : Int), [1, L, M, 9223372036854775807][j]? = some t → W.cell? ⟨w2.heap.size, j, none⟩ = some (.int .u64 t) := fun W hW j t hj => by
        have h1 := Blk.new w2 23 #[.int .u64 1, .int .u64 L, .int .u64 M, .int .u64 9223372036854775807]
        rw [(h1.below hW h1.lt).cell j]
        match j, hj with
        | 0, hj => cases hj; rfl
        | 1, hj => cases hj; rfl
        | 2, hj => cases hj; rfl
        | 3, hj => cases hj; rfl
        | j + 4, hj => simp at hj
      have hb3 := HB2.out.alloc HB2.out.size (.cells #[.int .u64 1, .int .u64 L, .int .u64 M, .int .u64 9223372036854775807] 23)
      generalize w2.alloc (.cells #[.int .u64 1, .int .u64 L, .int .u64 M, .int .u64 9223372036854775807] 23) = w3 at hce hb3 ⊢
      have HCE := Lib.hid hce; have HB3 := Lib.hid hb3
      clear hce hb3 HB2
      go_loopw [6] (fun vi W => ∃ k : Nat, vi = .int .i64 k ∧ k ≤ 4 ∧ Below w3.heap.size w3 W ∧ ∀ t ∈ [1, L, M, 9223372036854775807].take k, vC (F, L, R) t ≤ vC (G, M, S) t) (fun vi _ => (4 - Go.RowKit.intOf vi).toNat)
      case atStart => exact ⟨0, rfl, by omega, Below.refl _ _, fun t ht => by simp at ht⟩
      case round =>
        obtain ⟨k, rfl, hk, hbW, hall⟩ := hrel
        have HA := Lib.hid hall; have HBW3 := Lib.hid hbW
        clear hall
        have hb6 := HB3.out.trans (hbW.mono HB3.out.size)
        obtain ⟨⟨⟨c0, c1, c2⟩, ⟨d0, d1, d2⟩⟩, hbw, hsz⟩ := HAB.out _ hb6
        by_cases hlt : k < 4
        · obtain ⟨t, ht⟩ : ∃ t, [1, L, M, 9223372036854775807][k]? = some t := ⟨_, List.getElem?_eq_getElem (by simpa using hlt)⟩
          have ct := HCE.out _ hbW k t ht
          have hT : [1, L, M, 9223372036854775807].take (k + 1) = [1, L, M, 9223372036854775807].take k ++ [t] := by rw [List.take_add_one, ht]; rfl
          have ut : U t := by
            have := List.mem_of_getElem? ht
            simp only [List.mem_cons, List.not_mem_nil, or_false] at this
            rcases this with rfl | rfl | rfl | rfl
            · exact ⟨by decide, by decide⟩
            · exact ua.2.1
            · exact ub.2.1
            · exact ⟨by decide, by decide⟩
          have ba := vC_bd (c := (F, L, R)) oa ua.1.1 ua.2.1.1 ua.2.2.1 ut.1 ut.2
          have bb := vC_bd (c := (G, M, S)) ob ub.1.1 ub.2.1.1 ub.2.2.1 ut.1 ut.2
          have hta := fun W => ref_wide F L R t W (mayB_spec ua.1.1 ua.2.1.1 ua.2.2.1 (show mayB F L R = true from oa)) ut
          have htb := fun W => ref_wide G M S t W (mayB_spec ub.1.1 ub.2.1.1 ub.2.2.1 (show mayB G M S = true from ob)) ut
          rw [show W F L R t = vC (F, L, R) t from rfl] at hta
          rw [show W G M S t = vC (G, M, S) t from rfl] at htb
          obtain ⟨x, hx⟩ : ∃ x, vC (F, L, R) t = x := ⟨_, rfl⟩
          obtain ⟨y, hy⟩ : ∃ y, vC (G, M, S) t = y := ⟨_, rfl⟩
          rw [hx] at hta ba
          rw [hy] at htb bb
          have hcmp := fun W => ref_cmp x y W ba.1 (by omega) bb.1 (by omega)
          have HTA := Lib.hid hta; have HTB := Lib.hid htb; have HCMP := Lib.hid hcmp; have HX := Lib.hid hx; have HY := Lib.hid hy; have HT := Lib.hid hT; have HBWW := Lib.hid (And.intro hbw hsz)
          have l0 : w.heap.size < wr.heap.size := by omega
          have l1 : w.heap.size + 1 < wr.heap.size := by omega
          have l2 := World.block_lt_of_cell? _ _ ct
          have o0 := fun e => (over_cell (w := wr) (e := e) l0).trans c0
          have o1 := fun e => (over_cell (w := wr) (e := e) l0).trans c1
          have o2 := fun e => (over_cell (w := wr) (e := e) l0).trans c2
          have p0 := fun e => (over_cell (w := wr) (e := e) l1).trans d0
          have p1 := fun e => (over_cell (w := wr) (e := e) l1).trans d1
          have p2 := fun e => (over_cell (w := wr) (e := e) l1).trans d2
          have q0 := fun e => (over_cell (w := wr) (e := e) l2).trans ct
          clear hta htb hcmp hx hy hT hbw hsz hb6 hbW ht ba bb
          go_wp2
          refine wp_region_mid (w := wr) 12 2 [] [] [] rfl (by kernel_rfl) (by kernel_rfl) (by kernel_rfl) (by kernel_rfl) (fun _ _ _ _ _ h => h) trivial ?_
          intro LL hL
          have HL := Lib.hid hL
          clear hL
          simp only [List.take_succ_cons, List.take_zero, putL]
          iterate 12 (first | refine wpHead_skip (by decide) ?_ | (refine wpHead_step (by decide) (fun K hK => ?_); go_simp; first | (refine hK _ ?_; clear hK K) | (apply Exists.intro; refine ⟨fun e => ?_, hK _ ?_⟩; (focus (first | (go_at_call 47; with_reducible exact HTA.out _) | (go_at_call 47; with_reducible exact HTB.out _))); clear hK K)))
          refine wpHead_nil (HL.out _ trivial ?_)
          intro vs W4 hb4 _
          clear HL o0 o1 o2 p0 p1 p2 q0 c0 c1 c2 d0 d1 d2 ct
          simp only [putHd, List.drop_succ_cons, List.drop_zero, List.take_succ_cons, List.take_zero]
          have HB4 := Lib.hid hb4
          clear hb4
          go_wp2_with fail
          refine (HCMP.out _).mono ?_
          rintro e w5 ⟨rfl, hb5⟩
          have HB5 := Lib.hid (HB4.out.trans (hb5.mono HB4.out.size))
          clear hb5
          by_cases hxy : x ≤ y
          · have hc : decide (0 < cmpI x y) = false := by
              unfold cmpI; simp; split
              · omega
              · split <;> omega
            simp only [hc]
            have hc0 : ¬ 0 < cmpI x y := of_decide_eq_false hc
            have HC0 := Lib.hid hc0
            generalize cmpI x y = z at hc hc0 ⊢
            clear hc
            go_wp2_with fail
            go_roundw
            case measure => (simp [Go.RowKit.intOf]; try omega)
            case rel =>
              refine ⟨k + 1, by go_num, by omega, HBW3.out.trans (HB5.out.mono HBW3.out.size), fun q hq => ?_⟩
              rw [HT.out] at hq
              rcases List.mem_append.1 hq with hq | hq
              · exact HA.out q hq
              · simp at hq; subst hq; rw [HX.out, HY.out]; exact hxy
          · have hc0 : 0 < cmpI x y := by
              unfold cmpI; split
              · omega
              · split <;> omega
            generalize cmpI x y = z at hc0 ⊢
            have hres : decide (BelowP (F, L, R) (G, M, S)) = false := decide_eq_false fun h => by
              have := h.2.2 t ut.1
              rw [HX.out, HY.out] at this
              omega
            have HRES := Lib.hid hres
            clear hres
            go_wp2_with fail
            go_ret
            exact ⟨by rw [HRES.out]; rfl, HBWW.out.1.trans (HB5.out.mono (by have := HBWW.out.1.size; omega))⟩
        · obtain rfl : k = 4 := by omega
          have hres : decide (BelowP (F, L, R) (G, M, S)) = true := decide_eq_true ⟨oa, ob, (under_iff oa ob ⟨ua.1.1, ua.2.1.1, ua.2.2.1⟩ ⟨ub.1.1, ub.2.1.1, ub.2.2.1⟩).2 ⟨HA.out _ (by simp), HA.out _ (by simp), HA.out _ (by simp)⟩⟩
          have HRES := Lib.hid hres; have HBW4 := Lib.hid hbw
          clear hres c0 c1 c2 d0 d1 d2 hbw hsz hb6
          go_wp2_with fail
          go_ret
          exact ⟨by rw [HRES.out]; rfl, HBW4.out⟩
    · rw [oa] at hma
      have obf : okC (G, M, S) = false := by simpa using ob
      rw [obf] at hmb
      have hres : decide (BelowP (F, L, R) (G, M, S)) = false := decide_eq_false fun h => ob h.2.1
      have HMA := Lib.hid hma; have HMB := Lib.hid hmb; have HRES := Lib.hid hres
      clear hma hmb hres
      go_enter Try.func24, Try.ntmps24
      go_wp2_with fail
      refine (HMA.out _).mono ?_
      rintro e w1 ⟨rfl, hb1⟩
      obtain ⟨⟨⟨c0, c1, c2⟩, ⟨d0, d1, d2⟩⟩, hbw, hsz⟩ := HAB.out _ hb1
      have HB1 := Lib.hid hb1
      clear hb1
      go_wp2_with fail
      refine (HMB.out _).mono ?_
      clear c0 c1 c2 d0 d1 d2 hbw hsz
      rintro e w2 ⟨rfl, hb2⟩
      obtain ⟨_, hbw, hsz⟩ := HAB.out _ (HB1.out.trans (hb2.mono HB1.out.size))
      have HBW := Lib.hid hbw
      clear hb2 hbw hsz
      go_wp2_with fail
      go_ret
      exact ⟨by rw [HRES.out]; rfl, HBW.out⟩
  · have oaf : okC (F, L, R) = false := by simpa using oa
    rw [oaf] at hma
    have hres : decide (BelowP (F, L, R) (G, M, S)) = false := decide_eq_false fun h => oa h.1
    have HMA := Lib.hid hma; have HRES := Lib.hid hres
    clear hma hmb hres
    go_enter Try.func24, Try.ntmps24
    go_wp2_with fail
    refine (HMA.out _).mono ?_
    rintro e w1 ⟨rfl, hb1⟩
    obtain ⟨_, hbw, hsz⟩ := HAB.out _ hb1
    have HBW := Lib.hid hbw
    clear hb1 hbw hsz
    go_wp2_with fail
    go_ret
    exact ⟨by rw [HRES.out]; rfl, HBW.out⟩
end Go.Proofs.Ytkeffkfjgblicaa
