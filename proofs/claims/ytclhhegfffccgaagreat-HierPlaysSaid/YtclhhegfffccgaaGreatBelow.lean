/-
  Is a curve below another one: sums.Below.
-/
import Derived.Test.YtclhhegfffccgaaGreatCorners
import Derived.Test.YtclhhegfffccgaaGreatSumsAt
import Derived.Deep.DrawnRows
namespace Go.Proofs.YtclhhegfffccgaaGreat
set_option linter.unusedVariables false
open Go.RowKit
attribute [local go_sem ↓] Go.wp_at_zero Go.wp_at_succ
attribute [local go_sem] quietR quietAtR quietUponR midAt midUpon

/-- a curve is below another one: both may be, and it has at most as much at every tick -/
def BelowP (a b : Cv) : Prop := okC a = true ∧ okC b = true ∧ Under a b
noncomputable instance (a b : Cv) : Decidable (BelowP a b) := Classical.propDecidable _

theorem below_of {a b : Cv} {ks : List Int} (oa : okC a = true) (ob : okC b = true) (na : 0 ≤ a.2.1) (nb : 0 ≤ b.2.1) (hR : a.2.2 ≤ b.2.2) (hk : IsCorn [a, b] ks) (h : ∀ t ∈ 0 :: ks, vC a t ≤ vC b t) : Under a b := by
  have key : ∀ c : Cv, c ∈ [a, b] → okC c = true → vC a c.2.1 ≤ vC b c.2.1 := fun c hc ho => by
    by_cases e : c.2.1 = 0
    · rw [e]; exact h 0 (.head _)
    · exact h _ (.tail _ ((hk.mem _).2 ⟨c, hc, ho, e, rfl⟩))
  exact under_of na nb hR (key a (by simp) oa) (key b (by simp) ob)
theorem vS_one {c : Cv} (h : okC c = true) (t : Int) : vS [c] t = vC c t := by simp [vS, h]

theorem two_cells (a b : Cv) : cvCells [a, b] = [.int .u64 a.1, .int .u64 a.2.1, .int .u64 a.2.2, .int .u64 b.1, .int .u64 b.2.1, .int .u64 b.2.2] := rfl
theorem CvAt.of_blk {w : World} {B cap : Nat} {l : List Cv} (h : Blk w B 34 (cvCells l).toArray) (hu : UU l) (hl : l.length ≤ 1000000) (hc : l.length ≤ cap) : CvAt w (.slice (some ⟨B, 0, none⟩) l.length cap) l := by
  refine ⟨hu, hl, _, _, rfl, .inr ⟨B, 0, rfl, h.lt, hc, fun i c hi => ?_⟩⟩
  obtain ⟨c0, c1, c2⟩ := cvCells_get l i c hi
  rw [Nat.zero_add, h.cell, h.cell, h.cell]
  simp only [List.getElem?_toArray]
  exact ⟨c0, c1, c2⟩

/-- what sums.Below hands back -/
def BelW (w : World) (a b : Cv) (e : Ending) (w' : World) : Prop := e = .returned (.bool (decide (BelowP a b))) ∧ Below w.heap.size w w'
set_option maxRecDepth 100000 in
set_option maxHeartbeats 4000000 in
theorem below_any (a b : Cv) (w : World) (ua : U a.1 ∧ U a.2.1 ∧ U a.2.2) (ub : U b.1 ∧ U b.2.1 ∧ U b.2.2) :
    Calls Tryz.prog 72 #[cvV a, cvV b] w (BelW w a b) := by
  obtain ⟨F, L, R⟩ := a
  obtain ⟨G, M, S⟩ := b
  unfold cvV
  dsimp only at ua ub ⊢
  have hma := fun w => may_any F L R w ua.2.1.1
  have hmb := fun w => may_any G M S w ub.2.1.1
  rw [show mayB F L R = okC (F, L, R) from rfl] at hma
  rw [show mayB G M S = okC (G, M, S) from rfl] at hmb
  have hA := (Blk.new w 34 #[.int .u64 F, .int .u64 L, .int .u64 R]).alloc (.cells #[.int .u64 G, .int .u64 M, .int .u64 S] 34)
  have hB := Blk.new (w.alloc (.cells #[.int .u64 F, .int .u64 L, .int .u64 R] 34)) 34 #[.int .u64 G, .int .u64 M, .int .u64 S]
  rw [World.size_alloc] at hB
  have hb0 := ((Below.refl w.heap.size w).alloc (Nat.le_refl _) (.cells #[.int .u64 F, .int .u64 L, .int .u64 R] 34)).alloc (by simp) (.cells #[.int .u64 G, .int .u64 M, .int .u64 S] 34)
  have hab : ∀ W, Below ((w.alloc (.cells #[.int .u64 F, .int .u64 L, .int .u64 R] 34)).alloc (.cells #[.int .u64 G, .int .u64 M, .int .u64 S] 34)).heap.size ((w.alloc (.cells #[.int .u64 F, .int .u64 L, .int .u64 R] 34)).alloc (.cells #[.int .u64 G, .int .u64 M, .int .u64 S] 34)) W →
      ((W.cell? ⟨w.heap.size, 0, none⟩ = some (.int .u64 F) ∧ W.cell? ⟨w.heap.size, 1, none⟩ = some (.int .u64 L) ∧ W.cell? ⟨w.heap.size, 2, none⟩ = some (.int .u64 R)) ∧
       (W.cell? ⟨w.heap.size + 1, 0, none⟩ = some (.int .u64 G) ∧ W.cell? ⟨w.heap.size + 1, 1, none⟩ = some (.int .u64 M) ∧ W.cell? ⟨w.heap.size + 1, 2, none⟩ = some (.int .u64 S))) ∧ Below w.heap.size w W ∧ w.heap.size + 2 ≤ W.heap.size := fun W hW => by
    have h1 := hA.below hW hA.lt; have h2 := hB.below hW hB.lt
    exact ⟨⟨⟨h1.cell 0, h1.cell 1, h1.cell 2⟩, ⟨h2.cell 0, h2.cell 1, h2.cell 2⟩⟩, hb0.trans (hW.mono (by simp; omega)), by have := hW.size; simp at this; omega⟩
  have HAB := Lib.hid hab
  clear hA hB hb0 hab
  by_cases oa : okC (F, L, R) = true
  · by_cases ob : okC (G, M, S) = true
    · rw [oa] at hma
      rw [ob] at hmb
      have HMA := Lib.hid hma; have HMB := Lib.hid hmb
      clear hma hmb
      by_cases hR : R ≤ S
      · go_enter Tryz.func72, Tryz.ntmps72
        go_wp2_with fail
        refine (HMA.out _).mono ?_
        rintro e w1 ⟨rfl, hb1⟩
        obtain ⟨⟨⟨c0, c1, c2⟩, ⟨d0, d1, d2⟩⟩, hbw, hsz⟩ := HAB.out _ hb1
        have HB1 := Lib.hid hb1
        clear hb1
        go_wp2_with fail
        refine (HMB.out _).mono ?_
        clear c0 c1 c2 d0 d1 d2 hbw hsz
        rintro e w2 ⟨rfl, hb2⟩
        have hb2' := HB1.out.trans (hb2.mono HB1.out.size)
        obtain ⟨⟨⟨c0, c1, c2⟩, ⟨d0, d1, d2⟩⟩, hbw, hsz⟩ := HAB.out _ hb2'
        have huu : UU [(F, L, R), (G, M, S)] := fun c hc => by
          simp at hc; rcases hc with rfl | rfl
          · exact ua
          · exact ub
        have hcv : CvAt (w2.alloc (.cells #[.int .u64 F, .int .u64 L, .int .u64 R, .int .u64 G, .int .u64 M, .int .u64 S] 34)) (.slice (some ⟨w2.heap.size, 0, none⟩) 2 2) [(F, L, R), (G, M, S)] := CvAt.of_blk (l := [(F, L, R), (G, M, S)]) (Blk.new w2 34 #[.int .u64 F, .int .u64 L, .int .u64 R, .int .u64 G, .int .u64 M, .int .u64 S]) huu (by simp) (by simp)
        have hcor := corners_any _ _ _ hcv
        have HB2 := Lib.hid hb2'; have HBW := Lib.hid (And.intro hbw hsz); have HUU := Lib.hid huu
        clear hb2 hb2' HB1 hbw hsz hcv huu
        go_wp2_with fail
        refine hcor.mono ?_
        clear hcor
        rintro e w3 ⟨ve, ks, rfl, hIC, hrow, hb3⟩
        obtain ⟨g, cap, rfl, hg1, hg2⟩ := hrow.form (by omega)
        have hce : ∀ W, Below w3.heap.size w3 W → ∀ (j : Nat) (t : Int), (0 :: ks)[j]? = some t → W.cell? ⟨g, j, none⟩ = some (.int .u64 t) := fun W hW j t hj => by
          rw [hW.cell (p := ⟨g, j, none⟩) hg2, hrow.cellAt j (by have := (List.getElem?_eq_some_iff.1 hj).1; simp at this; omega), List.getElem?_map, hj]; rfl
        have hkl : ks.length ≤ 1000000 := by
          have hn : ks.Nodup := (List.pairwise_cons.1 hIC.up).2.imp fun {a b} h => by omega
          have hsub : ∀ x ∈ ks, x ∈ [L, M] := fun x hx => by
            obtain ⟨c, hc, _, _, rfl⟩ := (hIC.mem x).1 hx
            simp at hc
            rcases hc with rfl | rfl <;> simp
          have := List.Nodup.length_le_of_subset hn hsub
          simp at this; omega
        have hb3' : Below ((w.alloc (.cells #[.int .u64 F, .int .u64 L, .int .u64 R] 34)).alloc (.cells #[.int .u64 G, .int .u64 M, .int .u64 S] 34)).heap.size ((w.alloc (.cells #[.int .u64 F, .int .u64 L, .int .u64 R] 34)).alloc (.cells #[.int .u64 G, .int .u64 M, .int .u64 S] 34)) w3 := (HB2.out.alloc HB2.out.size _).trans (hb3.mono (by have := HB2.out.size; simp at this ⊢; omega))
        have hat := fun (c : Cv) (hc : U c.1 ∧ U c.2.1 ∧ U c.2.2) (W : World) (B : Nat) (t : Int) (ht : U t) (hB : Blk W B 34 #[.int .u64 c.1, .int .u64 c.2.1, .int .u64 c.2.2]) => sat_any (.slice (some ⟨B, 0, none⟩) 1 1) [c] t W (CvAt.of_blk (l := [c]) hB (fun d hd => by simp at hd; subst hd; exact hc) (by simp) (by simp)) ht
        have HCE := Lib.hid hce; have HIC := Lib.hid hIC; have HB3 := Lib.hid hb3'; have HAT := Lib.hid hat
        clear hrow hce hIC hb3 hb3' HB2 c0 c1 c2 d0 d1 d2 hat
        go_wp2_with fail
        go_loopw [27] (fun vi W => ∃ k : Nat, vi = .int .i64 k ∧ k ≤ ks.length + 1 ∧ Below w3.heap.size w3 W ∧ ∀ t ∈ (0 :: ks).take k, vC (F, L, R) t ≤ vC (G, M, S) t) (fun vi _ => (ks.length + 1 - Go.RowKit.intOf vi).toNat)
        case atStart => exact ⟨0, rfl, by omega, Below.refl _ _, fun t ht => by simp at ht⟩
        case round =>
          obtain ⟨k, rfl, hk, hbW, hall⟩ := hrel
          have HA := Lib.hid hall; have HBW3 := Lib.hid hbW
          clear hall
          have hb6 := HB3.out.trans (hbW.mono HB3.out.size)
          obtain ⟨⟨⟨c0, c1, c2⟩, ⟨d0, d1, d2⟩⟩, hbw, hsz⟩ := HAB.out _ hb6
          by_cases hlt : k < ks.length + 1
          · obtain ⟨t, ht⟩ : ∃ t, (0 :: ks)[k]? = some t := ⟨_, List.getElem?_eq_getElem (by simpa using hlt)⟩
            have ct := HCE.out _ hbW k t ht
            have htl := HIC.out.le t (List.mem_of_getElem? ht)
            have hT : (0 :: ks).take (k + 1) = (0 :: ks).take k ++ [t] := by rw [List.take_add_one, ht]; rfl
            have ut : U t := by unfold U; omega
            have hta := fun W B h => HAT.out (F, L, R) ua W B t ut h
            have htb := fun W B h => HAT.out (G, M, S) ub W B t ut h
            rw [vS_one oa] at hta
            rw [vS_one ob] at htb
            have ba := vC_bd (c := (F, L, R)) oa ua.1.1 ua.2.1.1 ua.2.2.1 ut.1 ut.2
            have bb := vC_bd (c := (G, M, S)) ob ub.1.1 ub.2.1.1 ub.2.2.1 ut.1 ut.2
            obtain ⟨x, hx⟩ : ∃ x, vC (F, L, R) t = x := ⟨_, rfl⟩
            obtain ⟨y, hy⟩ : ∃ y, vC (G, M, S) t = y := ⟨_, rfl⟩
            rw [hx] at hta ba
            rw [hy] at htb bb
            have hcmp := fun W => cmp_any (hiW x) (loW x) (hiW y) (loW y) W (U_lo _) (U_lo _)
            simp only [num_words] at hcmp
            generalize hiW x = x1 at hta hcmp
            generalize loW x = x0 at hta hcmp
            generalize hiW y = y1 at htb hcmp
            generalize loW y = y0 at htb hcmp
            have HTA := Lib.hid hta; have HTB := Lib.hid htb; have HCMP := Lib.hid hcmp; have HX := Lib.hid hx; have HY := Lib.hid hy; have HT := Lib.hid hT; have HBWW := Lib.hid (And.intro hbw hsz)
            have l0 : w.heap.size < wr.heap.size := by omega
            have l1 : w.heap.size + 1 < wr.heap.size := by omega
            have o0 := fun e => (over_cell (w := wr) (e := e) l0).trans c0
            have o1 := fun e => (over_cell (w := wr) (e := e) l0).trans c1
            have o2 := fun e => (over_cell (w := wr) (e := e) l0).trans c2
            have p0 := fun e => (over_cell (w := wr) (e := e) l1).trans d0
            have p1 := fun e => (over_cell (w := wr) (e := e) l1).trans d1
            have p2 := fun e => (over_cell (w := wr) (e := e) l1).trans d2
            clear hta htb hcmp hx hy hT hbw hsz hb6 hbW ht ba bb
            go_wp2
            refine wp_region_mid (w := wr) 8 2 [1, 3, 5, 7] [] [(1, fun u W' => ∃ B, u = .slice (some ⟨B, 0, none⟩) 1 1 ∧ Blk W' B 34 #[.int .u64 F, .int .u64 L, .int .u64 R]), (3, fun u W' => u = .agg #[.int .u64 x1, .int .u64 x0]), (5, fun u W' => ∃ B, u = .slice (some ⟨B, 0, none⟩) 1 1 ∧ Blk W' B 34 #[.int .u64 G, .int .u64 M, .int .u64 S]), (7, fun u W' => u = .agg #[.int .u64 y1, .int .u64 y0])] rfl (by kernel_rfl) (by kernel_rfl) (by kernel_rfl) (by kernel_rfl) (fun _ _ _ _ _ h => h) ⟨?st1, ?st2, ?st3, ?st4, trivial⟩ ?_
            case st1 => exact fun v W1 W2 ⟨b, h1, h2⟩ hb => ⟨b, h1, h2.below hb h2.lt⟩
            case st2 => exact fun v W1 W2 h hb => h
            case st3 => exact fun v W1 W2 ⟨b, h1, h2⟩ hb => ⟨b, h1, h2.below hb h2.lt⟩
            case st4 => exact fun v W1 W2 h hb => h
            intro LL hL
            have HL := Lib.hid hL
            clear hL
            simp only [List.take_succ_cons, List.take_zero, putL]
            repeat (first | refine wpHead_skip (by decide) ?_ | (refine wpHead_step (by decide) (fun K hK => ?_); go_simp; refine hK _ ?_; clear hK K))
            refine wpHead_nil (HL.out _ ⟨?_, ?_, ?_, ?_, trivial⟩ ?_)
            · intro vs W2 hb2 hf
              clear hf HL
              change midAt _ _ (Act.put (Act.put (Act.put (Act.put _ (some 32) (vs 1)) (some 34) (vs 3)) (some 36) (vs 5)) (some 38) (vs 7)) _ _
              go_simp
              exact ⟨(Below.refl _ _).alloc (Nat.le_refl _) _, Blk.new _ _ _⟩
            · intro vs W2 hb2 hf
              obtain ⟨⟨B, hB1, hB2⟩, hff⟩ := hf
              clear hff HL
              change midAt _ _ (Act.put (Act.put (Act.put (Act.put _ (some 32) (vs 1)) (some 34) (vs 3)) (some 36) (vs 5)) (some 38) (vs 7)) _ _
              rw [hB1]
              clear hB1
              go_simp
              exact HTA.out W2 B hB2
            · intro vs W2 hb2 hf
              clear hf HL
              change midAt _ _ (Act.put (Act.put (Act.put (Act.put _ (some 32) (vs 1)) (some 34) (vs 3)) (some 36) (vs 5)) (some 38) (vs 7)) _ _
              go_simp
              exact ⟨(Below.refl _ _).alloc (Nat.le_refl _) _, Blk.new _ _ _⟩
            · intro vs W2 hb2 hf
              obtain ⟨⟨B, hB1, hB2⟩, hff⟩ := hf
              clear hff HL
              change midAt _ _ (Act.put (Act.put (Act.put (Act.put _ (some 32) (vs 1)) (some 34) (vs 3)) (some 36) (vs 5)) (some 38) (vs 7)) _ _
              rw [hB1]
              clear hB1
              go_simp
              exact HTB.out W2 B hB2
            · intro vs W2 hb2 hf
              obtain ⟨⟨B1, f1, f2⟩, f3, ⟨B2, f4, f5⟩, f6, hff⟩ := hf
              clear hff HL
              change wpList _ _ _ _ (Act.put (Act.put (Act.put (Act.put _ (some 32) (vs 1)) (some 34) (vs 3)) (some 36) (vs 5)) (some 38) (vs 7)) _
              rw [f1, f3, f4, f6]
              clear f1 f3 f4 f6 f2 f5 c0 c1 c2 d0 d1 d2 o0 o1 o2 p0 p1 p2 ct
              simp only [List.drop_succ_cons, List.drop_zero, List.take_succ_cons, List.take_zero]
              have HB2 := Lib.hid hb2
              clear hb2
              go_wp2_with fail
              refine (HCMP.out _).mono ?_
              rintro e w4 ⟨rfl, hb4⟩
              have hb4' := HB2.out.trans (hb4.mono HB2.out.size)
              have HB4 := Lib.hid hb4'
              clear hb4 hb4' HB2
              by_cases hxy : x ≤ y
              · have hc : decide (0 < cmpI x y) = false := by
                  unfold cmpI; simp; split
                  · omega
                  · split <;> omega
                simp only [hc]
                have hc0 : ¬ 0 < cmpI x y := of_decide_eq_false hc
                have HC0 := Lib.hid hc0
                generalize cmpI x y = z at hc hc0 ⊢
                clear hc
                go_wp2_with fail
                go_roundw
                case measure => (simp [Go.RowKit.intOf]; try omega)
                case rel =>
                  refine ⟨k + 1, by go_num, by omega, HBW3.out.trans (HB4.out.mono HBW3.out.size), fun q hq => ?_⟩
                  rw [HT.out] at hq
                  rcases List.mem_append.1 hq with hq | hq
                  · exact HA.out q hq
                  · simp at hq; subst hq; rw [HX.out, HY.out]; exact hxy
              · have hc0 : 0 < cmpI x y := by
                  unfold cmpI; split
                  · omega
                  · split <;> omega
                generalize cmpI x y = z at hc0 ⊢
                have hres : decide (BelowP (F, L, R) (G, M, S)) = false := decide_eq_false fun h => by
                  have := h.2.2 t ut.1
                  rw [HX.out, HY.out] at this
                  omega
                have HRES := Lib.hid hres
                clear hres
                go_wp2_with fail
                go_ret
                exact ⟨by rw [HRES.out]; rfl, HBWW.out.1.trans (HB4.out.mono (by have := HBWW.out.1.size; omega))⟩
          · obtain rfl : k = ks.length + 1 := by omega
            have hres : decide (BelowP (F, L, R) (G, M, S)) = true := decide_eq_true ⟨oa, ob, below_of oa ob ua.2.1.1 ub.2.1.1 hR HIC.out fun t ht => HA.out t (by rw [List.take_of_length_le (by simp)]; exact ht)⟩
            have HRES := Lib.hid hres; have HBW4 := Lib.hid hbw
            clear hres c0 c1 c2 d0 d1 d2 hbw hsz hb6
            go_wp2_with fail
            go_ret
            exact ⟨by rw [HRES.out]; rfl, HBW4.out⟩
      · have hres : decide (BelowP (F, L, R) (G, M, S)) = false := decide_eq_false fun h => hR (under_rest oa ob ⟨ua.1.1, ua.2.1.1, ua.2.2.1⟩ ⟨ub.1.1, ub.2.1.1, ub.2.2.1⟩ (h.2.2 _ (by decide)))
        have HRES := Lib.hid hres
        clear hres
        have hSR : S < R := by omega
        go_enter Tryz.func72, Tryz.ntmps72
        go_wp2_with fail
        refine (HMA.out _).mono ?_
        rintro e w1 ⟨rfl, hb1⟩
        obtain ⟨⟨⟨c0, c1, c2⟩, ⟨d0, d1, d2⟩⟩, hbw, hsz⟩ := HAB.out _ hb1
        have HB1 := Lib.hid hb1
        clear hb1
        go_wp2_with fail
        refine (HMB.out _).mono ?_
        clear c0 c1 c2 d0 d1 d2 hbw hsz
        rintro e w2 ⟨rfl, hb2⟩
        have hb2' := HB1.out.trans (hb2.mono HB1.out.size)
        obtain ⟨⟨⟨c0, c1, c2⟩, ⟨d0, d1, d2⟩⟩, hbw, hsz⟩ := HAB.out _ hb2'
        have HBW := Lib.hid hbw
        clear hb2 hb2' hbw hsz
        go_wp2_with fail
        go_ret
        exact ⟨by rw [HRES.out]; rfl, HBW.out⟩
    · rw [oa] at hma
      have obf : okC (G, M, S) = false := by simpa using ob
      rw [obf] at hmb
      have hres : decide (BelowP (F, L, R) (G, M, S)) = false := decide_eq_false fun h => ob h.2.1
      have HMA := Lib.hid hma; have HMB := Lib.hid hmb; have HRES := Lib.hid hres
      clear hma hmb hres
      go_enter Tryz.func72, Tryz.ntmps72
      go_wp2_with fail
      refine (HMA.out _).mono ?_
      rintro e w1 ⟨rfl, hb1⟩
      obtain ⟨⟨⟨c0, c1, c2⟩, ⟨d0, d1, d2⟩⟩, hbw, hsz⟩ := HAB.out _ hb1
      have HB1 := Lib.hid hb1
      clear hb1
      go_wp2_with fail
      refine (HMB.out _).mono ?_
      clear c0 c1 c2 d0 d1 d2 hbw hsz
      rintro e w2 ⟨rfl, hb2⟩
      obtain ⟨_, hbw, hsz⟩ := HAB.out _ (HB1.out.trans (hb2.mono HB1.out.size))
      have HBW := Lib.hid hbw
      clear hb2 hbw hsz
      go_wp2_with fail
      go_ret
      exact ⟨by rw [HRES.out]; rfl, HBW.out⟩
  · have oaf : okC (F, L, R) = false := by simpa using oa
    rw [oaf] at hma
    have hres : decide (BelowP (F, L, R) (G, M, S)) = false := decide_eq_false fun h => oa h.1
    have HMA := Lib.hid hma; have HRES := Lib.hid hres
    clear hma hmb hres
    go_enter Tryz.func72, Tryz.ntmps72
    go_wp2_with fail
    refine (HMA.out _).mono ?_
    rintro e w1 ⟨rfl, hb1⟩
    obtain ⟨_, hbw, hsz⟩ := HAB.out _ hb1
    have HBW := Lib.hid hbw
    clear hb1 hbw hsz
    go_wp2_with fail
    go_ret
    exact ⟨by rw [HRES.out]; rfl, HBW.out⟩
end Go.Proofs.YtclhhegfffccgaaGreat
