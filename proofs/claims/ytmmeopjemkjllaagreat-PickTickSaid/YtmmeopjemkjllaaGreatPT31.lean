/- Lemmas of the claim. No conditions beyond those that each states. -/
import Derived.Test.YtmmeopjemkjllaaGreatPT30
import Derived.Deep.DrawnRows
set_option linter.unusedVariables false
set_option linter.unusedSimpArgs false
set_option maxRecDepth 100000
set_option maxHeartbeats 8000000
namespace Go.Proofs.YtmmeopjemkjllaaGreat
section
open Go.RowKit
attribute [local go_sem ↓] Go.wp_at_zero Go.wp_at_succ
attribute [local go_sem] quietR quietAtR quietUponR midAt midUpon
def BelowP (a b:Cv):Prop:=okC a=true∧okC b=true∧Under a b
noncomputable instance (a b:Cv):Decidable (BelowP a b):=Classical.propDecidable _
theorem below_of {a b:Cv} {ks:List Int} (oa:okC a=true)(ob:okC b=true)(na:0≤a.2.1)(nb:0≤b.2.1)(hR:a.2.2≤b.2.2)(hk:IsCorn [a,b] ks)(h:∀ t∈0 :: ks,vC a t≤vC b t):Under a b:=by
 have key:∀ c:Cv,c∈[a,b]→okC c=true→vC a c.2.1≤vC b c.2.1:=fun c hc ho=>by
  by_cases e:c.2.1=0
  ·rw [e];exact h 0 (.head _)
  ·exact h _ (.tail _ ((hk.mem _).2 ⟨c,hc,ho,e,rfl⟩))
 exact under_of na nb hR (key a (by simp) oa) (key b (by simp) ob)
theorem vS_one {c:Cv} (h:okC c=true)(t:Int):vS [c] t=vC c t:=by simp [vS,h]
theorem CvAt.of_blk {w:World} {B cap:Nat} {l:List Cv} (h:Blk w B 30 (cvCells l).toArray)(hu:UU l)(hl:l.length≤1000000)(hc:l.length≤cap):CvAt w (.slice (some ⟨B,0,none⟩) l.length cap) l:=by
 refine⟨hu,hl,_,_,rfl,.inr ⟨B,0,rfl,h.lt,hc,fun i c hi=>?_⟩⟩
 obtain⟨c0,c1,c2⟩:=cvCells_get l i c hi
 rw [Nat.zero_add,h.cell,h.cell,h.cell]
 simp only [List.getElem?_toArray]
 exact⟨c0,c1,c2⟩
def BelW (w:World)(a b:Cv)(e:Ending)(w':World):Prop:=e=.returned (.bool (decide (BelowP a b)))∧Below w.heap.size w w'
set_option maxRecDepth 100000 in
set_option maxHeartbeats 4000000 in
theorem below_any (a b : Cv) (w : World) (ua : U a.1 ∧ U a.2.1 ∧ U a.2.2) (ub : U b.1 ∧ U b.2.1 ∧ U b.2.2) :
    Calls Tryz.prog 183 #[cvV a, cvV b] w (BelW w a b) := by
  obtain ⟨F, L, R⟩ := a
  obtain ⟨G, M, S⟩ := b
  unfold cvV
  dsimp only at ua ub ⊢
  have hma := fun w => may_any F L R w ua.2.1.1
  have hmb := fun w => may_any G M S w ub.2.1.1
  rw [show mayB F L R = okC (F, L, R) from rfl] at hma
  rw [show mayB G M S = okC (G, M, S) from rfl] at hmb
  have hA := (Blk.new w 30 #[.int .u64 F, .int .u64 L, .int .u64 R]).alloc (.cells #[.int .u64 G, .int .u64 M, .int .u64 S] 30)
  have hB := Blk.new (w.alloc (.cells #[.int .u64 F, .int .u64 L, .int .u64 R] 30)) 30 #[.int .u64 G, .int .u64 M, .int .u64 S]
  rw [World.size_alloc] at hB
  have hb0 := ((Below.refl w.heap.size w).alloc (Nat.le_refl _) (.cells #[.int .u64 F, .int .u64 L, .int .u64 R] 30)).alloc (by simp) (.cells #[.int .u64 G, .int .u64 M, .int .u64 S] 30)
  have hab : ∀ W, Below ((w.alloc (.cells #[.int .u64 F, .int .u64 L, .int .u64 R] 30)).alloc (.cells #[.int .u64 G, .int .u64 M, .int .u64 S] 30)).heap.size ((w.alloc (.cells #[.int .u64 F, .int .u64 L, .int .u64 R] 30)).alloc (.cells #[.int .u64 G, .int .u64 M, .int .u64 S] 30)) W →
      ((W.cell? ⟨w.heap.size, 0, none⟩ = some (.int .u64 F) ∧ W.cell? ⟨w.heap.size, 1, none⟩ = some (.int .u64 L) ∧ W.cell? ⟨w.heap.size, 2, none⟩ = some (.int .u64 R)) ∧
       (W.cell? ⟨w.heap.size + 1, 0, none⟩ = some (.int .u64 G) ∧ W.cell? ⟨w.heap.size + 1, 1, none⟩ = some (.int .u64 M) ∧ W.cell? ⟨w.heap.size + 1, 2, none⟩ = some (.int .u64 S))) ∧ Below w.heap.size w W ∧ w.heap.size + 2 ≤ W.heap.size := fun W hW => by
    have h1 := hA.below hW hA.lt; have h2 := hB.below hW hB.lt
    exact ⟨⟨⟨h1.cell 0, h1.cell 1, h1.cell 2⟩, ⟨h2.cell 0, h2.cell 1, h2.cell 2⟩⟩, hb0.trans (hW.mono (by simp; omega)), by have := hW.size; simp at this; omega⟩
  have HAB := Lib.hid hab
  clear hA hB hb0 hab
  by_cases oa : okC (F, L, R) = true
  · by_cases ob : okC (G, M, S) = true
    · rw [oa] at hma
      rw [ob] at hmb
      have HMA := Lib.hid hma; have HMB := Lib.hid hmb
      clear hma hmb
      by_cases hR : R ≤ S
      · go_enter Tryz.func183, Tryz.ntmps183
        go_wp2_with fail
        refine (HMA.out _).mono ?_
        rintro e w1 ⟨rfl, hb1⟩
        obtain ⟨⟨⟨c0, c1, c2⟩, ⟨d0, d1, d2⟩⟩, hbw, hsz⟩ := HAB.out _ hb1
        have HB1 := Lib.hid hb1
        clear hb1
        go_wp2_with fail
        refine (HMB.out _).mono ?_
        clear c0 c1 c2 d0 d1 d2 hbw hsz
        rintro e w2 ⟨rfl, hb2⟩
        have hb2' := HB1.out.trans (hb2.mono HB1.out.size)
        obtain ⟨⟨⟨c0, c1, c2⟩, ⟨d0, d1, d2⟩⟩, hbw, hsz⟩ := HAB.out _ hb2'
        have huu : UU [(F, L, R), (G, M, S)] := fun c hc => by
          simp at hc; rcases hc with rfl | rfl
          · exact ua
          · exact ub
        have hcv : CvAt (w2.alloc (.cells #[.int .u64 F, .int .u64 L, .int .u64 R, .int .u64 G, .int .u64 M, .int .u64 S] 30)) (.slice (some ⟨w2.heap.size, 0, none⟩) 2 2) [(F, L, R), (G, M, S)] := CvAt.of_blk (l := [(F, L, R), (G, M, S)]) (Blk.new w2 30 #[.int .u64 F, .int .u64 L, .int .u64 R, .int .u64 G, .int .u64 M, .int .u64 S]) huu (by simp) (by simp)
        have hcor := corners_any _ _ _ hcv (by simp)
        have HB2 := Lib.hid hb2'; have HBW := Lib.hid (And.intro hbw hsz); have HUU := Lib.hid huu
        clear hb2 hb2' HB1 hbw hsz hcv huu
        go_wp2_with fail
        refine hcor.mono ?_
        clear hcor
        rintro e w3 ⟨ve, ks, rfl, hIC, hrow, hb3⟩
        obtain ⟨g, cap, rfl, hg1, hg2⟩ := hrow.form (by omega)
        have hce : ∀ W, Below w3.heap.size w3 W → ∀ (j : Nat) (t : Int), (0 :: ks)[j]? = some t → W.cell? ⟨g, j, none⟩ = some (.int .u64 t) := fun W hW j t hj => by
          rw [hW.cell (p := ⟨g, j, none⟩) hg2, hrow.cellAt j (by have := (List.getElem?_eq_some_iff.1 hj).1; simp at this; omega), List.getElem?_map, hj]; rfl
        have hkl : ks.length ≤ 1000000 := by
          have hn : ks.Nodup := (List.pairwise_cons.1 hIC.up).2.imp fun {a b} h => by omega
          have hsub : ∀ x ∈ ks, x ∈ [L, M] := fun x hx => by
            obtain ⟨c, hc, _, _, rfl⟩ := (hIC.mem x).1 hx
            simp at hc
            rcases hc with rfl | rfl <;> simp
          have := List.Nodup.length_le_of_subset hn hsub
          simp at this; omega
        have hb3' : Below ((w.alloc (.cells #[.int .u64 F, .int .u64 L, .int .u64 R] 30)).alloc (.cells #[.int .u64 G, .int .u64 M, .int .u64 S] 30)).heap.size ((w.alloc (.cells #[.int .u64 F, .int .u64 L, .int .u64 R] 30)).alloc (.cells #[.int .u64 G, .int .u64 M, .int .u64 S] 30)) w3 := (HB2.out.alloc HB2.out.size _).trans (hb3.mono (by have := HB2.out.size; simp at this ⊢; omega))
        have hat := fun (c : Cv) (hc : U c.1 ∧ U c.2.1 ∧ U c.2.2) (W : World) (B : Nat) (t : Int) (ht : U t) (hB : Blk W B 30 #[.int .u64 c.1, .int .u64 c.2.1, .int .u64 c.2.2]) => sat_anyS (.slice (some ⟨B, 0, none⟩) 1 1) [c] t W (CvAt.of_blk (l := [c]) hB (fun d hd => by simp at hd; subst hd; exact hc) (by simp) (by simp)) ht
        have HCE := Lib.hid hce; have HIC := Lib.hid hIC; have HB3 := Lib.hid hb3'; have HAT := Lib.hid hat
        clear hrow hce hIC hb3 hb3' HB2 c0 c1 c2 d0 d1 d2 hat
        go_wp2_with fail
        go_loopw [27] (fun vi W => ∃ k : Nat, vi = .int .i64 k ∧ k ≤ ks.length + 1 ∧ Below w3.heap.size w3 W ∧ ∀ t ∈ (0 :: ks).take k, vC (F, L, R) t ≤ vC (G, M, S) t) (fun vi _ => (ks.length + 1 - Go.RowKit.intOf vi).toNat)
        case atStart => exact ⟨0, rfl, by omega, Below.refl _ _, fun t ht => by simp at ht⟩
        case round =>
          obtain ⟨k, rfl, hk, hbW, hall⟩ := hrel
          have HA := Lib.hid hall; have HBW3 := Lib.hid hbW
          clear hall
          have hb6 := HB3.out.trans (hbW.mono HB3.out.size)
          obtain ⟨⟨⟨c0, c1, c2⟩, ⟨d0, d1, d2⟩⟩, hbw, hsz⟩ := HAB.out _ hb6
          by_cases hlt : k < ks.length + 1
          · obtain ⟨t, ht⟩ : ∃ t, (0 :: ks)[k]? = some t := ⟨_, List.getElem?_eq_getElem (by simpa using hlt)⟩
            have ct := HCE.out _ hbW k t ht
            have htl := HIC.out.le t (List.mem_of_getElem? ht)
            have hT : (0 :: ks).take (k + 1) = (0 :: ks).take k ++ [t] := by rw [List.take_add_one, ht]; rfl
            have ut : U t := by unfold U; omega
            have hta := fun W B h => HAT.out (F, L, R) ua W B t ut h
            have htb := fun W B h => HAT.out (G, M, S) ub W B t ut h
            rw [vS_one oa] at hta
            rw [vS_one ob] at htb
            have ba := vC_bd (c := (F, L, R)) oa ua.1.1 ua.2.1.1 ua.2.2.1 ut.1 ut.2
            have bb := vC_bd (c := (G, M, S)) ob ub.1.1 ub.2.1.1 ub.2.2.1 ut.1 ut.2
            obtain ⟨x, hx⟩ : ∃ x, vC (F, L, R) t = x := ⟨_, rfl⟩
            obtain ⟨y, hy⟩ : ∃ y, vC (G, M, S) t = y := ⟨_, rfl⟩
            rw [hx] at hta ba
            rw [hy] at htb bb
            have hcmp := fun W => cmp_any (hiW x) (loW x) (hiW y) (loW y) W (U_lo _) (U_lo _)
            simp only [num_words] at hcmp
            generalize hiW x = x1 at hta hcmp
            generalize loW x = x0 at hta hcmp
            generalize hiW y = y1 at htb hcmp
            generalize loW y = y0 at htb hcmp
            have HTA := Lib.hid hta; have HTB := Lib.hid htb; have HCMP := Lib.hid hcmp; have HX := Lib.hid hx; have HY := Lib.hid hy; have HT := Lib.hid hT; have HBWW := Lib.hid (And.intro hbw hsz)
            have l0 : w.heap.size < wr.heap.size := by omega
            have l1 : w.heap.size + 1 < wr.heap.size := by omega
            have o0 := fun e => (over_cell (w := wr) (e := e) l0).trans c0
            have o1 := fun e => (over_cell (w := wr) (e := e) l0).trans c1
            have o2 := fun e => (over_cell (w := wr) (e := e) l0).trans c2
            have p0 := fun e => (over_cell (w := wr) (e := e) l1).trans d0
            have p1 := fun e => (over_cell (w := wr) (e := e) l1).trans d1
            have p2 := fun e => (over_cell (w := wr) (e := e) l1).trans d2
            clear hta htb hcmp hx hy hT hbw hsz hb6 hbW ht ba bb
            go_wp2
            refine wp_region_mid (w := wr) 8 2 [1, 3, 5, 7] [] [(1, fun u W' => ∃ B, u = .slice (some ⟨B, 0, none⟩) 1 1 ∧ Blk W' B 30 #[.int .u64 F, .int .u64 L, .int .u64 R]), (3, fun u W' => u = .agg #[.int .u64 x1, .int .u64 x0]), (5, fun u W' => ∃ B, u = .slice (some ⟨B, 0, none⟩) 1 1 ∧ Blk W' B 30 #[.int .u64 G, .int .u64 M, .int .u64 S]), (7, fun u W' => u = .agg #[.int .u64 y1, .int .u64 y0])] rfl (by kernel_rfl) (by kernel_rfl) (by kernel_rfl) (by kernel_rfl) (fun _ _ _ _ _ h => h) ⟨?st1, ?st2, ?st3, ?st4, trivial⟩ ?_
            case st1 => exact fun v W1 W2 ⟨b, h1, h2⟩ hb => ⟨b, h1, h2.below hb h2.lt⟩
            case st2 => exact fun v W1 W2 h hb => h
            case st3 => exact fun v W1 W2 ⟨b, h1, h2⟩ hb => ⟨b, h1, h2.below hb h2.lt⟩
            case st4 => exact fun v W1 W2 h hb => h
            intro LL hL
            have HL := Lib.hid hL
            clear hL
            simp only [List.take_succ_cons, List.take_zero, putL]
            repeat (first | refine wpHead_skip (by decide) ?_ | (refine wpHead_step (by decide) (fun K hK => ?_); go_simp; refine hK _ ?_; clear hK K))
            refine wpHead_nil (HL.out _ ⟨?_, ?_, ?_, ?_, trivial⟩ ?_)
            · intro vs W2 hb2 hf
              clear hf HL
              change midAt _ _ (Act.put (Act.put (Act.put (Act.put _ (some 32) (vs 1)) (some 34) (vs 3)) (some 36) (vs 5)) (some 38) (vs 7)) _ _
              go_simp
              exact ⟨(Below.refl _ _).alloc (Nat.le_refl _) _, Blk.new _ _ _⟩
            · intro vs W2 hb2 hf
              obtain ⟨⟨B, hB1, hB2⟩, hff⟩ := hf
              clear hff HL
              change midAt _ _ (Act.put (Act.put (Act.put (Act.put _ (some 32) (vs 1)) (some 34) (vs 3)) (some 36) (vs 5)) (some 38) (vs 7)) _ _
              rw [hB1]
              clear hB1
              go_simp
              exact HTA.out W2 B hB2
            · intro vs W2 hb2 hf
              clear hf HL
              change midAt _ _ (Act.put (Act.put (Act.put (Act.put _ (some 32) (vs 1)) (some 34) (vs 3)) (some 36) (vs 5)) (some 38) (vs 7)) _ _
              go_simp
              exact ⟨(Below.refl _ _).alloc (Nat.le_refl _) _, Blk.new _ _ _⟩
            · intro vs W2 hb2 hf
              obtain ⟨⟨B, hB1, hB2⟩, hff⟩ := hf
              clear hff HL
              change midAt _ _ (Act.put (Act.put (Act.put (Act.put _ (some 32) (vs 1)) (some 34) (vs 3)) (some 36) (vs 5)) (some 38) (vs 7)) _ _
              rw [hB1]
              clear hB1
              go_simp
              exact HTB.out W2 B hB2
            · intro vs W2 hb2 hf
              obtain ⟨⟨B1, f1, f2⟩, f3, ⟨B2, f4, f5⟩, f6, hff⟩ := hf
              clear hff HL
              change wpList _ _ _ _ (Act.put (Act.put (Act.put (Act.put _ (some 32) (vs 1)) (some 34) (vs 3)) (some 36) (vs 5)) (some 38) (vs 7)) _
              rw [f1, f3, f4, f6]
              clear f1 f3 f4 f6 f2 f5 c0 c1 c2 d0 d1 d2 o0 o1 o2 p0 p1 p2 ct
              simp only [List.drop_succ_cons, List.drop_zero, List.take_succ_cons, List.take_zero]
              have HB2 := Lib.hid hb2
              clear hb2
              go_wp2_with fail
              refine (HCMP.out _).mono ?_
              rintro e w4 ⟨rfl, hb4⟩
              have hb4' := HB2.out.trans (hb4.mono HB2.out.size)
              have HB4 := Lib.hid hb4'
              clear hb4 hb4' HB2
              by_cases hxy : x ≤ y
              · have hc : decide (0 < cmpI x y) = false := by
                  unfold cmpI; simp; split
                  · omega
                  · split <;> omega
                simp only [hc]
                have hc0 : ¬ 0 < cmpI x y := of_decide_eq_false hc
                have HC0 := Lib.hid hc0
                generalize cmpI x y = z at hc hc0 ⊢
                clear hc
                go_wp2_with fail
                go_roundw
                case measure => (simp [Go.RowKit.intOf]; try omega)
                case rel =>
                  refine ⟨k + 1, by go_num, by omega, HBW3.out.trans (HB4.out.mono HBW3.out.size), fun q hq => ?_⟩
                  rw [HT.out] at hq
                  rcases List.mem_append.1 hq with hq | hq
                  · exact HA.out q hq
                  · simp at hq; subst hq; rw [HX.out, HY.out]; exact hxy
              · have hc0 : 0 < cmpI x y := by
                  unfold cmpI; split
                  · omega
                  · split <;> omega
                generalize cmpI x y = z at hc0 ⊢
                have hres : decide (BelowP (F, L, R) (G, M, S)) = false := decide_eq_false fun h => by
                  have := h.2.2 t ut.1
                  rw [HX.out, HY.out] at this
                  omega
                have HRES := Lib.hid hres
                clear hres
                go_wp2_with fail
                go_ret
                exact ⟨by rw [HRES.out]; rfl, HBWW.out.1.trans (HB4.out.mono (by have := HBWW.out.1.size; omega))⟩
          · obtain rfl : k = ks.length + 1 := by omega
            have hres : decide (BelowP (F, L, R) (G, M, S)) = true := decide_eq_true ⟨oa, ob, below_of oa ob ua.2.1.1 ub.2.1.1 hR HIC.out fun t ht => HA.out t (by rw [List.take_of_length_le (by simp)]; exact ht)⟩
            have HRES := Lib.hid hres; have HBW4 := Lib.hid hbw
            clear hres c0 c1 c2 d0 d1 d2 hbw hsz hb6
            go_wp2_with fail
            go_ret
            exact ⟨by rw [HRES.out]; rfl, HBW4.out⟩
      · have hres : decide (BelowP (F, L, R) (G, M, S)) = false := decide_eq_false fun h => hR (under_rest oa ob ⟨ua.1.1, ua.2.1.1, ua.2.2.1⟩ ⟨ub.1.1, ub.2.1.1, ub.2.2.1⟩ (h.2.2 _ (by decide)))
        have HRES := Lib.hid hres
        clear hres
        have hSR : S < R := by omega
        go_enter Tryz.func183, Tryz.ntmps183
        go_wp2_with fail
        refine (HMA.out _).mono ?_
        rintro e w1 ⟨rfl, hb1⟩
        obtain ⟨⟨⟨c0, c1, c2⟩, ⟨d0, d1, d2⟩⟩, hbw, hsz⟩ := HAB.out _ hb1
        have HB1 := Lib.hid hb1
        clear hb1
        go_wp2_with fail
        refine (HMB.out _).mono ?_
        clear c0 c1 c2 d0 d1 d2 hbw hsz
        rintro e w2 ⟨rfl, hb2⟩
        have hb2' := HB1.out.trans (hb2.mono HB1.out.size)
        obtain ⟨⟨⟨c0, c1, c2⟩, ⟨d0, d1, d2⟩⟩, hbw, hsz⟩ := HAB.out _ hb2'
        have HBW := Lib.hid hbw
        clear hb2 hb2' hbw hsz
        go_wp2_with fail
        go_ret
        exact ⟨by rw [HRES.out]; rfl, HBW.out⟩
    · rw [oa] at hma
      have obf : okC (G, M, S) = false := by simpa using ob
      rw [obf] at hmb
      have hres : decide (BelowP (F, L, R) (G, M, S)) = false := decide_eq_false fun h => ob h.2.1
      have HMA := Lib.hid hma; have HMB := Lib.hid hmb; have HRES := Lib.hid hres
      clear hma hmb hres
      go_enter Tryz.func183, Tryz.ntmps183
      go_wp2_with fail
      refine (HMA.out _).mono ?_
      rintro e w1 ⟨rfl, hb1⟩
      obtain ⟨⟨⟨c0, c1, c2⟩, ⟨d0, d1, d2⟩⟩, hbw, hsz⟩ := HAB.out _ hb1
      have HB1 := Lib.hid hb1
      clear hb1
      go_wp2_with fail
      refine (HMB.out _).mono ?_
      clear c0 c1 c2 d0 d1 d2 hbw hsz
      rintro e w2 ⟨rfl, hb2⟩
      obtain ⟨_, hbw, hsz⟩ := HAB.out _ (HB1.out.trans (hb2.mono HB1.out.size))
      have HBW := Lib.hid hbw
      clear hb2 hbw hsz
      go_wp2_with fail
      go_ret
      exact ⟨by rw [HRES.out]; rfl, HBW.out⟩
  · have oaf : okC (F, L, R) = false := by simpa using oa
    rw [oaf] at hma
    have hres : decide (BelowP (F, L, R) (G, M, S)) = false := decide_eq_false fun h => oa h.1
    have HMA := Lib.hid hma; have HRES := Lib.hid hres
    clear hma hmb hres
    go_enter Tryz.func183, Tryz.ntmps183
    go_wp2_with fail
    refine (HMA.out _).mono ?_
    rintro e w1 ⟨rfl, hb1⟩
    obtain ⟨_, hbw, hsz⟩ := HAB.out _ hb1
    have HBW := Lib.hid hbw
    clear hb1 hbw hsz
    go_wp2_with fail
    go_ret
    exact ⟨by rw [HRES.out]; rfl, HBW.out⟩
end
section
open Go.RowKit
attribute [local go_sem ↓] Go.wp_at_zero Go.wp_at_succ
attribute [local go_sem] quietR quietAtR quietUponR midAt midUpon
structure Sp where
 id:Int
 pa:Int
 lf:Bool
 r:Cv
 s:Cv
 u:Cv
 pk:Int
 by_:Int
def spC (s:Sp):Array Value:=#[.int .i64 s.id,.int .i64 s.pa,.bool s.lf,.int .u64 s.r.1,.int .u64 s.r.2.1,.int .u64 s.r.2.2,.int .u64 s.s.1,.int .u64 s.s.2.1,.int .u64 s.s.2.2,.int .u64 s.u.1,.int .u64 s.u.2.1,.int .u64 s.u.2.2,.int .i64 s.pk,.int .i64 s.by_]
def spV (s:Sp):Value:=.agg (spC s)
def UC (c:Cv):Prop:=U c.1∧U c.2.1∧U c.2.2
def WfSp (s:Sp):Prop:=((Lit.int .i64 s.id).wf=true∧(Lit.int .i64 s.pa).wf=true∧(Lit.int .i64 s.pk).wf=true∧(Lit.int .i64 s.by_).wf=true)∧UC s.r∧UC s.s∧UC s.u
def noneB (c:Cv):Bool:=decide (c=(0,0,0))
def inB (n a b:Int):Bool:=decide (a≤n) && decide (n≤b)
def namedB (s:Sp):Bool:=inB s.id 1 65535 && inB s.pa 0 65535 && (s.id != s.pa)
def curvesB (s:Sp):Bool:=okC s.r && okC s.s && okC s.u
def kindB (s:Sp):Int:=if s.lf=false then 4 else if noneB s.r=false then (if noneB s.s=false then 3 else 1) else (if noneB s.s=false then 2 else 0)
def shapedB (s:Sp):Bool:=if s.lf then (!(noneB s.r && noneB s.s)) && inB s.pk 1 4096 && inB s.by_ 1 16777216 else noneB s.r && !noneB s.s && (s.pk == 0) && (s.by_ == 0)
def goesB (c:Cv):Bool:=noneB c || decide (0 < c.2.2)
def sharedB (s:Sp):Bool:=goesB s.s && goesB s.u && (noneB s.u || !noneB s.s)
noncomputable def underB (s:Sp):Bool:=noneB s.r || noneB s.u || decide (BelowP s.r s.u)
noncomputable def mayS (s:Sp):Bool:=namedB s && curvesB s && shapedB s && sharedB s && underB s
def BxAt (w W:World)(t:TypeId)(cs:Array Value):Prop:=Blk W w.heap.size t cs∧Below w.heap.size w W
theorem BxAt.new (w:World)(t:TypeId)(cs:Array Value):BxAt w (w.alloc (.cells cs t)) t cs:=⟨Blk.new w t cs,(Below.refl w.heap.size w).alloc (Nat.le_refl _) _⟩
theorem BxAt.step {w W W':World} {t:TypeId} {cs:Array Value} (h:BxAt w W t cs)(hb:Below W.heap.size W W'):BxAt w W' t cs:=⟨h.1.below hb h.1.lt,h.2.trans (hb.mono h.2.size)⟩
theorem cnoneH_any (F L R:Int)(w:World) :
  Calls Tryz.prog 81 #[.agg #[.int .u64 F,.int .u64 L,.int .u64 R]] w fun e w'=>e=.returned (.bool (noneB (F,L,R)))∧Below w.heap.size w w':=by
 unfold noneB
 by_cases h1:F=0
 ·by_cases h2:L=0
  ·by_cases h3:R=0
   ·subst h1 h2 h3
    go_enter Tryz.func81,Tryz.ntmps81
    go_wp2
    go_ret
    exact⟨rfl,by go_grown⟩
   ·go_enter Tryz.func81,Tryz.ntmps81
    go_wp2
    go_ret
    exact⟨by simp [h3],by go_grown⟩
  ·go_enter Tryz.func81,Tryz.ntmps81
   go_wp2
   go_ret
   exact⟨by simp [h2],by go_grown⟩
 ·go_enter Tryz.func81,Tryz.ntmps81
  go_wp2
  go_ret
  exact⟨by simp [h1],by go_grown⟩
theorem in_any (n a b:Int)(w:World) :
  Calls Tryz.prog 180 #[.int .i64 n,.int .i64 a,.int .i64 b] w fun e w'=>e=.returned (.bool (inB n a b))∧w=w':=by
 by_cases h1:a≤n
 ·by_cases h2:n≤b
  ·have E:=Lib.hid (show inB n a b=true by simp [inB,h1,h2])
   go_enter Tryz.func180,Tryz.ntmps180
   go_wp2
   go_ret
   exact⟨by rw [E.out];rfl,rfl⟩
  ·have E:=Lib.hid (show inB n a b=false by simp [inB,h1,h2])
   go_enter Tryz.func180,Tryz.ntmps180
   go_wp2
   go_ret
   exact⟨by rw [E.out];rfl,rfl⟩
 ·have E:=Lib.hid (show inB n a b=false by simp [inB,h1])
  go_enter Tryz.func180,Tryz.ntmps180
  go_wp2
  go_ret
  exact⟨by rw [E.out];rfl,rfl⟩
theorem goes_any (F L R:Int)(w:World) :
  Calls Tryz.prog 182 #[.agg #[.int .u64 F,.int .u64 L,.int .u64 R]] w fun e w'=>e=.returned (.bool (goesB (F,L,R)))∧Below w.heap.size w w':=by
 have hc:=fun w=>cnoneH_any F L R w
 unfold goesB
 generalize noneB (F,L,R)=b at hc ⊢
 dsimp only
 have H:=Lib.hid (BxAt.new w 30 #[.int .u64 F,.int .u64 L,.int .u64 R])
 have k0:=H.out.1.cell 0;have k1:=H.out.1.cell 1;have k2:=H.out.1.cell 2;simp only [lTA,lCZ,lCS] at k0 k1 k2
 cases b
 ·by_cases h:0 < R
  ·go_enter Tryz.func182,Tryz.ntmps182
   go_wp2_with (go_at_call 81;(with_reducible refine (hc _).mono ?_);rintro e W1 ⟨rfl,hb⟩;have H2:=Lib.hid (BxAt.step H.out hb);clear H hb;clear k0 k1 k2;have H:=Lib.hid H2.out;clear H2;have k0:=H.out.1.cell 0;have k1:=H.out.1.cell 1;have k2:=H.out.1.cell 2;simp only [lTA,lCZ,lCS] at k0 k1 k2)
   go_ret
   exact⟨by simp [h],H.out.2⟩
  ·go_enter Tryz.func182,Tryz.ntmps182
   go_wp2_with (go_at_call 81;(with_reducible refine (hc _).mono ?_);rintro e W1 ⟨rfl,hb⟩;have H2:=Lib.hid (BxAt.step H.out hb);clear H hb;clear k0 k1 k2;have H:=Lib.hid H2.out;clear H2;have k0:=H.out.1.cell 0;have k1:=H.out.1.cell 1;have k2:=H.out.1.cell 2;simp only [lTA,lCZ,lCS] at k0 k1 k2)
   go_ret
   exact⟨by simp [h],H.out.2⟩
 ·go_enter Tryz.func182,Tryz.ntmps182
  go_wp2_with (go_at_call 81;(with_reducible refine (hc _).mono ?_);rintro e W1 ⟨rfl,hb⟩;have H2:=Lib.hid (BxAt.step H.out hb);clear H hb;clear k0 k1 k2;have H:=Lib.hid H2.out;clear H2;have k0:=H.out.1.cell 0;have k1:=H.out.1.cell 1;have k2:=H.out.1.cell 2;simp only [lTA,lCZ,lCS] at k0 k1 k2)
  go_ret
  exact⟨by simp,H.out.2⟩
end
section
open Go.RowKit
attribute [local go_sem ↓] Go.wp_at_zero Go.wp_at_succ
attribute [local go_sem] quietR quietAtR quietUponR midAt midUpon
theorem named_any (s:Sp)(w:World)(hw:WfSp s) :
  Calls Tryz.prog 157 #[spV s] w fun e w'=>e=.returned (.bool (namedB s))∧Below w.heap.size w w':=by
 obtain⟨id,pa,lf,⟨F1,L1,R1⟩,⟨F2,L2,R2⟩,⟨F3,L3,R3⟩,pk,by_⟩:=s
 obtain⟨_,u1,u2,u3⟩:=hw
 unfold UC at u1 u2 u3
 unfold spV spC namedB
 dsimp only at u1 u2 u3 ⊢
 have h1:=fun w=>in_any id 1 65535 w
 have h2:=fun w=>in_any pa 0 65535 w
 generalize inB id 1 65535=b1 at h1 ⊢
 generalize inB pa 0 65535=b2 at h2 ⊢
 generalize hb3:(id != pa)=b3
 have H:=Lib.hid (BxAt.new w 32 #[.int .i64 id,.int .i64 pa,.bool lf,.int .u64 F1,.int .u64 L1,.int .u64 R1,.int .u64 F2,.int .u64 L2,.int .u64 R2,.int .u64 F3,.int .u64 L3,.int .u64 R3,.int .i64 pk,.int .i64 by_])
 have k0:=H.out.1.cell 0;have k1:=H.out.1.cell 1;have k2:=H.out.1.cell 2;have k3:=H.out.1.cell 3;have k4:=H.out.1.cell 4;have k5:=H.out.1.cell 5;have k6:=H.out.1.cell 6;have k7:=H.out.1.cell 7;have k8:=H.out.1.cell 8;have k9:=H.out.1.cell 9;have k10:=H.out.1.cell 10;have k11:=H.out.1.cell 11;have k12:=H.out.1.cell 12;have k13:=H.out.1.cell 13;simp only [lTA,lCZ,lCS] at k0 k1 k2 k3 k4 k5 k6 k7 k8 k9 k10 k11 k12 k13
 cases b1 <;> cases b2 <;> cases b3
 all_goals
  go_enter Tryz.func157,Tryz.ntmps157
  go_wp2_with (first | (go_at_call 180;(with_reducible refine (h1 _).mono ?_);rintro e W1 ⟨rfl,rfl⟩) | (go_at_call 180;(with_reducible refine (h2 _).mono ?_);rintro e W1 ⟨rfl,rfl⟩))
  go_ret
  exact⟨rfl,H.out.2⟩
end
section
open Go.RowKit
attribute [local go_sem ↓] Go.wp_at_zero Go.wp_at_succ
attribute [local go_sem] quietR quietAtR quietUponR midAt midUpon
theorem curves_any (s:Sp)(w:World)(hw:WfSp s) :
  Calls Tryz.prog 158 #[spV s] w fun e w'=>e=.returned (.bool (curvesB s))∧Below w.heap.size w w':=by
 obtain⟨id,pa,lf,⟨F1,L1,R1⟩,⟨F2,L2,R2⟩,⟨F3,L3,R3⟩,pk,by_⟩:=s
 obtain⟨_,u1,u2,u3⟩:=hw
 unfold UC at u1 u2 u3
 unfold spV spC curvesB okC
 dsimp only at u1 u2 u3 ⊢
 have h1:=fun w=>may_any F1 L1 R1 w u1.2.1.1
 have h2:=fun w=>may_any F2 L2 R2 w u2.2.1.1
 have h3:=fun w=>may_any F3 L3 R3 w u3.2.1.1
 generalize mayB F1 L1 R1=b1 at h1 ⊢
 generalize mayB F2 L2 R2=b2 at h2 ⊢
 generalize mayB F3 L3 R3=b3 at h3 ⊢
 have H:=Lib.hid (BxAt.new w 32 #[.int .i64 id,.int .i64 pa,.bool lf,.int .u64 F1,.int .u64 L1,.int .u64 R1,.int .u64 F2,.int .u64 L2,.int .u64 R2,.int .u64 F3,.int .u64 L3,.int .u64 R3,.int .i64 pk,.int .i64 by_])
 have k0:=H.out.1.cell 0;have k1:=H.out.1.cell 1;have k2:=H.out.1.cell 2;have k3:=H.out.1.cell 3;have k4:=H.out.1.cell 4;have k5:=H.out.1.cell 5;have k6:=H.out.1.cell 6;have k7:=H.out.1.cell 7;have k8:=H.out.1.cell 8;have k9:=H.out.1.cell 9;have k10:=H.out.1.cell 10;have k11:=H.out.1.cell 11;have k12:=H.out.1.cell 12;have k13:=H.out.1.cell 13;simp only [lTA,lCZ,lCS] at k0 k1 k2 k3 k4 k5 k6 k7 k8 k9 k10 k11 k12 k13
 cases b1 <;> cases b2 <;> cases b3
 all_goals
  go_enter Tryz.func158,Tryz.ntmps158
  go_wp2_with (first | (go_at_call 82;(with_reducible refine (h1 _).mono ?_);rintro e W1 ⟨rfl,hb⟩;have H2:=Lib.hid (BxAt.step H.out hb);clear H hb;clear k0 k1 k2 k3 k4 k5 k6 k7 k8 k9 k10 k11 k12 k13;have H:=Lib.hid H2.out;clear H2;have k0:=H.out.1.cell 0;have k1:=H.out.1.cell 1;have k2:=H.out.1.cell 2;have k3:=H.out.1.cell 3;have k4:=H.out.1.cell 4;have k5:=H.out.1.cell 5;have k6:=H.out.1.cell 6;have k7:=H.out.1.cell 7;have k8:=H.out.1.cell 8;have k9:=H.out.1.cell 9;have k10:=H.out.1.cell 10;have k11:=H.out.1.cell 11;have k12:=H.out.1.cell 12;have k13:=H.out.1.cell 13;simp only [lTA,lCZ,lCS] at k0 k1 k2 k3 k4 k5 k6 k7 k8 k9 k10 k11 k12 k13) | (go_at_call 82;(with_reducible refine (h2 _).mono ?_);rintro e W1 ⟨rfl,hb⟩;have H2:=Lib.hid (BxAt.step H.out hb);clear H hb;clear k0 k1 k2 k3 k4 k5 k6 k7 k8 k9 k10 k11 k12 k13;have H:=Lib.hid H2.out;clear H2;have k0:=H.out.1.cell 0;have k1:=H.out.1.cell 1;have k2:=H.out.1.cell 2;have k3:=H.out.1.cell 3;have k4:=H.out.1.cell 4;have k5:=H.out.1.cell 5;have k6:=H.out.1.cell 6;have k7:=H.out.1.cell 7;have k8:=H.out.1.cell 8;have k9:=H.out.1.cell 9;have k10:=H.out.1.cell 10;have k11:=H.out.1.cell 11;have k12:=H.out.1.cell 12;have k13:=H.out.1.cell 13;simp only [lTA,lCZ,lCS] at k0 k1 k2 k3 k4 k5 k6 k7 k8 k9 k10 k11 k12 k13) | (go_at_call 82;(with_reducible refine (h3 _).mono ?_);rintro e W1 ⟨rfl,hb⟩;have H2:=Lib.hid (BxAt.step H.out hb);clear H hb;clear k0 k1 k2 k3 k4 k5 k6 k7 k8 k9 k10 k11 k12 k13;have H:=Lib.hid H2.out;clear H2;have k0:=H.out.1.cell 0;have k1:=H.out.1.cell 1;have k2:=H.out.1.cell 2;have k3:=H.out.1.cell 3;have k4:=H.out.1.cell 4;have k5:=H.out.1.cell 5;have k6:=H.out.1.cell 6;have k7:=H.out.1.cell 7;have k8:=H.out.1.cell 8;have k9:=H.out.1.cell 9;have k10:=H.out.1.cell 10;have k11:=H.out.1.cell 11;have k12:=H.out.1.cell 12;have k13:=H.out.1.cell 13;simp only [lTA,lCZ,lCS] at k0 k1 k2 k3 k4 k5 k6 k7 k8 k9 k10 k11 k12 k13))
  go_ret
  exact⟨rfl,H.out.2⟩
end
section
open Go.RowKit
attribute [local go_sem ↓] Go.wp_at_zero Go.wp_at_succ
attribute [local go_sem] quietR quietAtR quietUponR midAt midUpon
theorem kind_any (s:Sp)(w:World)(hw:WfSp s) :
  Calls Tryz.prog 181 #[spV s] w fun e w'=>e=.returned (.int .u8 (kindB s))∧Below w.heap.size w w':=by
 obtain⟨id,pa,lf,⟨F1,L1,R1⟩,⟨F2,L2,R2⟩,⟨F3,L3,R3⟩,pk,by_⟩:=s
 unfold spV spC kindB
 dsimp only
 have h1:=fun w=>cnoneH_any F1 L1 R1 w
 have h2:=fun w=>cnoneH_any F2 L2 R2 w
 generalize noneB (F1,L1,R1)=b1 at h1 ⊢
 generalize noneB (F2,L2,R2)=b2 at h2 ⊢
 have H:=Lib.hid (BxAt.new w 32 #[.int .i64 id,.int .i64 pa,.bool lf,.int .u64 F1,.int .u64 L1,.int .u64 R1,.int .u64 F2,.int .u64 L2,.int .u64 R2,.int .u64 F3,.int .u64 L3,.int .u64 R3,.int .i64 pk,.int .i64 by_])
 cases lf <;> cases b1 <;> cases b2
 all_goals
  go_enter Tryz.func181,Tryz.ntmps181
  go_upto_region 1 with fail
  generalize w.alloc (.cells #[.int .i64 id,.int .i64 pa,_,.int .u64 F1,.int .u64 L1,.int .u64 R1,.int .u64 F2,.int .u64 L2,.int .u64 R2,.int .u64 F3,.int .u64 L3,.int .u64 R3,.int .i64 pk,.int .i64 by_] 32)=W0 at H ⊢
  have l1:=H.out.1.lt
  have o2:=fun e=>(over_cell (w:=W0) (e:=e) (o:=2) l1).trans (H.out.1.cell 2)
  have o3:=fun e=>(over_cell (w:=W0) (e:=e) (o:=3) l1).trans (H.out.1.cell 3)
  have o4:=fun e=>(over_cell (w:=W0) (e:=e) (o:=4) l1).trans (H.out.1.cell 4)
  have o5:=fun e=>(over_cell (w:=W0) (e:=e) (o:=5) l1).trans (H.out.1.cell 5)
  have o6:=fun e=>(over_cell (w:=W0) (e:=e) (o:=6) l1).trans (H.out.1.cell 6)
  have o7:=fun e=>(over_cell (w:=W0) (e:=e) (o:=7) l1).trans (H.out.1.cell 7)
  have o8:=fun e=>(over_cell (w:=W0) (e:=e) (o:=8) l1).trans (H.out.1.cell 8)
  simp only [lTA,lCZ,lCS] at o2 o3 o4 o5 o6 o7 o8
  have g1:=fun e=>h1 (over W0 e)
  have g2:=fun e=>h2 (over W0 e)
  clear h1 h2
  refine wp_region_over (by kernel_rfl) (by kernel_rfl) ?_
  repeat (first | go_big_quiet_skip | (go_big_quiet_want;go_big_quiet_op;first | go_big_quiet_on | (apply Exists.intro;refine⟨fun e=>?_,?_⟩;(focus (go_at_call 81;first | with_reducible exact calls_over (g1 _) | with_reducible exact calls_over (g2 _)));go_big_quiet_on)))
  refine wpQuiet_nil ?_
  rintro W2 ⟨e2,he2⟩
  have hb2:=over_below W0 e2
  rw [← he2] at hb2
  clear he2 o2 o3 o4 o5 o6 o7 o8 g1 g2
  have H2:=Lib.hid (BxAt.step H.out hb2)
  have k2:=H2.out.1.cell 2
  simp only [lTA,lCZ,lCS] at k2
  clear hb2 H l1
  go_wp2_with fail
  go_ret
  exact⟨rfl,H2.out.2⟩
end
section
open Go.RowKit
attribute [local go_sem ↓] Go.wp_at_zero Go.wp_at_succ
attribute [local go_sem] quietR quietAtR quietUponR midAt midUpon
theorem shaped_any (s:Sp)(w:World)(hw:WfSp s) :
  Calls Tryz.prog 159 #[spV s] w fun e w'=>e=.returned (.bool (shapedB s))∧Below w.heap.size w w':=by
 obtain⟨id,pa,lf,⟨F1,L1,R1⟩,⟨F2,L2,R2⟩,⟨F3,L3,R3⟩,pk,by_⟩:=s
 obtain⟨_,u1,u2,u3⟩:=hw
 unfold UC at u1 u2 u3
 unfold spV spC shapedB
 dsimp only at u1 u2 u3 ⊢
 have h0:=fun w=>kind_any ⟨id,pa,lf,(F1,L1,R1),(F2,L2,R2),(F3,L3,R3),pk,by_⟩ w ⟨‹_›,⟨u1,u2,u3⟩⟩
 unfold spV spC kindB at h0
 dsimp only at h0
 have h1:=fun w=>cnoneH_any F1 L1 R1 w
 have h2:=fun w=>cnoneH_any F2 L2 R2 w
 have h3:=fun w=>in_any pk 1 4096 w
 have h4:=fun w=>in_any by_ 1 16777216 w
 generalize noneB (F1,L1,R1)=b1 at h0 h1 ⊢
 generalize noneB (F2,L2,R2)=b2 at h0 h2 ⊢
 generalize inB pk 1 4096=b3 at h3 ⊢
 generalize inB by_ 1 16777216=b4 at h4 ⊢
 generalize hb5:(pk == 0)=b5
 generalize hb6:(by_ == 0)=b6
 have H:=Lib.hid (BxAt.new w 32 #[.int .i64 id,.int .i64 pa,.bool lf,.int .u64 F1,.int .u64 L1,.int .u64 R1,.int .u64 F2,.int .u64 L2,.int .u64 R2,.int .u64 F3,.int .u64 L3,.int .u64 R3,.int .i64 pk,.int .i64 by_])
 have k0:=H.out.1.cell 0;have k1:=H.out.1.cell 1;have k2:=H.out.1.cell 2;have k3:=H.out.1.cell 3;have k4:=H.out.1.cell 4;have k5:=H.out.1.cell 5;have k6:=H.out.1.cell 6;have k7:=H.out.1.cell 7;have k8:=H.out.1.cell 8;have k9:=H.out.1.cell 9;have k10:=H.out.1.cell 10;have k11:=H.out.1.cell 11;have k12:=H.out.1.cell 12;have k13:=H.out.1.cell 13;simp only [lTA,lCZ,lCS] at k0 k1 k2 k3 k4 k5 k6 k7 k8 k9 k10 k11 k12 k13
 cases lf
 ·clear h0 h3 h4
  cases b1 <;> cases b2 <;> cases b5 <;> cases b6
  all_goals
   go_enter Tryz.func159,Tryz.ntmps159
   go_wp2_with (first | (go_at_call 81;(with_reducible refine (h1 _).mono ?_);rintro e W1 ⟨rfl,hb⟩;have H2:=Lib.hid (BxAt.step H.out hb);clear H hb;clear k0 k1 k2 k3 k4 k5 k6 k7 k8 k9 k10 k11 k12 k13;have H:=Lib.hid H2.out;clear H2;have k0:=H.out.1.cell 0;have k1:=H.out.1.cell 1;have k2:=H.out.1.cell 2;have k3:=H.out.1.cell 3;have k4:=H.out.1.cell 4;have k5:=H.out.1.cell 5;have k6:=H.out.1.cell 6;have k7:=H.out.1.cell 7;have k8:=H.out.1.cell 8;have k9:=H.out.1.cell 9;have k10:=H.out.1.cell 10;have k11:=H.out.1.cell 11;have k12:=H.out.1.cell 12;have k13:=H.out.1.cell 13;simp only [lTA,lCZ,lCS] at k0 k1 k2 k3 k4 k5 k6 k7 k8 k9 k10 k11 k12 k13) | (go_at_call 81;(with_reducible refine (h2 _).mono ?_);rintro e W1 ⟨rfl,hb⟩;have H2:=Lib.hid (BxAt.step H.out hb);clear H hb;clear k0 k1 k2 k3 k4 k5 k6 k7 k8 k9 k10 k11 k12 k13;have H:=Lib.hid H2.out;clear H2;have k0:=H.out.1.cell 0;have k1:=H.out.1.cell 1;have k2:=H.out.1.cell 2;have k3:=H.out.1.cell 3;have k4:=H.out.1.cell 4;have k5:=H.out.1.cell 5;have k6:=H.out.1.cell 6;have k7:=H.out.1.cell 7;have k8:=H.out.1.cell 8;have k9:=H.out.1.cell 9;have k10:=H.out.1.cell 10;have k11:=H.out.1.cell 11;have k12:=H.out.1.cell 12;have k13:=H.out.1.cell 13;simp only [lTA,lCZ,lCS] at k0 k1 k2 k3 k4 k5 k6 k7 k8 k9 k10 k11 k12 k13))
   go_ret
   exact⟨rfl,H.out.2⟩
 ·clear h1 h2 hb5 hb6
  cases b1 <;> cases b2 <;> cases b3 <;> cases b4
  all_goals
   simp only [Bool.false_eq_true,Bool.true_eq_false,if_true,if_false] at h0
   go_enter Tryz.func159,Tryz.ntmps159
   go_wp2_with (first | (go_at_call 181;(with_reducible refine (h0 _).mono ?_);rintro e W1 ⟨rfl,hb⟩;have H2:=Lib.hid (BxAt.step H.out hb);clear H hb;clear k0 k1 k2 k3 k4 k5 k6 k7 k8 k9 k10 k11 k12 k13;have H:=Lib.hid H2.out;clear H2;have k0:=H.out.1.cell 0;have k1:=H.out.1.cell 1;have k2:=H.out.1.cell 2;have k3:=H.out.1.cell 3;have k4:=H.out.1.cell 4;have k5:=H.out.1.cell 5;have k6:=H.out.1.cell 6;have k7:=H.out.1.cell 7;have k8:=H.out.1.cell 8;have k9:=H.out.1.cell 9;have k10:=H.out.1.cell 10;have k11:=H.out.1.cell 11;have k12:=H.out.1.cell 12;have k13:=H.out.1.cell 13;simp only [lTA,lCZ,lCS] at k0 k1 k2 k3 k4 k5 k6 k7 k8 k9 k10 k11 k12 k13) | (go_at_call 180;(with_reducible refine (h3 _).mono ?_);rintro e W1 ⟨rfl,rfl⟩) | (go_at_call 180;(with_reducible refine (h4 _).mono ?_);rintro e W1 ⟨rfl,rfl⟩))
   go_ret
   exact⟨rfl,H.out.2⟩
end
section
open Go.RowKit
attribute [local go_sem ↓] Go.wp_at_zero Go.wp_at_succ
attribute [local go_sem] quietR quietAtR quietUponR midAt midUpon
theorem shared_any (s:Sp)(w:World)(hw:WfSp s) :
  Calls Tryz.prog 160 #[spV s] w fun e w'=>e=.returned (.bool (sharedB s))∧Below w.heap.size w w':=by
 obtain⟨id,pa,lf,⟨F1,L1,R1⟩,⟨F2,L2,R2⟩,⟨F3,L3,R3⟩,pk,by_⟩:=s
 obtain⟨_,u1,u2,u3⟩:=hw
 unfold UC at u1 u2 u3
 unfold spV spC sharedB
 dsimp only at u1 u2 u3 ⊢
 have h1:=fun w=>goes_any F2 L2 R2 w
 have h2:=fun w=>goes_any F3 L3 R3 w
 have h3:=fun w=>cnoneH_any F3 L3 R3 w
 have h4:=fun w=>cnoneH_any F2 L2 R2 w
 generalize goesB (F2,L2,R2)=b1 at h1 ⊢
 generalize goesB (F3,L3,R3)=b2 at h2 ⊢
 generalize noneB (F3,L3,R3)=b3 at h3 ⊢
 generalize noneB (F2,L2,R2)=b4 at h4 ⊢
 have H:=Lib.hid (BxAt.new w 32 #[.int .i64 id,.int .i64 pa,.bool lf,.int .u64 F1,.int .u64 L1,.int .u64 R1,.int .u64 F2,.int .u64 L2,.int .u64 R2,.int .u64 F3,.int .u64 L3,.int .u64 R3,.int .i64 pk,.int .i64 by_])
 have k0:=H.out.1.cell 0;have k1:=H.out.1.cell 1;have k2:=H.out.1.cell 2;have k3:=H.out.1.cell 3;have k4:=H.out.1.cell 4;have k5:=H.out.1.cell 5;have k6:=H.out.1.cell 6;have k7:=H.out.1.cell 7;have k8:=H.out.1.cell 8;have k9:=H.out.1.cell 9;have k10:=H.out.1.cell 10;have k11:=H.out.1.cell 11;have k12:=H.out.1.cell 12;have k13:=H.out.1.cell 13;simp only [lTA,lCZ,lCS] at k0 k1 k2 k3 k4 k5 k6 k7 k8 k9 k10 k11 k12 k13
 cases b1 <;> cases b2 <;> cases b3 <;> cases b4
 all_goals
  go_enter Tryz.func160,Tryz.ntmps160
  go_wp2_with (first | (go_at_call 182;(with_reducible refine (h1 _).mono ?_);rintro e W1 ⟨rfl,hb⟩;have H2:=Lib.hid (BxAt.step H.out hb);clear H hb;clear k0 k1 k2 k3 k4 k5 k6 k7 k8 k9 k10 k11 k12 k13;have H:=Lib.hid H2.out;clear H2;have k0:=H.out.1.cell 0;have k1:=H.out.1.cell 1;have k2:=H.out.1.cell 2;have k3:=H.out.1.cell 3;have k4:=H.out.1.cell 4;have k5:=H.out.1.cell 5;have k6:=H.out.1.cell 6;have k7:=H.out.1.cell 7;have k8:=H.out.1.cell 8;have k9:=H.out.1.cell 9;have k10:=H.out.1.cell 10;have k11:=H.out.1.cell 11;have k12:=H.out.1.cell 12;have k13:=H.out.1.cell 13;simp only [lTA,lCZ,lCS] at k0 k1 k2 k3 k4 k5 k6 k7 k8 k9 k10 k11 k12 k13) | (go_at_call 182;(with_reducible refine (h2 _).mono ?_);rintro e W1 ⟨rfl,hb⟩;have H2:=Lib.hid (BxAt.step H.out hb);clear H hb;clear k0 k1 k2 k3 k4 k5 k6 k7 k8 k9 k10 k11 k12 k13;have H:=Lib.hid H2.out;clear H2;have k0:=H.out.1.cell 0;have k1:=H.out.1.cell 1;have k2:=H.out.1.cell 2;have k3:=H.out.1.cell 3;have k4:=H.out.1.cell 4;have k5:=H.out.1.cell 5;have k6:=H.out.1.cell 6;have k7:=H.out.1.cell 7;have k8:=H.out.1.cell 8;have k9:=H.out.1.cell 9;have k10:=H.out.1.cell 10;have k11:=H.out.1.cell 11;have k12:=H.out.1.cell 12;have k13:=H.out.1.cell 13;simp only [lTA,lCZ,lCS] at k0 k1 k2 k3 k4 k5 k6 k7 k8 k9 k10 k11 k12 k13) | (go_at_call 81;(with_reducible refine (h3 _).mono ?_);rintro e W1 ⟨rfl,hb⟩;have H2:=Lib.hid (BxAt.step H.out hb);clear H hb;clear k0 k1 k2 k3 k4 k5 k6 k7 k8 k9 k10 k11 k12 k13;have H:=Lib.hid H2.out;clear H2;have k0:=H.out.1.cell 0;have k1:=H.out.1.cell 1;have k2:=H.out.1.cell 2;have k3:=H.out.1.cell 3;have k4:=H.out.1.cell 4;have k5:=H.out.1.cell 5;have k6:=H.out.1.cell 6;have k7:=H.out.1.cell 7;have k8:=H.out.1.cell 8;have k9:=H.out.1.cell 9;have k10:=H.out.1.cell 10;have k11:=H.out.1.cell 11;have k12:=H.out.1.cell 12;have k13:=H.out.1.cell 13;simp only [lTA,lCZ,lCS] at k0 k1 k2 k3 k4 k5 k6 k7 k8 k9 k10 k11 k12 k13) | (go_at_call 81;(with_reducible refine (h4 _).mono ?_);rintro e W1 ⟨rfl,hb⟩;have H2:=Lib.hid (BxAt.step H.out hb);clear H hb;clear k0 k1 k2 k3 k4 k5 k6 k7 k8 k9 k10 k11 k12 k13;have H:=Lib.hid H2.out;clear H2;have k0:=H.out.1.cell 0;have k1:=H.out.1.cell 1;have k2:=H.out.1.cell 2;have k3:=H.out.1.cell 3;have k4:=H.out.1.cell 4;have k5:=H.out.1.cell 5;have k6:=H.out.1.cell 6;have k7:=H.out.1.cell 7;have k8:=H.out.1.cell 8;have k9:=H.out.1.cell 9;have k10:=H.out.1.cell 10;have k11:=H.out.1.cell 11;have k12:=H.out.1.cell 12;have k13:=H.out.1.cell 13;simp only [lTA,lCZ,lCS] at k0 k1 k2 k3 k4 k5 k6 k7 k8 k9 k10 k11 k12 k13))
  go_ret
  exact⟨rfl,H.out.2⟩
end
section
open Go.RowKit
attribute [local go_sem ↓] Go.wp_at_zero Go.wp_at_succ
attribute [local go_sem] quietR quietAtR quietUponR midAt midUpon
theorem under_any (s:Sp)(w:World)(hw:WfSp s) :
  Calls Tryz.prog 161 #[spV s] w fun e w'=>e=.returned (.bool (underB s))∧Below w.heap.size w w':=by
 obtain⟨id,pa,lf,⟨F1,L1,R1⟩,⟨F2,L2,R2⟩,⟨F3,L3,R3⟩,pk,by_⟩:=s
 obtain⟨_,u1,u2,u3⟩:=hw
 unfold UC at u1 u2 u3
 unfold spV spC underB
 dsimp only at u1 u2 u3 ⊢
 have h1:=fun w=>cnoneH_any F1 L1 R1 w
 have h2:=fun w=>cnoneH_any F3 L3 R3 w
 have h3:=fun w=>below_any (F1,L1,R1) (F3,L3,R3) w u1 u3
 unfold BelW cvV at h3
 dsimp only at h3
 generalize noneB (F1,L1,R1)=b1 at h1 ⊢
 generalize noneB (F3,L3,R3)=b2 at h2 ⊢
 generalize decide (BelowP (F1,L1,R1) (F3,L3,R3))=b3 at h3 ⊢
 have H:=Lib.hid (BxAt.new w 32 #[.int .i64 id,.int .i64 pa,.bool lf,.int .u64 F1,.int .u64 L1,.int .u64 R1,.int .u64 F2,.int .u64 L2,.int .u64 R2,.int .u64 F3,.int .u64 L3,.int .u64 R3,.int .i64 pk,.int .i64 by_])
 have k0:=H.out.1.cell 0;have k1:=H.out.1.cell 1;have k2:=H.out.1.cell 2;have k3:=H.out.1.cell 3;have k4:=H.out.1.cell 4;have k5:=H.out.1.cell 5;have k6:=H.out.1.cell 6;have k7:=H.out.1.cell 7;have k8:=H.out.1.cell 8;have k9:=H.out.1.cell 9;have k10:=H.out.1.cell 10;have k11:=H.out.1.cell 11;have k12:=H.out.1.cell 12;have k13:=H.out.1.cell 13;simp only [lTA,lCZ,lCS] at k0 k1 k2 k3 k4 k5 k6 k7 k8 k9 k10 k11 k12 k13
 cases b1 <;> cases b2 <;> cases b3
 all_goals
  go_enter Tryz.func161,Tryz.ntmps161
  go_wp2_with (first | (go_at_call 81;(with_reducible refine (h1 _).mono ?_);rintro e W1 ⟨rfl,hb⟩;have H2:=Lib.hid (BxAt.step H.out hb);clear H hb;clear k0 k1 k2 k3 k4 k5 k6 k7 k8 k9 k10 k11 k12 k13;have H:=Lib.hid H2.out;clear H2;have k0:=H.out.1.cell 0;have k1:=H.out.1.cell 1;have k2:=H.out.1.cell 2;have k3:=H.out.1.cell 3;have k4:=H.out.1.cell 4;have k5:=H.out.1.cell 5;have k6:=H.out.1.cell 6;have k7:=H.out.1.cell 7;have k8:=H.out.1.cell 8;have k9:=H.out.1.cell 9;have k10:=H.out.1.cell 10;have k11:=H.out.1.cell 11;have k12:=H.out.1.cell 12;have k13:=H.out.1.cell 13;simp only [lTA,lCZ,lCS] at k0 k1 k2 k3 k4 k5 k6 k7 k8 k9 k10 k11 k12 k13) | (go_at_call 81;(with_reducible refine (h2 _).mono ?_);rintro e W1 ⟨rfl,hb⟩;have H2:=Lib.hid (BxAt.step H.out hb);clear H hb;clear k0 k1 k2 k3 k4 k5 k6 k7 k8 k9 k10 k11 k12 k13;have H:=Lib.hid H2.out;clear H2;have k0:=H.out.1.cell 0;have k1:=H.out.1.cell 1;have k2:=H.out.1.cell 2;have k3:=H.out.1.cell 3;have k4:=H.out.1.cell 4;have k5:=H.out.1.cell 5;have k6:=H.out.1.cell 6;have k7:=H.out.1.cell 7;have k8:=H.out.1.cell 8;have k9:=H.out.1.cell 9;have k10:=H.out.1.cell 10;have k11:=H.out.1.cell 11;have k12:=H.out.1.cell 12;have k13:=H.out.1.cell 13;simp only [lTA,lCZ,lCS] at k0 k1 k2 k3 k4 k5 k6 k7 k8 k9 k10 k11 k12 k13) | (go_at_call 183;(with_reducible refine (h3 _).mono ?_);rintro e W1 ⟨rfl,hb⟩;have H2:=Lib.hid (BxAt.step H.out hb);clear H hb;clear k0 k1 k2 k3 k4 k5 k6 k7 k8 k9 k10 k11 k12 k13;have H:=Lib.hid H2.out;clear H2;have k0:=H.out.1.cell 0;have k1:=H.out.1.cell 1;have k2:=H.out.1.cell 2;have k3:=H.out.1.cell 3;have k4:=H.out.1.cell 4;have k5:=H.out.1.cell 5;have k6:=H.out.1.cell 6;have k7:=H.out.1.cell 7;have k8:=H.out.1.cell 8;have k9:=H.out.1.cell 9;have k10:=H.out.1.cell 10;have k11:=H.out.1.cell 11;have k12:=H.out.1.cell 12;have k13:=H.out.1.cell 13;simp only [lTA,lCZ,lCS] at k0 k1 k2 k3 k4 k5 k6 k7 k8 k9 k10 k11 k12 k13))
  go_ret
  exact⟨rfl,H.out.2⟩
end
section
open Go.RowKit
abbrev Cl:=Sp × Int
abbrev Mp:=List (Int × Cl)
def kids (M:Mp)(k:Int):List Int:=(M.filter fun q=>decide (q.2.1.pa=k)).map (·.1)
def depthM (M:Mp)(pa:Int):Int:=if pa=0 then 1 else match lookM M pa with
 | some c=>if c.1.lf=true∨8≤c.2 then 0 else c.2+1
 | none=>0
def withC (c s:Sp):Sp:={ c with r:=s.r,s:=s.s,u:=s.u }
noncomputable def addM (M:Mp)(s:Sp):Int × Mp:=if mayS s=false then (130,M) else if 64≤M.length then (4,M) else if (lookM M s.id).isSome=true then (80,M) else if depthM M s.pa=0 then (160,M) else (0,putM M s.id (s,depthM M s.pa))
noncomputable def changeM (M:Mp)(s:Sp):Int × Mp:=match lookM M s.id with
 | none=>(81,M)
 | some c=>if mayS (withC c.1 s)=false then (130,M) else (0,putM M s.id (withC c.1 s,c.2))
def dropM (M:Mp)(id:Int):Int × Mp:=match lookM M id with
 | none=>(81,M)
 | some c=>if kids M id=[] then (0,delM M id) else (161,M)
structure OkCl (M:Mp)(k:Int)(c:Cl):Prop where
 id:c.1.id=k
 wf:WfSp c.1
 may:mayS c.1=true
 d1:1≤c.2
 d8:c.2≤8
 up:c.1.pa=0∧c.2=1∨∃ p,lookM M c.1.pa=some p∧p.1.lf=false∧c.2=p.2+1
structure InvT (M:Mp):Prop where
 rise:Rising M
 few:M.length≤64
 ok:∀ k c,lookM M k=some c→OkCl M k c
theorem may_named {s:Sp} (h:mayS s=true):1≤s.id∧s.id≤65535∧0≤s.pa∧s.pa≤65535∧s.id≠s.pa:=by
 unfold mayS namedB inB at h
 simp only [Bool.and_eq_true,decide_eq_true_eq,bne_iff_ne] at h
 exact⟨h.1.1.1.1.1.1.1,h.1.1.1.1.1.1.2,h.1.1.1.1.1.2.1,h.1.1.1.1.1.2.2,h.1.1.1.1.2⟩
theorem InvT.pos {M:Mp} (h:InvT M) {k:Int} {c:Cl} (hk:lookM M k=some c):1≤k∧k≤65535:=by
 have o:=h.ok k c hk
 have:=may_named o.may
 have:=o.id
 omega
theorem InvT.zero {M:Mp} (h:InvT M):lookM M 0=none:=by
 cases e:lookM M 0 with
 | none=>rfl
 | some c=>have:=(h.pos e).1;omega
theorem look_of_mem {α:Type}:∀ {M:List (Int × α)} {k:Int} {c:α},Rising M→(k,c)∈M→lookM M k=some c
 | [],k,c,_,h=>by simp at h
 | p :: r,k,c,hr,h=>by
  have h1:=(List.pairwise_cons.1 hr).1
  rcases List.mem_cons.1 h with rfl | h
  ·simp [lookM]
  ·have:=h1 _ h
   dsimp only at this
   unfold lookM
   rw [if_neg (by omega)]
   exact look_of_mem (List.pairwise_cons.1 hr).2 h
theorem mem_of_look {α:Type}:∀ {M:List (Int × α)} {k:Int} {c:α},lookM M k=some c→(k,c)∈M
 | [],k,c,h=>by cases h
 | p :: r,k,c,h=>by
  unfold lookM at h
  split at h
  ·rename_i e
   cases h
   subst e
   exact .head _
  ·exact .tail _ (mem_of_look h)
theorem mem_kids {M:Mp} (hr:Rising M) {k x:Int}:x∈kids M k↔∃ c,lookM M x=some c∧c.1.pa=k:=by
 unfold kids
 rw [List.mem_map]
 constructor
 ·rintro ⟨⟨y,c⟩,hm,rfl⟩
  rw [List.mem_filter] at hm
  exact⟨c,look_of_mem hr hm.1,by simpa using hm.2⟩
 ·rintro ⟨c,hl,rfl⟩
  exact⟨(x,c),List.mem_filter.2 ⟨mem_of_look hl,by simp⟩,rfl⟩
theorem kids_rising {M : Mp} (hr : Rising M) (k : Int) : (kids M k).Pairwise (· < ·) := by
  unfold kids
  exact List.pairwise_map.2 (List.Pairwise.filter _ hr)
theorem kids_len (M:Mp)(k:Int):(kids M k).length≤M.length:=by unfold kids;rw [List.length_map];exact List.length_filter_le _ _
theorem kids_cons (q:Int × Cl)(M:Mp)(k:Int):kids (q :: M) k=if q.2.1.pa=k then q.1 :: kids M k else kids M k:=by
 unfold kids
 by_cases h:q.2.1.pa=k
 ·rw [List.filter_cons_of_pos (by simpa using h),if_pos h];rfl
 ·rw [List.filter_cons_of_neg (by simpa using h),if_neg h]
theorem count_none {l : List Int} {x : Int} (h : ∀ y ∈ l, x < y) : l.countP (· < x) = 0 := by
  rw [List.countP_eq_zero]
  intro y hy
  have := h y hy
  simp
  omega
theorem kids_ins {id : Int} {c : Cl} : ∀ {M : Mp}, Rising M → lookM M id = none →
    kids (putM M id c) c.1.pa = (kids M c.1.pa).take ((kids M c.1.pa).countP (· < id)) ++ [id] ++ (kids M c.1.pa).drop ((kids M c.1.pa).countP (· < id))
  | [], _, _ => by simp [putM, kids]
  | p :: r, hr, hn => by
    have h1 := (List.pairwise_cons.1 hr).1
    have hp : p.1 ≠ id := look_none.1 hn p (.head _)
    have hnr : lookM r id = none := look_none.2 fun q hq => look_none.1 hn q (.tail _ hq)
    have ih := kids_ins (c := c) (List.pairwise_cons.1 hr).2 hnr
    unfold putM
    by_cases hlt : id < p.1
    · rw [if_pos hlt]
      have h0 : (kids (p :: r) c.1.pa).countP (· < id) = 0 := count_none fun y hy => by
        obtain ⟨c', hl, _⟩ := (mem_kids hr).1 hy
        rcases List.mem_cons.1 (mem_of_look hl) with e | hm
        · have : y = p.1 := by rw [← e]
          omega
        · have := h1 _ hm
          dsimp only at this
          omega
      rw [h0, kids_cons, if_pos rfl]
      simp
    · rw [if_neg hlt, if_neg hp, kids_cons, kids_cons]
      by_cases hk : p.2.1.pa = c.1.pa
      · rw [if_pos hk, if_pos hk, ih, List.countP_cons_of_pos (by simp; omega)]
        simp
      · rw [if_neg hk, if_neg hk, ih]
theorem kids_put_other {id k:Int} {c:Cl} (hk:c.1.pa≠k):∀ {M:Mp},lookM M id=none→kids (putM M id c) k=kids M k
 | [],_=>by simp [putM,kids,hk]
 | p :: r,hn=>by
  have hp:p.1≠id:=look_none.1 hn p (.head _)
  have hnr:lookM r id=none:=look_none.2 fun q hq=>look_none.1 hn q (.tail _ hq)
  unfold putM
  by_cases hlt:id < p.1
  ·rw [if_pos hlt,kids_cons,if_neg hk]
  ·rw [if_neg hlt,if_neg hp,kids_cons,kids_cons,kids_put_other hk hnr]
theorem kids_put_same {id k:Int} {c c0:Cl} (hpa:c.1.pa=c0.1.pa):∀ {M:Mp},Rising M→lookM M id=some c0→kids (putM M id c) k=kids M k
 | [],_,h=>by cases h
 | p :: r,hr,hl=>by
  have h1:=(List.pairwise_cons.1 hr).1
  unfold lookM at hl
  unfold putM
  by_cases hp:p.1=id
  ·rw [if_pos hp] at hl
   cases hl
   rw [if_neg (by omega),if_pos hp,kids_cons,kids_cons]
   simp only [hpa,hp]
  ·rw [if_neg hp] at hl
   have:=h1 _ (mem_of_look hl)
   dsimp only at this
   rw [if_neg (by omega),if_neg hp,kids_cons,kids_cons,kids_put_same hpa (List.pairwise_cons.1 hr).2 hl]
theorem kids_del (M:Mp)(id k:Int):kids (delM M id) k=(kids M k).filter fun x=>!decide (x=id):=by
 unfold kids delM
 rw [List.filter_map,List.filter_filter,List.filter_filter]
 congr 1
 refine List.filter_congr fun q _=>?_
 simp [Bool.and_comm]
theorem put_len_same {α:Type} {id:Int} {c c0:α}:∀ {M:List (Int × α)},Rising M→lookM M id=some c0→(putM M id c).length=M.length
 | [],_,h=>by cases h
 | p :: r,hr,hl=>by
  have h1:=(List.pairwise_cons.1 hr).1
  unfold lookM at hl
  unfold putM
  by_cases hp:p.1=id
  ·rw [if_neg (by omega),if_pos hp];rfl
  ·rw [if_neg hp] at hl
   have:=h1 _ (mem_of_look hl)
   dsimp only at this
   rw [if_neg (by omega),if_neg hp,List.length_cons,put_len_same (List.pairwise_cons.1 hr).2 hl,List.length_cons]
theorem put_len_newH {α:Type} {k:Int} {v:α}:∀ {M:List (Int × α)},lookM M k=none→(putM M k v).length=M.length+1
 | [],_=>rfl
 | p :: r,hn=>by
  have hp:p.1≠k:=look_none.1 hn p (.head _)
  have hnr:lookM r k=none:=look_none.2 fun q hq=>look_none.1 hn q (.tail _ hq)
  unfold putM
  by_cases hlt:k < p.1
  ·rw [if_pos hlt];simp
  ·rw [if_neg hlt,if_neg hp,List.length_cons,put_len_newH hnr,List.length_cons]
theorem withC_lf (c s:Sp):(withC c s).lf=c.lf:=rfl
theorem inv_nil:InvT []:=⟨by simp [Rising],by simp,fun k c h=>by cases h⟩
theorem InvT.add {M:Mp} (h:InvT M) {s:Sp} (hw:WfSp s):InvT (addM M s).2:=by
 unfold addM
 by_cases h1:mayS s=false
 ·rw [if_pos h1];exact h
 ·rw [if_neg h1]
  by_cases h2:64≤M.length
  ·rw [if_pos h2];exact h
  ·rw [if_neg h2]
   by_cases h3:(lookM M s.id).isSome=true
   ·rw [if_pos h3];exact h
   ·rw [if_neg h3]
    by_cases h4:depthM M s.pa=0
    ·rw [if_pos h4];exact h
    ·rw [if_neg h4]
     have hn:lookM M s.id=none:=by simpa using h3
     have hm:mayS s=true:=by simpa using h1
     have hd:1≤depthM M s.pa∧depthM M s.pa≤8∧(s.pa=0∧depthM M s.pa=1∨∃ p,lookM M s.pa=some p∧p.1.lf=false∧depthM M s.pa=p.2+1):=by
      unfold depthM at h4 ⊢
      by_cases h5:s.pa=0
      ·simp only [h5,if_true];exact⟨by omega,by omega,.inl ⟨trivial,trivial⟩⟩
      ·rw [if_neg h5] at h4 ⊢
       cases e:lookM M s.pa with
       | none=>rw [e] at h4;simp at h4
       | some p =>
        rw [e] at h4
        simp only at h4 ⊢
        by_cases h6:p.1.lf=true∨8≤p.2
        ·rw [if_pos h6] at h4;exact absurd rfl h4
        ·rw [if_neg h6]
         have:=(h.ok _ _ e).d1
         exact⟨by omega,by omega,.inr ⟨p,rfl,by
          cases hh:p.1.lf
          ·rfl
          ·exact absurd (.inl hh) h6,rfl⟩⟩
     refine⟨rising_put _ _ h.rise,by rw [put_len_newH hn];omega,fun k c hk=>?_⟩
     by_cases e:k=s.id
     ·subst e
      rw [look_put_same] at hk
      cases hk
      refine⟨rfl,hw,hm,hd.1,hd.2.1,?_⟩
      rcases hd.2.2 with hd | ⟨p,hp,hl,hd⟩
      ·exact .inl hd
      ·refine .inr ⟨p,?_,hl,hd⟩
       have hne:s.pa≠s.id:=by intro e;rw [e,hn] at hp;cases hp
       show lookM (putM M s.id _) s.pa=some p
       rw [look_put_other _ hne];exact hp
     ·dsimp only at hk ⊢
      rw [look_put_other _ e] at hk
      have o:=h.ok k c hk
      refine⟨o.id,o.wf,o.may,o.d1,o.d8,?_⟩
      rcases o.up with hu | ⟨p,hp,hl,hd'⟩
      ·exact .inl hu
      ·refine .inr ⟨p,?_,hl,hd'⟩
       have hne:c.1.pa≠s.id:=by intro e;rw [e,hn] at hp;cases hp
       rw [look_put_other _ hne];exact hp
theorem InvT.change {M:Mp} (h:InvT M) {s:Sp} (hw:WfSp s):InvT (changeM M s).2:=by
 unfold changeM
 cases e:lookM M s.id with
 | none=>exact h
 | some c =>
  dsimp only
  by_cases h1:mayS (withC c.1 s)=false
  ·rw [if_pos h1];exact h
  ·rw [if_neg h1]
   have hm:mayS (withC c.1 s)=true:=by simpa using h1
   have o:=h.ok _ _ e
   refine⟨rising_put _ _ h.rise,by rw [put_len_same h.rise e];exact h.few,fun k c' hk=>?_⟩
   have hup:∀ (c1:Sp) (d1:Int),(c1.pa=0∧d1=1∨∃ p,lookM M c1.pa=some p∧p.1.lf=false∧d1=p.2+1)→(c1.pa=0∧d1=1∨∃ p,lookM (putM M s.id (withC c.1 s,c.2)) c1.pa=some p∧p.1.lf=false∧d1=p.2+1):=by
    rintro c1 d1 (hu | ⟨p,hp,hl,hd⟩)
    ·exact .inl hu
    ·right
     by_cases e2:c1.pa=s.id
     ·rw [e2,e] at hp
      cases hp
      exact⟨(withC c.1 s,c.2),by rw [e2,look_put_same],hl,hd⟩
     ·exact⟨p,by rw [look_put_other _ e2];exact hp,hl,hd⟩
   by_cases e3:k=s.id
   ·subst e3
    dsimp only at hk
    rw [look_put_same] at hk
    cases hk
    exact⟨o.id,⟨o.wf.1,hw.2⟩,hm,o.d1,o.d8,hup _ _ o.up⟩
   ·dsimp only at hk
    rw [look_put_other _ e3] at hk
    have o':=h.ok k c' hk
    exact⟨o'.id,o'.wf,o'.may,o'.d1,o'.d8,hup _ _ o'.up⟩
theorem InvT.drop {M:Mp} (h:InvT M)(id:Int):InvT (dropM M id).2:=by
 unfold dropM
 cases e:lookM M id with
 | none=>exact h
 | some c =>
  dsimp only
  by_cases h1:kids M id=[]
  ·rw [if_pos h1]
   refine⟨rising_del h.rise id,Nat.le_trans (del_length id M) h.few,fun k c' hk=>?_⟩
   dsimp only at hk ⊢
   have hne:k≠id:=by rintro rfl;rw [look_del_same] at hk;cases hk
   rw [look_del_other hne] at hk
   have o:=h.ok k c' hk
   refine⟨o.id,o.wf,o.may,o.d1,o.d8,?_⟩
   rcases o.up with hu | ⟨p,hp,hl,hd⟩
   ·exact .inl hu
   ·refine .inr ⟨p,?_,hl,hd⟩
    have hne2:c'.1.pa≠id:=by
     intro e2
     have:k∈kids M id:=(mem_kids h.rise).2 ⟨c',hk,e2⟩
     rw [h1] at this
     simp at this
    rw [look_del_other hne2];exact hp
  ·rw [if_neg h1];exact h
def pathF (M:Mp):Nat→Int→List Int
 | 0,_=>[]
 | n+1,id=>match lookM M id with
  | none=>[]
  | some c=>id :: pathF M n c.1.pa
theorem pathF_none {M:Mp} {id:Int} (h:lookM M id=none):∀ n,pathF M n id=[]
 | 0=>rfl
 | n+1=>by unfold pathF;rw [h]
theorem pathF_some {M:Mp} {id:Int} {c:Cl} (h:lookM M id=some c)(n:Nat):pathF M (n+1) id=id :: pathF M n c.1.pa:=by
 conv=>lhs;unfold pathF
 rw [h]
theorem InvT.pathF_len {M:Mp} (h:InvT M):∀ (n:Nat) {id:Int} {c:Cl},lookM M id=some c→c.2≤n→((pathF M n id).length:Int)=c.2
 | 0,id,c,hk,hn=>by have:=(h.ok _ _ hk).d1;omega
 | n+1,id,c,hk,hn=>by
  rw [pathF_some hk,List.length_cons]
  rcases (h.ok _ _ hk).up with ⟨h0,h1⟩ | ⟨p,hp,hl,hd⟩
  ·rw [h0,pathF_none h.zero];simp;omega
  ·have:=h.pathF_len n hp (by omega)
   omega
theorem InvT.pathF_more {M:Mp} (h:InvT M):∀ (n m:Nat) {id:Int},(∀ c,lookM M id=some c→c.2≤n∧c.2≤m)→pathF M n id=pathF M m id
 | n,m,id,hc=>by
  cases e:lookM M id with
  | none=>rw [pathF_none e,pathF_none e]
  | some c =>
   have hb:=hc c e
   have h1:=(h.ok _ _ e).d1
   obtain⟨n',rfl⟩:∃ n',n=n'+1:=⟨n - 1,by omega⟩
   obtain⟨m',rfl⟩:∃ m',m=m'+1:=⟨m - 1,by omega⟩
   rw [pathF_some e,pathF_some e,h.pathF_more n' m' (fun c' hc'=>by
    rcases (h.ok _ _ e).up with ⟨h0,_⟩ | ⟨p,hp,hl,hd⟩
    ·rw [h0,h.zero] at hc';cases hc'
    ·rw [hp] at hc';cases hc';omega)]
def pathM (M:Mp)(id:Int):List Int:=pathF M 8 id
theorem InvT.leaf {M:Mp} (h:InvT M) {k:Int} {c:Cl} (hk:lookM M k=some c)(hl:c.1.lf=true):kids M k=[]:=by
 cases e:kids M k with
 | nil=>rfl
 | cons x l =>
  obtain⟨c',h1,h2⟩:=(mem_kids h.rise).1 (by rw [e];exact .head _:x∈kids M k)
  rcases (h.ok _ _ h1).up with ⟨h0,_⟩ | ⟨p,hp,hpl,_⟩
  ·have:=(h.pos hk).1
   omega
  ·rw [h2,hk] at hp
   cases hp
   rw [hl] at hpl
   cases hpl
end
end Go.Proofs.YtmmeopjemkjllaaGreat
