/-
  The document's answer for layer 4: what curves have together; are they late.
-/
import Derived.Test.YthmhboagbeibdaaGreatR4Wide
import Derived.Test.YthmhboagbeibdaaGreatRegL
import Derived.Test.YthmhboagbeibdaaGreatCvApp
namespace Go.Proofs.YthmhboagbeibdaaGreat
set_option linter.unusedVariables false
open Go.RowKit
attribute [local go_sem ↓] Go.wp_at_zero Go.wp_at_succ
attribute [local go_sem] quietR quietAtR quietUponR midAt midUpon
attribute [local irreducible] TStep

/-- the answer's place, the sum so far -/
structure R4At (w W : World) (s : Int) : Prop where
  res : Blk W w.heap.size 97 #[.int .u64 0, .int .u64 0]
  sum : Blk W (w.heap.size + 1) 97 #[.int .u64 (hiW s), .int .u64 (loW s)]
  kept : Below w.heap.size w W
theorem R4At.below {w W W' : World} {s : Int} (h : R4At w W s) (hb : Below W.heap.size W W') : R4At w W' s :=
  ⟨h.res.below hb h.res.lt, h.sum.below hb h.sum.lt, h.kept.trans (hb.mono h.kept.size)⟩
theorem R4At.set {w W : World} {s s' : Int} (h : R4At w W s) : R4At w ((W.setCell ⟨w.heap.size + 1, 0, none⟩ (.int .u64 (hiW s'))).setCell ⟨w.heap.size + 1, 1, none⟩ (.int .u64 (loW s'))) s' :=
  ⟨(h.res.far (by simp) _).far (by simp) _, by simpa using (h.sum.set_ 0 (.int .u64 (hiW s'))).set_ 1 (.int .u64 (loW s')), (h.kept.setCell (by simp) _).setCell (by simp) _⟩

theorem vS_snoc {l : List Cv} {k : Nat} {c : Cv} (hc : l[k]? = some c) (t : Int) : vS (l.take (k + 1)) t = vS (l.take k) t + (if okC c then vC c t else 0) := by
  rw [List.take_add_one, hc, Option.toList_some, vS_append]
  simp [vS]

set_option maxRecDepth 100000 in
set_option maxHeartbeats 4000000 in
theorem r4at_any (v : Value) (l : List Cv) (t : Int) (w : World) (h : CvAt w v l) (ht : U t) :
    Calls Tryz.prog 70 #[v, .int .u64 t] w fun e w' => e = .returned (wv (vS l t)) ∧ Below w.heap.size w w' := by
  obtain ⟨a, cap, rfl⟩ : ∃ a cap, v = .slice a l.length cap := by obtain ⟨_, _, a, cap, e, _⟩ := h; exact ⟨a, cap, e⟩
  have hlen := h.2.1
  have hbd := fun k => vS_bd (l := l.take k) (t := t) (fun c hc => h.1.nn c (List.mem_of_mem_take hc)) ht.1 ht.2
  have h0 : R4At w ((w.alloc (.cells #[.int .u64 0, .int .u64 0] 97)).alloc (.cells #[.int .u64 0, .int .u64 0] 97)) (vS (l.take 0) t) := by
    refine ⟨(Blk.new w _ _).alloc _, ?_, ((Below.refl w.heap.size w).alloc (Nat.le_refl _) _).alloc (by simp) _⟩
    have := Blk.new (w.alloc (.cells #[.int .u64 0, .int .u64 0] 97)) 97 #[.int .u64 0, .int .u64 0]
    rw [World.size_alloc] at this
    exact this
  have H := Lib.hid h; have HT := Lib.hid ht; have HB := Lib.hid hbd; have H0 := Lib.hid h0
  clear h ht hbd h0
  go_enter Tryz.func70, Tryz.ntmps70
  go_wp2_with fail
  go_loopw [6] (fun vi W => ∃ k : Nat, vi = .int .i64 k ∧ k ≤ l.length ∧ R4At w W (vS (l.take k) t)) (fun vi _ => (l.length - Go.RowKit.intOf vi).toNat)
  case atStart => exact ⟨0, rfl, by omega, H0.out⟩
  case round =>
    obtain ⟨k, rfl, hk, hR⟩ := hrel
    by_cases hlt : k < l.length
    · obtain ⟨c, hc⟩ : ∃ c, l[k]? = some c := ⟨_, List.getElem?_eq_getElem hlt⟩
      obtain ⟨hu, _, a', cap', e', h1 | ⟨b, off, e2, hbl, _, hcells⟩⟩ := H.out.later hR.kept
      · rw [h1] at hlt; simp at hlt
      · simp only [Value.slice.injEq, true_and] at e'
        obtain ⟨rfl, rfl⟩ := e'
        subst e2
        obtain ⟨c0, c1, c2⟩ := hcells k c hc
        have hcu := hu c (List.mem_of_getElem? hc)
        have hS := vS_snoc hc t
        have hb1 := HB.out k; have hb2 := HB.out (k + 1)
        obtain ⟨F, L, R⟩ := c
        dsimp only at c0 c1 c2 hcu
        have hmay := rmay_any F L R wr hcu.2.1.1
        rw [show mayB F L R = okC (F, L, R) from rfl] at hmay
        have HR := Lib.hid hR; have HS := Lib.hid hS; have HC := Lib.hid hcells; have HBL := Lib.hid hbl
        cases ho : okC (F, L, R)
        · rw [ho] at hmay
          clear hcells hu hbl hc hcu hS hb1 hb2 hR
          go_wp2_with fail
          refine hmay.mono ?_
          clear hmay
          rintro e w1 ⟨rfl, hb1⟩
          have HR1 := Lib.hid (HR.out.below hb1)
          clear hb1 c0 c1 c2
          go_wp2_with fail
          go_roundw
          case measure => (simp [Go.RowKit.intOf]; try omega)
          case rel => exact ⟨k + 1, by go_num, by omega, by rw [HS.out, ho]; simpa using HR1.out⟩
        · rw [ho] at hmay
          have hM := mayB_spec hcu.1.1 hcu.2.1.1 hcu.2.2.1 (show mayB F L R = true from ho)
          have hv := vC_bd (c := (F, L, R)) ho hcu.1.1 hcu.2.1.1 hcu.2.2.1 HT.out.1 HT.out.2
          rw [ho, if_pos rfl] at hS
          have hW : W F L R t = vC (F, L, R) t := rfl
          have hll : ((l.take k).length : Int) ≤ 1000000 := by rw [List.length_take]; omega
          have hwide := fun W => ref_wide F L R t W hM HT.out
          rw [hW] at hwide
          obtain ⟨s, hs⟩ : ∃ s, vS (l.take k) t = s := ⟨_, rfl⟩
          obtain ⟨x, hx⟩ : ∃ x, vC (F, L, R) t = x := ⟨_, rfl⟩
          rw [hs] at hS hb1
          rw [hx] at hS hv hwide
          have hplus := fun W => ref_plus s x W hb1.1 hv.1 (by omega)
          have HRs := HR.out
          rw [hs] at HRs
          have HW := Lib.hid hwide; have HP := Lib.hid hplus; have HS2 := Lib.hid hS; have HR := Lib.hid HRs
          clear hu hcu hb1 hb2 hR hM hv hW hwide hplus hS hs hx HRs hcells hc hll hbl HS
          go_wp2_with fail
          refine hmay.mono ?_
          clear hmay
          rintro e w1 ⟨rfl, hb1⟩
          have d0 := (hb1.cell (p := ⟨b, off + k * 3, none⟩) HBL.out).trans c0
          have d1 := (hb1.cell (p := ⟨b, off + k * 3 + 1, none⟩) HBL.out).trans c1
          have d2 := (hb1.cell (p := ⟨b, off + k * 3 + 2, none⟩) HBL.out).trans c2
          have hbl1 : b < w1.heap.size := Nat.lt_of_lt_of_le HBL.out hb1.size
          have hR1 := HR.out.below hb1
          have o0 := fun e => (over_cell (e := e) (w := w1) hbl1).trans d0
          have o1 := fun e => (over_cell (e := e) (w := w1) hbl1).trans d1
          have o2 := fun e => (over_cell (e := e) (w := w1) hbl1).trans d2
          have p0 := fun e => (over_cell (e := e) (o := 0) hR1.sum.lt).trans (hR1.sum.cell 0)
          have p1 := fun e => (over_cell (e := e) (o := 1) hR1.sum.lt).trans (hR1.sum.cell 1)
          simp only [List.getElem?_toArray, List.getElem?_cons_zero, List.getElem?_cons_succ] at p0 p1
          have HR1 := Lib.hid hR1
          clear hb1 c0 c1 c2 d0 d1 d2 hbl1 hR1
          go_upto_region 6 with fail
          refine wp_region_late (w := w1) 11 1 10 [] [] [] rfl (by kernel_rfl) (by kernel_rfl) (by kernel_rfl) (by kernel_rfl) (fun _ _ _ _ _ h => h) trivial ?_
          intro LL hL
          have HL := Lib.hid hL
          clear hL
          simp only [List.take_succ_cons, List.take_zero, putL]
          iterate 11 (first | refine wpHead_skip (by decide) ?_ | (refine wpHead_step (by decide) (fun K hK => ?_); go_simp; first | (refine hK _ ?_; clear hK K) | (apply Exists.intro; refine ⟨fun e => ?_, hK _ ?_⟩; (focus (first | (go_at_call 90; with_reducible exact HW.out _) | (go_at_call 89; with_reducible exact HP.out _))); clear hK K)))
          refine wpHead_nil (HL.out _ trivial ?_)
          intro vs W4 hb4 _
          clear HL o0 o1 o2 p0 p1
          simp only [putHd, List.drop_succ_cons, List.drop_zero, List.take_succ_cons, List.take_zero]
          have hR4 := HR1.out.below hb4
          have s0 := hR4.sum.cell 0; have s1 := hR4.sum.cell 1; have f0 := hR4.sum.frozen 0; have f1 := hR4.sum.frozen 1
          have HR4 := Lib.hid hR4
          clear hb4 hR4
          go_wp2_with fail
          go_roundw
          case measure => (simp [Go.RowKit.intOf]; try omega)
          case rel => exact ⟨k + 1, by go_num, by omega, by rw [HS2.out]; exact HR4.out.set⟩
    · obtain rfl : k = l.length := by omega
      rw [List.take_length] at hR
      have q0 := hR.sum.cell 0; have q1 := hR.sum.cell 1; have r0 := hR.res.cell 0; have r1 := hR.res.cell 1; have f0 := hR.res.frozen 0; have f1 := hR.res.frozen 1
      have HR := Lib.hid hR
      clear hR
      go_wp2_with fail
      have hr2 := (HR.out.res.set_ 0 (.int .u64 (hiW (vS l t)))).set_ 1 (.int .u64 (loW (vS l t)))
      have y0 := hr2.cell 0; have y1 := hr2.cell 1
      simp at y0 y1
      refine bodyPost_ret (v := .agg #[.int .u64 (hiW (vS l t)), .int .u64 (loW (vS l t))]) (by simp [results, Tryz.results70, go_sem, y0, y1]) rfl ⟨rfl, (HR.out.kept.setCell (by simp) _).setCell (by simp) _⟩

theorem r4late_any (v : Value) (l : List Cv) (r t : Int) (w : World) (h : CvAt w v l) (hr : U r) (ht : U t) :
    Calls Tryz.prog 58 #[v, .int .u64 r, .int .u64 t] w fun e w' => e = .returned (.bool (decide (Lt l r t))) ∧ Below w.heap.size w w' := by
  have hb := vS_bd h.1.nn ht.1 ht.2
  have hl := h.2.1
  have hp0 := Int.mul_nonneg hr.1 ht.1
  have hp1 : r * t < 340282366920938463463374607431768211456 := by
    have := Int.mul_le_mul hr.2 ht.2 ht.1 (by decide)
    omega
  have hat := r4at_any v l t w h ht
  have hmul := fun W => ref_mul r t W hr ht
  have hcmp := fun W => ref_cmp (vS l t) (r * t) W hb.1 (by omega) hp0 hp1
  have hres : (decide (0 < cmpI (vS l t) (r * t))) = decide (Lt l r t) := by
    unfold Lt cmpI
    by_cases c : r * t < vS l t
    · rw [if_neg (by omega), if_neg (by omega)]; simp [c]
    · by_cases c2 : vS l t < r * t
      · rw [if_pos c2]; simp [c]
      · rw [if_neg c2, if_pos (by omega)]; simp [c]
  rw [← hres]
  unfold wv at hat hmul hcmp
  generalize cmpI (vS l t) (r * t) = z at hcmp ⊢
  generalize hiW (vS l t) = x0 at hat hcmp
  generalize loW (vS l t) = y0 at hat hcmp
  generalize hiW (r * t) = x1 at hmul hcmp
  generalize loW (r * t) = y1 at hmul hcmp
  have HM := Lib.hid hmul; have HC := Lib.hid hcmp
  clear hmul hcmp hres hb hp0 hp1 h
  go_enter Tryz.func58, Tryz.ntmps58
  go_wp2_with fail
  refine hat.mono ?_
  rintro e w1 ⟨rfl, hb1⟩
  have H1 := Lib.hid hb1
  clear hb1
  go_wp2_with fail
  refine (HM.out _).mono ?_
  rintro e w2 ⟨rfl, hb2⟩
  have H2 := Lib.hid (H1.out.trans (hb2.mono H1.out.size))
  clear hb2
  go_wp2_with fail
  refine (HC.out _).mono ?_
  rintro e w3 ⟨rfl, hb3⟩
  have H3 := Lib.hid (H2.out.trans (hb3.mono H2.out.size))
  clear hb3
  go_wp2_with fail
  go_ret
  exact ⟨rfl, H3.out⟩
end Go.Proofs.YthmhboagbeibdaaGreat
