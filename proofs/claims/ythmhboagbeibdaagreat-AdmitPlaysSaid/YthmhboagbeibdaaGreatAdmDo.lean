/-
  The book of curves: New, Fits, Put.
-/
import Derived.Test.YthmhboagbeibdaaGreatAdmAsk
namespace Go.Proofs.YthmhboagbeibdaaGreat
set_option linter.unusedVariables false
open Go.RowKit Go.Maps Go.Sort
attribute [local go_sem ↓] Go.wp_at_zero Go.wp_at_succ
attribute [local go_sem] quietR quietAtR quietUponR midAt midUpon
attribute [local irreducible] TStep HStep

/-- what the question captured -/
structure Capt (W : World) (B g : Nat) (vf vm : Value) : Prop where
  b0 : Boxed W B 27 (.pointer (some ⟨g, 0, none⟩))
  b1 : Boxed W (B + 1) 60 vf
  b2 : Boxed W (B + 1 + 1) 45 vm
theorem Capt.later {W W' : World} {B g : Nat} {vf vm : Value} (h : Capt W B g vf vm) (hb : Below W.heap.size W W') : Capt W' B g vf vm :=
  ⟨(hb.block _ h.b0.lt).trans h.b0, (hb.block _ h.b1.lt).trans h.b1, (hb.block _ h.b2.lt).trans h.b2⟩
def FitterW (w : World) (g : Nat) (vf vm : Value) (e : Ending) (w' : World) : Prop :=
  ∃ B, e = .returned (.func (.func 38) #[] #[.pointer (some ⟨B, 0, none⟩), .pointer (some ⟨B + 1 + 1, 0, none⟩), .pointer (some ⟨B + 1, 0, none⟩)]) ∧ Capt w' B g vf vm ∧ Below w.heap.size w w'
theorem fitter_any (g f an cn : Nat) (cb : Array Value) (am : Option Addr) (w : World) :
    Calls Tryz.prog 19 #[.pointer (some ⟨g, 0, none⟩), .func (.func f) #[] cb, .slice am an cn] w (FitterW w g (.func (.func f) #[] cb) (.slice am an cn)) := by
  go_enter Tryz.func19, Tryz.ntmps19
  go_wp2_with fail
  go_ret
  refine ⟨w.heap.size, rfl, ⟨((Boxed.new w _ _).alloc _).alloc _, ?_, ?_⟩, (((Below.refl w.heap.size w).alloc (Nat.le_refl _) _).alloc (by simp) _).alloc (by simp; omega) _⟩
  · have h := (Boxed.new (w.alloc (.cells #[.pointer (some ⟨g, 0, none⟩)] 27)) 60 (.func (.func f) #[] cb)).alloc (.cells #[.slice am an cn] 45)
    rw [World.size_alloc] at h
    exact h
  · have h := Boxed.new ((w.alloc (.cells #[.pointer (some ⟨g, 0, none⟩)] 27)).alloc (.cells #[.func (.func f) #[] cb] 60)) 45 (.slice am an cn)
    rw [World.size_alloc, World.size_alloc] at h
    exact h

theorem nobody_any (id : Int) (w : World) : Calls Tryz.prog 20 (#[.int .i64 id] ++ #[]) w fun e w' => e = .returned (.bool false) ∧ Below w.heap.size w w' := by
  go_enter Tryz.func20, Tryz.ntmps20
  go_wp2_with fail
  go_ret
  exact ⟨rfl, Below.refl _ _⟩
theorem liveBut_none (L : List (Int × Cv)) : liveBut L (fun _ => false) = L.map (·.2) := by unfold liveBut; congr 1; exact List.filter_eq_self.2 (fun _ _ => rfl)

/-- asked with nobody left out, and nothing more -/
theorem asked_any (F0 L0 R0 : Int) (B g m : Nat) (r : Int) (L : List (Int × Cv)) (G : List Cv) (vg : Value) (w : World) (hc : U F0 ∧ U L0 ∧ U R0) (h : BkAt w g m r L G vg) (hc3 : Capt w B g (.func (.func 20) #[] #[]) (.slice none 0 0)) :
    Calls Tryz.prog 38 #[.agg #[.int .u64 F0, .int .u64 L0, .int .u64 R0], .pointer (some ⟨B, 0, none⟩), .pointer (some ⟨B + 1 + 1, 0, none⟩), .pointer (some ⟨B + 1, 0, none⟩)] w (AskW w (G ++ L.map (·.2)) (F0, L0, R0) r) := by
  have := fitask_any F0 L0 R0 B (B + 1 + 1) (B + 1) g m 20 r L G [] vg (.slice none 0 0) #[] (fun _ => false) w hc h hc3.b0 hc3.b2 hc3.b1 ⟨fun c hc => by simp at hc, by simp, none, 0, rfl, .inl rfl⟩ (by simp) (enters_of Tryz.func20 (by kernel_rfl) rfl) (fun W id _ => nobody_any id W)
  rw [liveBut_none, List.append_nil] at this
  exact this

/-- is a curve admitted? -/
noncomputable def fitsB (l : List Cv) (c : Cv) (r : Int) : Bool := okC c && askB l c r
def FitsW (w : World) (l : List Cv) (c : Cv) (r : Int) (e : Ending) (w' : World) : Prop := e = .returned (.bool (fitsB l c r)) ∧ Below w.heap.size w w'

set_option maxRecDepth 100000 in
set_option maxHeartbeats 4000000 in
theorem fits_any (F0 L0 R0 : Int) (g m : Nat) (r : Int) (L : List (Int × Cv)) (G : List Cv) (vg : Value) (w : World) (hc : U F0 ∧ U L0 ∧ U R0) (h : BkAt w g m r L G vg) :
    Calls Tryz.prog 34 #[.pointer (some ⟨g, 0, none⟩), .agg #[.int .u64 F0, .int .u64 L0, .int .u64 R0]] w (FitsW w (G ++ L.map (·.2)) (F0, L0, R0) r) := by
  have hmay := fun W => may_any F0 L0 R0 W hc.2.1.1
  rw [show mayB F0 L0 R0 = okC (F0, L0, R0) from rfl] at hmay
  have hb0 := (Below.refl w.heap.size w).alloc (Nat.le_refl _) (.cells #[.int .u64 F0, .int .u64 L0, .int .u64 R0] 25)
  have hB0 := Blk.new w 25 #[.int .u64 F0, .int .u64 L0, .int .u64 R0]
  have h0 := h.later hb0
  have hnone : ∀ W, Below (w.alloc (.cells #[.int .u64 F0, .int .u64 L0, .int .u64 R0] 25)).heap.size (w.alloc (.cells #[.int .u64 F0, .int .u64 L0, .int .u64 R0] 25)) W → Calls Tryz.prog 17 #[.pointer (some ⟨g, 0, none⟩)] W fun e w' => e = .returned (.bool false) ∧ Below W.heap.size W w' := fun W hW =>
    (bnone_no g r W ((h0.later hW).blk.cell 0) h.rate.1).mono fun e w' ⟨he, hw⟩ => ⟨he, by rw [hw]; exact Below.refl _ _⟩
  generalize hw0 : w.alloc (.cells #[.int .u64 F0, .int .u64 L0, .int .u64 R0] 25) = w0 at hb0 hB0 h0 hnone
  have HM := Lib.hid hmay; have HN := Lib.hid hnone; have H0 := Lib.hid h0; have HB := Lib.hid hb0
  have l0 := hB0.lt
  have o0 := fun e => (over_cell (w := w0) (e := e) (o := 0) l0).trans (hB0.cell 0)
  have o1 := fun e => (over_cell (w := w0) (e := e) (o := 1) l0).trans (hB0.cell 1)
  have o2 := fun e => (over_cell (w := w0) (e := e) (o := 2) l0).trans (hB0.cell 2)
  simp only [List.getElem?_toArray, List.getElem?_cons_zero, List.getElem?_cons_succ] at o0 o1 o2
  clear hmay hnone h0 hb0 hB0 h
  go_enter Tryz.func34, Tryz.ntmps34
  cases ok : okC (F0, L0, R0)
  · rw [ok] at HM
    go_upto_region 1 with fail
    clear hw0
    refine wp_region_mid (w := w0) 12 2 [] [] [] rfl (by kernel_rfl) (by kernel_rfl) (by kernel_rfl) (by kernel_rfl) (fun _ _ _ _ _ h => h) trivial ?_
    intro LL hL
    have HL := Lib.hid hL
    clear hL
    simp only [List.take_succ_cons, List.take_zero, putL]
    iterate 12 (first | refine wpHead_skip (by decide) ?_ | (refine wpHead_step (by decide) (fun K hK => ?_); go_simp; first | (refine hK _ ?_; clear hK K) | (apply Exists.intro; refine ⟨fun e => ?_, hK _ ?_⟩; (focus (first | (go_at_call 17; with_reducible exact HN.out _ (over_below _ _)) | (go_at_call 18; with_reducible exact HM.out _))); clear hK K)))
    refine wpHead_nil (HL.out _ trivial ?_)
    intro vs W4 hb4 _
    clear HL o0 o1 o2
    simp only [putHd, List.drop_succ_cons, List.drop_zero, List.take_succ_cons, List.take_zero]
    have HB4 := Lib.hid (HB.out.trans (hb4.mono HB.out.size))
    have HOK := Lib.hid ok
    clear hb4 ok
    go_wp2_with fail
    go_ret
    exact ⟨by unfold fitsB; rw [HOK.out]; rfl, HB4.out⟩
  · rw [ok] at HM
    go_upto_region 1 with fail
    clear hw0
    refine wp_region_midg (w := w0) 12 2 [9, 11] [] [(9, fun u W' => ∃ B, u = .func (.func 38) #[] #[.pointer (some ⟨B, 0, none⟩), .pointer (some ⟨B + 1 + 1, 0, none⟩), .pointer (some ⟨B + 1, 0, none⟩)] ∧ Capt W' B g (.func (.func 20) #[] #[]) (.slice none 0 0)), (11, fun u W' => u = .bool (askB (G ++ L.map (·.2)) (F0, L0, R0) r))] rfl (by kernel_rfl) (by kernel_rfl) (by kernel_rfl) (by kernel_rfl) (fun _ _ _ _ _ h => h) ⟨fun v W1 W2 ⟨b, h1, h2⟩ hb => ⟨b, h1, h2.later hb⟩, fun v W1 W2 h hb => h, trivial⟩ ?_
    intro LL hL
    have HL := Lib.hid hL
    clear hL
    simp only [List.take_succ_cons, List.take_zero, putL]
    iterate 12 (first | refine wpHead_skip (by decide) ?_ | (refine wpHead_step (by decide) (fun K hK => ?_); go_simp; first | (refine hK _ ?_; clear hK K) | (apply Exists.intro; refine ⟨fun e => ?_, hK _ ?_⟩; (focus (first | (go_at_call 17; with_reducible exact HN.out _ (over_below _ _)) | (go_at_call 18; with_reducible exact HM.out _))); clear hK K)))
    refine wpHead_nil (HL.out _ ⟨?_, ?_, trivial⟩ ?_)
    · intro vs W2 hb2 hf
      clear hf HL
      change TStep _ _ _ (Act.put (Act.put _ (some 14) (vs 9)) (some 16) (vs 11)) _ _
      refine tstep_yes (by kernel_rfl) ?_
      have hft := fitter_any g 20 0 0 #[] none W2
      have hft := hft.mono (R' := fun e w' => ∃ v, e = .returned v ∧ Below W2.heap.size W2 w' ∧ ∃ B, v = .func (.func 38) #[] #[.pointer (some ⟨B, 0, none⟩), .pointer (some ⟨B + 1 + 1, 0, none⟩), .pointer (some ⟨B + 1, 0, none⟩)] ∧ Capt w' B g (.func (.func 20) #[] #[]) (.slice none 0 0)) fun e w' ⟨B, he, h1, h2⟩ => ⟨_, he, h2, B, rfl, h1⟩
      go_simp
      try exact hft
    · intro vs W2 hb2 hf
      have hf := fits_cast (q := (∃ B, vs 9 = .func (.func 38) #[] #[.pointer (some ⟨B, 0, none⟩), .pointer (some ⟨B + 1 + 1, 0, none⟩), .pointer (some ⟨B + 1, 0, none⟩)] ∧ Capt W2 B g (.func (.func 20) #[] #[]) (.slice none 0 0)) ∧ True) hf (by kernel_rfl)
      clear HL
      refine Exists.elim hf.1 fun B hB => ?_
      change TStep _ _ _ (Act.put (Act.put _ (some 14) (vs 9)) (some 16) (vs 11)) _ _
      rw [hB.1]
      refine tstep_yes (by kernel_rfl) ?_
      have hak := asked_any F0 L0 R0 B g m r L G vg W2 hc (H0.out.later hb2) hB.2
      unfold AskW at hak
      go_simp
      try exact hak
    · intro vs W2 hb2 hf
      have hf := fits_cast (q := (∃ B, vs 9 = .func (.func 38) #[] #[.pointer (some ⟨B, 0, none⟩), .pointer (some ⟨B + 1 + 1, 0, none⟩), .pointer (some ⟨B + 1, 0, none⟩)] ∧ Capt W2 B g (.func (.func 20) #[] #[]) (.slice none 0 0)) ∧ (vs 11 = .bool (askB (G ++ L.map (·.2)) (F0, L0, R0) r)) ∧ True) hf (by kernel_rfl)
      clear HL
      change wpList _ _ _ _ (Act.put (Act.put _ (some 14) (vs 9)) (some 16) (vs 11)) _
      rw [hf.2.1]
      have HB4 := Lib.hid (HB.out.trans (hb2.mono HB.out.size))
      have HOK := Lib.hid ok
      clear hf hb2 o0 o1 o2 ok
      simp only [List.drop_succ_cons, List.drop_zero, List.take_succ_cons, List.take_zero]
      obtain ⟨kb, hkb⟩ : ∃ kb, askB (G ++ L.map (·.2)) (F0, L0, R0) r = kb := ⟨_, rfl⟩
      have HKB := Lib.hid hkb
      rw [hkb]
      clear hkb
      go_wp2_with fail
      go_ret
      exact ⟨by unfold fitsB; rw [HOK.out, HKB.out]; rfl, HB4.out⟩
end Go.Proofs.YthmhboagbeibdaaGreat
