/-
  The law: what is spare beside curves, and whether a curve is below another one, is what the document says.
-/
import Derived.Test.YtkeffkfjgblicaaR4Spare
import Derived.Test.YtkeffkfjgblicaaR4Below
namespace Go.Proofs.Ytkeffkfjgblicaa
set_option linter.unusedVariables false
open Go.RowKit
attribute [local go_sem ↓] Go.wp_at_zero Go.wp_at_succ
attribute [local go_sem] quietR quietAtR quietUponR midAt midUpon
attribute [local irreducible] TStep

/-- the answer's two parts -/
def SpareV (l : List Cv) (r n : Int) (b : Bool) : Prop := (b = true ∧ Keep l r ∧ IsSpare l r n) ∨ (b = false ∧ n = 0 ∧ ¬ Keep l r)
theorem SpareW.val {w w1 : World} {l : List Cv} {r : Int} {e : Ending} (h : SpareW w l r e w1) : ∃ (n : Int) (b : Bool), e = .returned (.tuple #[.int .u64 n, .bool b]) ∧ SpareV l r n b := by
  rcases h.1 with ⟨n, rfl, hK, hI⟩ | ⟨rfl, hK⟩
  · exact ⟨n, true, rfl, .inl ⟨rfl, hK, hI⟩⟩
  · exact ⟨0, false, rfl, .inr ⟨rfl, rfl, hK⟩⟩
theorem SpareV.unique {l : List Cv} {r n m : Int} {b c : Bool} (h : SpareV l r n b) (h' : SpareV l r m c) : n = m ∧ b = c := by
  rcases h with ⟨rfl, hK, hI⟩ | ⟨rfl, rfl, hK⟩ <;> rcases h' with ⟨rfl, hK', hI'⟩ | ⟨rfl, rfl, hK'⟩
  · exact ⟨hI.unique hI', rfl⟩
  · exact absurd hK hK'
  · exact absurd hK' hK
  · exact ⟨rfl, rfl⟩

set_option maxRecDepth 100000 in
set_option maxHeartbeats 4000000 in
theorem spare_walk (a0 : Option Addr) (len cap : Nat) (zs : List (List Value)) (r F L R G M S : Int) (w : World) (hz : IsRows [some .u64, some .u64, some .u64] w a0 len cap zs) (hr : U r) (ua : U F ∧ U L ∧ U R) (ub : U G ∧ U M ∧ U S) :
    Calls Try.prog 5 #[.slice a0 len cap, .int .u64 r, .agg #[.int .u64 F, .int .u64 L, .int .u64 R], .agg #[.int .u64 G, .int .u64 M, .int .u64 S]] w fun e w' => e = .returned (.bool true) ∧ Below w.heap.size w w' := by
  have hlm : len ≤ 9223372036854775807 := by have := hz.1; have := hz.2.1; unfold maxLen at this; omega
  by_cases h8 : len ≤ 8
  · obtain ⟨l, rfl, hcv⟩ := cvs_of hz (by omega)
    have hA := (Blk.new w 31 #[.int .u64 F, .int .u64 L, .int .u64 R]).alloc (.cells #[.int .u64 G, .int .u64 M, .int .u64 S] 31)
    have hB := Blk.new (w.alloc (.cells #[.int .u64 F, .int .u64 L, .int .u64 R] 31)) 31 #[.int .u64 G, .int .u64 M, .int .u64 S]
    rw [World.size_alloc] at hB
    have hb0 := ((Below.refl w.heap.size w).alloc (Nat.le_refl _) (.cells #[.int .u64 F, .int .u64 L, .int .u64 R] 31)).alloc (by simp) (.cells #[.int .u64 G, .int .u64 M, .int .u64 S] 31)
    have hcv0 := hcv.later hb0
    have H := Lib.hid hcv0; have HA := Lib.hid hA; have HB := Lib.hid hB; have HB0 := Lib.hid hb0
    have hsp := spare_any _ l r _ hcv0 hr (by omega)
    clear hcv hcv0 hz hlm hA hB hb0
    go_enter Try.func5, Try.ntmps5
    go_wp2_with fail
    refine hsp.mono ?_
    clear hsp
    rintro e w1 hs1
    obtain ⟨n, bb, rfl, hv⟩ := hs1.val
    have hsp2 := r4spare_any _ l r w1 (H.out.later hs1.2) hr (by omega)
    have HV := Lib.hid hv; have HS1 := Lib.hid hs1.2
    clear hs1 hv
    go_wp2_with fail
    refine hsp2.mono ?_
    clear hsp2
    rintro e w2 hs2
    obtain ⟨m, cc, rfl, hv⟩ := hs2.val
    obtain ⟨rfl, rfl⟩ := HV.out.unique hv
    have hb2 := HS1.out.trans (hs2.2.mono HS1.out.size)
    have hA2 := HA.out.below hb2 HA.out.lt
    have hB2 := HB.out.below hb2 HB.out.lt
    have l0 := hA2.lt; have l1 := hB2.lt
    have o0 := fun e => (over_cell (w := w2) (e := e) (o := 0) l0).trans (hA2.cell 0)
    have o1 := fun e => (over_cell (w := w2) (e := e) (o := 1) l0).trans (hA2.cell 1)
    have o2 := fun e => (over_cell (w := w2) (e := e) (o := 2) l0).trans (hA2.cell 2)
    have p0 := fun e => (over_cell (w := w2) (e := e) (o := 0) l1).trans (hB2.cell 0)
    have p1 := fun e => (over_cell (w := w2) (e := e) (o := 1) l1).trans (hB2.cell 1)
    have p2 := fun e => (over_cell (w := w2) (e := e) (o := 2) l1).trans (hB2.cell 2)
    simp only [List.getElem?_toArray, List.getElem?_cons_zero, List.getElem?_cons_succ] at o0 o1 o2 p0 p1 p2
    have hbm := fun W => below_any (F, L, R) (G, M, S) W ua ub
    have hbr := fun W => r4below_any (F, L, R) (G, M, S) W ua ub
    unfold BelW cvV at hbm hbr
    obtain ⟨kb, hkb⟩ : ∃ kb, decide (BelowP (F, L, R) (G, M, S)) = kb := ⟨_, rfl⟩
    rw [hkb] at hbm hbr
    dsimp only at hbm hbr
    have HBM := Lib.hid hbm; have HBR := Lib.hid hbr; have HB2 := Lib.hid (HB0.out.trans (hb2.mono HB0.out.size))
    clear hs2 hv HV HS1 hb2 hA2 hB2 l0 l1 hbm hbr hkb
    go_upto_region 5 with fail
    refine wp_region_mid (w := w2) 15 3 [] [] [] rfl (by kernel_rfl) (by kernel_rfl) (by kernel_rfl) (by kernel_rfl) (fun _ _ _ _ _ h => h) trivial ?_
    intro LL hL
    have HL := Lib.hid hL
    clear hL
    simp only [List.take_succ_cons, List.take_zero, putL]
    iterate 15 (first | refine wpHead_skip (by decide) ?_ | (refine wpHead_step (by decide) (fun K hK => ?_); go_simp; first | (refine hK _ ?_; clear hK K) | (apply Exists.intro; refine ⟨fun e => ?_, hK _ ?_⟩; (focus (first | (go_at_call 23; with_reducible exact HBM.out _) | (go_at_call 24; with_reducible exact HBR.out _))); clear hK K)))
    trace_state
    refine wpHead_nil (HL.out _ trivial ?_)
    intro vs W4 hb4 _
    clear HL o0 o1 o2 p0 p1 p2
    simp only [putHd, List.drop_succ_cons, List.drop_zero, List.take_succ_cons, List.take_zero]
    have HB4 := Lib.hid (HB2.out.trans (hb4.mono HB2.out.size))
    clear hb4
    go_wp2_with fail
    go_ret
    exact ⟨by simp, HB4.out⟩
  · clear hz
    go_enter Try.func5, Try.ntmps5
    have hgt : (8 : Int) < (len : Int) := by omega
    go_wp2_with fail
    go_ret
    exact ⟨rfl, ((Below.refl w.heap.size w).alloc (Nat.le_refl _) _).alloc (by simp) _⟩
end Go.Proofs.Ytkeffkfjgblicaa
