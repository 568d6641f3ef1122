/-
  What a sagging run has: least, At.
-/
import Derived.Test.YtipiajnaechadaaSagMem
import Derived.Test.YtipiajnaechadaaSagNone
namespace Go.Proofs.Ytipiajnaechadaa
set_option linter.unusedVariables false
open Go.RowKit

/-- a sagging run in memory: n copies started, the last one at x, K are kept -/
def SagAt (w : World) (g : Nat) (F L R n x : Int) (K : List (Int × Int)) : Prop :=
  ∃ v, Blk w g 91 #[.int .u64 F, .int .u64 L, .int .u64 R, .bool true, .int .i64 n, .int .u64 x, v] ∧ RowK w (g + 1) v K

theorem SagAt.below {w w' : World} {g : Nat} {F L R n x : Int} {K : List (Int × Int)} (h : SagAt w g F L R n x K) (hb : Below w.heap.size w w') : SagAt w' g F L R n x K := by
  obtain ⟨v, h1, h2⟩ := h
  exact ⟨v, h1.below hb h1.lt, h2.below hb⟩

/-- where copies are kept the row's block is known -/
theorem RowK.open_ {w : World} {base : Nat} {v : Value} {K : List (Int × Int)} (h : RowK w base v K) (hK : K ≠ []) :
    ∃ b cap, v = .slice (some ⟨b, 0, none⟩) K.length cap ∧ base ≤ b ∧ b < w.heap.size ∧ K.length ≤ cap ∧
      ∀ j k, K[j]? = some k → w.cell? ⟨b, j * 2, none⟩ = some (.int .u64 k.1) ∧ w.cell? ⟨b, j * 2 + 1, none⟩ = some (.int .u64 k.2) := by
  have h' := h
  obtain ⟨hl, (⟨_, h0⟩ | ⟨b, cap, cur, hv, hb, hblk, hn, hc, hs, ht⟩)⟩ := h
  · exact absurd (List.length_eq_zero_iff.1 h0) hK
  · subst hv
    refine ⟨b, cap, rfl, hb, (Array.getElem?_eq_some_iff.1 hblk).1, hn, fun j k hj => ?_⟩
    have hjl : j < K.length := (List.getElem?_eq_some_iff.1 hj).1
    have h1 := h'.cellAt (j * 2) (by omega)
    have h2 := h'.cellAt (j * 2 + 1) (by omega)
    rw [cellsOf_x, hj] at h1
    rw [cellsOf_y, hj] at h2
    exact ⟨h1, h2⟩

theorem snone_no (g : Nat) (n : Int) (w : World) (hn : n ≠ 0) (hc : w.cell? ⟨g, 4, none⟩ = some (.int .i64 n)) :
    Calls Try.prog 67 #[.pointer (some ⟨g, 0, none⟩)] w fun e w' => e = .returned (.bool false) ∧ w = w' := by
  have h0 : (n == 0) = false := by simpa using hn
  go_enter Try.func67, Try.ntmps67
  go_wp2
  go_ret
  exact ⟨rfl, rfl⟩

theorem at1_any (c g : Nat) (F L R x y n : Int) (w : World) (hF : U F) (hL : U L) (hR : U R) (hn : U n) (hc : c < w.heap.size) (hg : g < w.heap.size)
    (cc : w.cell? ⟨c, 0, none⟩ = some (.pointer (some ⟨g, 0, none⟩)))
    (c0 : w.cell? ⟨g, 0, none⟩ = some (.int .u64 F)) (c1 : w.cell? ⟨g, 1, none⟩ = some (.int .u64 L)) (c2 : w.cell? ⟨g, 2, none⟩ = some (.int .u64 R)) :
    Calls Try.prog 70 #[.agg #[.int .u64 x, .int .u64 y], .int .u64 n, .pointer (some ⟨c, 0, none⟩)] w fun e w' => e = .returned (.int .u64 (cap (W F L R n))) ∧ Below w.heap.size w w' := by
  go_enter Try.func70, Try.ntmps70
  go_wp2_with (go_at_call 71; refine (at_any F L R n _ hF hL hR hn).mono ?_; rintro e w1 ⟨rfl, hb1⟩)
  go_ret
  exact ⟨rfl, ((Below.refl _ _).alloc (Nat.le_refl _) _).trans (hb1.mono (by simp))⟩

theorem minF_take (g : Int × Int → Int) (m : Int) (K : List (Int × Int)) (k : Nat) (p : Int × Int) (h : K[k]? = some p) : minF g m (K.take (k + 1)) = min (minF g m (K.take k)) (g p) := by
  rw [List.take_add_one, h]
  simp [minF, List.foldl_append]

set_option maxRecDepth 20000 in
set_option maxHeartbeats 1000000 in
theorem least_at (g c : Nat) (F L R n x t T : Int) (K : List (Int × Int)) (w : World) (hF : U F) (hL : U L) (hR : U R) (hT : T = max t x) (hTU : U T) (hx : U x) (hn : n ≠ 0) (hK0 : K ≠ []) (hbig : K.length ≤ 1000000)
    (hK : ∀ k ∈ K, 0 ≤ k.1 ∧ k.1 ≤ x ∧ U k.2) (hs : SagAt w g F L R n x K) (hc : c < w.heap.size) (cc : w.cell? ⟨c, 0, none⟩ = some (.pointer (some ⟨g, 0, none⟩))) :
    Calls Try.prog 69 #[.pointer (some ⟨g, 0, none⟩), .int .u64 t, .func (.func 70) #[] #[.pointer (some ⟨c, 0, none⟩)]] w fun e w' =>
      e = .returned (.int .u64 (minF (atK F L R T) 4611686018427387904 K)) ∧ Below w.heap.size w w' := by
  obtain ⟨v, hb, hrow⟩ := hs
  obtain ⟨b, cp, rfl, hgb, hbw, hcap, hcells⟩ := hrow.open_ hK0
  have hg := hb.lt
  have c4 := hb.cell 4; have c5 := hb.cell 5; have c6 := hb.cell 6
  have HB := Lib.hid hb; have HR := Lib.hid hcells; have HK := Lib.hid hK
  clear hb hrow hcells hK
  simp only [List.getElem?_toArray, List.getElem?_cons_zero, List.getElem?_cons_succ] at c4 c5 c6
  go_enter Try.func69, Try.ntmps69
  go_wp2_with (go_at_call 67; refine (snone_no _ _ _ hn c4).mono ?_; rintro e w' ⟨rfl, rfl⟩)
  all_goals
    go_loopw [23, 7] (fun i o W => ∃ k : Nat, k ≤ K.length ∧ i = .int .i64 k ∧ o = .int .u64 (minF (atK F L R T) 4611686018427387904 (K.take k)) ∧ Below w.heap.size w W) (fun i _ _ => K.length - (intOf i).toNat)
    case atStart => exact ⟨0, by omega, rfl, by simp [minF], Below.refl _ _⟩
    case round =>
      obtain ⟨k, hk, rfl, rfl, hbW⟩ := hrel
      clear c4 c5 c6
      by_cases hlt : k < K.length
      · have hp : K[k]? = some K[k] := List.getElem?_eq_getElem hlt
        have hpm := HK.out _ (List.getElem_mem hlt)
        generalize K[k] = p at hp hpm
        obtain ⟨d0, d1⟩ := HR.out k p hp
        have e0 := (hbW.cell (p := ⟨b, k * 2, none⟩) hbw).trans d0
        have e1 := (hbW.cell (p := ⟨b, k * 2 + 1, none⟩) hbw).trans d1
        clear d0 d1
        have hcW : c < wr.heap.size := Nat.lt_of_lt_of_le hc hbW.size
        have hgW : g < wr.heap.size := Nat.lt_of_lt_of_le hg hbW.size
        have ccW := (hbW.cell (p := ⟨c, 0, none⟩) hc).trans cc
        have hB := HB.out.below hbW hg
        have f0 := hB.cell 0; have f1 := hB.cell 1; have f2 := hB.cell 2
        simp only [List.getElem?_toArray, List.getElem?_cons_zero, List.getElem?_cons_succ] at f0 f1 f2
        have HB2 := Lib.hid hB
        clear hB
        have HF := Lib.hid (And.intro ccW (And.intro f0 (And.intro f1 f2)))
        clear ccW f0 f1 f2
        go_wp2
        have hal := (Below.refl wr.heap.size wr).alloc (Nat.le_refl _) (.cells #[.int .u64 p.1, .int .u64 p.2] 94)
        have nb := Blk.new wr 94 #[.int .u64 p.1, .int .u64 p.2]
        generalize hW1 : wr.alloc (.cells #[.int .u64 p.1, .int .u64 p.2] 94) = W1 at *
        have nl := nb.lt
        have o0 := fun e => (over_cell (e := e) (o := 0) nl).trans (nb.cell 0)
        have o1 := fun e => (over_cell (e := e) (o := 1) nl).trans (nb.cell 1)
        simp only [List.getElem?_toArray, List.getElem?_cons_zero, List.getElem?_cons_succ] at o0 o1
        have hcW1 : c < W1.heap.size := Nat.lt_of_lt_of_le hcW hal.size
        have hgW1 : g < W1.heap.size := Nat.lt_of_lt_of_le hgW hal.size
        have HQ := Lib.hid (fun e => And.intro ((over_cell (e := e) (o := 0) hcW1).trans ((hal.cell (p := ⟨c, 0, none⟩) hcW).trans HF.out.1)) (And.intro ((over_cell (e := e) (o := 0) hgW1).trans ((hal.cell (p := ⟨g, 0, none⟩) hgW).trans HF.out.2.1)) (And.intro ((over_cell (e := e) (o := 1) hgW1).trans ((hal.cell (p := ⟨g, 1, none⟩) hgW).trans HF.out.2.2.1)) ((over_cell (e := e) (o := 2) hgW1).trans ((hal.cell (p := ⟨g, 2, none⟩) hgW).trans HF.out.2.2.2)))))
        have HS := Lib.hid (fun e => (over_below W1 e).size)
        have hTp : U (T - p.1) := by unfold U at *; omega
        first
          | (have hq : x = T := by omega
             have wd : IntKind.u64.wrap (x - p.1) = T - p.1 := by rw [hq]; exact wrap_u hTp
             clear hq hT)
          | (have hq : t = T := by omega
             have wd : IntKind.u64.wrap (t - p.1) = T - p.1 := by rw [hq]; exact wrap_u hTp
             clear hq hT)
        have uW : U (cap (W F L R (T - p.1))) := U_cap (W_nonneg hF.1 hR.1 hL.1 hTp.1)
        refine wp_region_over (by kernel_rfl) (by kernel_rfl) ?_
        repeat (first | go_big_quiet_skip | (go_big_quiet_want; go_big_quiet_op; first | go_big_quiet_on | (apply Exists.intro; refine ⟨fun e => ?_, ?_⟩; (focus (first | (go_at_call 70; exact calls_over (at1_any _ _ F L R _ _ _ _ hF hL hR hTp (Nat.lt_of_lt_of_le hcW1 (HS.out e)) (Nat.lt_of_lt_of_le hgW1 (HS.out e)) (HQ.out e).1 (HQ.out e).2.1 (HQ.out e).2.2.1 (HQ.out e).2.2.2)) | (go_at_call 85; exact calls_over_same (rplus_any _ _ _ hpm.2.2 uW)))); go_big_quiet_on)))
        refine wpQuiet_nil ?_
        rintro W2 ⟨e, he⟩
        have hb2 := over_below W1 e
        rw [← he] at hb2
        have hbW2 : Below w.heap.size w W2 := (hbW.trans (hal.mono hbW.size)).trans (hb2.mono (Nat.le_trans hbW.size hal.size))
        have hmt := minF_take (atK F L R T) 4611686018427387904 K k p hp
        clear he o0 o1 wd nb
        go_wp2
        go_roundw
        case rel => exact ⟨k + 1, by omega, by go_num, val_int (by rw [hmt]; unfold atK; omega), hbW2⟩
        case measure => simp [intOf]; omega
      · obtain rfl : k = K.length := by omega
        go_wp2
        go_ret
        have htk : K.take K.length = K := List.take_length
        exact ⟨ret_int (by rw [htk]), hbW⟩

theorem sat_any (g : Nat) (F L R n x t : Int) (K : List (Int × Int)) (w : World) (hF : U F) (hL : U L) (hR : U R) (ht : U t) (hx : U x) (hn : n ≠ 0) (hK0 : K ≠ []) (hbig : K.length ≤ 1000000)
    (hK : ∀ k ∈ K, 0 ≤ k.1 ∧ k.1 ≤ x ∧ U k.2) (hs : SagAt w g F L R n x K) :
    Calls Try.prog 58 #[.pointer (some ⟨g, 0, none⟩), .int .u64 t] w fun e w' =>
      e = .returned (.int .u64 (minF (atK F L R (max t x)) 4611686018427387904 K)) ∧ Below w.heap.size w w' := by
  have hal := (Below.refl w.heap.size w).alloc (Nat.le_refl _) (.cells #[.pointer (some ⟨g, 0, none⟩)] 47)
  have hs1 := hs.below hal
  have nb := Blk.new w 47 #[.pointer (some ⟨g, 0, none⟩)]
  have nl := nb.lt
  have cc := nb.cell 0
  simp only [List.getElem?_toArray, List.getElem?_cons_zero, List.getElem?_cons_succ] at cc
  have hmU : U (max t x) := by unfold U at *; omega
  have H := Lib.hid (And.intro hs1 (And.intro nl cc))
  clear hs hs1 nb
  go_enter Try.func58, Try.ntmps58
  go_wp2_with (go_at_call 69; refine (least_at g w.heap.size F L R n x t _ K _ hF hL hR rfl hmU hx hn hK0 hbig hK H.out.1 H.out.2.1 H.out.2.2).mono ?_; rintro e w1 ⟨rfl, hb1⟩)
  go_ret
  exact ⟨rfl, hal.trans (hb1.mono hal.size)⟩

end Go.Proofs.Ytipiajnaechadaa
