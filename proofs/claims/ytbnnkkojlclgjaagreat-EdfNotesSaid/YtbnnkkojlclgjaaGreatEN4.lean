/- Lemmas of the claim, merged: RunAll, RunMake, Acts, RunStarted, RefMem, RefLast, RefOne, RefAsk, RefBack, RefStart, RefRun, RefSame, RefMay. No conditions beyond those that each states. -/
import Derived.Test.YtbnnkkojlclgjaaGreatEN3
import Derived.Test.YtbnnkkojlclgjaaGreatRegM
import Derived.Test.YtbnnkkojlclgjaaGreatStrs
import Derived.Test.YtbnnkkojlclgjaaGreatPure
import Derived.Test.YtbnnkkojlclgjaaGreatEN1
import Derived.Deep.AppendLies
import Derived.Deep.RegionLaw
import Derived.RegionTactic
import Derived.BigRegion
/-
  What is asked of a run: all its methods, by the copies that started.
-/
namespace Go.Proofs.YtbnnkkojlclgjaaGreat
set_option linter.unusedVariables false
open Go.RowKit

section
variable {w w' : World} {r g : Nat} {F L R x : Int} {A : List (Int × Int)}
theorem RunB.vE_eq (h : RunB w r g F L R x A) : vE F L R A = vA F L R A := by funext t; exact if_pos h.2.1.lt_
theorem Live.vE_eq {K : List (Int × Int)} (h : Live w g F L R x K A) : vE F L R A = vL R A := by funext t; exact if_neg (by have := h.le; omega)
theorem Live.x_U (h : ∃ K, Live w g F L R x K A) : 0 ≤ x ∧ x ≤ 9223372036854775808 := by obtain ⟨K, hK⟩ := h; exact ⟨hK.x0, hK.x1⟩

theorem belig (h : BentAt w g F L R x A) (hA : A ≠ []) (y : Int) (hy : U y) :
    Calls Tryz.prog 146 #[.agg #[.pointer (some ⟨g, 0, none⟩)], .int .u64 y] w (Ans (fun t => vA F L R A (max t x)) x y w) := by
  have hal := (Below.refl w.heap.size w).alloc (Nat.le_refl _) (.cells #[.pointer (some ⟨g, 0, none⟩)] 92)
  have h1 := h.below hal
  have HH := Lib.hid h1; have HA := Lib.hid hA; clear h h1 hA
  go_enter Tryz.func146, Tryz.ntmps146
  go_wp2_with (go_at_call 128; refine (bent_reach HH.out HA.out y hy).mono ?_; rintro e w1 ⟨n, rfl, hk, hn0, hn1, hb1⟩)
  go_ret
  exact ⟨n, rfl, hk, hn0, hn1, hal.trans (hb1.mono hal.size)⟩
theorem belig0 (h : BentAt w g F L R x []) (y : Int) :
    Calls Tryz.prog 146 #[.agg #[.pointer (some ⟨g, 0, none⟩)], .int .u64 y] w fun e w' => e = .returned (.int .u64 (nev y)) ∧ Below w.heap.size w w' := by
  have hal := (Below.refl w.heap.size w).alloc (Nat.le_refl _) (.cells #[.pointer (some ⟨g, 0, none⟩)] 92)
  have h1 := h.below hal
  have HH := Lib.hid h1; clear h h1
  have e : nevB y = nev y := rfl
  rw [← e]
  go_enter Tryz.func146, Tryz.ntmps146
  go_wp2_with (go_at_call 128; refine (bent_reach0 HH.out y).mono ?_; rintro e w1 ⟨rfl, rfl⟩)
  go_ret
  exact ⟨rfl, hal⟩
theorem selig (h : ∃ K, Live w g F L R x K A) (hA : A ≠ []) (y : Int) (hy : U y) :
    Calls Tryz.prog 169 #[.agg #[.pointer (some ⟨g, 0, none⟩)], .int .u64 y] w (Ans (fun t => vL R A (max t x)) x y w) := by
  obtain ⟨K, h⟩ := h
  have hal := (Below.refl w.heap.size w).alloc (Nat.le_refl _) (.cells #[.pointer (some ⟨g, 0, none⟩)] 101)
  have h1 := h.below hal
  have hk := (live_back (y := y) h1 hA).2.1
  have hx0 := h.x0
  have HH := Lib.hid h1; have HA := Lib.hid hA; have HK := Lib.hid hk; clear h h1 hA hk
  go_enter Tryz.func169, Tryz.ntmps169
  go_wp2_with (go_at_call 171; refine (live_ahead HH.out HA.out y hy).mono ?_; rintro e w1 ⟨rfl, hb1⟩)
  go_ret
  have hk := HK.out
  exact ⟨_, rfl, hk, by have := hk.x_le; omega, hk.le_never, hal.trans (hb1.mono hal.size)⟩
theorem selig0 (h : ∃ K, Live w g F L R x K []) (y : Int) :
    Calls Tryz.prog 169 #[.agg #[.pointer (some ⟨g, 0, none⟩)], .int .u64 y] w fun e w' => e = .returned (.int .u64 (nev y)) ∧ Below w.heap.size w w' := by
  obtain ⟨K, h⟩ := h
  have hal := (Below.refl w.heap.size w).alloc (Nat.le_refl _) (.cells #[.pointer (some ⟨g, 0, none⟩)] 101)
  have hK : K = [] := List.eq_nil_of_length_eq_zero (Nat.le_zero.1 h.run.sub.length_le)
  subst hK
  have h2 := h.below hal
  have h1 := h2.none
  have c2 : ∃ R, (w.alloc (.cells #[.pointer (some ⟨g, 0, none⟩)] 101)).cell? ⟨g, 2, none⟩ = some (.int .u64 R) := by obtain ⟨v, hb, _⟩ := h2.at_; exact ⟨R, hb.cell 2⟩
  have HH := Lib.hid h1; have HC := Lib.hid c2; clear h h1 h2 c2
  go_enter Tryz.func169, Tryz.ntmps169
  go_wp2_with (go_at_call 171; refine (sahead_none _ y _ HH.out (fun g' hg' => by cases hg'; exact HC.out)).mono ?_; rintro e w1 ⟨rfl, hb1⟩)
  go_ret
  exact ⟨rfl, hal.trans (hb1.mono hal.size)⟩

theorem run_reach (h : RunAt w r g F L R x A) (hA : A ≠ []) (y : Int) (hy : U y) :
    Calls Tryz.prog 50 #[.pointer (some ⟨r, 0, none⟩), .int .u64 y] w (Ans (fun t => vA F L R A (max t x)) x y w) := by
  have HA := Lib.hid hA; clear hA
  rcases h with h | h
  · have HH := Lib.hid h; clear h
    go_enter Tryz.func50, Tryz.ntmps50
    go_wp2_with (first
      | (go_at_call 46; refine (of_bent HH.out).mono ?_; rintro e w' ⟨rfl, rfl⟩)
      | (go_at_call 128; refine (bent_reach HH.out.2.1 HA.out y hy).mono ?_; rintro e w1 ⟨n, rfl, hk, hn0, hn1, hb1⟩))
    go_ret
    exact ⟨n, rfl, hk, hn0, hn1, hb1⟩
  · obtain ⟨K, hK⟩ := h.2.1
    have HH := Lib.hid h; have HK := Lib.hid hK; have HB := Lib.hid (live_back (y := y) hK HA.out).1; clear h hK
    go_enter Tryz.func50, Tryz.ntmps50
    go_wp2_with (first
      | (go_at_call 46; refine (of_sag HH.out).mono ?_; rintro e w' ⟨rfl, rfl⟩)
      | (go_at_call 150; refine (live_reach HK.out HA.out y hy).mono ?_; rintro e w1 ⟨rfl, hb1⟩))
    go_ret
    have hk := HB.out; have hx0 := HK.out.x0
    exact ⟨_, rfl, hk, by have := hk.x_le; omega, hk.le_never, hb1⟩

theorem run_reach0 (h : RunAt w r g F L R x []) (y : Int) :
    Calls Tryz.prog 50 #[.pointer (some ⟨r, 0, none⟩), .int .u64 y] w fun e w' => e = .returned (.int .u64 (nev y)) ∧ Below w.heap.size w w' := by
  rcases h with h | h
  · have HH := Lib.hid h; clear h
    go_enter Tryz.func50, Tryz.ntmps50
    go_wp2_with (first
      | (go_at_call 46; refine (of_bent HH.out).mono ?_; rintro e w' ⟨rfl, rfl⟩)
      | (go_at_call 128; refine (bent_reach0 HH.out.2.1 y).mono ?_; rintro e w1 ⟨rfl, rfl⟩))
    go_ret
    exact ⟨rfl, Below.refl _ _⟩
  · obtain ⟨K, hK⟩ := h.2.1
    have hK0 : K = [] := List.eq_nil_of_length_eq_zero (Nat.le_zero.1 hK.run.sub.length_le)
    subst hK0
    have hN := hK.none; have HN := Lib.hid hN; clear hN
    have HH := Lib.hid h; have HK := Lib.hid hK; clear h hK
    go_enter Tryz.func50, Tryz.ntmps50
    go_wp2_with (first
      | (go_at_call 46; refine (of_sag HH.out).mono ?_; rintro e w' ⟨rfl, rfl⟩)
      | (go_at_call 150; refine (sreach_none _ y _ HN.out).mono ?_; rintro e w1 ⟨rfl, hb1⟩))
    go_ret
    exact ⟨rfl, hb1⟩

theorem run_elig (h : RunAt w r g F L R x A) (hA : A ≠ []) (y : Int) (hy : U y) :
    Calls Tryz.prog 48 #[.pointer (some ⟨r, 0, none⟩), .int .u64 y] w (Ans (fun t => vE F L R A (max t x)) x y w) := by
  have HA := Lib.hid hA; clear hA
  rcases h with h | h
  · have HH := Lib.hid h; clear h
    go_enter Tryz.func48, Tryz.ntmps48
    go_wp2_with (first
      | (go_at_call 46; refine (of_bent HH.out).mono ?_; rintro e w' ⟨rfl, rfl⟩)
      | (go_at_call 146; refine (belig HH.out.2.1 HA.out y hy).mono ?_; rintro e w1 ⟨n, rfl, hk, hn0, hn1, hb1⟩))
    go_ret
    exact ⟨n, rfl, by rw [HH.out.vE_eq]; exact hk, hn0, hn1, hb1⟩
  · obtain ⟨K, hK⟩ := h.2.1
    have HH := Lib.hid h; have HK := Lib.hid hK; clear h hK
    go_enter Tryz.func48, Tryz.ntmps48
    go_wp2_with (first
      | (go_at_call 46; refine (of_sag HH.out).mono ?_; rintro e w' ⟨rfl, rfl⟩)
      | (go_at_call 169; refine (selig ⟨K, HK.out⟩ HA.out y hy).mono ?_; rintro e w1 ⟨n, rfl, hk, hn0, hn1, hb1⟩))
    go_ret
    exact ⟨n, rfl, by rw [HK.out.vE_eq]; exact hk, hn0, hn1, hb1⟩

theorem run_elig0 (h : RunAt w r g F L R x []) (y : Int) :
    Calls Tryz.prog 48 #[.pointer (some ⟨r, 0, none⟩), .int .u64 y] w fun e w' => e = .returned (.int .u64 (nev y)) ∧ Below w.heap.size w w' := by
  rcases h with h | h
  · have HH := Lib.hid h; clear h
    go_enter Tryz.func48, Tryz.ntmps48
    go_wp2_with (first
      | (go_at_call 46; refine (of_bent HH.out).mono ?_; rintro e w' ⟨rfl, rfl⟩)
      | (go_at_call 146; refine (belig0 HH.out.2.1 y).mono ?_; rintro e w1 ⟨rfl, hb1⟩))
    go_ret
    exact ⟨rfl, hb1⟩
  · obtain ⟨K, hK⟩ := h.2.1
    have hK0 : K = [] := List.eq_nil_of_length_eq_zero (Nat.le_zero.1 hK.run.sub.length_le)
    subst hK0
    have hN := hK.none; have HN := Lib.hid hN; clear hN
    have HH := Lib.hid h; have HK := Lib.hid hK; clear h hK
    go_enter Tryz.func48, Tryz.ntmps48
    go_wp2_with (first
      | (go_at_call 46; refine (of_sag HH.out).mono ?_; rintro e w' ⟨rfl, rfl⟩)
      | (go_at_call 169; refine (selig0 ⟨_, HK.out⟩ y).mono ?_; rintro e w1 ⟨rfl, hb1⟩))
    go_ret
    exact ⟨rfl, hb1⟩

end

end Go.Proofs.YtbnnkkojlclgjaaGreat
/-
  A run is made; a copy goes on alone.
-/
namespace Go.Proofs.YtbnnkkojlclgjaaGreat
set_option linter.unusedVariables false
open Go.RowKit
attribute [local go_sem] quietR quietAtR quietUponR midAt midUpon

/-- what run.New tells of a curve that may be -/
def Made (w : World) (F L R : Int) (e : Ending) (w' : World) : Prop :=
  ∃ r g, e = .returned (.pointer (some ⟨r, 0, none⟩)) ∧ w.heap.size ≤ g ∧ RunAt w' r g F L R 0 [] ∧ Below w.heap.size w w'

set_option maxHeartbeats 1000000 in
theorem run_new (F L R : Int) (w : World) (hF : 0 ≤ F) (hL : 0 ≤ L) (hR : 0 ≤ R) (h1 : mayB F L R = true) :
    Calls Tryz.prog 17 #[.agg #[.int .u64 F, .int .u64 L, .int .u64 R]] w (Made w F L R) := by
  have hal := (Below.refl w.heap.size w).alloc (Nat.le_refl _) (.cells #[.int .u64 F, .int .u64 L, .int .u64 R] 31)
  have nb := Blk.new w 31 #[.int .u64 F, .int .u64 L, .int .u64 R]
  have nl := nb.lt
  have HN := Lib.hid nb; have H := Lib.hid h1
  clear nb h1
  by_cases h2 : R < F
  · go_enter Tryz.func17, Tryz.ntmps17
    go_wp2_with (first
      | (go_at_call 16; refine (may_any F L R _ hL).mono ?_; rintro e w1 ⟨rfl, hb1⟩; rw [H.out]; have n1 := HN.out.below hb1 nl; have a0 := n1.cell 0; have a1 := n1.cell 1; have a2 := n1.cell 2; simp only [List.getElem?_toArray, List.getElem?_cons_zero, List.getElem?_cons_succ] at a0 a1 a2)
      | (go_at_call 44; refine (bnew_ok F L R _ hF hL hR H.out h2).mono ?_; rintro e w2 ⟨g, rfl, hg, hB, hb2⟩; have HB := Lib.hid hB; clear hB; have n2 := n1.below hb2 n1.lt; have b0 := n2.cell 0; have b1 := n2.cell 1; have b2 := n2.cell 2; simp only [List.getElem?_toArray, List.getElem?_cons_zero, List.getElem?_cons_succ] at b0 b1 b2))
    have hb3 : Below w.heap.size w w2 := (hal.trans (hb1.mono hal.size)).trans (hb2.mono (Nat.le_trans hal.size hb1.size))
    go_ret
    have hal2 := (Below.refl w2.heap.size w2).alloc (Nat.le_refl _) (.cells #[.int .u64 F, .int .u64 L, .int .u64 R, ifB g] 96)
    exact ⟨w2.heap.size, g, rfl, Nat.le_trans (Nat.le_trans hal.size hb1.size) hg, .inl ⟨Blk.new _ _ _, HB.out.below hal2, HB.out.lt⟩, hb3.trans (hal2.mono hb3.size)⟩
  · have h2' : F ≤ R := by omega
    go_enter Tryz.func17, Tryz.ntmps17
    go_wp2_with (first
      | (go_at_call 16; refine (may_any F L R _ hL).mono ?_; rintro e w1 ⟨rfl, hb1⟩; rw [H.out]; have n1 := HN.out.below hb1 nl; have a0 := n1.cell 0; have a1 := n1.cell 1; have a2 := n1.cell 2; simp only [List.getElem?_toArray, List.getElem?_cons_zero, List.getElem?_cons_succ] at a0 a1 a2)
      | (go_at_call 44; refine (bnew_no F L R _ hL H.out h2').mono ?_; rintro e w2 ⟨rfl, hb2⟩; have n2 := n1.below hb2 n1.lt; have b0 := n2.cell 0; have b1 := n2.cell 1; have b2 := n2.cell 2; simp only [List.getElem?_toArray, List.getElem?_cons_zero, List.getElem?_cons_succ] at b0 b1 b2)
      | (go_at_call 45; refine (live_new _ hF hL hR H.out h2').mono ?_; rintro e w3 ⟨g, rfl, hg, hB, hb3⟩; have HB := Lib.hid hB; clear hB; have n3 := n2.below hb3 n2.lt; have d0 := n3.cell 0; have d1 := n3.cell 1; have d2 := n3.cell 2; simp only [List.getElem?_toArray, List.getElem?_cons_zero, List.getElem?_cons_succ] at d0 d1 d2))
    have hb4 : Below w.heap.size w w2 := (hal.trans (hb1.mono hal.size)).trans (hb2.mono (Nat.le_trans hal.size hb1.size))
    have hb5 : Below w.heap.size w w3 := hb4.trans (hb3.mono hb4.size)
    go_ret
    have hal2 := (Below.refl w3.heap.size w3).alloc (Nat.le_refl _) (.cells #[.int .u64 F, .int .u64 L, .int .u64 R, ifS g] 96)
    exact ⟨w3.heap.size, g, rfl, Nat.le_trans hb4.size hg, .inr ⟨Blk.new _ _ _, ⟨_, HB.out.below hal2⟩, HB.out.lt⟩, hb5.trans (hal2.mono hb5.size)⟩

set_option maxHeartbeats 1000000 in
theorem run_new_no (F L R : Int) (w : World) (hL : 0 ≤ L) (h1 : mayB F L R = false) :
    Calls Tryz.prog 17 #[.agg #[.int .u64 F, .int .u64 L, .int .u64 R]] w fun e w' => e = .returned (.pointer none) ∧ Below w.heap.size w w' := by
  have hal := (Below.refl w.heap.size w).alloc (Nat.le_refl _) (.cells #[.int .u64 F, .int .u64 L, .int .u64 R] 31)
  have H := Lib.hid h1
  clear h1
  go_enter Tryz.func17, Tryz.ntmps17
  go_wp2_with (go_at_call 16; refine (may_any F L R _ hL).mono ?_; rintro e w1 ⟨rfl, hb1⟩; rw [H.out])
  go_ret
  exact ⟨rfl, hal.trans (hb1.mono hal.size)⟩

end Go.Proofs.YtbnnkkojlclgjaaGreat
/-
  The acts of layer 5 (four numbers each) as a slice that came in; the copies that they start.
-/
namespace Go.Proofs.YtbnnkkojlclgjaaGreat
set_option linter.unusedVariables false
open Go.RowKit

/-- an act: its start's tick and height, a tick and an amount that are asked -/
abbrev Act4 := Int × Int × Int × Int

def ActsAt (w : World) (a : Option Addr) (len : Nat) (z : List Act4) : Prop :=
  z.length = len ∧ (∀ q ∈ z, U q.1 ∧ U q.2.1 ∧ U q.2.2.1 ∧ U q.2.2.2) ∧
  (len = 0 ∨ ∃ b off, a = some ⟨b, off, none⟩ ∧ b < w.heap.size ∧ ∀ i q, z[i]? = some q →
    w.cell? ⟨b, off + i * 4, none⟩ = some (.int .u64 q.1) ∧ w.cell? ⟨b, off + i * 4 + 1, none⟩ = some (.int .u64 q.2.1) ∧ w.cell? ⟨b, off + i * 4 + 2, none⟩ = some (.int .u64 q.2.2.1) ∧ w.cell? ⟨b, off + i * 4 + 3, none⟩ = some (.int .u64 q.2.2.2))

theorem ActsAt.below {w w' : World} {a : Option Addr} {len : Nat} {z : List Act4} (h : ActsAt w a len z) (hb : Below w.heap.size w w') : ActsAt w' a len z := by
  obtain ⟨h1, h2, h3⟩ := h
  refine ⟨h1, h2, ?_⟩
  rcases h3 with h3 | ⟨b, off, e, hl, hc⟩
  · exact .inl h3
  · refine .inr ⟨b, off, e, Nat.lt_of_lt_of_le hl hb.size, fun i q hq => ?_⟩
    obtain ⟨c0, c1, c2, c3⟩ := hc i q hq
    exact ⟨(hb.cell (p := ⟨b, _, none⟩) hl).trans c0, (hb.cell (p := ⟨b, _, none⟩) hl).trans c1, (hb.cell (p := ⟨b, _, none⟩) hl).trans c2, (hb.cell (p := ⟨b, _, none⟩) hl).trans c3⟩

theorem u64_wf {n : Int} (h : (Lit.int .u64 n).wf = true) : U n := by
  simp [Lit.wf, IntKind.min, IntKind.max, IntKind.signed, IntKind.bits] at h
  exact ⟨h.1, by omega⟩

theorem acts_of {w : World} {a : Option Addr} {len cap : Nat} {z : List (List Value)} (h : IsRows [some .u64, some .u64, some .u64, some .u64] w a len cap z) :
    len ≤ 9223372036854775807 ∧ ∃ l : List Act4, ActsAt w a len l := by
  obtain ⟨h1, h2, h3, h4, h5⟩ := h
  have h2' : cap ≤ 9223372036854775807 := by unfold maxLen at h2; exact h2
  refine ⟨Nat.le_trans h1 h2', ?_⟩
  obtain ⟨l, hl, hr⟩ := list_of (fun i (q : Act4) => z[i]? = some [.int .u64 q.1, .int .u64 q.2.1, .int .u64 q.2.2.1, .int .u64 q.2.2.2] ∧ U q.1 ∧ U q.2.1 ∧ U q.2.2.1 ∧ U q.2.2.2) len (fun i hi => by
    have hz : z[i]? = some (z[i]'(by omega)) := List.getElem?_eq_getElem (by omega)
    have hk := h4 _ (List.getElem_mem (l := z) (n := i) (by omega))
    generalize z[i]'(by omega) = row at hz hk
    match row, hk with
    | [v0, v1, v2, v3], ⟨⟨n0, e0, w0⟩, ⟨n1, e1, w1⟩, ⟨n2, e2, w2⟩, ⟨n3, e3, w3⟩, _⟩ =>
      subst e0; subst e1; subst e2; subst e3
      exact ⟨(n0, n1, n2, n3), hz, u64_wf w0, u64_wf w1, u64_wf w2, u64_wf w3⟩)
  refine ⟨l, hl, fun q hq => ?_, ?_⟩
  · obtain ⟨i, hi, rfl⟩ := List.mem_iff_getElem.1 hq
    exact (hr i _ (List.getElem?_eq_getElem hi)).2
  · rcases h5 with h5 | ⟨b, off, e, hb, hc⟩
    · exact .inl h5
    · refine .inr ⟨b, off, e, hb, fun i q hq => ?_⟩
      have hz := (hr i q hq).1
      exact ⟨hc i _ hz 0 _ rfl, hc i _ hz 1 _ rfl, hc i _ hz 2 _ rfl, hc i _ hz 3 _ rfl⟩

/-- the copies that starts make: the last tick, all copies -/
def stp (s : Int × List (Int × Int)) (q : Act4) : Int × List (Int × Int) := (max (min q.1 9223372036854775808) s.1, s.2 ++ [(max (min q.1 9223372036854775808) s.1, min q.2.1 4611686018427387904)])
def runA (z : List Act4) : Int × List (Int × Int) := z.foldl stp (0, [])
theorem runA_snoc {z : List Act4} {k : Nat} {q : Act4} (h : z[k]? = some q) : runA (z.take (k + 1)) = stp (runA (z.take k)) q := by
  unfold runA
  rw [List.take_add_one, h]
  simp [List.foldl_append]
theorem runA_len (z : List Act4) : (runA z).2.length = z.length := by
  have : ∀ (z : List Act4) (s : Int × List (Int × Int)), (z.foldl stp s).2.length = s.2.length + z.length := by
    intro z
    induction z with
    | nil => intro s; rfl
    | cons q z ih => intro s; rw [List.foldl_cons, ih]; simp [stp]; omega
  have := this z (0, [])
  simpa [runA] using this

end Go.Proofs.YtbnnkkojlclgjaaGreat
/-
  What stays when another run starts a copy; an answer that is known; the law's own 'started'.
-/
namespace Go.Proofs.YtbnnkkojlclgjaaGreat
set_option linter.unusedVariables false
open Go.RowKit

section
variable {w w' : World} {r g : Nat} {F L R x : Int} {A : List (Int × Int)}
theorem blk_ne {w : World} {a b t t' : Nat} {cs cs' : Array Value} (h : Blk w a t cs) (h' : Blk w b t' cs') (ht : t ≠ t') : a ≠ b := by
  rintro rfl
  unfold Blk at h h'
  rw [h] at h'
  injection h' with h'
  injection h' with h1 h2
  exact ht h2
theorem RunAt.gblk (h : RunAt w r g F L R x A) : ∃ t cs, Blk w g t cs ∧ t ≠ 210 ∧ t ≠ 96 := by
  rcases h with h | ⟨_, ⟨K, hK⟩, _⟩
  · obtain ⟨h1, h2, hB, _⟩ := h.2.1.blk
    exact ⟨_, _, hB, by decide, by decide⟩
  · obtain ⟨v, hB, _⟩ := hK.at_
    exact ⟨_, _, hB, by decide, by decide⟩
theorem Live.stay2 {K : List (Int × Int)} {g' : Nat} {t : Nat} {cs : Array Value} (h : Live w g F L R x K A) (hg : g' ≠ g) (hB : Blk w g' t cs) (ht : t ≠ 210) (hw : w.grownBy w' (some g')) : Live w' g F L R x K A := by
  obtain ⟨v, hb, hr⟩ := h.at_
  refine ⟨⟨v, hb.grown hw (by simpa using Ne.symm hg), hr.kept hw ?_⟩, h.may, h.le, h.run, h.num, h.x0, h.x1, h.few, h.one⟩
  rcases hr.2 with ⟨hv, _⟩ | ⟨b, cp, cur, hv, _, hblk, _⟩
  · rw [hv]; exact .inl rfl
  · rw [hv]
    refine .inr fun he => ?_
    have : b = g' := by simpa [Value.ownBlock] using he
    exact blk_ne (t := 210) (show Blk w b _ cur from hblk) hB (Ne.symm ht) this
theorem BentAt.stay {g' : Nat} (h : BentAt w g F L R x A) (hg : g' ≠ g) (hw : w.grownBy w' (some g')) : BentAt w' g F L R x A := by
  obtain ⟨⟨h1, h2, hB, h3⟩, r⟩ := h
  exact ⟨⟨h1, h2, hB.grown hw (by simpa using Ne.symm hg), h3⟩, r, ‹_›, ‹_›, ‹_›, ‹_›, ‹_›⟩
/-- another run's copy starts: this one is as it was -/
theorem RunAt.stay {r' g' : Nat} {F' L' R' x' : Int} {A' : List (Int × Int)} (h : RunAt w r g F L R x A) (h' : RunAt w r' g' F' L' R' x' A') (hg : g' ≠ g) (hw : w.grownBy w' (some g')) : RunAt w' r g F L R x A := by
  obtain ⟨t, cs, hB, ht1, ht2⟩ := h'.gblk
  rcases h with ⟨h1, h2, h3⟩ | ⟨h1, ⟨K, h2⟩, h3⟩
  · exact .inl ⟨h1.grown hw (by have := blk_ne hB h1 ht2; simpa using Ne.symm this), h2.stay hg hw, h3⟩
  · exact .inr ⟨h1.grown hw (by have := blk_ne hB h1 ht2; simpa using Ne.symm this), ⟨K, h2.stay2 hg hB ht1 hw⟩, h3⟩
end

theorem Back.is {v : Int → Int} {x y n k : Int} (h : Back v x y n) (hm : ∀ t u, x ≤ t → t ≤ u → v t ≤ v u) (hk : x ≤ k) (hk2 : k < 9223372036854775808) (h1 : y ≤ v k) (h2 : k = x ∨ v (k - 1) < y) : n = k := by
  rcases Int.lt_trichotomy n k with hlt | heq | hgt
  · exfalso
    have h3 := (h.le hm (e := k - 1) (by omega) (by omega)).2
    rcases h2 with h2 | h2
    · have := h.x_le; omega
    · omega
  · exact heq
  · have := h.gt hm hk hgt; omega
theorem vA_max_mono {F L R x : Int} {A : List (Int × Int)} (h : MayC F L R) (hA : ∀ a ∈ A, a.1 ≤ x ∧ 0 ≤ a.2) : ∀ t u, x ≤ t → t ≤ u → (fun t => vA F L R A (max t x)) t ≤ (fun t => vA F L R A (max t x)) u := by
  intro t u ht htu
  exact vA_mono h hA (by omega) (by omega)
theorem vE_max_mono {F L R x : Int} {A : List (Int × Int)} (h : MayC F L R) (hA : ∀ a ∈ A, a.1 ≤ x ∧ 0 ≤ a.2) : ∀ t u, x ≤ t → t ≤ u → (fun t => vE F L R A (max t x)) t ≤ (fun t => vE F L R A (max t x)) u := by
  intro t u ht htu
  exact vE_mono h hA (by omega) (by omega)
theorem u_small {n : Int} (h : 0 ≤ n) (h2 : n ≤ 9223372036854775808) : U n := ⟨h, by omega⟩

/-- what 'started' tells -/
def Started (w : World) (F L R : Int) (z : List Act4) (e : Ending) (w' : World) : Prop :=
  ∃ r g, e = .returned (.pointer (some ⟨r, 0, none⟩)) ∧ w.heap.size ≤ g ∧ RunAt w' r g F L R (runA z).1 (runA z).2 ∧ Below w.heap.size w w'

end Go.Proofs.YtbnnkkojlclgjaaGreat
/-
  The document's copies in memory: two rows of numbers beside a curve.
-/
namespace Go.Proofs.YtbnnkkojlclgjaaGreat
set_option linter.unusedVariables false
open Go.RowKit

/-- v holds the numbers xs, in memory from block base on -/
def RowU (w : World) (base : Nat) (v : Value) (xs : List Int) : Prop := w.ownsRow base 23 1 v xs.length (xs.map (Value.int .u64))
theorem RowU.below {w w' : World} {base : Nat} {v : Value} {xs : List Int} (h : RowU w base v xs) (hb : Below w.heap.size w w') : RowU w' base v xs :=
  h.kept (Below.grownNone hb) (Classical.em _)
theorem RowU.open_ {w : World} {base : Nat} {v : Value} {xs : List Int} (h : RowU w base v xs) (hne : xs ≠ []) :
    ∃ b cap, v = .slice (some ⟨b, 0, none⟩) xs.length cap ∧ base ≤ b ∧ b < w.heap.size ∧ xs.length ≤ cap ∧ ∀ j x, xs[j]? = some x → w.cell? ⟨b, j, none⟩ = some (.int .u64 x) := by
  have h' := h
  obtain ⟨hl, (⟨_, h0⟩ | ⟨b, cap, cur, hv, hb, hblk, hn, hc, hs, ht⟩)⟩ := h
  · exact absurd (List.length_eq_zero_iff.1 h0) hne
  · subst hv
    refine ⟨b, cap, rfl, hb, (Array.getElem?_eq_some_iff.1 hblk).1, hn, fun j x hj => ?_⟩
    have hjl : j < xs.length := (List.getElem?_eq_some_iff.1 hj).1
    have h1 := h'.cellAt j (by omega)
    rw [List.getElem?_map, hj] at h1
    exact h1

/-- the document's copies of the curve F, L, R: A, at block c -/
def CopiesAt (w : World) (c base : Nat) (F L R : Int) (A : List (Int × Int)) : Prop :=
  ∃ vx vy, Blk w c 108 #[.int .u64 F, .int .u64 L, .int .u64 R, vx, vy] ∧ RowU w base vx (A.map (·.1)) ∧ RowU w base vy (A.map (·.2))
theorem CopiesAt.below {w w' : World} {c base : Nat} {F L R : Int} {A : List (Int × Int)} (h : CopiesAt w c base F L R A) (hb : Below w.heap.size w w') : CopiesAt w' c base F L R A := by
  obtain ⟨vx, vy, h1, h2, h3⟩ := h
  exact ⟨vx, vy, h1.below hb h1.lt, h2.below hb, h3.below hb⟩

end Go.Proofs.YtbnnkkojlclgjaaGreat
/-
  The document's copies: when the last one started; the numbers of copies.
-/
namespace Go.Proofs.YtbnnkkojlclgjaaGreat
set_option linter.unusedVariables false
open Go.RowKit

/-- when the last copy started; 0: none did -/
def lastX (A : List (Int × Int)) : Int := match A.getLast? with | none => 0 | some k => k.1
theorem lastX_nil : lastX [] = 0 := rfl
theorem lastX_snoc (A : List (Int × Int)) (k : Int × Int) : lastX (A ++ [k]) = k.1 := by simp [lastX]
theorem RowU.shape {w : World} {base : Nat} {v : Value} {xs : List Int} (h : RowU w base v xs) : ∃ a cap, v = .slice a xs.length cap := by
  rcases h.2 with ⟨rfl, h0⟩ | ⟨b, cap, cur, hv, _⟩
  · exact ⟨none, 0, by rw [h0]⟩
  · exact ⟨_, _, hv⟩
/-- the numbers of copies that started, the last one at x -/
structure Nums (x : Int) (A : List (Int × Int)) : Prop where
  last : lastX A = x
  num : ∀ a ∈ A, 0 ≤ a.1 ∧ a.1 ≤ x ∧ 0 ≤ a.2 ∧ a.2 ≤ 4611686018427387904
  x0 : 0 ≤ x
  x1 : x ≤ 9223372036854775808
  few : A.length ≤ 900000
theorem Nums.nil : Nums 0 [] := ⟨rfl, by intro a ha; simp at ha, by omega, by omega, by simp⟩
theorem Nums.start {x : Int} {A : List (Int × Int)} (h : Nums x A) (t y X Y : Int) (ht : U t) (hy : U y) (hX : X = max (min t 9223372036854775808) x) (hY : Y = min y 4611686018427387904) (hfew : A.length < 900000) : Nums X (A ++ [(X, Y)]) := by
  have h0 := h.x0; have h1 := h.x1; have hy0 := hy.1
  refine ⟨lastX_snoc _ _, fun a ha => ?_, by omega, by omega, by simp; omega⟩
  rcases List.mem_append.1 ha with ha | ha
  · have := h.num a ha; omega
  · obtain rfl : a = (X, Y) := by simpa using ha
    exact ⟨by simp only; omega, by simp only; omega, by simp only; omega, by simp only; omega⟩
theorem Nums.low {x : Int} {A : List (Int × Int)} (h : Nums x A) : ∀ a ∈ A, a.1 ≤ x ∧ 0 ≤ a.2 := fun a ha => ⟨(h.num a ha).2.1, (h.num a ha).2.2.1⟩

section
variable {w : World} {c base : Nat} {F L R x : Int} {A : List (Int × Int)}
set_option maxHeartbeats 1000000 in
theorem copies_last (h : CopiesAt w c base F L R A) (hf : A.length ≤ 900000) :
    Calls Tryz.prog 76 #[.pointer (some ⟨c, 0, none⟩)] w fun e w' => e = .returned (.int .u64 (lastX A)) ∧ ∃ n, w' = w.drewN n := by
  obtain ⟨vx, vy, hB, hx, hy⟩ := h
  have c3 := hB.cell 3
  simp only [List.getElem?_toArray, List.getElem?_cons_zero, List.getElem?_cons_succ] at c3
  rcases List.eq_nil_or_concat A with rfl | ⟨B, k, hk⟩
  · obtain ⟨a, cap, rfl⟩ := hx.shape
    clear hB hx hy
    go_enter Tryz.func76, Tryz.ntmps76
    go_wp2
    go_ret
    exact ⟨rfl, 0, rfl⟩
  · rw [List.concat_eq_append] at hk
    subst hk
    have hlen : (List.map (fun x : Int × Int => x.1) (B ++ [k])).length = B.length + 1 := by simp
    obtain ⟨b, cap, hv, hbb, hbl, hcap, hcells⟩ := hx.open_ (by simp)
    have hc := hcells B.length k.1 (by simp)
    rw [hlen] at hv hcap
    subst hv
    rw [lastX_snoc]
    have hm : B.length ≤ 900000 := by simp at hf; omega
    generalize B.length = m at *
    have e1 : ((m : Int) + 1) - 1 = m := by omega
    have e2 : ((m + 1 : Nat) : Int) = (m : Int) + 1 := by omega
    clear hB hx hy hcells hlen hf hbb hcap
    have hm0 : (0 : Int) ≤ (m : Int) := by omega
    have hm1 : (m : Int) < (m : Int) + 1 := by omega
    go_enter Tryz.func76, Tryz.ntmps76
    go_wp2
    go_quiet (fail)
    go_wp2
    go_ret
    exact ⟨rfl, nq, rfl⟩
end

end Go.Proofs.YtbnnkkojlclgjaaGreat
/-
  The document's copies: what one copy has at a tick, without an end.
-/
namespace Go.Proofs.YtbnnkkojlclgjaaGreat
set_option linter.unusedVariables false
open Go.RowKit
attribute [local go_sem] quietR quietAtR quietUponR plain plainUpon

theorem W_upper {F L R u : Int} (h : MayC F L R) (hu : 0 ≤ u) : W F L R u ≤ 1048576 * u := by
  have f0 := h.f0; have f1 := h.f1; have r0 := h.r0; have r1 := h.r1; have l0 := h.l0
  unfold W
  have h1 := Int.mul_le_mul_of_nonneg_right f1 (show 0 ≤ min u L by omega)
  have h2 := Int.mul_le_mul_of_nonneg_right r1 (show 0 ≤ u - min u L by omega)
  omega
theorem ref_plus_low (n y : Int) (w : World) (h0 : 0 ≤ n) (hy : U y) (hs : n + y < 340282366920938463463374607431768211456) :
    Calls Tryz.prog 104 #[.agg #[.int .u64 (hiW n), .int .u64 (loW n)], .agg #[.int .u64 0, .int .u64 y]] w fun e w' => e = .returned (.tuple #[.agg #[.int .u64 (hiW (n + y)), .int .u64 (loW (n + y))], .int .i64 0]) ∧ Below w.heap.size w w' := by
  have h := ref_plus n y w h0 hy.1 hs
  rw [wv_small hy] at h
  exact h

section
variable {w : World} {c base : Nat} {F L R x y t : Int} {A : List (Int × Int)}
set_option maxRecDepth 20000 in
set_option maxHeartbeats 1000000 in
theorem copies_one (h : CopiesAt w c base F L R A) (hM : MayC F L R) (hf : A.length ≤ 900000) {k : Nat} (hk : A[k]? = some (x, y)) (ht : U t) (hx0 : 0 ≤ x) (hxt : x ≤ t) (hy0 : U y) :
    Calls Tryz.prog 96 #[.pointer (some ⟨c, 0, none⟩), .int .i64 k, .int .u64 t] w fun e w' => e = .returned (wv (hasK F L R (x, y) t)) ∧ Below w.heap.size w w' := by
  obtain ⟨vx, vy, hB, hrx, hry⟩ := h
  have hne : A ≠ [] := by rintro rfl; simp at hk
  obtain ⟨bx, cx, hvx, hbx, hlx, hcx, hcellx⟩ := hrx.open_ (by simpa using hne)
  obtain ⟨by', cy, hvy, hby, hly, hcy, hcelly⟩ := hry.open_ (by simpa using hne)
  have hcX := hcellx k x (by simp [hk])
  have hcY := hcelly k y (by simp [hk])
  have hkl : k < A.length := (List.getElem?_eq_some_iff.1 hk).1
  rw [List.length_map] at hvx hvy hcx hcy
  subst hvx; subst hvy
  have hkl2 : (k : Int) < (A.length : Int) := by omega
  have hk0 : (0 : Int) ≤ (k : Int) := by omega
  have wd : IntKind.u64.wrap (t - x) = t - x := wrap_u (by unfold U at *; omega)
  have ud : U (t - x) := by unfold U at *; omega
  have hw0 := W_nonneg hM.f0 hM.r0 hM.l0 (t := t - x) ud.1
  have hw1 := W_upper hM (u := t - x) ud.1
  have hW : hasK F L R (x, y) t = W F L R (t - x) + y := by unfold hasK; simp only; omega
  rw [hW]
  have hs : W F L R (t - x) + y < 340282366920938463463374607431768211456 := by unfold U at hy0 ud; omega
  generalize hn : W F L R (t - x) = n at *
  have HN := Lib.hid hn; have HM := Lib.hid hM
  clear hn hW hM hrx hry hcellx hcelly hk hw1
  go_enter Tryz.func96, Tryz.ntmps96
  go_wp2
  obtain ⟨W0, hW0⟩ : ∃ W0, w.alloc (.cells #[.int .u64 0, .int .u64 0] 153) = W0 := ⟨_, rfl⟩
  have bO : Blk W0 w.heap.size 153 #[.int .u64 0, .int .u64 0] := by rw [← hW0]; exact Blk.new w _ _
  have hb0 : Below w.heap.size w W0 := by rw [← hW0]; go_grown
  have bC : Blk W0 c 108 #[.int .u64 F, .int .u64 L, .int .u64 R, .slice (some ⟨bx, 0, none⟩) A.length cx, .slice (some ⟨by', 0, none⟩) A.length cy] := hB.below hb0 hB.lt
  have dX := (hb0.cell (p := ⟨bx, k, none⟩) hlx).trans hcX
  have dY := (hb0.cell (p := ⟨by', k, none⟩) hly).trans hcY
  have lx := Nat.lt_of_lt_of_le hlx hb0.size
  have ly := Nat.lt_of_lt_of_le hly hb0.size
  rw [hW0]
  clear hW0 hcX hcY hB
  have o0 := fun e => (over_cell (w := W0) (e := e) (o := 0) bC.lt).trans (bC.cell 0)
  have o1 := fun e => (over_cell (w := W0) (e := e) (o := 1) bC.lt).trans (bC.cell 1)
  have o2 := fun e => (over_cell (w := W0) (e := e) (o := 2) bC.lt).trans (bC.cell 2)
  have o3 := fun e => (over_cell (w := W0) (e := e) (o := 3) bC.lt).trans (bC.cell 3)
  have o4 := fun e => (over_cell (w := W0) (e := e) (o := 4) bC.lt).trans (bC.cell 4)
  simp only [List.getElem?_toArray, List.getElem?_cons_zero, List.getElem?_cons_succ] at o0 o1 o2 o3 o4
  have oX := fun e => (over_cell (w := W0) (e := e) (o := k) lx).trans dX
  have oY := fun e => (over_cell (w := W0) (e := e) (o := k) ly).trans dY
  clear dX dY
  refine wp_region_alloc (w := W0) 26 _ _ 7 (.cells #[.int .u64 0, .int .u64 0] 153) (by kernel_rfl) rfl rfl rfl (fun _ _ => by kernel_rfl) (by kernel_rfl) ?_
  simp only [List.take_succ_cons, List.take_zero, List.drop_succ_cons, List.drop_zero]
  repeat (refine wpQuietR_step (fun K hK => ?_); go_simp; first | (refine hK _ ?_; clear hK K) | (apply Exists.intro; refine ⟨fun _ => ?_, hK _ ?_⟩; (first | (go_at_call 105; (refine Calls.mono (ref_wide F L R (t - x) _ HM.out ud) ?_); rintro e' w' ⟨he, hb⟩; exact ⟨he.trans (by rw [HN.out]), hb⟩) | (go_at_call 104; exact ref_plus_low n y _ hw0 hy0 hs)); clear hK K))
  refine wpQuietR_nil ?_
  intro B W1 hB hb1 hO
  have bN : Blk W1 B 153 #[.int .u64 0, .int .u64 0] := hO
  have n0 := bN.cell 0; have n1 := bN.cell 1; have f0 := bN.frozen 0; have f1 := bN.frozen 1
  simp only [List.getElem?_toArray, List.getElem?_cons_zero, List.getElem?_cons_succ] at n0 n1
  go_simp
  generalize hsum : n + y = s at *
  have HSUM := Lib.hid hsum
  clear hsum
  have bN2 := (bN.set_ 0 (.int .u64 (hiW s))).set_ 1 (.int .u64 (loW s))
  have hb2 : Below W0.heap.size W0 ((W1.setCell ⟨B, 0, none⟩ (.int .u64 (hiW s))).setCell ⟨B, 1, none⟩ (.int .u64 (loW s))) := (hb1.setCell hB _).setCell hB _
  refine ⟨hb2, ?_⟩
  obtain ⟨W2, hW2⟩ : ∃ W2, (W1.setCell ⟨B, 0, none⟩ (.int .u64 (hiW s))).setCell ⟨B, 1, none⟩ (.int .u64 (loW s)) = W2 := ⟨_, rfl⟩
  rw [hW2] at bN2 hb2 ⊢
  clear hW2 n0 n1 f0 f1 o0 o1 o2 o3 o4 oX oY bN
  have m0 := bN2.cell 0; have m1 := bN2.cell 1
  simp at m0 m1
  have bO2 := bO.below hb2 bO.lt
  have p0 := bO2.cell 0; have p1 := bO2.cell 1; have g0 := bO2.frozen 0; have g1 := bO2.frozen 1
  simp only [List.getElem?_toArray, List.getElem?_cons_zero, List.getElem?_cons_succ] at p0 p1
  generalize hhi : hiW s = hi at *
  generalize hlo : loW s = lo at *
  have HHI := Lib.hid hhi; have HLO := Lib.hid hlo; clear hhi hlo
  go_wp2
  have r0 := ((bO2.set_ 0 (.int .u64 hi)).set_ 1 (.int .u64 lo)).cell 0
  have r1 := ((bO2.set_ 0 (.int .u64 hi)).set_ 1 (.int .u64 lo)).cell 1
  simp at r0 r1
  refine bodyPost_ret (v := .agg #[.int .u64 hi, .int .u64 lo]) (by simp [results, Tryz.results96, go_sem, r0, r1]) rfl ⟨by unfold wv; rw [HSUM.out, HHI.out, HLO.out], ?_⟩
  exact (((hb0.trans (hb2.mono hb0.size)).setCell (by simp) _).setCell (by simp) _)
end

end Go.Proofs.YtbnnkkojlclgjaaGreat
/-
  The document's copies: the least of all; what they have; when they have so much, found by halves.
-/
namespace Go.Proofs.YtbnnkkojlclgjaaGreat
set_option linter.unusedVariables false
open Go.RowKit

theorem hasK_bd {F L R t : Int} {a : Int × Int} (hM : MayC F L R) (hx0 : 0 ≤ a.1) (hxt : a.1 ≤ t) (ht : U t) (hy : 0 ≤ a.2 ∧ a.2 ≤ 4611686018427387904) : 0 ≤ hasK F L R a t ∧ hasK F L R a t < 340282366920938463463374607431768211456 := by
  have h0 := W_nonneg hM.f0 hM.r0 hM.l0 (t := t - a.1) (by omega)
  have h1 := W_upper hM (u := t - a.1) (by omega)
  unfold U at ht
  unfold hasK
  omega
theorem cmp_case (n m : Int) : ∃ c, cmpI n m = c ∧ ((n < m ∧ c < 0) ∨ (m ≤ n ∧ decide (c < 0) = false)) := by
  refine ⟨_, rfl, ?_⟩
  by_cases h : n < m
  · exact .inl ⟨h, by rw [cmpI_lt h]; decide⟩
  · exact .inr ⟨by omega, by unfold cmpI; rw [if_neg h]; split <;> decide⟩

section
variable {w : World} {c base : Nat} {F L R x : Int} {A : List (Int × Int)}
set_option maxRecDepth 20000 in
set_option maxHeartbeats 2000000 in
theorem copies_wide (h : CopiesAt w c base F L R A) (hM : MayC F L R) (hN : Nums x A) (a : Int × Int) (B : List (Int × Int)) (hA : A = a :: B) (t : Int) (ht : U t) (hxt : x ≤ t) :
    Calls Tryz.prog 87 #[.pointer (some ⟨c, 0, none⟩), .int .u64 t] w fun e w' => e = .returned (wv (leastW F L R t (hasK F L R a t) B)) ∧ Below w.heap.size w w' := by
  have HC := Lib.hid h; have HM := Lib.hid hM; have HN := Lib.hid hN; have HA := Lib.hid hA
  have hbd : ∀ q ∈ A, 0 ≤ q.1 ∧ q.1 ≤ t ∧ U q.2 ∧ 0 ≤ hasK F L R q t ∧ hasK F L R q t < 340282366920938463463374607431768211456 := fun q hq => by
    have hq2 := hN.num q hq
    exact ⟨hq2.1, by omega, ⟨hq2.2.2.1, by omega⟩, hasK_bd hM hq2.1 (by omega) ht ⟨hq2.2.2.1, hq2.2.2.2⟩⟩
  have HBD := Lib.hid hbd
  have hfew := hN.few
  have hlw : ∀ k, 0 ≤ leastW F L R t (hasK F L R a t) (B.take k) ∧ leastW F L R t (hasK F L R a t) (B.take k) < 340282366920938463463374607431768211456 := fun k => by
    have ha := hbd a (by rw [hA]; simp)
    have h1 := leastW_nonneg (F := F) (L := L) (R := R) (t := t) (B.take k) (hasK F L R a t) ha.2.2.2.1 (fun q hq => (hbd q (by rw [hA]; exact List.mem_cons_of_mem _ (List.mem_of_mem_take hq))).2.2.2.1)
    exact ⟨h1.1, Int.lt_of_le_of_lt h1.2 ha.2.2.2.2⟩
  have HLW := Lib.hid hlw
  have ha := hbd a (by rw [hA]; simp)
  obtain ⟨m0, hm0⟩ : ∃ m0, hasK F L R a t = m0 := ⟨_, rfl⟩
  have HM0 := Lib.hid hm0
  have hl : A.length = B.length + 1 := by rw [hA]; rfl
  obtain ⟨vx, vy, hB, hrx, hry⟩ := h
  obtain ⟨ax, cx, hvx⟩ := hrx.shape
  rw [List.length_map] at hvx
  subst hvx
  have HB := Lib.hid hB
  have hlc : (A.length : Int) = (B.length : Int) + 1 := by omega
  have HL := Lib.hid hlc
  clear hM hN hbd hlw hm0 hA hB hrx hry hl hlc
  have hb0 := (Below.refl w.heap.size w).alloc (Nat.le_refl _) (.cells #[.int .u64 0, .int .u64 0] 153)
  have bP0 := Blk.new w 153 #[.int .u64 0, .int .u64 0]
  have HB0 := Lib.hid hb0; have HP0 := Lib.hid bP0
  clear hb0 bP0
  go_enter Tryz.func87, Tryz.ntmps87
  go_wp2_with (go_at_call 96; refine (copies_one (HC.out.below HB0.out) HM.out hfew (k := 0) (x := a.1) (y := a.2) (by rw [HA.out]; rfl) ht ha.1 ha.2.1 ha.2.2.1).mono ?_; rintro e' w1 ⟨rfl, hb1⟩; rw [HM0.out])
  have bP1 := (HP0.out.below hb1 HP0.out.lt).alloc (.cells #[.int .u64 (hiW m0), .int .u64 (loW m0)] 153)
  have bL1 := Blk.new w1 153 #[.int .u64 (hiW m0), .int .u64 (loW m0)]
  have hw1 : Below w.heap.size w (w1.alloc (.cells #[.int .u64 (hiW m0), .int .u64 (loW m0)] 153)) := (HB0.out.trans (hb1.mono HB0.out.size)).alloc (by have := hb1.size; simp at this; omega) _
  have hpl : w.heap.size < w1.heap.size := by have := hb1.size; simp at this; omega
  have HP1 := Lib.hid bP1; have HL1 := Lib.hid bL1; have HW1 := Lib.hid hw1
  clear bP1 bL1 hw1 hb1
  go_loopw [6] (fun i W => ∃ j : Nat, j ≤ B.length ∧ i = .int .i64 ((j : Int) + 1) ∧ Blk W w1.heap.size 153 #[.int .u64 (hiW (leastW F L R t m0 (B.take j))), .int .u64 (loW (leastW F L R t m0 (B.take j)))] ∧ Blk W w.heap.size 153 #[.int .u64 0, .int .u64 0] ∧ Below w.heap.size w W) (fun i _ => (B.length + 1) - (intOf i).toNat)
  case atStart => exact ⟨0, by omega, by go_num, by simpa [leastW] using HL1.out, HP1.out, HW1.out⟩
  case round =>
    obtain ⟨j, hj, rfl, hbl, hbp, hbw⟩ := hrel
    have hBw := HB.out.below hbw HB.out.lt
    have c3 := hBw.cell 3
    simp only [List.getElem?_toArray, List.getElem?_cons_zero, List.getElem?_cons_succ] at c3
    have HBL := Lib.hid hbl; have HBP := Lib.hid hbp; have HBW := Lib.hid hbw
    clear hbl hbp hBw hbw
    by_cases hlt : j < B.length
    · obtain ⟨⟨p, q⟩, hq⟩ : ∃ q, B[j]? = some q := ⟨_, List.getElem?_eq_getElem (by omega)⟩
      have hmem := HBD.out (p, q) (by rw [HA.out]; exact List.mem_cons_of_mem _ (List.mem_of_getElem? hq))
      obtain ⟨n, hn⟩ : ∃ n, hasK F L R (p, q) t = n := ⟨_, rfl⟩
      have hAk : A[j + 1]? = some (p, q) := by rw [HA.out]; simpa using hq
      have hnext : leastW F L R t m0 (B.take (j + 1)) = if n < leastW F L R t m0 (B.take j) then n else leastW F L R t m0 (B.take j) := by
        rw [List.take_add_one, hq, ← hn]
        exact leastW_snoc F L R t m0 _ _
      have hlwj := HLW.out j
      rw [HM0.out] at hlwj
      obtain ⟨m, hm⟩ : ∃ m, leastW F L R t m0 (B.take j) = m := ⟨_, rfl⟩
      have hbl2 := HBL.out
      rw [hm] at hbl2 hlwj hnext
      rw [hn] at hmem
      obtain ⟨cc, hcc, htst⟩ := cmp_case n m
      have HN1 := Lib.hid hn; have HAK := Lib.hid hAk; have HNX := Lib.hid hnext; have HCC := Lib.hid hcc; have HL2 := Lib.hid hbl2
      have hcs : (j : Int) + 1 = ((j + 1 : Nat) : Int) := by omega
      have hc1 := HC.out.below HBW.out
      have hlt2 : (j : Int) + 1 < (A.length : Int) := by have := HL.out; omega
      have HCA := Lib.hid hc1
      clear hq hn hAk hnext hm hcc hbl2 hc1 HBL
      have hone := copies_one HCA.out HM.out hfew HAK.out ht hmem.1 hmem.2.1 hmem.2.2.1
      rw [← hcs, HN1.out] at hone
      have HONE := Lib.hid hone
      clear hone hcs
      rcases htst with ⟨hlt1, hc0⟩ | ⟨hlt1, hc0⟩
      · rw [if_pos hlt1] at HNX
        go_wp2_with (first
          | (go_at_call 96; refine HONE.out.mono ?_; rintro e' w2 ⟨rfl, hb2⟩; have bL2 := (HL2.out.below hb2 HL2.out.lt).alloc (.cells #[.int .u64 (hiW n), .int .u64 (loW n)] 153); have bN := Blk.new w2 153 #[.int .u64 (hiW n), .int .u64 (loW n)]; have c0 := bL2.cell 0; have c1 := bL2.cell 1; have d0 := bN.cell 0; have d1 := bN.cell 1; simp only [List.getElem?_toArray, List.getElem?_cons_zero, List.getElem?_cons_succ] at c0 c1 d0 d1; have hl2 := bL2.lt)
          | (go_at_call 97; refine (ref_cmp n m _ hmem.2.2.2.1 hmem.2.2.2.2 hlwj.1 hlwj.2).mono ?_; rintro e' w3 ⟨rfl, hb3⟩; rw [HCC.out]; have bL3 := bL2.below hb3 bL2.lt; have bN3 := bN.below hb3 bN.lt; have e0 := bL3.frozen 0; have e1 := bL3.frozen 1; have x0 := bL3.cell 0; have x1 := bL3.cell 1; have f0 := bN3.cell 0; have f1 := bN3.cell 1; simp only [List.getElem?_toArray, List.getElem?_cons_zero, List.getElem?_cons_succ] at f0 f1 x0 x1; have hl3 := bL3.lt))
        have hb23 := ((Below.refl w2.heap.size w2).alloc (Nat.le_refl _) (.cells #[.int .u64 (hiW n), .int .u64 (loW n)] 153)).trans (hb3.mono (by simp))
        have hbw3 := HBW.out.trans ((hb2.trans (hb23.mono hb2.size)).mono HBW.out.size)
        have hne : w.heap.size ≠ w1.heap.size := by omega
        have bP3 := (HBP.out.below hb2 HBP.out.lt).below hb23 (HBP.out.below hb2 HBP.out.lt).lt
        have fin1 := (bL3.set_ 0 (.int .u64 (hiW n))).set_ 1 (.int .u64 (loW n))
        simp only [List.setIfInBounds_toArray, List.set_cons_zero, List.set_cons_succ] at fin1
        have fin2 := (bP3.far (p := ⟨w1.heap.size, 0, none⟩) hne (.int .u64 (hiW n))).far (p := ⟨w1.heap.size, 1, none⟩) hne (.int .u64 (loW n))
        have fin3 := (hbw3.setCell (p := ⟨w1.heap.size, 0, none⟩) (by simp only; omega) (.int .u64 (hiW n))).setCell (p := ⟨w1.heap.size, 1, none⟩) (by simp only; omega) (.int .u64 (loW n))
        go_roundw
        case rel => exact ⟨j + 1, by omega, by go_num, by rw [HNX.out]; exact fin1, fin2, fin3⟩
        case measure => simp [intOf]; omega
      · rw [if_neg (by omega)] at HNX
        go_wp2_with (first
          | (go_at_call 96; refine HONE.out.mono ?_; rintro e' w2 ⟨rfl, hb2⟩; have bL2 := (HL2.out.below hb2 HL2.out.lt).alloc (.cells #[.int .u64 (hiW n), .int .u64 (loW n)] 153); have bN := Blk.new w2 153 #[.int .u64 (hiW n), .int .u64 (loW n)]; have c0 := bL2.cell 0; have c1 := bL2.cell 1; have d0 := bN.cell 0; have d1 := bN.cell 1; simp only [List.getElem?_toArray, List.getElem?_cons_zero, List.getElem?_cons_succ] at c0 c1 d0 d1; have hl2 := bL2.lt)
          | (go_at_call 97; refine (ref_cmp n m _ hmem.2.2.2.1 hmem.2.2.2.2 hlwj.1 hlwj.2).mono ?_; rintro e' w3 ⟨rfl, hb3⟩; rw [HCC.out]; have bL3 := bL2.below hb3 bL2.lt))
        have hb23 := ((Below.refl w2.heap.size w2).alloc (Nat.le_refl _) (.cells #[.int .u64 (hiW n), .int .u64 (loW n)] 153)).trans (hb3.mono (by simp))
        have hbw3 := HBW.out.trans ((hb2.trans (hb23.mono hb2.size)).mono HBW.out.size)
        have bP3 := (HBP.out.below hb2 HBP.out.lt).below hb23 (HBP.out.below hb2 HBP.out.lt).lt
        go_roundw
        case rel => exact ⟨j + 1, by omega, by go_num, by rw [HNX.out]; exact bL3, bP3, hbw3⟩
        case measure => simp [intOf]; omega
    · obtain rfl : j = B.length := by omega
      have hbl2 := HBL.out
      rw [List.take_of_length_le (Nat.le_refl _)] at hbl2
      obtain ⟨m, hm⟩ : ∃ m, leastW F L R t m0 B = m := ⟨_, rfl⟩
      rw [hm] at hbl2
      have HMM := Lib.hid hm
      clear hm
      have c0 := hbl2.cell 0; have c1 := hbl2.cell 1
      have d0 := HBP.out.frozen 0; have d1 := HBP.out.frozen 1
      have x0 := HBP.out.cell 0; have x1 := HBP.out.cell 1
      simp only [List.getElem?_toArray, List.getElem?_cons_zero, List.getElem?_cons_succ] at c0 c1 x0 x1
      have hge : decide ((B.length : Int) + 1 < (A.length : Int)) = false := by have := HL.out; simp; omega
      go_wp2
      have r0 := ((HBP.out.set_ 0 (.int .u64 (hiW m))).set_ 1 (.int .u64 (loW m))).cell 0
      have r1 := ((HBP.out.set_ 0 (.int .u64 (hiW m))).set_ 1 (.int .u64 (loW m))).cell 1
      simp at r0 r1
      refine bodyPost_ret (v := .agg #[.int .u64 (hiW m), .int .u64 (loW m)]) (by simp [results, Tryz.results87, go_sem, r0, r1]) rfl ⟨by rw [HM0.out, HMM.out], ?_⟩
      exact (HBW.out.setCell (by simp) _).setCell (by simp) _
end

end Go.Proofs.YtbnnkkojlclgjaaGreat
/-
  The document's copies: what they have, stopped; when they have so much, found by halves.
-/
namespace Go.Proofs.YtbnnkkojlclgjaaGreat
set_option linter.unusedVariables false
open Go.RowKit

section
variable {w : World} {c base : Nat} {F L R x : Int} {A : List (Int × Int)}
theorem copies_at0 (h : CopiesAt w c base F L R []) (t : Int) :
    Calls Tryz.prog 77 #[.pointer (some ⟨c, 0, none⟩), .int .u64 t] w fun e w' => e = .returned (.int .u64 0) ∧ w = w' := by
  obtain ⟨vx, vy, hB, hrx, hry⟩ := h
  obtain ⟨ax, cx, rfl⟩ := hrx.shape
  have c3 := hB.cell 3
  simp only [List.getElem?_toArray, List.getElem?_cons_zero, List.getElem?_cons_succ] at c3
  clear hB hrx hry
  go_enter Tryz.func77, Tryz.ntmps77
  go_wp2
  go_ret
  exact ⟨rfl, rfl⟩
theorem copies_reach0 (h : CopiesAt w c base F L R []) (y : Int) :
    Calls Tryz.prog 56 #[.pointer (some ⟨c, 0, none⟩), .int .u64 y] w fun e w' => e = .returned (.int .u64 (nevB y)) ∧ w = w' := by
  obtain ⟨vx, vy, hB, hrx, hry⟩ := h
  obtain ⟨ax, cx, rfl⟩ := hrx.shape
  have c3 := hB.cell 3
  simp only [List.getElem?_toArray, List.getElem?_cons_zero, List.getElem?_cons_succ] at c3
  clear hB hrx hry
  by_cases hy : y = 0
  · subst hy
    go_enter Tryz.func56, Tryz.ntmps56
    go_wp2
    go_ret
    exact ⟨rfl, rfl⟩
  · have h0 : (y == 0) = false := by simpa using hy
    have e1 : nevB y = 9223372036854775808 := if_neg hy
    rw [e1]
    go_enter Tryz.func56, Tryz.ntmps56
    go_wp2
    go_ret
    exact ⟨rfl, rfl⟩

theorem drewN_below (w : World) (n : Nat) : Below w.heap.size w (w.drewN n) := below_drewN (Below.refl _ _) n
set_option maxHeartbeats 1000000 in
theorem copies_at (h : CopiesAt w c base F L R A) (hM : MayC F L R) (hN : Nums x A) (hA : A ≠ []) (t : Int) (ht : U t) :
    Calls Tryz.prog 77 #[.pointer (some ⟨c, 0, none⟩), .int .u64 t] w fun e w' => e = .returned (.int .u64 (vA F L R A (max t x))) ∧ Below w.heap.size w w' := by
  obtain ⟨a, B, hAB⟩ : ∃ a B, A = a :: B := by cases A with | nil => exact absurd rfl hA | cons a B => exact ⟨a, B, rfl⟩
  have hl0 : ((A.length : Int) == 0) = false := by rw [hAB]; simp; omega
  have hx0 := hN.x0; have hx1 := hN.x1
  obtain ⟨T, hT⟩ : ∃ T, (if t < x then x else t) = T := ⟨_, rfl⟩
  have hT2 : max t x = T := by rw [← hT]; split <;> omega
  have hxT : x ≤ T := by omega
  have hUT : U T := by unfold U at *; omega
  have hlast := hN.last
  have hfew := hN.few
  have hv : vA F L R A (max t x) = cap (leastW F L R T (hasK F L R a T) B) := by
    rw [hT2, hAB]; exact vA_leastW (fun k hk => (hN.num k (by rw [hAB]; exact hk)).2.2.1)
  have ha : 0 ≤ leastW F L R T (hasK F L R a T) B ∧ leastW F L R T (hasK F L R a T) B < 340282366920938463463374607431768211456 := by
    have hb : ∀ q ∈ A, 0 ≤ hasK F L R q T ∧ hasK F L R q T < 340282366920938463463374607431768211456 := fun q hq => by
      have hq2 := hN.num q hq
      exact hasK_bd hM hq2.1 (by omega) hUT ⟨hq2.2.2.1, hq2.2.2.2⟩
    have h1 := leastW_nonneg (F := F) (L := L) (R := R) (t := T) B (hasK F L R a T) (hb a (by rw [hAB]; simp)).1 (fun q hq => (hb q (by rw [hAB]; exact List.mem_cons_of_mem _ hq)).1)
    exact ⟨h1.1, Int.lt_of_le_of_lt h1.2 (hb a (by rw [hAB]; simp)).2⟩
  rw [hv]
  have hw : ∀ n, Calls Tryz.prog 87 #[.pointer (some ⟨c, 0, none⟩), .int .u64 T] (w.drewN n) fun e w' => e = .returned (wv (leastW F L R T (hasK F L R a T) B)) ∧ Below w.heap.size w w' := fun n =>
    (copies_wide (h.below (drewN_below w n)) hM hN a B hAB T hUT hxT).mono fun e w' ⟨he, hb⟩ => ⟨he, (drewN_below w n).trans hb⟩
  have hcl := copies_last h hfew
  rw [hlast] at hcl
  generalize leastW F L R T (hasK F L R a T) B = m at *
  obtain ⟨vx, vy, hB, hrx, hry⟩ := h
  obtain ⟨ax, cx, hvx⟩ := hrx.shape
  rw [List.length_map] at hvx
  subst hvx
  have c3 := hB.cell 3
  simp only [List.getElem?_toArray, List.getElem?_cons_zero, List.getElem?_cons_succ] at c3
  have HW := Lib.hid hw; have HCL := Lib.hid hcl
  clear hB hrx hry hM hN hA hAB hT2 hlast hv hw hcl
  go_enter Tryz.func77, Tryz.ntmps77
  go_wp2_with (first
    | (go_at_call 76; refine HCL.out.mono ?_; rintro e w1 ⟨rfl, n, rfl⟩)
    | (go_at_call 87; refine (HW.out _).mono ?_; rintro e w2 ⟨rfl, hb2⟩)
    | (go_at_call 86; refine (ref_stop m _ ha.1 ha.2).mono ?_; rintro e w3 ⟨rfl, hb3⟩))
  go_ret
  exact ⟨rfl, hb2.trans (hb3.mono hb2.size)⟩

set_option maxRecDepth 20000 in
set_option maxHeartbeats 2000000 in
theorem copies_reach (h : CopiesAt w c base F L R A) (hM : MayC F L R) (hN : Nums x A) (hA : A ≠ []) (y : Int) (hy : U y) :
    Calls Tryz.prog 56 #[.pointer (some ⟨c, 0, none⟩), .int .u64 y] w (Ans (fun t => vA F L R A (max t x)) x y w) := by
  have hl0 : ((A.length : Int) == 0) = false := by
    have := List.length_pos_iff.2 hA
    simp; omega
  have hx0 := hN.x0; have hx1 := hN.x1
  have hmono : ∀ t u, x ≤ t → t ≤ u → vA F L R A (max t x) ≤ vA F L R A (max u x) := vA_max_mono hM hN.low
  have hat := fun (W : World) (hb : Below w.heap.size w W) (t : Int) (ht : U t) => copies_at (h.below hb) hM hN hA t ht
  have hcl := copies_last h hN.few
  rw [hN.last] at hcl
  obtain ⟨vx, vy, hB, hrx, hry⟩ := h
  obtain ⟨ax, cx, hvx⟩ := hrx.shape
  rw [List.length_map] at hvx
  subst hvx
  have c3 := hB.cell 3
  simp only [List.getElem?_toArray, List.getElem?_cons_zero, List.getElem?_cons_succ] at c3
  have HAT := Lib.hid hat; have HM := Lib.hid hmono; have HCL := Lib.hid hcl; have HB := Lib.hid hB
  have HC : Hid (∀ W, Below w.heap.size w W → Calls Tryz.prog 76 #[.pointer (some ⟨c, 0, none⟩)] W fun e w' => e = .returned (.int .u64 x) ∧ Below w.heap.size w w') := Lib.hid fun W hb => by
    have := copies_last (A := A) ⟨_, vy, hB.below hb hB.lt, hrx.below hb, hry.below hb⟩ hN.few
    rw [hN.last] at this
    exact this.mono fun e w' ⟨he, n, hn⟩ => ⟨he, by rw [hn]; exact below_drewN hb n⟩
  clear hM hN hA hmono hat hcl hB hrx hry HCL
  have hU1 : U 9223372036854775807 := ⟨by decide, by decide⟩
  have hy0 := hy.1; have hy1 := hy.2
  obtain ⟨v, hv⟩ : ∃ v : Int → Int, (fun t => vA F L R A (max t x)) = v := ⟨_, rfl⟩
  have hvt : ∀ t, vA F L R A (max t x) = v t := fun t => by rw [← hv]
  have HVT := Lib.hid hvt
  have HMV : Hid (∀ t u, x ≤ t → t ≤ u → v t ≤ v u) := Lib.hid fun t u h1 h2 => by rw [← hvt t, ← hvt u]; exact HM.out t u h1 h2
  rw [hv]
  obtain ⟨e0, he0⟩ : ∃ e, v 9223372036854775807 = e := ⟨_, rfl⟩
  have HE := Lib.hid he0
  clear hvt hv he0 HM
  go_enter Tryz.func56, Tryz.ntmps56
  go_wp2_with (first
    | (go_at_call 77; refine (HAT.out _ (Below.refl _ _) 9223372036854775807 hU1).mono ?_; rintro e w1 ⟨rfl, hb1⟩; rw [HVT.out, HE.out]; clear c3)
    | (go_at_call 76; refine (HC.out _ hb1).mono ?_; rintro e w2 ⟨rfl, hb2⟩))
  · go_ret
    refine ⟨9223372036854775808, rfl, Back.of hx1 (Int.le_refl _) ⟨fun _ hlt => ?_, fun hh => by omega⟩, by omega, by omega, hb1⟩
    rw [HE.out]; assumption
  · have hge : y ≤ e0 := by omega
    by_cases hxn : x = 9223372036854775808
    · subst hxn
      go_loopw [5, 6] (fun lo hi W => lo = .int .u64 9223372036854775808 ∧ hi = .int .u64 9223372036854775807 ∧ Below w.heap.size w W) (fun _ _ _ => 0)
      case atStart => exact ⟨rfl, rfl, hb2⟩
      case round =>
        obtain ⟨rfl, rfl, hbw⟩ := hrel
        go_wp2
        go_ret
        exact ⟨9223372036854775808, rfl, Back.of (Int.le_refl _) (Int.le_refl _) ⟨fun _ hlt => by omega, fun hh => by omega⟩, by omega, by omega, hbw⟩
    · go_loopw [5, 6] (fun lo hi W => ∃ l h : Int, lo = .int .u64 l ∧ hi = .int .u64 h ∧ x ≤ l ∧ l ≤ h ∧ h ≤ 9223372036854775807 ∧ y ≤ v h ∧ (x < l → v (l - 1) < y) ∧ Below w.heap.size w W) (fun lo hi _ => (intOf hi - intOf lo).toNat)
      case atStart => exact ⟨x, 9223372036854775807, rfl, rfl, Int.le_refl _, by omega, Int.le_refl _, by rw [HE.out]; exact hge, fun h => by omega, hb2⟩
      case round =>
        obtain ⟨l, h, rfl, rfl, hxl, hlh, hh, hyh, hlo, hbw⟩ := hrel
        have HLO := Lib.hid hlo; have HYH := Lib.hid hyh; have HBW := Lib.hid hbw
        clear hlo hyh hbw hb1 hb2
        by_cases hlt : l < h
        · obtain ⟨q, hq⟩ : ∃ q, (h - l) / 2 = q := ⟨_, rfl⟩
          have hq0 : 0 ≤ q := by omega
          have hql : l + q < h := by omega
          have eq1 : IntKind.u64.wrap ((h - l).tdiv 2) = q := by rw [Int.tdiv_eq_ediv_of_nonneg (by omega), hq]; exact wrap_u ⟨hq0, by omega⟩
          obtain ⟨m, hm⟩ : ∃ m, l + q = m := ⟨_, rfl⟩
          have hum : U m := ⟨by omega, by omega⟩
          obtain ⟨vm, hvm⟩ : ∃ vm, v m = vm := ⟨_, rfl⟩
          have HVM := Lib.hid hvm
          have hml : l ≤ m := by omega
          have hmh : m < h := by omega
          clear hvm hq
          by_cases hc : y ≤ vm
          · go_wp2_with (go_at_call 77; refine (HAT.out _ HBW.out m hum).mono ?_; rintro e w3 ⟨rfl, hb3⟩; rw [HVT.out, HVM.out])
            go_roundw
            case rel => exact ⟨l, m, rfl, by go_num, hxl, hml, by omega, by rw [HVM.out]; exact hc, HLO.out, HBW.out.trans (hb3.mono HBW.out.size)⟩
            case measure => simp [intOf]; omega
          · have hc2 : decide (y ≤ vm) = false := by simpa using hc
            go_wp2_with (go_at_call 77; refine (HAT.out _ HBW.out m hum).mono ?_; rintro e w3 ⟨rfl, hb3⟩; rw [HVT.out, HVM.out])
            go_roundw
            case rel => exact ⟨m + 1, h, by go_num, rfl, by omega, by omega, hh, HYH.out, fun _ => by rw [show m + 1 - 1 = m by omega, HVM.out]; omega, HBW.out.trans (hb3.mono HBW.out.size)⟩
            case measure => simp [intOf]; omega
        · obtain rfl : l = h := by omega
          go_wp2
          go_ret
          exact ⟨l, rfl, Back.of hx1 (by omega) ⟨fun hh2 => by omega, fun _ => ⟨hxl, HYH.out, HLO.out⟩⟩, by omega, by omega, HBW.out⟩
end

end Go.Proofs.YtbnnkkojlclgjaaGreat
/-
  The document's copies: one starts.
-/
namespace Go.Proofs.YtbnnkkojlclgjaaGreat
set_option linter.unusedVariables false
open Go.RowKit

theorem info_u64 : (Tryz.prog.info? 23).map (fun i => (i.zero, i.size, i.bytes)) = some (some (.int .u64 0), 1, 8) := by kernel_rfl

/-- what a start of the document's turns: block c, and rows of numbers from block base on -/
structure RefGrown (w w' : World) (base c : Nat) : Prop where
  os : w'.os = w.os
  tape : w'.tape = w.tape
  output : w'.output = w.output
  size : w.heap.size ≤ w'.heap.size
  block : ∀ k, k < w.heap.size → k ≠ c → (k < base ∨ ∀ cs z, w.heap[k]? ≠ some (.cells cs 23 z)) → w'.heap[k]? = w.heap[k]?
theorem RefGrown.trans {w w1 w2 : World} {base c : Nat} (h1 : RefGrown w w1 base c) (h2 : RefGrown w1 w2 base c) : RefGrown w w2 base c :=
  ⟨h2.os.trans h1.os, h2.tape.trans h1.tape, h2.output.trans h1.output, Nat.le_trans h1.size h2.size, fun k hk hc h => by
    have e1 := h1.block k hk hc h
    have e2 := h2.block k (Nat.lt_of_lt_of_le hk h1.size) hc (h.imp id fun h cs z => by rw [e1]; exact h cs z)
    exact e2.trans e1⟩
theorem RefGrown.of_below {w w' : World} {base c : Nat} (h : Below w.heap.size w w') : RefGrown w w' base c :=
  ⟨h.os, h.tape, h.output, h.size, fun k hk _ _ => h.block k hk⟩
theorem RefGrown.of_set {w w' : World} {base c : Nat} (h : w.grownBy w' (some c)) : RefGrown w w' base c :=
  ⟨h.os, h.tape, h.output, h.size, fun k hk hc _ => h.block k hk (by simpa using hc)⟩
theorem RefGrown.of_row {w w' : World} {base c : Nat} {v : Value} {xs : List Int} (hr : RowU w base v xs) (h : w.grownBy w' v.ownBlock) : RefGrown w w' base c :=
  ⟨h.os, h.tape, h.output, h.size, fun k hk _ ht => h.block k hk fun he => by
    rcases hr.2 with ⟨hv, _⟩ | ⟨b, cp, cur, hv, hb, hblk, _⟩
    · rw [hv] at he; cases he
    · rw [hv] at he
      have : k = b := by simpa [Value.ownBlock] using he
      subst this
      rcases ht with ht | ht
      · omega
      · exact ht _ _ hblk⟩
theorem Blk.ref {w w' : World} {base c g : Nat} {t : TypeId} {cs : Array Value} (h : Blk w g t cs) (hg : RefGrown w w' base c) (hc : g ≠ c) (ht : t ≠ 23) : Blk w' g t cs :=
  (hg.block g h.lt hc (.inr fun cs' z he => by
    unfold Blk at h
    rw [h] at he
    injection he with he
    injection he with h1 h2
    exact ht h2)).trans h
theorem RefGrown.low {w w' : World} {base c : Nat} (h : RefGrown w w' base c) (hb : base ≤ c) (hs : base ≤ w.heap.size) : Below base w w' :=
  ⟨h.os, h.tape, h.output, h.size, fun k hk => h.block k (by omega) (by omega) (.inl hk)⟩
theorem row_blk {w : World} {base : Nat} {v : Value} {xs : List Int} {g : Nat} {t : TypeId} {cs : Array Value} (hr : RowU w base v xs) (h : Blk w g t cs) (ht : t ≠ 23) : some g ≠ v.ownBlock := by
  rcases hr.2 with ⟨hv, _⟩ | ⟨b, cp, cur, hv, hb, hblk, _⟩
  · rw [hv]; intro he; cases he
  · rw [hv]
    intro he
    have : g = b := by simpa [Value.ownBlock] using he
    exact blk_ne h (show Blk w b _ cur from hblk) ht this

def MidS (w wx : World) (c base : Nat) (F L R X : Int) (A : List (Int × Int)) (vy : Value) : Prop :=
  ∃ g cp, Blk wx c 108 #[.int .u64 F, .int .u64 L, .int .u64 R, .slice (some ⟨g, 0, none⟩) (A.length + 1) cp, vy] ∧ RowU wx base (.slice (some ⟨g, 0, none⟩) (A.length + 1) cp) (A.map (·.1) ++ [X]) ∧ RowU wx base vy (A.map (·.2)) ∧ vy.ownBlock ≠ some g ∧ RefGrown w wx base c
def EndS (w wx : World) (c base : Nat) (F L R X Y : Int) (A : List (Int × Int)) : Prop :=
  ∃ vx vy, Blk wx c 108 #[.int .u64 F, .int .u64 L, .int .u64 R, vx, vy] ∧ RowU wx base vx ((A ++ [(X, Y)]).map (·.1)) ∧ RowU wx base vy ((A ++ [(X, Y)]).map (·.2)) ∧ (vx.ownBlock = none ∨ vx.ownBlock ≠ vy.ownBlock) ∧ RefGrown w wx base c

theorem RowU.more {w : World} {base g cp : Nat} {xs : List Int} {X : Int} {n : Nat} (hn : xs.length = n) (h : w.ownsRow base 23 1 (.slice (some ⟨g, 0, none⟩) (n + 1) cp) (n + 1) (xs.map (Value.int .u64) ++ [.int .u64 X])) : RowU w base (.slice (some ⟨g, 0, none⟩) (n + 1) cp) (xs ++ [X]) := by
  unfold RowU
  rw [List.length_append, hn, List.map_append]
  exact h
theorem RowU.blk_lt {w : World} {base : Nat} {v : Value} {xs : List Int} (h : RowU w base v xs) {k : Nat} (hv : v.ownBlock = some k) : k < w.heap.size := by
  rcases h.2 with ⟨rfl, _⟩ | ⟨b, cp, cur, rfl, hb, hblk, _⟩
  · cases hv
  · have : b = k := by simpa [Value.ownBlock] using hv
    subst this
    exact (Array.getElem?_eq_some_iff.1 hblk).1
theorem mid_end {w W w2 : World} {c base g cp : Nat} {F L R X : Int} {A : List (Int × Int)} {vx vy : Value}
    (hB : Blk w c 108 #[.int .u64 F, .int .u64 L, .int .u64 R, vx, vy]) (hx : RowU w base vx (A.map (·.1))) (hy : RowU w base vy (A.map (·.2))) (hd : vx.ownBlock = none ∨ vx.ownBlock ≠ vy.ownBlock)
    (hb : Below w.heap.size w W) (hown : w2.ownsRow base 23 1 (.slice (some ⟨g, 0, none⟩) (A.length + 1) cp) (A.length + 1) ((A.map (·.1)).map (Value.int .u64) ++ [.int .u64 X])) (hgr : W.grownBy w2 vx.ownBlock) (hat : vx.ownBlock = some g ∨ g = W.heap.size) :
    MidS w (w2.setCell ⟨c, 3, none⟩ (.slice (some ⟨g, 0, none⟩) (A.length + 1) cp)) c base F L R X A vy := by
  have hxW := hx.below hb
  have hyW := hy.below hb
  have hBW := hB.below hb hB.lt
  have hB2 := hBW.grown hgr (row_blk hxW hBW (by decide))
  have hrow := RowU.more (xs := A.map (·.1)) (by simp) hown
  have hyd : vy.ownBlock = none ∨ vy.ownBlock ≠ vx.ownBlock := by
    rcases hd with hd | hd
    · rw [hd]; cases h : vy.ownBlock with
      | none => exact .inl rfl
      | some k => exact .inr (by simp)
    · exact .inr (Ne.symm hd)
  have hy2 : RowU w2 base vy (A.map (·.2)) := hyW.kept hgr hyd
  have hset := World.grownBy_setCell w2 ⟨c, 3, none⟩ (.slice (some ⟨g, 0, none⟩) (A.length + 1) cp)
  refine ⟨g, cp, hB2.set_ 3 _, hrow.kept hset (.inr ?_), hy2.kept hset (.inr ?_), ?_, ?_⟩
  · exact Ne.symm (row_blk hrow hB2 (by decide))
  · exact Ne.symm (row_blk hy2 hB2 (by decide))
  · intro he
    rcases hat with hat | hat
    · rcases hd with hd | hd
      · rw [hd] at hat; cases hat
      · exact hd (hat.trans he.symm)
    · have := hyW.blk_lt he
      omega
  · exact (RefGrown.of_below hb).trans ((RefGrown.of_row hxW hgr).trans (RefGrown.of_set hset))
theorem end_end {w wx W w2 : World} {c base g cp g2 cp2 : Nat} {F L R X Y : Int} {A : List (Int × Int)} {vy : Value}
    (hB : Blk wx c 108 #[.int .u64 F, .int .u64 L, .int .u64 R, .slice (some ⟨g, 0, none⟩) (A.length + 1) cp, vy]) (hx : RowU wx base (.slice (some ⟨g, 0, none⟩) (A.length + 1) cp) (A.map (·.1) ++ [X])) (hy : RowU wx base vy (A.map (·.2))) (hne : vy.ownBlock ≠ some g) (hg : RefGrown w wx base c)
    (hb : Below wx.heap.size wx W) (hown : w2.ownsRow base 23 1 (.slice (some ⟨g2, 0, none⟩) (A.length + 1) cp2) (A.length + 1) ((A.map (·.2)).map (Value.int .u64) ++ [.int .u64 Y])) (hgr : W.grownBy w2 vy.ownBlock) (hat : vy.ownBlock = some g2 ∨ g2 = W.heap.size) :
    EndS w (w2.setCell ⟨c, 4, none⟩ (.slice (some ⟨g2, 0, none⟩) (A.length + 1) cp2)) c base F L R X Y A := by
  have hxW := hx.below hb
  have hyW := hy.below hb
  have hBW := hB.below hb hB.lt
  have hB2 := hBW.grown hgr (row_blk hyW hBW (by decide))
  have hrow := RowU.more (xs := A.map (·.2)) (by simp) hown
  have hx2 : RowU w2 base (.slice (some ⟨g, 0, none⟩) (A.length + 1) cp) (A.map (·.1) ++ [X]) := hxW.kept hgr (.inr (Ne.symm hne))
  have hset := World.grownBy_setCell w2 ⟨c, 4, none⟩ (.slice (some ⟨g2, 0, none⟩) (A.length + 1) cp2)
  refine ⟨_, _, hB2.set_ 4 _, ?_, ?_, .inr ?_, ?_⟩
  · rw [List.map_append]
    exact hx2.kept hset (.inr (Ne.symm (row_blk hx2 hB2 (by decide))))
  · rw [List.map_append]
    exact hrow.kept hset (.inr (Ne.symm (row_blk hrow hB2 (by decide))))
  · have hgl := hx.blk_lt (k := g) rfl
    have hbs := hb.size
    simp only [Value.ownBlock, ne_eq, Option.some.injEq]
    rintro rfl
    rcases hat with hat | hat
    · exact hne hat
    · omega
  · exact hg.trans ((RefGrown.of_below hb).trans ((RefGrown.of_row hyW hgr).trans (RefGrown.of_set hset)))

section
variable {w : World} {c base : Nat} {F L R x : Int} {A : List (Int × Int)} {vx vy : Value}
set_option maxRecDepth 20000 in
set_option maxHeartbeats 2000000 in
theorem copies_start (hB : Blk w c 108 #[.int .u64 F, .int .u64 L, .int .u64 R, vx, vy]) (hx : RowU w base vx (A.map (·.1))) (hy : RowU w base vy (A.map (·.2))) (hd : vx.ownBlock = none ∨ vx.ownBlock ≠ vy.ownBlock) (hbs : base ≤ w.heap.size) (hN : Nums x A) (t y X Y : Int) (hX : X = max (min t 9223372036854775808) x) (hY : Y = min y 4611686018427387904) (hfew : A.length < 900000) :
    Calls Tryz.prog 53 #[.pointer (some ⟨c, 0, none⟩), .int .u64 t, .int .u64 y] w fun e w' => e = .returned (.tuple #[]) ∧ EndS w w' c base F L R X Y A := by
  obtain ⟨mn, hmn⟩ : ∃ mn, (if 9223372036854775808 < t then (9223372036854775808 : Int) else t) = mn := ⟨_, rfl⟩
  have hX1 : (if mn < x then x else mn) = X := by rw [hX]; split at hmn <;> split <;> omega
  have hY1 : (if 4611686018427387904 < y then (4611686018427387904 : Int) else y) = Y := by rw [hY]; split <;> omega
  have hlast := fun (W : World) (hb : Below w.heap.size w W) => copies_last (A := A) ⟨vx, vy, hB.below hb hB.lt, hx.below hb, hy.below hb⟩ hN.few
  rw [hN.last] at hlast
  have HB := Lib.hid hB; have HX := Lib.hid hx; have HY := Lib.hid hy; have HD := Lib.hid hd; have HL := Lib.hid hlast; have HY1 := Lib.hid hY1
  have c3 := hB.cell 3; have z3 := hB.frozen 3
  simp only [List.getElem?_toArray, List.getElem?_cons_zero, List.getElem?_cons_succ] at c3
  have hlx : (A.map fun a : Int × Int => a.1).length = A.length := by simp
  have hly : (A.map fun a : Int × Int => a.2).length = A.length := by simp
  have HLX := Lib.hid hlx; have HLY := Lib.hid hly
  have hcl := hB.lt
  have hcne : ¬ c = w.heap.size := by omega
  have hcne' : ¬ w.heap.size = c := by omega
  have cA : ∀ n o, ((w.drewN n).alloc o).cell? ⟨c, 3, none⟩ = some vx := fun n o => ((drewN_below w n).alloc (drewN_below w n).size o).cell (p := ⟨c, 3, none⟩) hcl |>.trans c3
  obtain ⟨i0, hi0, hz0, hz1, hz2⟩ := info_parts info_u64
  clear hB hx hy hd hN hX hY hlast hlx hly hY1
  go_enter Tryz.func53, Tryz.ntmps53
  go_upto_region 1 with fail
  go_cut [17] (fun s17 wx => MidS w wx c base F L R X A vy)
  case first =>
    have hown := fun (W : World) (hb : Below w.heap.size w W) => (show W.ownsRow base 23 1 vx A.length ((A.map fun a : Int × Int => a.1).map (Value.int .u64)) from HLX.out ▸ HX.out.below hb)
    have HO := Lib.hid hown; clear hown
    go_region_law (first
      | (go_simp; go_at_call 76; refine (HL.out _ (by go_grown <;> exact below_drewN (Below.refl _ _) _)).mono ?_; rintro e w' ⟨rfl, n, rfl⟩)
      | (refine step_append_lies _ rfl (.tmp 10) (.tmp 16) 102 rfl base 23 i0 (.int .u64 0) 1 8 Tryz.underlying102 hi0 hz0 hz1 hz2 rfl (by decide) vx A.length _ rfl (HO.out _ (by go_grown <;> exact below_drewN (Below.refl _ _) _)) ⟨_, 0, none⟩ 1 1 [.int .u64 X] rfl rfl (World.news_of_block (heap_alloc_new _ _)) (by simp [Value.oneCell']) (by decide) (by unfold maxLen; omega) (by omega) (by simp; omega) _ rfl ?_; intro g cp w2 hown2 hgr2 hat2 hlt2; have hB2 := (HB.out.below (by go_grown <;> exact below_drewN (Below.refl _ _) _) HB.out.lt).grown hgr2 (row_blk HX.out HB.out (by decide)); have d3 := hB2.cell 3; have y3 := hB2.frozen 3; simp only [List.getElem?_toArray, List.getElem?_cons_zero, List.getElem?_cons_succ] at d3))
    all_goals
      go_wp2
      go_meet
      exact mid_end HB.out HX.out HY.out HD.out (by go_grown <;> exact below_drewN (Below.refl _ _) _) hown2 hgr2 hat2
  case rest =>
    obtain ⟨g, cp, hB, hx, hy, hne, hg⟩ := hcut
    have d4 := hB.cell 4; have y4 := hB.frozen 4
    simp only [List.getElem?_toArray, List.getElem?_cons_zero, List.getElem?_cons_succ] at d4
    have hown := (show (wc.alloc (.cells #[.int .u64 Y] 23)).ownsRow base 23 1 vy A.length ((A.map fun a : Int × Int => a.2).map (Value.int .u64)) from HLY.out ▸ hy.below ((Below.refl _ _).alloc (Nat.le_refl _) _))
    have hb1 := (Below.refl wc.heap.size wc).alloc (Nat.le_refl _) (.cells #[.int .u64 Y] 23)
    have hBW := hB.below hb1 hB.lt
    have hbs2 : base ≤ wc.heap.size := Nat.le_trans hbs hg.size
    have HB2 := Lib.hid hB; have HX2 := Lib.hid hx; have HYY := Lib.hid hy; have HG := Lib.hid hg; have HO := Lib.hid hown; have HBW := Lib.hid hBW; have HNE := Lib.hid hne
    have hy1 := HY1.out
    clear hB hx hy hg hown hBW hne c3 z3 HB HX HD HL HY cA
    go_wp2_with (at_builtin; refine wpList_append_lies _ rfl _ _ 102 rfl base 23 i0 (.int .u64 0) 1 8 Tryz.underlying102 hi0 hz0 hz1 hz2 rfl (by decide) vy A.length _ rfl HO.out ⟨wc.heap.size, 0, none⟩ 1 1 [.int .u64 Y] rfl rfl (World.news_of_block (heap_alloc_new wc _)) (by simp [Value.oneCell']) (by decide) (by unfold maxLen; omega) (by omega) (Nat.le_trans hbs2 (by simp)) _ rfl ?_; intro g2 cp2 w2 hown2 hgr2 hat2 hlt2; have hB2 := HBW.out.grown hgr2 (row_blk (HYY.out.below hb1) HBW.out (by decide)); have e4 := hB2.cell 4; have f4 := hB2.frozen 4; simp only [List.getElem?_toArray, List.getElem?_cons_zero, List.getElem?_cons_succ] at e4)
    go_returns
    exact ⟨rfl, end_end HB2.out HX2.out HYY.out HNE.out HG.out hb1 hown2 hgr2 hat2⟩
end

end Go.Proofs.YtbnnkkojlclgjaaGreat
/-
  The document's run: what is asked of it; a start.
-/
namespace Go.Proofs.YtbnnkkojlclgjaaGreat
set_option linter.unusedVariables false
open Go.RowKit

/-- what a run has, what E has; the ticks at which they have so much -/
def qA (F L R x : Int) (A : List (Int × Int)) (t : Int) : Int := if A.isEmpty then 0 else vA F L R A (max t x)
def qE (F L R x : Int) (A : List (Int × Int)) (t : Int) : Int := if A.isEmpty then 0 else vE F L R A (max t x)
noncomputable def ansI (v : Int → Int) (x y : Int) : Int := Classical.epsilon fun n => Back v x y n
noncomputable def qR (F L R x : Int) (A : List (Int × Int)) (y : Int) : Int := if A.isEmpty then nevB y else ansI (fun t => vA F L R A (max t x)) x y
noncomputable def qL (F L R x : Int) (A : List (Int × Int)) (y : Int) : Int := if A.isEmpty then nevB y else ansI (fun t => vE F L R A (max t x)) x y
theorem ans_unique {v : Int → Int} {x y n m : Int} (h : Back v x y n) (k : Back v x y m) (hm : ∀ t u, x ≤ t → t ≤ u → v t ≤ v u) : n = m := by
  have h1 := Back.less h k hm (fun _ _ => Int.le_refl _)
  have h2 := Back.less k h hm (fun _ _ => Int.le_refl _)
  omega
theorem Back.ans {v : Int → Int} {x y n : Int} (h : Back v x y n) (hm : ∀ t u, x ≤ t → t ≤ u → v t ≤ v u) : n = ansI v x y :=
  ans_unique h (Classical.epsilon_spec (p := fun n => Back v x y n) ⟨n, h⟩) hm
theorem Ans.fix {v : Int → Int} {x y : Int} {w w' : World} {e : Ending} (hm : ∀ t u, x ≤ t → t ≤ u → v t ≤ v u) (h : Ans v x y w e w') : e = .returned (.int .u64 (ansI v x y)) ∧ Below w.heap.size w w' := by
  obtain ⟨n, rfl, hk, _, _, hb⟩ := h
  exact ⟨by rw [hk.ans hm], hb⟩
theorem not_empty {A : List (Int × Int)} (h : A ≠ []) : A.isEmpty = false := by cases A with | nil => exact absurd rfl h | cons _ _ => rfl

theorem W_flat {R u : Int} (hu : 0 ≤ u) : W 0 0 R u = R * u := by
  unfold W
  rw [show min u 0 = 0 by omega, Int.sub_zero]
  omega
theorem vA_line {F L R x t : Int} {A : List (Int × Int)} (hb : ¬ R < F) (hN : Nums x A) (ht : x ≤ t) : vA 0 0 R A t = vE F L R A t := by
  unfold vE
  rw [if_neg hb]
  refine minF_congr A _ fun a ha => ?_
  have := hN.num a ha
  unfold atK linK
  rw [W_flat (show 0 ≤ t - a.1 by omega)]
theorem MayC.line {F L R : Int} (h : MayC F L R) : MayC 0 0 R := ⟨Int.le_refl _, by omega, h.r0, h.r1, Int.le_refl _, by omega, fun _ => rfl⟩

/-- the document's run of the curve F, L, R, at block r: A started, the last one at x -/
structure RefAt (w : World) (r base : Nat) (F L R x : Int) (A : List (Int × Int)) : Prop where
  at_ : ∃ vx vy, Blk w r 104 #[.int .u64 F, .int .u64 L, .int .u64 R, vx, vy] ∧ RowU w base vx (A.map (·.1)) ∧ RowU w base vy (A.map (·.2)) ∧ (vx.ownBlock = none ∨ vx.ownBlock ≠ vy.ownBlock)
  may : MayC F L R
  nums : Nums x A
  low : base ≤ r

section
variable {w w' : World} {r base : Nat} {F L R x : Int} {A : List (Int × Int)} {vx vy : Value}
theorem RefAt.lt (h : RefAt w r base F L R x A) : r < w.heap.size := by obtain ⟨vx, vy, hB, _⟩ := h.at_; exact hB.lt
theorem RefAt.below (h : RefAt w r base F L R x A) (hb : Below w.heap.size w w') : RefAt w' r base F L R x A := by
  obtain ⟨vx, vy, h1, h2, h3, h4⟩ := h.at_
  exact ⟨⟨vx, vy, h1.below hb h1.lt, h2.below hb, h3.below hb, h4⟩, h.may, h.nums, h.low⟩
/-- another block, of another kind, turns -/
theorem RefAt.grown {g : Nat} {t : TypeId} {cs : Array Value} (h : RefAt w r base F L R x A) (hw : w.grownBy w' (some g)) (hg : Blk w g t cs) (ht : t ≠ 23) (ht2 : t ≠ 104) : RefAt w' r base F L R x A := by
  obtain ⟨vx, vy, h1, h2, h3, h4⟩ := h.at_
  refine ⟨⟨vx, vy, h1.grown hw ?_, h2.kept hw (.inr (Ne.symm (row_blk h2 hg ht))), h3.kept hw (.inr (Ne.symm (row_blk h3 hg ht))), h4⟩, h.may, h.nums, h.low⟩
  have := blk_ne h1 hg (Ne.symm ht2)
  simpa using this
def Slc (v : Value) : Prop := ∃ a n c, v = .slice a n c
theorem RowU.slc {w : World} {base : Nat} {v : Value} {xs : List Int} (h : RowU w base v xs) : Slc v := by
  obtain ⟨a, c, rfl⟩ := h.shape
  exact ⟨_, _, _, rfl⟩
theorem RefAt.copies (h : RefAt w r base F L R x A) : ∃ vx vy, (Slc vx ∧ Slc vy) ∧ Blk w r 104 #[.int .u64 F, .int .u64 L, .int .u64 R, vx, vy] ∧ ∀ w' c, Below w.heap.size w w' → Blk w' c 108 #[.int .u64 F, .int .u64 L, .int .u64 R, vx, vy] → CopiesAt w' c base F L R A := by
  obtain ⟨vx, vy, h1, h2, h3, h4⟩ := h.at_
  exact ⟨vx, vy, ⟨h2.slc, h3.slc⟩, h1, fun w' c hb hB => ⟨vx, vy, hB, h2.below hb, h3.below hb⟩⟩

set_option maxHeartbeats 1000000 in
theorem run_copies (hsx : Slc vx) (hsy : Slc vy) (hB : Blk w r 104 #[.int .u64 F, .int .u64 L, .int .u64 R, vx, vy]) :
    Calls Tryz.prog 52 #[.pointer (some ⟨r, 0, none⟩)] w fun e w' => ∃ c, e = .returned (.pointer (some ⟨c, 0, none⟩)) ∧ w.heap.size ≤ c ∧ Blk w' c 108 #[.int .u64 F, .int .u64 L, .int .u64 R, vx, vy] ∧ Below w.heap.size w w' := by
  obtain ⟨ax, nx, cx, rfl⟩ := hsx
  obtain ⟨ay, ny, cy, rfl⟩ := hsy
  have hlt := hB.lt
  have o0 := fun e => (over_cell (w := w) (e := e) (o := 0) hlt).trans (hB.cell 0)
  have o1 := fun e => (over_cell (w := w) (e := e) (o := 1) hlt).trans (hB.cell 1)
  have o2 := fun e => (over_cell (w := w) (e := e) (o := 2) hlt).trans (hB.cell 2)
  have o3 := fun e => (over_cell (w := w) (e := e) (o := 3) hlt).trans (hB.cell 3)
  have o4 := fun e => (over_cell (w := w) (e := e) (o := 4) hlt).trans (hB.cell 4)
  simp only [List.getElem?_toArray, List.getElem?_cons_zero, List.getElem?_cons_succ] at o0 o1 o2 o3 o4
  clear hB
  go_enter Tryz.func52, Tryz.ntmps52
  go_wp2
  refine wp_region_over_tail 13 (by kernel_rfl) (by kernel_rfl) ?_
  simp only [List.take_succ_cons, List.take_zero, List.drop_succ_cons, List.drop_zero]
  repeat (first | go_big_quiet_skip | (go_big_quiet_want; go_big_quiet_op; go_big_quiet_on) | (refine wpQuiet_step (fun K hK => ?_); go_simp; (refine hK _ ?_; clear hK K)))
  refine wpQuiet_nil ?_
  rintro W2 ⟨e, he⟩
  have hb22 := over_below w e
  rw [← he] at hb22
  clear he o0 o1 o2 o3 o4
  go_wp2
  go_ret
  exact ⟨W2.heap.size, rfl, hb22.size, Blk.new _ _ _, hb22.alloc hb22.size _⟩

set_option maxHeartbeats 1000000 in
theorem ref_lines (h : CopiesAt w r base F L R A) :
    Calls Tryz.prog 55 #[.pointer (some ⟨r, 0, none⟩)] w fun e w' => ∃ c, e = .returned (.pointer (some ⟨c, 0, none⟩)) ∧ w.heap.size ≤ c ∧ CopiesAt w' c base 0 0 R A ∧ Below w.heap.size w w' := by
  obtain ⟨vx, vy, hB, hx, hy⟩ := h
  obtain ⟨ax, nx, cx, rfl⟩ := hx.slc
  obtain ⟨ay, ny, cy, rfl⟩ := hy.slc
  have hlt := hB.lt
  have o2 := fun e => (over_cell (w := w) (e := e) (o := 2) hlt).trans (hB.cell 2)
  have o3 := fun e => (over_cell (w := w) (e := e) (o := 3) hlt).trans (hB.cell 3)
  have o4 := fun e => (over_cell (w := w) (e := e) (o := 4) hlt).trans (hB.cell 4)
  simp only [List.getElem?_toArray, List.getElem?_cons_zero, List.getElem?_cons_succ] at o2 o3 o4
  clear hB
  have HX := Lib.hid hx; have HY := Lib.hid hy; clear hx hy
  go_enter Tryz.func55, Tryz.ntmps55
  go_wp2
  refine wp_region_over_tail 15 (by kernel_rfl) (by kernel_rfl) ?_
  simp only [List.take_succ_cons, List.take_zero, List.drop_succ_cons, List.drop_zero]
  repeat (first | go_big_quiet_skip | (go_big_quiet_want; go_big_quiet_op; go_big_quiet_on) | (refine wpQuiet_step (fun K hK => ?_); go_simp; (refine hK _ ?_; clear hK K)))
  refine wpQuiet_nil ?_
  rintro W2 ⟨e, he⟩
  have hb22 := over_below w e
  rw [← he] at hb22
  clear he o2 o3 o4
  go_wp2
  go_ret
  have hb3 := hb22.alloc hb22.size (.cells #[.int .u64 0, .int .u64 0, .int .u64 R, .slice ax nx cx, .slice ay ny cy] 108)
  exact ⟨W2.heap.size, rfl, hb22.size, ⟨_, _, Blk.new _ _ _, HX.out.below hb3, HY.out.below hb3⟩, hb3⟩

theorem rbent_any (F L R : Int) (w : World) :
    Calls Tryz.prog 54 #[.agg #[.int .u64 F, .int .u64 L, .int .u64 R]] w fun e w' => e = .returned (.bool (decide (R < F))) ∧ Below w.heap.size w w' := by
  go_enter Tryz.func54, Tryz.ntmps54
  go_wp2
  try go_quiet (fail)
  try go_wp2
  go_ret
  exact ⟨rfl, by go_grown <;> exact below_drewN (Below.refl _ _) _⟩

theorem ref_reach (h : RefAt w r base F L R x A) (y : Int) (hy : U y) :
    Calls Tryz.prog 30 #[.pointer (some ⟨r, 0, none⟩), .int .u64 y] w fun e w' => e = .returned (.int .u64 (qR F L R x A y)) ∧ Below w.heap.size w w' := by
  obtain ⟨vx, vy, ⟨hsx, hsy⟩, hB, hc⟩ := h.copies
  have hm := h.may; have hn := h.nums
  have HM := Lib.hid hm; have HN := Lib.hid hn; have HB := Lib.hid hB; have HC := Lib.hid hc
  clear h hm hn hB hc
  by_cases hA : A = []
  · subst hA
    have e : qR F L R x [] y = nevB y := rfl
    rw [e]
    clear e HN
    go_enter Tryz.func30, Tryz.ntmps30
    go_wp2_with (first
      | (go_at_call 52; refine (run_copies hsx hsy HB.out).mono ?_; rintro e w1 ⟨c, rfl, hcl, hcb, hb1⟩; have HCB := Lib.hid hcb; clear hcb)
      | (go_at_call 56; refine (copies_reach0 (HC.out _ c hb1 HCB.out) y).mono ?_; rintro e w' ⟨rfl, rfl⟩))
    go_ret
    exact ⟨rfl, hb1⟩
  · have e : qR F L R x A y = ansI (fun t => vA F L R A (max t x)) x y := by unfold qR; rw [not_empty hA]; rfl
    rw [e]
    have HA := Lib.hid hA; clear hA e
    go_enter Tryz.func30, Tryz.ntmps30
    go_wp2_with (first
      | (go_at_call 52; refine (run_copies hsx hsy HB.out).mono ?_; rintro e w1 ⟨c, rfl, hcl, hcb, hb1⟩; have HCB := Lib.hid hcb; clear hcb)
      | (go_at_call 56; refine ((copies_reach (HC.out _ c hb1 HCB.out) HM.out HN.out HA.out y hy).mono fun _ _ h => h.fix (vA_max_mono HM.out HN.out.low)).mono ?_; rintro e w' ⟨rfl, hb2⟩))
    go_ret
    exact ⟨rfl, hb1.trans (hb2.mono hb1.size)⟩

set_option maxHeartbeats 1000000 in
theorem ref_elig (h : RefAt w r base F L R x A) (y : Int) (hy : U y) :
    Calls Tryz.prog 24 #[.pointer (some ⟨r, 0, none⟩), .int .u64 y] w fun e w' => e = .returned (.int .u64 (qL F L R x A y)) ∧ Below w.heap.size w w' := by
  obtain ⟨vx, vy, ⟨hsx, hsy⟩, hB, hc⟩ := h.copies
  have hm := h.may; have hn := h.nums
  have c0 := hB.cell 0; have c1 := hB.cell 1; have c2 := hB.cell 2
  simp only [List.getElem?_toArray, List.getElem?_cons_zero, List.getElem?_cons_succ] at c0 c1 c2
  have HM := Lib.hid hm; have HN := Lib.hid hn; have HB := Lib.hid hB; have HC := Lib.hid hc; have HR := Lib.hid h
  clear h hm hn hB hc
  by_cases hb : R < F
  · have e : qL F L R x A y = qR F L R x A y := by unfold qL qR vE; simp only [if_pos hb]
    have hd : decide (R < F) = true := by simpa using hb
    rw [e]
    clear e
    go_enter Tryz.func24, Tryz.ntmps24
    go_wp2_with (first
      | (go_at_call 54; refine (rbent_any F L R _).mono ?_; rintro e w1 ⟨rfl, hb1⟩; rw [hd])
      | (go_at_call 30; refine (ref_reach (HR.out.below hb1) y hy).mono ?_; rintro e w' ⟨rfl, hb2⟩))
    go_ret
    exact ⟨rfl, hb1.trans (hb2.mono hb1.size)⟩
  · have hd : decide (R < F) = false := by simpa using hb
    by_cases hA : A = []
    · subst hA
      have e : qL F L R x [] y = nevB y := rfl
      rw [e]
      clear e HN
      go_enter Tryz.func24, Tryz.ntmps24
      go_wp2_with (first
        | (go_at_call 54; refine (rbent_any F L R _).mono ?_; rintro e w1 ⟨rfl, hb1⟩; rw [hd])
        | (go_at_call 52; refine (run_copies hsx hsy (HB.out.below hb1 HB.out.lt)).mono ?_; rintro e w2 ⟨c, rfl, hcl, hcb, hb2⟩; have HCB := Lib.hid hcb; clear hcb; have hb3 := hb1.trans (hb2.mono hb1.size))
        | (go_at_call 55; refine (ref_lines (HC.out _ c hb3 HCB.out)).mono ?_; rintro e w3 ⟨c2, rfl, hcl2, hcb2, hb4⟩; have HCC := Lib.hid hcb2; clear hcb2)
        | (go_at_call 56; refine (copies_reach0 HCC.out y).mono ?_; rintro e w' ⟨rfl, rfl⟩))
      go_ret
      exact ⟨rfl, hb3.trans (hb4.mono hb3.size)⟩
    · have hfun : (fun t => vE F L R A (max t x)) = fun t => vA 0 0 R A (max t x) := by funext t; exact (vA_line hb HN.out (by omega)).symm
      have e : qL F L R x A y = ansI (fun t => vA 0 0 R A (max t x)) x y := by unfold qL; rw [not_empty hA, hfun]; rfl
      rw [e]
      have HA := Lib.hid hA; clear hA e hfun
      go_enter Tryz.func24, Tryz.ntmps24
      go_wp2_with (first
        | (go_at_call 54; refine (rbent_any F L R _).mono ?_; rintro e w1 ⟨rfl, hb1⟩; rw [hd])
        | (go_at_call 52; refine (run_copies hsx hsy (HB.out.below hb1 HB.out.lt)).mono ?_; rintro e w2 ⟨c, rfl, hcl, hcb, hb2⟩; have HCB := Lib.hid hcb; clear hcb; have hb3 := hb1.trans (hb2.mono hb1.size))
        | (go_at_call 55; refine (ref_lines (HC.out _ c hb3 HCB.out)).mono ?_; rintro e w3 ⟨c2, rfl, hcl2, hcb2, hb4⟩; have HCC := Lib.hid hcb2; clear hcb2)
        | (go_at_call 56; refine ((copies_reach HCC.out HM.out.line HN.out HA.out y hy).mono fun _ _ h => h.fix (vA_max_mono HM.out.line HN.out.low)).mono ?_; rintro e w' ⟨rfl, hb5⟩))
      go_ret
      exact ⟨rfl, hb3.trans ((hb4.trans (hb5.mono hb4.size)).mono hb3.size)⟩

end

end Go.Proofs.YtbnnkkojlclgjaaGreat
/-
  The document's run starts a copy; a run and the document's have the same (distributarylaw07.same).
-/
namespace Go.Proofs.YtbnnkkojlclgjaaGreat
set_option linter.unusedVariables false
open Go.RowKit

section
variable {w w' : World} {r base : Nat} {F L R x : Int} {A : List (Int × Int)} {vx vy : Value}
theorem grown_trans {w1 w2 w3 : World} {row : Option Nat} (h1 : w1.grownBy w2 row) (h2 : w2.grownBy w3 row) : w1.grownBy w3 row :=
  ⟨h2.os.trans h1.os, h2.tape.trans h1.tape, h2.output.trans h1.output, Nat.le_trans h1.size h2.size, fun k hk hne => (h2.block k (Nat.lt_of_lt_of_le hk h1.size) hne).trans (h1.block k hk hne)⟩
theorem ref_end {w w1 w2 w3 : World} {c : Nat} {X Y : Int} {vx' vy' : Value} (h : RefAt w r base F L R x A) (hb1 : Below w.heap.size w w1) (hcl : w.heap.size ≤ c) (hg : RefGrown w1 w2 base c) (hN : Nums X (A ++ [(X, Y)]))
    (hx : RowU w2 base vx' ((A ++ [(X, Y)]).map (·.1))) (hy : RowU w2 base vy' ((A ++ [(X, Y)]).map (·.2))) (hd : vx'.ownBlock = none ∨ vx'.ownBlock ≠ vy'.ownBlock) (hw3 : w3 = (w2.setCell ⟨r, 3, none⟩ vx').setCell ⟨r, 4, none⟩ vy' ∨ w3 = (w2.setCell ⟨r, 4, none⟩ vy').setCell ⟨r, 3, none⟩ vx') :
    RefAt w3 r base F L R X (A ++ [(X, Y)]) ∧ RefGrown w w3 base r := by
  obtain ⟨vx, vy, hB, _⟩ := h.at_
  have hrc : r ≠ c := by have := hB.lt; omega
  have hB2 := (hB.below hb1 hB.lt).ref hg hrc (by decide)
  have hg0 : RefGrown w w2 base r := by
    have h1 : RefGrown w w1 base c := RefGrown.of_below hb1
    have h2 := h1.trans hg
    exact ⟨h2.os, h2.tape, h2.output, h2.size, fun k hk _ ht => h2.block k hk (by omega) ht⟩
  have key : ∀ (w3 : World), w2.grownBy w3 (some r) → Blk w3 r 104 #[.int .u64 F, .int .u64 L, .int .u64 R, vx', vy'] → RefAt w3 r base F L R X (A ++ [(X, Y)]) ∧ RefGrown w w3 base r := fun w3 hgr hB3 =>
    ⟨⟨⟨vx', vy', hB3, hx.kept hgr (.inr (Ne.symm (row_blk hx hB2 (by decide)))), hy.kept hgr (.inr (Ne.symm (row_blk hy hB2 (by decide)))), hd⟩, h.may, hN, h.low⟩, hg0.trans (RefGrown.of_set hgr)⟩
  rcases hw3 with rfl | rfl
  · exact key _ (grown_trans (World.grownBy_setCell w2 ⟨r, 3, none⟩ vx') (World.grownBy_setCell _ ⟨r, 4, none⟩ vy')) (by simpa using (hB2.set_ 3 vx').set_ 4 vy')
  · exact key _ (grown_trans (World.grownBy_setCell w2 ⟨r, 4, none⟩ vy') (World.grownBy_setCell _ ⟨r, 3, none⟩ vx')) (by simpa using (hB2.set_ 4 vy').set_ 3 vx')

set_option maxHeartbeats 2000000 in
theorem ref_start (h : RefAt w r base F L R x A) (hbs : base ≤ w.heap.size) (t y X Y : Int) (ht : U t) (hy : U y) (hX : X = max (min t 9223372036854775808) x) (hY : Y = min y 4611686018427387904) (hfew : A.length < 900000) :
    Calls Tryz.prog 23 #[.pointer (some ⟨r, 0, none⟩), .int .u64 t, .int .u64 y] w fun e w' => e = .returned (.tuple #[]) ∧ RefAt w' r base F L R X (A ++ [(X, Y)]) ∧ RefGrown w w' base r := by
  have hN := h.nums.start t y X Y ht hy hX hY hfew
  obtain ⟨vx, vy, hB, hx, hyy, hd⟩ := h.at_
  have hn := h.nums
  have HR := Lib.hid h; have HN := Lib.hid hN; have HB := Lib.hid hB; have HX := Lib.hid hx; have HY := Lib.hid hyy; have HD := Lib.hid hd; have HN0 := Lib.hid hn; have HXE := Lib.hid hX; have HYE := Lib.hid hY
  have hrl := hB.lt
  clear h hN hB hx hyy hd hn hX hY
  go_enter Tryz.func23, Tryz.ntmps23
  go_wp2_with (first
    | (go_at_call 52; refine (run_copies HX.out.slc HY.out.slc HB.out).mono ?_; rintro e w1 ⟨c, rfl, hcl, hcb, hb1⟩; have HCB := Lib.hid hcb; clear hcb)
    | (go_at_call 53; refine (copies_start HCB.out (HX.out.below hb1) (HY.out.below hb1) HD.out (Nat.le_trans hbs hb1.size) HN0.out t y X Y HXE.out HYE.out hfew).mono ?_; rintro e w2 ⟨rfl, vx', vy', hc2, hx2, hy2, hd2, hg2⟩; obtain ⟨ax2, nx2, cx2, rfl⟩ := hx2.slc; obtain ⟨ay2, ny2, cy2, rfl⟩ := hy2.slc; have HC2 := Lib.hid hc2; have HX2 := Lib.hid hx2; have HY2 := Lib.hid hy2; have HD2 := Lib.hid hd2; have HG2 := Lib.hid hg2; clear hc2 hx2 hy2 hd2 hg2))
  have hrc : r ≠ c := by omega
  have hcr : c ≠ r := by omega
  have hB2 := (HB.out.below hb1 HB.out.lt).ref HG2.out hrc (by decide)
  have r3 := hB2.cell 3; have r4 := hB2.cell 4; have z3 := hB2.frozen 3; have z4 := hB2.frozen 4
  have c3 := HC2.out.cell 3; have c4 := HC2.out.cell 4
  simp only [List.getElem?_toArray, List.getElem?_cons_zero, List.getElem?_cons_succ] at r3 r4 c3 c4
  clear hB2
  go_region
  all_goals
    go_wp2
    go_returns
    refine ⟨rfl, ?_⟩
    first
      | (have hh := ref_end HR.out hb1 hcl HG2.out HN.out HX2.out HY2.out HD2.out (.inl rfl); exact ⟨hh.1.below (by go_grown), hh.2.trans (RefGrown.of_below (by go_grown))⟩)
      | (have hh := ref_end HR.out hb1 hcl HG2.out HN.out HX2.out HY2.out HD2.out (.inr rfl); exact ⟨hh.1.below (by go_grown), hh.2.trans (RefGrown.of_below (by go_grown))⟩)

end

end Go.Proofs.YtbnnkkojlclgjaaGreat
/-
  The document's answer whether a curve may be; its run, made new.
-/
namespace Go.Proofs.YtbnnkkojlclgjaaGreat
set_option linter.unusedVariables false
open Go.RowKit

theorem rmay_any (F L R : Int) (w : World) (hL : 0 ≤ L) :
    Calls Tryz.prog 18 #[.agg #[.int .u64 F, .int .u64 L, .int .u64 R]] w fun e w' => e = .returned (.bool (mayB F L R)) ∧ Below w.heap.size w w' := by
  by_cases h1 : F ≤ 1048576
  · have h1b : decide (1048576 < F) = false := by simp; omega
    by_cases h2 : R ≤ 1048576
    · have h2b : decide (1048576 < R) = false := by simp; omega
      by_cases h3 : L ≤ 1099511627776
      · have h3b : decide (1099511627776 < L) = false := by simp; omega
        by_cases h4 : L = 0
        · subst h4
          have e : mayB F 0 R = decide (F = 0) := by simp [mayB, h1, h2]
          have E := Lib.hid e; clear e
          by_cases h5 : F = 0
          · subst h5
            go_enter Tryz.func18, Tryz.ntmps18
            go_wp2
            go_ret
            exact ⟨by rw [E.out]; rfl, by go_grown⟩
          · have h5b : (F == 0) = false := by simpa using h5
            go_enter Tryz.func18, Tryz.ntmps18
            go_wp2
            go_ret
            exact ⟨by rw [E.out]; simp [h5], by go_grown⟩
        · have h4b : (L == 0) = false := by simpa using h4
          have h4c : decide (0 < L) = true := by simp; omega
          have e : mayB F L R = decide (F ≠ R) := by simp [mayB, h1, h2, h3, h4]
          have E := Lib.hid e; clear e
          by_cases h5 : F = R
          · subst h5
            have h5b : (F != F) = false := by simp
            go_enter Tryz.func18, Tryz.ntmps18
            go_wp2
            go_ret
            exact ⟨by rw [E.out]; simp, by go_grown⟩
          · have h5b : (F != R) = true := by simpa using h5
            go_enter Tryz.func18, Tryz.ntmps18
            go_wp2
            go_ret
            exact ⟨by rw [E.out]; simp [h5], by go_grown⟩
      · have h3b : decide (1099511627776 < L) = true := by simp; omega
        have e : mayB F L R = false := by simp [mayB, h3]
        have E := Lib.hid e; clear e
        go_enter Tryz.func18, Tryz.ntmps18
        go_wp2
        go_ret
        exact ⟨by rw [E.out]; rfl, by go_grown⟩
    · have h2b : decide (1048576 < R) = true := by simp; omega
      have e : mayB F L R = false := by simp [mayB, h2]
      have E := Lib.hid e; clear e
      go_enter Tryz.func18, Tryz.ntmps18
      go_wp2
      go_ret
      exact ⟨by rw [E.out]; rfl, by go_grown⟩
  · have h1b : decide (1048576 < F) = true := by simp; omega
    have e : mayB F L R = false := by simp [mayB, h1]
    have E := Lib.hid e; clear e
    go_enter Tryz.func18, Tryz.ntmps18
    go_wp2
    go_ret
    exact ⟨by rw [E.out]; rfl, by go_grown⟩

theorem refnew_no (F L R : Int) (w : World) (hL : 0 ≤ L) (h : mayB F L R = false) :
    Calls Tryz.prog 19 #[.agg #[.int .u64 F, .int .u64 L, .int .u64 R]] w fun e w' => e = .returned (.pointer none) ∧ Below w.heap.size w w' := by
  have hal := (Below.refl w.heap.size w).alloc (Nat.le_refl _) (.cells #[.int .u64 F, .int .u64 L, .int .u64 R] 31)
  have H := Lib.hid h; clear h
  go_enter Tryz.func19, Tryz.ntmps19
  go_wp2_with (go_at_call 18; refine (rmay_any F L R _ hL).mono ?_; rintro e w1 ⟨rfl, hb1⟩; rw [H.out])
  go_ret
  exact ⟨rfl, hal.trans (hb1.mono hal.size)⟩
theorem refnew_some (F L R : Int) (w : World) (base : Nat) (hF : 0 ≤ F) (hL : 0 ≤ L) (hR : 0 ≤ R) (hb : base ≤ w.heap.size) (h : mayB F L R = true) :
    Calls Tryz.prog 19 #[.agg #[.int .u64 F, .int .u64 L, .int .u64 R]] w fun e w' => ∃ q, e = .returned (.pointer (some ⟨q, 0, none⟩)) ∧ RefAt w' q base F L R 0 [] ∧ Below w.heap.size w w' := by
  have hal := (Below.refl w.heap.size w).alloc (Nat.le_refl _) (.cells #[.int .u64 F, .int .u64 L, .int .u64 R] 31)
  have nb := Blk.new w 31 #[.int .u64 F, .int .u64 L, .int .u64 R]
  have NB := Lib.hid nb; clear nb
  have H := Lib.hid h
  have hM := mayB_spec hF hL hR h
  clear h
  go_enter Tryz.func19, Tryz.ntmps19
  go_wp2_with (go_at_call 18; refine (rmay_any F L R _ hL).mono ?_; rintro e w1 ⟨rfl, hb1⟩; rw [H.out]; have n1 := NB.out.below hb1 NB.out.lt; have a0 := n1.cell 0; have a1 := n1.cell 1; have a2 := n1.cell 2; simp only [List.getElem?_toArray, List.getElem?_cons_zero, List.getElem?_cons_succ] at a0 a1 a2)
  go_ret
  have hb2 := hal.trans (hb1.mono hal.size)
  have hb3 := hb2.alloc hb2.size (.cells #[.int .u64 F, .int .u64 L, .int .u64 R, .slice none 0 0, .slice none 0 0] 104)
  exact ⟨w1.heap.size, rfl, ⟨⟨_, _, Blk.new _ _ _, World.ownsRow_nil _ _ _ _, World.ownsRow_nil _ _ _ _, .inl rfl⟩, hM, Nums.nil, Nat.le_trans hb hb2.size⟩, hb3⟩

end Go.Proofs.YtbnnkkojlclgjaaGreat
