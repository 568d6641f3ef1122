/-
  The walk of the law RunDue.
-/
import Derived.Test.YtflnlapfomjggaaRunAwake
namespace Go.Proofs.Ytflnlapfomjggaa
set_option linter.unusedVariables false
open Go.RowKit

theorem vA_vE_fun {F L R x : Int} {A : List (Int × Int)} {f v : Int → Int} (h : MayC F L R) (hA : ∀ a ∈ A, a.1 ≤ x ∧ 0 ≤ a.2) (hf : f = fun t => vA F L R A (max t x)) (hv : v = fun t => vE F L R A (max t x)) (t : Int) : f t ≤ v t := by
  subst hf; subst hv
  have : x ≤ max t x := by omega
  exact vA_vE h hA this
theorem elig_reach {F L R x y n m : Int} {A : List (Int × Int)} {f v : Int → Int} (h : MayC F L R) (hA : ∀ a ∈ A, a.1 ≤ x ∧ 0 ≤ a.2) (hf : f = fun t => vA F L R A (max t x)) (hv : v = fun t => vE F L R A (max t x))
    (hk1 : Back v x y n) (hk2 : Back f x y m) : n ≤ m := by
  have hm := vE_max_mono (x := x) h hA
  rw [← hv] at hm
  exact Back.less hk2 hk1 hm (fun t _ => vA_vE_fun h hA hf hv t)

section
variable {w : World} {r g : Nat} {F L R x : Int} {A : List (Int × Int)}
theorem run_at' (h : RunAt w r g F L R x A) (hA : A ≠ []) (t v : Int) (ht : U t) (hv : vA F L R A (max t x) = v) :
    Calls Try.prog 21 #[.pointer (some ⟨r, 0, none⟩), .int .u64 t] w fun e w' => e = .returned (.int .u64 v) ∧ Below w.heap.size w w' := by
  rw [← hv]; exact run_at h hA t ht
theorem run_ahead' (h : RunAt w r g F L R x A) (hA : A ≠ []) (t v : Int) (ht : U t) (hv : vE F L R A (max t x) = v) :
    Calls Try.prog 20 #[.pointer (some ⟨r, 0, none⟩), .int .u64 t] w fun e w' => e = .returned (.int .u64 v) ∧ Below w.heap.size w w' := by
  rw [← hv]; exact run_ahead h hA t ht
end

set_option maxRecDepth 100000 in
set_option maxHeartbeats 2000000 in
theorem due_nil (F L R y t : Int) (a : Option Addr) (len cap : Nat) (w : World) (hL : 0 ≤ L) (hlen : len ≤ 9223372036854775807) (h : mayB F L R = false) :
    Calls Try.prog 3 #[.agg #[.int .u64 F, .int .u64 L, .int .u64 R], .slice a len cap, .int .u64 y, .int .u64 t] w fun e w' => e = .returned (.bool true) ∧ Below w.heap.size w w' := by
  have nb := Blk.new w 24 #[.int .u64 F, .int .u64 L, .int .u64 R]
  have hal := (Below.refl w.heap.size w).alloc (Nat.le_refl _) (.cells #[.int .u64 F, .int .u64 L, .int .u64 R] 24)
  have H := Lib.hid h; clear h
  have NB := Lib.hid nb; clear nb
  go_enter Try.func3, Try.ntmps3
  go_wp2_with (first | (go_at_call 15; refine (awake_any _).mono ?_; rintro e w1 ⟨rfl, hb1⟩; have n1 := NB.out.below hb1 NB.out.lt; have a0 := n1.cell 0; have a1 := n1.cell 1; have a2 := n1.cell 2; simp only [List.getElem?_toArray, List.getElem?_cons_zero, List.getElem?_cons_succ] at a0 a1 a2; have hbw1 := hal.trans (hb1.mono hal.size)) | (go_at_call 16; refine (started_nil F L R a len cap _ hL hlen H.out).mono ?_; rintro e w2 ⟨rfl, hb2⟩))
  all_goals
    go_ret
    exact ⟨rfl, hbw1.trans (hb2.mono hbw1.size)⟩

set_option maxRecDepth 100000 in
set_option maxHeartbeats 2000000 in
theorem due_many (F L R y t : Int) (a : Option Addr) (len cap : Nat) (w : World) (hF : 0 ≤ F) (hL : 0 ≤ L) (hR : 0 ≤ R) (hlen : len ≤ 9223372036854775807) (h40 : 40 < len) (h1 : mayB F L R = true) :
    Calls Try.prog 3 #[.agg #[.int .u64 F, .int .u64 L, .int .u64 R], .slice a len cap, .int .u64 y, .int .u64 t] w fun e w' => e = .returned (.bool true) ∧ Below w.heap.size w w' := by
  have nb := Blk.new w 24 #[.int .u64 F, .int .u64 L, .int .u64 R]
  have hal := (Below.refl w.heap.size w).alloc (Nat.le_refl _) (.cells #[.int .u64 F, .int .u64 L, .int .u64 R] 24)
  have H := Lib.hid h1; clear h1
  have NB := Lib.hid nb; clear nb
  go_enter Try.func3, Try.ntmps3
  go_wp2_with (first | (go_at_call 15; refine (awake_any _).mono ?_; rintro e w1 ⟨rfl, hb1⟩; have n1 := NB.out.below hb1 NB.out.lt; have a0 := n1.cell 0; have a1 := n1.cell 1; have a2 := n1.cell 2; simp only [List.getElem?_toArray, List.getElem?_cons_zero, List.getElem?_cons_succ] at a0 a1 a2; have hbw1 := hal.trans (hb1.mono hal.size)) | (go_at_call 16; refine (started_many F L R a len cap _ hF hL hR hlen h40 H.out).mono ?_; rintro e w2 ⟨rfl, hb2⟩))
  all_goals
    go_ret
    exact ⟨rfl, hbw1.trans (hb2.mono hbw1.size)⟩

set_option maxRecDepth 100000 in
set_option maxHeartbeats 2000000 in
theorem due_zero (F L R y t : Int) (a : Option Addr) (len cap : Nat) (z : List Act4) (w : World) (hF : 0 ≤ F) (hL : 0 ≤ L) (hR : 0 ≤ R) (hz : ActsAt w a len z) (h0 : len = 0) (h1 : mayB F L R = true) :
    Calls Try.prog 3 #[.agg #[.int .u64 F, .int .u64 L, .int .u64 R], .slice a len cap, .int .u64 y, .int .u64 t] w fun e w' => e = .returned (.bool true) ∧ Below w.heap.size w w' := by
  have nb := Blk.new w 24 #[.int .u64 F, .int .u64 L, .int .u64 R]
  have hal := (Below.refl w.heap.size w).alloc (Nat.le_refl _) (.cells #[.int .u64 F, .int .u64 L, .int .u64 R] 24)
  have H := Lib.hid h1; have HZ := Lib.hid hz; clear h1 hz
  subst h0
  have h40 : 0 ≤ 40 := by omega
  have NB := Lib.hid nb; clear nb
  go_enter Try.func3, Try.ntmps3
  go_wp2_with (first | (go_at_call 15; refine (awake_any _).mono ?_; rintro e w1 ⟨rfl, hb1⟩; have n1 := NB.out.below hb1 NB.out.lt; have a0 := n1.cell 0; have a1 := n1.cell 1; have a2 := n1.cell 2; simp only [List.getElem?_toArray, List.getElem?_cons_zero, List.getElem?_cons_succ] at a0 a1 a2; have hbw1 := hal.trans (hb1.mono hal.size)) | (go_at_call 16; refine (started_some F L R a _ cap z _ hF hL hR ((HZ.out.below hal).below hb1) h40 H.out).mono ?_; rintro e w2 ⟨r, g, rfl, hg, hl, hb2⟩; have hbw2 := hbw1.trans (hb2.mono hbw1.size); have HL := Lib.hid hl; clear hl hb2))
  all_goals
    go_ret
    exact ⟨rfl, hbw2⟩
set_option maxRecDepth 100000 in
set_option maxHeartbeats 2000000 in
theorem due_some (F L R y t : Int) (a : Option Addr) (len cap : Nat) (z : List Act4) (w : World) (hF : 0 ≤ F) (hL : 0 ≤ L) (hR : 0 ≤ R) (hy : U y) (ht : U t) (hz : ActsAt w a len z) (h40 : len ≤ 40) (hpos : 0 < len) (h1 : mayB F L R = true) :
    Calls Try.prog 3 #[.agg #[.int .u64 F, .int .u64 L, .int .u64 R], .slice a len cap, .int .u64 y, .int .u64 t] w fun e w' => e = .returned (.bool true) ∧ Below w.heap.size w w' := by
  have ht0 := ht.1; have ht1 := ht.2
  have nb := Blk.new w 24 #[.int .u64 F, .int .u64 L, .int .u64 R]
  have hal := (Below.refl w.heap.size w).alloc (Nat.le_refl _) (.cells #[.int .u64 F, .int .u64 L, .int .u64 R] 24)
  have hA : (runA z).2 ≠ [] := by
    intro h
    have := congrArg List.length h
    rw [runA_len, hz.1] at this
    simp at this; omega
  obtain ⟨x, hx⟩ : ∃ x, (runA z).1 = x := ⟨_, rfl⟩
  obtain ⟨A, hAA⟩ : ∃ A, (runA z).2 = A := ⟨_, rfl⟩
  rw [hAA] at hA
  have hM := mayB_spec hF hL hR h1
  have HA := Lib.hid hA; have HX := Lib.hid hx; have HAA := Lib.hid hAA; have HM := Lib.hid hM
  have H := Lib.hid h1; have HZ := Lib.hid hz; clear h1 hz hA hx hAA hM
  have NB := Lib.hid nb; clear nb
  go_enter Try.func3, Try.ntmps3
  go_wp2_with (first | (go_at_call 15; refine (awake_any _).mono ?_; rintro e w1 ⟨rfl, hb1⟩; have n1 := NB.out.below hb1 NB.out.lt; have a0 := n1.cell 0; have a1 := n1.cell 1; have a2 := n1.cell 2; simp only [List.getElem?_toArray, List.getElem?_cons_zero, List.getElem?_cons_succ] at a0 a1 a2; have hbw1 := hal.trans (hb1.mono hal.size)) | (go_at_call 16; refine (started_some F L R a _ cap z _ hF hL hR ((HZ.out.below hal).below hb1) h40 H.out).mono ?_; rintro e w2 ⟨r, g, rfl, hg, hl, hb2⟩; have hbw2 := hbw1.trans (hb2.mono hbw1.size); rw [HX.out, HAA.out] at hl; obtain ⟨hnum, hx0, hx1⟩ := hl.num; obtain ⟨f, hf⟩ : ∃ f : Int → Int, f = fun t => vA F L R A (max t x) := ⟨_, rfl⟩; obtain ⟨v, hv⟩ : ∃ f : Int → Int, f = fun t => vE F L R A (max t x) := ⟨_, rfl⟩; have hft : f t ≤ v t := vA_vE_fun HM.out hnum hf hv t; have HF := Lib.hid hf; have HV := Lib.hid hv; have HN := Lib.hid hnum; have HL4 := Lib.hid hl; have hb4w := hbw2; clear hl hb2 hf hv hnum hbw2) | (go_at_call 17; refine (run_last HL4.out HA.out).mono ?_; rintro e w' ⟨rfl, rfl⟩) | (go_at_call 18; refine (run_elig HL4.out HA.out y hy).mono ?_; rintro e w3 ⟨n, rfl, hk1, hn0, hn1, hb3⟩; rw [← HV.out] at hk1; have hL5 := HL4.out.below hb3; have hb6 := hb4w.trans (hb3.mono hb4w.size); clear HL4 hb4w hb3; have HL4 := Lib.hid hL5; have hb4w := hb6; clear hL5 hb6) | (go_at_call 19; refine (run_reach HL4.out HA.out y hy).mono ?_; rintro e w4 ⟨m, rfl, hk2, hm0, hm1, hb4⟩; rw [← HF.out] at hk2; have hnm : n ≤ m := elig_reach HM.out HN.out HF.out HV.out hk1 hk2; have hxm := hk2.x_le; have hL5 := HL4.out.below hb4; have hb6 := hb4w.trans (hb4.mono hb4w.size); clear HL4 hb4w hb4; have HL4 := Lib.hid hL5; have hb4w := hb6; clear hL5 hb6) | (go_at_call 20; refine (run_ahead' HL4.out HA.out _ _ ⟨by omega, by omega⟩ (show _ = v _ by rw [HV.out])).mono ?_; rintro e w5 ⟨rfl, hb5⟩; have hL5 := HL4.out.below hb5; have hb6 := hb4w.trans (hb5.mono hb4w.size); clear HL4 hb4w hb5; have HL4 := Lib.hid hL5; have hb4w := hb6; clear hL5 hb6) | (go_at_call 21; refine (run_at' HL4.out HA.out _ _ ⟨by omega, by omega⟩ (show _ = f _ by rw [HF.out])).mono ?_; rintro e w5 ⟨rfl, hb5⟩; have hL5 := HL4.out.below hb5; have hb6 := hb4w.trans (hb5.mono hb4w.size); clear HL4 hb4w hb5; have HL4 := Lib.hid hL5; have hb4w := hb6; clear hL5 hb6))
  all_goals
    go_ret
    first
      | exact ⟨rfl, hb4w⟩
      | (unfold Back at hk1 hk2; clear HL4 HA H HZ NB; refine ⟨?_, hb4w⟩; simp; omega)
      | (unfold Back at hk1 hk2; clear HL4 HA H HZ NB; exfalso; omega)

theorem due_walk (F L R y t : Int) (a : Option Addr) (len cap : Nat) (zs : List (List Value)) (w : World) (hF : U F) (hL : U L) (hR : U R) (hy : U y) (ht : U t) (hz : IsRows [some .u64, some .u64, some .u64, some .u64] w a len cap zs) :
    Calls Try.prog 3 #[.agg #[.int .u64 F, .int .u64 L, .int .u64 R], .slice a len cap, .int .u64 y, .int .u64 t] w fun e w' => e = .returned (.bool true) ∧ Below w.heap.size w w' := by
  obtain ⟨hlen, z, hz'⟩ := acts_of hz
  by_cases h1 : mayB F L R = true
  · by_cases h40 : len ≤ 40
    · by_cases h0 : len = 0
      · exact due_zero F L R y t a len cap z w hF.1 hL.1 hR.1 hz' h0 h1
      · exact due_some F L R y t a len cap z w hF.1 hL.1 hR.1 hy ht hz' h40 (by omega) h1
    · exact due_many F L R y t a len cap w hF.1 hL.1 hR.1 hlen (by omega) h1
  · exact due_nil F L R y t a len cap w hL.1 hlen (by simpa using h1)

end Go.Proofs.Ytflnlapfomjggaa
