/-
  slices.Sort of words: breakPatternsOrdered.
-/
import Derived.Test.YtclhhegfffccgaaGreatSortP
import Derived.Test.YtclhhegfffccgaaGreatLayB
import Derived.Test.YtclhhegfffccgaaGreatPure
import Derived.Laws.Bits64
import Derived.Laws.Bits64b
namespace Go.Proofs.YtclhhegfffccgaaGreat
set_option linter.unusedVariables false
open Go.RowKit Go.Sort

theorem bitLen_bounds : ∀ n : Nat, n < 18446744073709551616 → n < 2 ^ Lib.bitLen n ∧ (1 ≤ n → 2 ^ Lib.bitLen n ≤ 2 * n) := by
  intro n
  induction n using Nat.strongRecOn with
  | _ n ih =>
    intro h
    by_cases h0 : n = 0
    · subst h0; exact ⟨by decide, by omega⟩
    · by_cases h1 : n = 1
      · subst h1; exact ⟨by decide, fun _ => by decide⟩
      have e := Lib.bitLen_half n h0 (by simpa using h)
      obtain ⟨i1, i2⟩ := ih (n / 2) (by omega) (by omega)
      rw [e, Nat.pow_add]
      generalize 2 ^ Lib.bitLen (n / 2) = k at i1 i2 ⊢
      refine ⟨by omega, fun _ => ?_⟩
      have := i2 (by omega)
      omega

theorem lenW (n : Int) (w : World) (h0 : 0 ≤ n) (h1 : n ≤ 18446744073709551615) : Calls Tryz.prog 66 #[.int .u64 n] w fun e w' => e = .returned (.int .i64 (Lib.bitLen n.toNat)) ∧ w' = w := Any.bits_Len lenB n w h0 h1

/-- what nextPowerOfTwo hands back -/
def NextPow (w : World) (n : Nat) (e : Ending) (w' : World) : Prop := ∃ m : Nat, e = .returned (.int .u64 m) ∧ n < m ∧ m ≤ 2 * n ∧ w' = w
theorem nextPowW (n : Nat) (w : World) (h0 : 1 ≤ n) (h1 : n ≤ 1000000) : Calls Tryz.prog 95 #[.int .i64 n] w (NextPow w n) := by
  have hl := lenW n w (by omega) (by omega)
  rw [Int.toNat_natCast] at hl
  obtain ⟨hb1, hb2⟩ := bitLen_bounds n (by omega)
  have hb2 := hb2 h0
  have hb : Lib.bitLen n ≤ 20 := by
    by_cases h : Lib.bitLen n ≤ 20
    · exact h
    · have := Nat.pow_le_pow_right (show 1 ≤ 2 by omega) (show 21 ≤ Lib.bitLen n by omega)
      omega
  generalize Lib.bitLen n = m at hl hb hb1 hb2 ⊢
  have hw : IntKind.u64.wrap ((2 : Int) ^ m) = ((2 ^ m : Nat) : Int) := by
    rw [show (2 : Int) ^ m = ((2 ^ m : Nat) : Int) by simp, IntKind.wrap_u64]; omega
  have HW := Lib.hid hw; have H1 := Lib.hid hb1; have H2 := Lib.hid hb2
  clear hw hb1 hb2
  go_enter Tryz.func95, Tryz.ntmps95
  go_wp2_with fail
  refine hl.mono ?_
  rintro e w' ⟨rfl, rfl⟩
  go_wp2_with fail
  go_ret
  exact ⟨2 ^ m, by rw [HW.out]; rfl, H1.out, H2.out, rfl⟩

theorem U_xor {a b : Int} (ha : U a) (hb : U b) : U (bits .xor .u64 a b) := by
  obtain ⟨x, rfl⟩ : ∃ x : Nat, a = x := ⟨a.toNat, by have := ha.1; omega⟩
  obtain ⟨y, rfl⟩ : ∃ y : Nat, b = y := ⟨b.toNat, by have := hb.1; omega⟩
  have h1 := ha.2; have h2 := hb.2
  rw [bits_xor_u64_nat x y (by omega) (by omega)]
  have := Nat.xor_lt_two_pow (n := 64) (show x < 2 ^ 64 by omega) (show y < 2 ^ 64 by omega)
  unfold U
  omega
theorem U_and {a : Int} {m : Nat} (ha : U a) (h1 : 1 ≤ m) (hm : m ≤ 2000000) : ∃ o : Nat, bits .and .u64 a ((m : Int) - 1) = o ∧ o < m := by
  obtain ⟨x, rfl⟩ : ∃ x : Nat, a = x := ⟨a.toNat, by have := ha.1; omega⟩
  have h2 := ha.2
  rw [show (m : Int) - 1 = ((m - 1 : Nat) : Int) by omega, bits_and_u64_nat x (m - 1) (by omega) (by omega)]
  exact ⟨_, rfl, by have := Nat.and_le_right (n := x) (m := m - 1); omega⟩
theorem U_wrap (z : Int) : U (IntKind.u64.wrap z) := by
  rw [IntKind.wrap_u64]; unfold U; omega
theorem U_half {z k : Int} (h : U z) (hk : 1 ≤ k) : U (z / k) := div_U h hk

/-- what the next random number is -/
def NextR (w : World) (s : Nat) (e : Ending) (w' : World) : Prop := ∃ y, e = .returned (.int .u64 y) ∧ U y ∧ Blk w' s 115 #[.int .u64 y] ∧ w.grownBy w' (some s)
set_option maxHeartbeats 1000000 in
theorem nextW (s : Nat) (x : Int) (w : World) (hs : Blk w s 115 #[.int .u64 x]) (hx : U x) : Calls Tryz.prog 96 #[.pointer (some ⟨s, 0, none⟩)] w (NextR w s) := by
  have c0 := hs.cell 0; have z0 := hs.frozen 0
  simp only [List.getElem?_toArray, List.getElem?_cons_zero, List.getElem?_cons_succ] at c0
  have HS := Lib.hid hs
  clear hs
  go_enter Tryz.func96, Tryz.ntmps96
  go_wp2
  go_region
  have hu := U_xor hx (U_wrap (x * 8192))
  generalize bits .xor .u64 x (IntKind.u64.wrap (x * 8192)) = y at hu ⊢
  have hb := (HS.out.set_ 0 (.int .u64 y)).drew
  have hg := (grown_setW w s 0 (.int .u64 y)).trans (grown_drew _ (some s))
  generalize (w.setCell ⟨s, 0, none⟩ (.int .u64 y)).drew = w1 at hb hg ⊢
  clear c0 z0 HS
  have c0 := hb.cell 0; have z0 := hb.frozen 0
  simp only [List.setIfInBounds_toArray, List.set_cons_zero, List.getElem?_toArray, List.getElem?_cons_zero, List.getElem?_cons_succ] at c0
  have HS := Lib.hid hb; have HG := Lib.hid hg
  clear hb hg
  go_wp2
  go_region
  have hu2 := U_xor hu (U_half hu (show (1 : Int) ≤ 128 by decide))
  generalize bits .xor .u64 y (y / 128) = z at hu2 ⊢
  have hb := (HS.out.set_ 0 (.int .u64 z)).drew
  have hg := (HG.out.trans (grown_setW w1 s 0 (.int .u64 z))).trans (grown_drew _ (some s))
  generalize (w1.setCell ⟨s, 0, none⟩ (.int .u64 z)).drew = w2 at hb hg ⊢
  clear c0 z0 HS HG
  have c0 := hb.cell 0; have z0 := hb.frozen 0
  simp only [List.setIfInBounds_toArray, List.set_cons_zero, List.getElem?_toArray, List.getElem?_cons_zero, List.getElem?_cons_succ] at c0
  have HS := Lib.hid hb; have HG := Lib.hid hg
  clear hb hg
  go_wp2
  go_region
  have hu3 := U_xor hu2 (U_wrap (z * 131072))
  generalize bits .xor .u64 z (IntKind.u64.wrap (z * 131072)) = v at hu3 ⊢
  have hb := (HS.out.set_ 0 (.int .u64 v)).drew
  have hg := (HG.out.trans (grown_setW w2 s 0 (.int .u64 v))).trans (grown_drew _ (some s))
  generalize (w2.setCell ⟨s, 0, none⟩ (.int .u64 v)).drew = w3 at hb hg ⊢
  clear c0 z0 HS HG
  have c0 := hb.cell 0; have z0 := hb.frozen 0
  simp only [List.setIfInBounds_toArray, List.set_cons_zero, List.getElem?_toArray, List.getElem?_cons_zero, List.getElem?_cons_succ] at c0
  have HS := Lib.hid hb; have HG := Lib.hid hg
  clear hb hg
  go_wp2
  go_ret
  exact ⟨v, rfl, hu3, by simpa using HS.out, HG.out⟩

theorem grown_new {w W W' : World} {row : Option Nat} {s : Nat} (h : w.grownBy W row) (h2 : W.grownBy W' (some s)) (hs : w.heap.size ≤ s) : w.grownBy W' row :=
  ⟨h2.os.trans h.os, h2.tape.trans h.tape, h2.output.trans h.output, Nat.le_trans h.size h2.size, fun k hk hne => (h2.block k (Nat.lt_of_lt_of_le hk h.size) (by simp; omega)).trans (h.block k hk hne)⟩

/-- what breakPatternsOrdered leaves -/
def BreakW (w : World) (g a b : Nat) (d : Array Int) (e : Ending) (w' : World) : Prop := e = .returned (.tuple #[]) ∧ ∃ k, PermIn a b d k ∧ RowW w' g k ∧ w.grownBy w' (some g)
set_option maxHeartbeats 4000000 in
theorem breakW (g cap a b : Nat) (d : Array Int) (w : World) (h : RowW w g d) (hab : a + 8 ≤ b) (hb : b ≤ d.size) (hsz : d.size ≤ 1000000) :
    Calls Tryz.prog 120 #[.slice (some ⟨g, 0, none⟩) d.size cap, .int .i64 a, .int .i64 b] w (BreakW w g a b d) := by
  obtain ⟨L, hL⟩ : ∃ L, L = b - a := ⟨_, rfl⟩
  have e1 : (b : Int) - (a : Int) = (L : Int) := by omega
  obtain ⟨q, hq⟩ : ∃ q, q = L / 4 := ⟨_, rfl⟩
  have e2 : (L : Int) / 4 = (q : Int) := by omega
  have q1 : 2 ≤ q := by omega
  have q2 : q * 4 ≤ L := by omega
  have q3 : a + L = b := by omega
  have q4 : 8 ≤ L := by omega
  have hpow := fun w => nextPowW L w (by omega) (by omega)
  obtain ⟨n, hn⟩ : ∃ n, n = d.size := ⟨_, rfl⟩
  rw [← hn] at hb hsz ⊢
  have H := Lib.hid h; have HE1 := Lib.hid e1; have HN := Lib.hid hn.symm
  have hne : g ≠ w.heap.size := by have := h.lt; omega
  clear h e1 hL hq hn
  have HPW := Lib.hid hpow
  clear hpow
  go_enter Tryz.func120, Tryz.ntmps120
  go_wp2_with fail
  simp only [HE1.out]
  have hR0 := H.out.kept (World.grownBy_alloc w (.cells #[.int .u64 (L : Int)] 115) none) (by simp)
  have hB0 := Blk.new w 115 #[.int .u64 (L : Int)]
  have hG0 := World.grownBy_alloc w (.cells #[.int .u64 (L : Int)] 115) (some g)
  have hs0 : w.heap.size ≤ w.heap.size := Nat.le_refl _
  obtain ⟨s, hs⟩ : ∃ s, s = w.heap.size := ⟨_, rfl⟩
  rw [← hs] at hB0 hne hs0 ⊢
  generalize w.alloc (.cells #[.int .u64 (L : Int)] 115) = w0 at hR0 hB0 hG0 ⊢
  have HR0 := Lib.hid hR0; have HB0 := Lib.hid hB0; have HG0 := Lib.hid hG0; have HS0 := Lib.hid hs
  clear hR0 hB0 hG0 hs0 hs H
  refine (HPW.out _).mono ?_
  rintro e w1 ⟨m, rfl, hm1, hm2, rfl⟩
  go_wp2_with fail
  go_loopw [9, 10] (fun vi _ W => ∃ (i : Nat) (k : Array Int) (x : Int), vi = .int .i64 i ∧ a + q * 2 - 1 ≤ i ∧ i ≤ a + q * 2 + 2 ∧ k.size = n ∧ PermIn a b d k ∧ U x ∧ RowW W g k ∧ Blk W s 115 #[.int .u64 x] ∧ w.grownBy W (some g)) (fun vi _ _ => (a + q * 2 + 2 - intOf vi).toNat)
  case atStart => exact ⟨a + q * 2 - 1, d, (L : Int), by go_num, by omega, by omega, HN.out, permIn_refl _ _ _, by unfold U; omega, HR0.out, HB0.out, HG0.out⟩
  case round =>
    obtain ⟨i, k, x, rfl, hi1, hi2, hk, hP, hx, hR, hB, hG⟩ := hrel
    obtain ⟨w2, rfl⟩ : ∃ w' : World, w' = wr := ⟨_, rfl⟩
    by_cases hlt : i ≤ a + q * 2 + 1
    · have hnx := nextW s x w2 hB hx
      have HR := Lib.hid hR; have HG := Lib.hid hG; have HP := Lib.hid hP; have HK := Lib.hid hk
      clear hR hG hP hk hB
      go_wp2_with fail
      refine hnx.mono ?_
      clear hnx
      rintro e w3 ⟨y, rfl, hy, hB3, hG3⟩
      obtain ⟨o, ho, hom⟩ := U_and hy (m := m) (by omega) (by omega)
      have hR3 := HR.out.kept hG3 (by simpa using hne)
      have hG4 := grown_new HG.out hG3 (by have := HS0.out; omega)
      have HB3 := Lib.hid hB3; have HR3 := Lib.hid hR3; have HG4 := Lib.hid hG4
      clear hB3 hR3 hG4 hG3 HR HG
      have hom2 : o < 2 * L := by omega
      by_cases hoL : L ≤ o
      · obtain ⟨p, hp⟩ : ∃ p, o = L + p := ⟨o - L, by omega⟩
        have ep : (o : Int) - (L : Int) = (p : Int) := by omega
        have hpL : p < L := by omega
        clear hp
        go_wp2
        have HG := HG4; have HR := HR3
        have hi5 : i < n := by omega
        have hp5 : a + p < n := by omega
        have hk2 := HK.out
        have c1 := HR.out.cell (i := i) (by omega); have c2 := HR.out.cell (i := (a + p)) (by omega)
        have z1 := HR.out.frozen (i := i) (by omega); have z2 := HR.out.frozen (i := (a + p)) (by omega)
        obtain ⟨v2, y2⟩ := cell?_setCell_some (w := w3) (p := ⟨g, i, none⟩) (x := .int .u64 k[(a + p)]!) (q := ⟨g, (a + p), none⟩) c2
        clear hk2
        go_wp2
        go_region
        have hk2 := HK.out
        have hR := (HR.out.swap (i := i) (j := (a + p)) (by omega) (by omega)).drew
        have hG := (HG.out.trans (grown_swap w3 g (i) ((a + p)) (.int .u64 k[(a + p)]!) (.int .u64 k[i]!))).trans (grown_drew _ _)
        have hB := ((HB3.out.grown (grown_setW w3 g i (.int .u64 k[(a + p)]!)) (by simp; exact fun e => hne e.symm)).grown (grown_setW _ g (a + p) (.int .u64 k[i]!)) (by simp; exact fun e => hne e.symm)).drew
        obtain ⟨w4, hw⟩ : ∃ w', ((w3.setCell ⟨g, i, none⟩ (.int .u64 k[(a + p)]!)).setCell ⟨g, (a + p), none⟩ (.int .u64 k[i]!)).drew = w' := ⟨_, rfl⟩
        rw [hw] at hR hG hB ⊢
        have HB := Lib.hid hB; clear hB
        clear HR HG
        have HR := Lib.hid hR; have HG := Lib.hid hG
        clear hw hR hG c1 c2 z1 z2 y2
        have hP2 := permIn_trans _ _ _ a b HP.out (swp_permIn k a b i (a + p) (by omega) (by omega) (by omega) (by omega) (by omega))
        go_wp2
        go_roundw
        case measure => (simp [intOf]; try omega)
        case rel => exact ⟨i + 1, swp k i (a + p), y, by go_num, by omega, by omega, by rw [size_swp]; exact HK.out, hP2, hy, HR.out, HB.out, HG.out⟩
      · have hoL2 : o < L := by omega
        go_wp2
        have HG := HG4; have HR := HR3
        have hi5 : i < n := by omega
        have hp5 : a + o < n := by omega
        have hk2 := HK.out
        have c1 := HR.out.cell (i := i) (by omega); have c2 := HR.out.cell (i := (a + o)) (by omega)
        have z1 := HR.out.frozen (i := i) (by omega); have z2 := HR.out.frozen (i := (a + o)) (by omega)
        obtain ⟨v2, y2⟩ := cell?_setCell_some (w := w3) (p := ⟨g, i, none⟩) (x := .int .u64 k[(a + o)]!) (q := ⟨g, (a + o), none⟩) c2
        clear hk2
        go_wp2
        go_region
        have hk2 := HK.out
        have hR := (HR.out.swap (i := i) (j := (a + o)) (by omega) (by omega)).drew
        have hG := (HG.out.trans (grown_swap w3 g (i) ((a + o)) (.int .u64 k[(a + o)]!) (.int .u64 k[i]!))).trans (grown_drew _ _)
        have hB := ((HB3.out.grown (grown_setW w3 g i (.int .u64 k[(a + o)]!)) (by simp; exact fun e => hne e.symm)).grown (grown_setW _ g (a + o) (.int .u64 k[i]!)) (by simp; exact fun e => hne e.symm)).drew
        obtain ⟨w4, hw⟩ : ∃ w', ((w3.setCell ⟨g, i, none⟩ (.int .u64 k[(a + o)]!)).setCell ⟨g, (a + o), none⟩ (.int .u64 k[i]!)).drew = w' := ⟨_, rfl⟩
        rw [hw] at hR hG hB ⊢
        have HB := Lib.hid hB; clear hB
        clear HR HG
        have HR := Lib.hid hR; have HG := Lib.hid hG
        clear hw hR hG c1 c2 z1 z2 y2
        have hP2 := permIn_trans _ _ _ a b HP.out (swp_permIn k a b i (a + o) (by omega) (by omega) (by omega) (by omega) (by omega))
        go_wp2
        go_roundw
        case measure => (simp [intOf]; try omega)
        case rel => exact ⟨i + 1, swp k i (a + o), y, by go_num, by omega, by omega, by rw [size_swp]; exact HK.out, hP2, hy, HR.out, HB.out, HG.out⟩
    · have HR := Lib.hid hR; have HG := Lib.hid hG; have HP := Lib.hid hP
      clear hR hG hP hk hB
      go_wp2
      go_returns
      exact ⟨rfl, k, HP.out, HR.out, HG.out⟩
end Go.Proofs.YtclhhegfffccgaaGreat
