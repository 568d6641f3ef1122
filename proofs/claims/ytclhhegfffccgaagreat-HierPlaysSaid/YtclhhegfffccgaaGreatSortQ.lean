/-
  slices.Sort of words: pdqsortOrdered; slices.Sort.
-/
import Derived.Test.YtclhhegfffccgaaGreatSortB
import Derived.Deep.CutBlock
import Derived.Deep.DeepCutAuto
namespace Go.Proofs.YtclhhegfffccgaaGreat
set_option linter.unusedVariables false
open Go.RowKit Go.Sort

/-- what pdqsortOrdered leaves -/
def PdqW (w : World) (g a b : Nat) (d : Array Int) (e : Ending) (w' : World) : Prop := e = .returned (.tuple #[]) ∧ ∃ k, PermIn a b d k ∧ SortedIn ltInt a b k ∧ RowW w' g k ∧ w.grownBy w' (some g)
/-- a round's middle: the row is mixed -/
def MixW (w wx : World) (g a b : Nat) (k : Array Int) : Prop := ∃ k1, PermIn a b k k1 ∧ RowW wx g k1 ∧ w.grownBy wx (some g)
/-- what a round may lean on: whatever sorts the part sorts the whole -/
def PartOk (a b a' b' : Nat) (d k : Array Int) : Prop := ∀ R, PermIn a' b' k R → SortedIn ltInt a' b' R → PermIn a b d R ∧ SortedIn ltInt a b R
theorem PartOk.perm {a b a' b' : Nat} {d k k1 : Array Int} (h : PartOk a b a' b' d k) (hp : PermIn a' b' k k1) : PartOk a b a' b' d k1 := fun R hR hs => h R (permIn_trans _ _ _ _ _ hp hR) hs

theorem _root_.Go.World.grownBy.some' {w w' : World} {row : Option Nat} (h : w.grownBy w' none) : w.grownBy w' row := ⟨h.os, h.tape, h.output, h.size, fun k hk _ => h.block k hk (by simp)⟩

set_option maxRecDepth 100000 in
set_option maxHeartbeats 8000000 in
theorem pdqW (g cap : Nat) : ∀ (m a b lim : Nat) (d : Array Int) (w : World), b - a ≤ m → RowW w g d → a ≤ b → b ≤ d.size → d.size ≤ 1000000 → lim ≤ 64 → Sort.Below ltInt a b d →
    Calls Tryz.prog 116 #[.slice (some ⟨g, 0, none⟩) d.size cap, .int .i64 a, .int .i64 b, .int .i64 lim] w (PdqW w g a b d) := by
  intro m
  induction m using Nat.strongRecOn with
  | _ m ih =>
    intro a b lim d w hm h hab hb hsz hlim hB
    have H := Lib.hid h; have HBL := Lib.hid hB; have IH := Lib.hid ih
    clear h hB ih
    obtain ⟨n, hn⟩ : ∃ n, n = d.size := ⟨_, rfl⟩
    rw [← hn] at hb hsz ⊢
    have HN := Lib.hid hn.symm
    clear hn
    go_enter Tryz.func116, Tryz.ntmps116
    go_wp2
    go_loopw [1, 2, 3, 8, 9] (fun v1 v2 v3 v8 v9 W => ∃ (x y l : Nat) (p q : Bool) (k : Array Int), v1 = .int .i64 x ∧ v2 = .int .i64 y ∧ v3 = .int .i64 l ∧ v8 = .bool p ∧ v9 = .bool q ∧ a ≤ x ∧ x ≤ y ∧ y ≤ b ∧ l ≤ 64 ∧ k.size = n ∧ Sort.Below ltInt x y k ∧ PartOk a b x y d k ∧ RowW W g k ∧ w.grownBy W (some g)) (fun v1 v2 _ _ _ _ => (intOf v2 - intOf v1).toNat)
    case atStart => exact ⟨a, b, lim, true, true, d, rfl, rfl, rfl, rfl, rfl, by omega, hab, by omega, hlim, HN.out, HBL.out, fun R h1 h2 => ⟨h1, h2⟩, H.out, World.grownBy.refl _ _⟩
    case round =>
      obtain ⟨x, y, l, p, q, k, rfl, rfl, rfl, rfl, rfl, hax, hxy, hyb, hl, hk, hB, hO, hR, hG⟩ := hrel
      obtain ⟨w1, rfl⟩ : ∃ w' : World, w' = wr := ⟨_, rfl⟩
      by_cases h12 : y - x ≤ 12
      · have hc := insertW g cap x y k w1 hR hxy (by omega) (by omega)
        obtain ⟨s1, s2⟩ := insertionSort_holds (lt := ltInt) swo_ltInt k x y hxy (by omega)
        have hO2 := hO _ s1 s2
        rw [hk] at hc
        have HG := Lib.hid hG; have HO := Lib.hid hO2
        clear hG hO hO2 s1 s2 hR hB hk
        go_wp2_with fail
        refine hc.mono ?_
        clear hc
        rintro e w2 ⟨rfl, hR2, hG2⟩
        have HR2 := Lib.hid hR2; have HG2 := Lib.hid (HG.out.trans hG2)
        clear hR2 hG2
        go_wp2_with fail
        go_returns
        exact ⟨rfl, _, HO.out.1, HO.out.2, HR2.out, HG2.out⟩
      · by_cases hl0 : l = 0
        · subst hl0
          have hc := heapW g cap x y k w1 hR (by omega) (by omega) (by omega)
          obtain ⟨s1, s2⟩ := heapSort_holds (lt := ltInt) swo_ltInt k x y hxy (by omega)
          have hO2 := hO _ s1 s2
          rw [hk] at hc
          have HG := Lib.hid hG; have HO := Lib.hid hO2
          clear hG hO hO2 s1 s2 hR hB hk
          go_wp2_with fail
          refine hc.mono ?_
          clear hc
          rintro e w2 ⟨rfl, hR2, hG2⟩
          have HR2 := Lib.hid hR2; have HG2 := Lib.hid (HG.out.trans hG2)
          clear hR2 hG2
          go_wp2_with fail
          go_returns
          exact ⟨rfl, _, HO.out.1, HO.out.2, HR2.out, HG2.out⟩
        · have hl1 : ((l : Int) == 0) = false := by simp; omega
          have HR := Lib.hid hR; have HG := Lib.hid hG; have HO := Lib.hid hO; have HB := Lib.hid hB; have HK := Lib.hid hk
          clear hR hG hO hB hk
          go_upto_if 35 with fail
          go_cut [3] from 36 to 41 (fun v3 wx => ∃ l2 : Nat, v3 = .int .i64 l2 ∧ l2 ≤ 64 ∧ MixW w wx g x y k)
          case first =>
            cases p
            · have hc := breakW g cap x y k w1 HR.out (by omega) (by have := HK.out; omega) (by have := HK.out; omega)
              rw [HK.out] at hc
              go_wp2_with fail
              refine hc.mono ?_
              clear hc
              rintro e w2 ⟨rfl, k1, hP, hR2, hG2⟩
              have HR2 := Lib.hid hR2; have HG2 := Lib.hid (HG.out.trans hG2); have HP := Lib.hid hP
              clear hR2 hG2 hP
              go_wp2_with fail
              go_meet
              exact ⟨l - 1, by go_num, by omega, k1, HP.out, HR2.out, HG2.out⟩
            · go_wp2
              go_meet
              exact ⟨l, rfl, hl, k, permIn_refl _ _ _, HR.out, HG.out⟩
          obtain ⟨l2, rfl, hl2, k1, hP1, hR1, hG1⟩ := hcut
          obtain ⟨w2, rfl⟩ : ∃ w' : World, w' = wc := ⟨_, rfl⟩
          have hB1 := HB.out.perm (by have := HK.out; omega) hP1
          have hO1 := HO.out.perm hP1
          have hk1 := hP1.1.trans HK.out
          have hc := pivotW g cap x y k1 w2 hR1 (by omega) (by omega) (by omega)
          rw [hk1] at hc
          clear HR HG HO HB HK
          have HR := Lib.hid hR1; have HG := Lib.hid hG1; have HO := Lib.hid hO1; have HB := Lib.hid hB1; have HK := Lib.hid hk1
          clear hR1 hG1 hO1 hB1 hk1 hP1
          go_wp2_with fail
          refine hc.mono ?_
          clear hc
          rintro e w3 ⟨pv, h, rfl, hpv1, hpv2, hh, hg3⟩
          have hR3 := HR.out.kept hg3 (by simp)
          have hG3 := HG.out.trans hg3.some'
          clear HR HG
          have HR := Lib.hid hR3; have HG := Lib.hid hG3; have HH := Lib.hid hh
          clear hR3 hG3 hg3 hh
          go_upto_if 50 with fail
          go_cut [11, 12] from 51 to 60 (fun v11 v12 wx => ∃ (pv2 : Nat) (h2 : Int), v11 = .int .i64 pv2 ∧ v12 = .int .i64 h2 ∧ x ≤ pv2 ∧ pv2 < y ∧ (h2 = 0 ∨ h2 = 1 ∨ h2 = 2) ∧ MixW w wx g x y k1)
          case first =>
            by_cases hd : h = 2
            · subst hd
              have hc := reverseW g cap x y k1 w3 HR.out (by omega) (by have := HK.out; omega) (by have := HK.out; omega)
              have hp := reverseRange_holds k1 x y hxy (by have := HK.out; omega)
              rw [HK.out] at hc
              have HP := Lib.hid hp
              clear hp
              go_wp2_with fail
              refine hc.mono ?_
              clear hc
              rintro e w4 ⟨rfl, hR2, hG2⟩
              have HR2 := Lib.hid hR2; have HG2 := Lib.hid (HG.out.trans hG2)
              clear hR2 hG2
              go_wp2_with fail
              go_meet
              exact ⟨y - 1 - (pv - x), 1, by go_num, rfl, by omega, by omega, by omega, _, HP.out, HR2.out, HG2.out⟩
            · have hd2 : (h == 2) = false := by simp; omega
              go_wp2
              go_meet
              exact ⟨pv, h, rfl, rfl, hpv1, hpv2, HH.out, k1, permIn_refl _ _ _, HR.out, HG.out⟩
          obtain ⟨pv2, h2, rfl, rfl, hq1, hq2, hh2, k2, hP2, hR2, hG2⟩ := hcut
          obtain ⟨w4, rfl⟩ : ∃ w' : World, w' = wc := ⟨_, rfl⟩
          have hB2 := HB.out.perm (by have := HK.out; omega) hP2
          have hO2 := HO.out.perm hP2
          have hk2 := hP2.1.trans HK.out
          clear HR HG HO HB HK HH hpv1 hpv2
          have HR := Lib.hid hR2; have HG := Lib.hid hG2; have HO := Lib.hid hO2; have HB := Lib.hid hB2; have HK := Lib.hid hk2; have HH := Lib.hid hh2
          clear hR2 hG2 hO2 hB2 hk2 hP2 hh2
          go_upto_region 15 with fail
          go_cut [68] from 61 to 68 (fun v68 wx => ∃ c : Bool, v68 = .bool c ∧ wx = w4)
          case first =>
            by_cases h1 : h2 = 1
            · subst h1
              cases p <;> cases q <;> (go_wp2; go_meet; exact ⟨_, rfl, rfl⟩)
            · have h1b : (h2 == 1) = false := by simp; omega
              cases p <;> cases q <;> (go_wp2; go_meet; exact ⟨_, rfl, rfl⟩)
          obtain ⟨c, rfl, rfl⟩ := hcut
          go_upto_if 68 with fail
          go_cut [] from 69 to 72 (fun wx => MixW w wx g x y k2)
          case first =>
            cases c
            · go_wp2
              go_meet
              exact ⟨k2, permIn_refl _ _ _, HR.out, HG.out⟩
            · have hc := pinsW g cap x y k2 _ HR.out (by omega) (by have := HK.out; omega) (by have := HK.out; omega)
              obtain ⟨s1, s2⟩ := partialInsertionSort_holds (lt := ltInt) swo_ltInt k2 x y (by omega) (by have := HK.out; omega) HB.out
              rw [HK.out] at hc
              generalize Sort.partialInsertionSort ltInt k2 x y = r at hc s1 s2
              have HP := Lib.hid s1; have HS := Lib.hid s2
              clear s1 s2
              go_wp2_with fail
              refine hc.mono ?_
              clear hc
              obtain ⟨k3, ok⟩ := r
              rintro e w5 ⟨rfl, hR2, hG2⟩
              have HR2 := Lib.hid hR2; have HG2 := Lib.hid (HG.out.trans hG2)
              clear hR2 hG2
              cases ok
              · go_wp2_with fail
                go_meet
                exact ⟨k3, HP.out, HR2.out, HG2.out⟩
              · have hO2 := HO.out _ HP.out (HS.out rfl)
                have HO2 := Lib.hid hO2
                clear hO2
                go_wp2_with fail
                go_returns
                exact ⟨rfl, k3, HO2.out.1, HO2.out.2, HR2.out, HG2.out⟩
          obtain ⟨k3, hP3, hR3, hG3⟩ := hcut
          obtain ⟨w5, rfl⟩ : ∃ w' : World, w' = wc := ⟨_, rfl⟩
          have hB3 := HB.out.perm (by have := HK.out; omega) hP3
          have hO3 := HO.out.perm hP3
          have hk3 := hP3.1.trans HK.out
          clear HR HG HO HB HK HH
          have HG := Lib.hid hG3; have HO := Lib.hid hO3; have HB := Lib.hid hB3
          clear hG3 hO3 hB3 hP3
          go_upto_region 17 with fail
          go_cut [87] from 73 to 87 (fun v87 wx => ∃ c : Bool, v87 = .bool c ∧ (c = true → 0 < x ∧ ltInt k3[x - 1]! k3[pv2]! = false) ∧ RowW wx g k3 ∧ w.grownBy wx (some g))
          case first =>
            by_cases hx0 : 0 < x
            · have c1 := hR3.cell (i := x - 1) (by omega); have c2 := hR3.cell (i := pv2) (by omega)
              have hx1 : (0 : Int) ≤ (x : Int) - 1 := by omega
              have HR := Lib.hid hR3
              have hyn : y ≤ n := by omega
              clear hR3 hk3
              cases hl : ltInt k3[x - 1]! k3[pv2]!
              · go_quiet ((go_at_call 124; exact Calls.quiet_of_same (lessW _ _ _)))
                try simp only [hl]
                go_wp2
                go_meet
                exact ⟨true, rfl, fun _ => ⟨hx0, hl⟩, HR.out.drewN _, HG.out.trans (grown_drewN _ _ _)⟩
              · go_quiet ((go_at_call 124; exact Calls.quiet_of_same (lessW _ _ _)))
                try simp only [hl]
                go_wp2
                go_meet
                exact ⟨false, rfl, fun h => by simp at h, HR.out.drewN _, HG.out.trans (grown_drewN _ _ _)⟩
            · have dd : decide ((0 : Int) < (x : Int)) = false := by simp; omega
              have HR := Lib.hid hR3
              clear hR3 hk3
              go_quiet (fail)
              go_wp2
              go_meet
              exact ⟨false, rfl, fun h => by simp at h, HR.out.drewN _, HG.out.trans (grown_drewN _ _ _)⟩
          obtain ⟨c, rfl, hcc, hR4, hG4⟩ := hcut
          obtain ⟨w6, rfl⟩ : ∃ w' : World, w' = wc := ⟨_, rfl⟩
          clear HG hR3
          cases c
          · clear hcc
            have hc := partW g cap x y pv2 k3 w6 hR4 hq1 hq2 (by omega) (by omega)
            rw [hk3] at hc
            obtain ⟨r, hr⟩ : ∃ r, Sort.partition ltInt k3 x y pv2 = r := ⟨_, rfl⟩
            rw [hr] at hc
            obtain ⟨mid, ap, k4⟩ := r
            obtain ⟨g1, g2, g3, g4, g5, g6, g7⟩ := round_part swo_ltInt (partition_holds ltInt) hq1 hq2 (by omega) HB.out hr
            have hz : k4.size = n := g3.trans hk3
            have HG := Lib.hid hG4; have HZ := Lib.hid hz; have G4 := Lib.hid g4; have G5 := Lib.hid g5; have G6 := Lib.hid g6; have G7 := Lib.hid g7
            clear hG4 g4 g5 g6 g7 hz hr hR4 hk3 HB g3
            go_wp2_with fail
            refine hc.mono ?_
            clear hc
            rintro e w7 ⟨rfl, hR7, hG7⟩
            dsimp only at hR7
            have HR7 := Lib.hid hR7; have HG7 := Lib.hid (HG.out.trans hG7)
            clear hR7 hG7 HG
            by_cases hlr : mid - x < y - mid
            · have hlz : (mid : Int) - (x : Int) < (y : Int) - (mid : Int) := by omega
              have hc := IH.out (mid - x) (by omega) x mid l2 k4 w7 (Nat.le_refl _) HR7.out g1 (by have := HZ.out; omega) (by have := HZ.out; omega) hl2 G4.out
              rw [HZ.out] at hc
              go_wp2_with fail
              refine hc.mono ?_
              clear hc
              rintro e w8 ⟨rfl, k5, hP5, hS5, hR8, hG8⟩
              obtain ⟨b5, f5⟩ := G6.out k5 hP5 hS5
              have hO5 : PartOk a b (mid + 1) y d k5 := fun R h1 h2 => by obtain ⟨q1, q2⟩ := f5 R h1 h2; exact HO.out R q1 q2
              have hz5 := hP5.1.trans HZ.out
              have HR8 := Lib.hid hR8; have HG8 := Lib.hid (HG7.out.trans hG8); have HO5 := Lib.hid hO5; have HB5 := Lib.hid b5; have HZ5 := Lib.hid hz5
              clear hR8 hG8 hO5 b5 f5 hP5 hS5 hz5
              go_wp2_with fail
              go_roundw
              case measure => (simp [intOf]; try omega)
              case rel => exact ⟨mid + 1, y, l2, _, ap, k5, by go_num, rfl, rfl, rfl, rfl, by omega, by omega, by omega, hl2, HZ5.out, HB5.out, HO5.out, HR8.out, HG8.out⟩
            · have hlz : (y : Int) - (mid : Int) ≤ (mid : Int) - (x : Int) := by omega
              have hc := IH.out (y - (mid + 1)) (by omega) (mid + 1) y l2 k4 w7 (Nat.le_refl _) HR7.out (by omega) (by have := HZ.out; omega) (by have := HZ.out; omega) hl2 G5.out
              rw [HZ.out, show ((mid + 1 : Nat) : Int) = (mid : Int) + 1 by omega] at hc
              go_wp2_with fail
              refine hc.mono ?_
              clear hc
              rintro e w8 ⟨rfl, k5, hP5, hS5, hR8, hG8⟩
              obtain ⟨b5, f5⟩ := G7.out k5 hP5 hS5
              have hO5 : PartOk a b x mid d k5 := fun R h1 h2 => by obtain ⟨q1, q2⟩ := f5 R h1 h2; exact HO.out R q1 q2
              have hz5 := hP5.1.trans HZ.out
              have HR8 := Lib.hid hR8; have HG8 := Lib.hid (HG7.out.trans hG8); have HO5 := Lib.hid hO5; have HB5 := Lib.hid b5; have HZ5 := Lib.hid hz5
              clear hR8 hG8 hO5 b5 f5 hP5 hS5 hz5
              go_wp2_with fail
              go_roundw
              case measure => (simp [intOf]; try omega)
              case rel => exact ⟨x, mid, l2, _, ap, k5, rfl, rfl, rfl, rfl, rfl, by omega, by omega, by omega, hl2, HZ5.out, HB5.out, HO5.out, HR8.out, HG8.out⟩
          · obtain ⟨hx0, hl⟩ := hcc rfl
            have hc := peqW g cap x y pv2 k3 w6 hR4 hq1 hq2 (by omega) (by omega)
            rw [hk3] at hc
            obtain ⟨r, hr⟩ : ∃ r, Sort.partitionEqual ltInt k3 x y pv2 = r := ⟨_, rfl⟩
            rw [hr] at hc
            obtain ⟨mid, k4⟩ := r
            obtain ⟨g1, g2, g3, g4, g5⟩ := round_eq swo_ltInt (partitionEqual_holds ltInt) hx0 hq1 hq2 (by omega) HB.out hl hr
            have hO5 : PartOk a b mid y d k4 := fun R h1 h2 => by obtain ⟨q1, q2⟩ := g5 R h1 h2; exact HO.out R q1 q2
            have hz : k4.size = n := g3.trans hk3
            have HG := Lib.hid hG4; have HO5 := Lib.hid hO5; have HB5 := Lib.hid g4; have HZ := Lib.hid hz
            clear hG4 hO5 g4 g5 hz hr hR4 hk3 HO HB hl g3
            go_wp2_with fail
            refine hc.mono ?_
            clear hc
            rintro e w7 ⟨rfl, hR7, hG7⟩
            have HR7 := Lib.hid hR7; have HG7 := Lib.hid (HG.out.trans hG7)
            clear hR7 hG7
            go_wp2_with fail
            go_roundw
            case measure => (simp [intOf]; try omega)
            case rel => exact ⟨mid, y, l2, p, q, k4, rfl, rfl, rfl, rfl, rfl, by omega, by omega, by omega, hl2, HZ.out, HB5.out, HO5.out, HR7.out, HG7.out⟩

/-- what slices.Sort leaves -/
def SortW (w : World) (g : Nat) (l : List Int) (e : Ending) (w' : World) : Prop := e = .returned (.tuple #[]) ∧ ∃ k : Array Int, k.size = l.length ∧ k.toList.Perm l ∧ k.toList.Pairwise (· ≤ ·) ∧ RowW w' g k ∧ w.grownBy w' (some g)
theorem sortW (g cap : Nat) (l : List Int) (w : World) (h : RowW w g l.toArray) (hsz : l.length ≤ 1000000) :
    Calls Tryz.prog 110 #[.slice (some ⟨g, 0, none⟩) l.length cap] w (SortW w g l) := by
  have hlen := fun w => lenW (l.length : Int) w (by omega) (by omega)
  simp only [Int.toNat_natCast] at hlen
  have hb := (bitLen_bounds l.length (by omega))
  have hl64 : Lib.bitLen l.length ≤ 64 := by
    by_cases h0 : 1 ≤ l.length
    · have h2 := hb.2 h0
      by_cases h : Lib.bitLen l.length ≤ 64
      · exact h
      · have := Nat.pow_le_pow_right (show 1 ≤ 2 by omega) (show 65 ≤ Lib.bitLen l.length by omega)
        omega
    · have : l.length = 0 := by omega
      rw [this]; decide
  clear hb
  generalize Lib.bitLen l.length = m at hlen hl64
  have hc := pdqW g cap l.length 0 l.length m l.toArray w (by omega) h (by omega) (by simp) (by simpa using hsz) hl64 (.inl rfl)
  simp only [List.size_toArray] at hc
  go_enter Tryz.func110, Tryz.ntmps110
  go_wp2_with fail
  refine (hlen _).mono ?_
  rintro e w1 ⟨rfl, rfl⟩
  clear hlen h
  go_wp2_with fail
  refine hc.mono ?_
  clear hc
  rintro e w2 ⟨rfl, k, hP, hS, hR, hG⟩
  have hz : k.size = l.length := by simpa using hP.1
  have hperm : k.toList.Perm l := by
    have := hP.2.2
    rw [show (k.extract 0 l.length) = k by rw [← hz]; simp] at this
    simpa using this
  have hsort : k.toList.Pairwise (· ≤ ·) := by
    rw [List.pairwise_iff_getElem]
    intro i j hi hj hij
    have h1 := hS i j (by omega) hij (by simp at hj; omega)
    simp only [Array.length_toList] at hi hj
    rw [getElem!_pos k i hi, getElem!_pos k j hj] at h1
    simp only [ltInt, decide_eq_false_iff_not, Int.not_lt] at h1
    simpa using h1
  have HX := Lib.hid (And.intro hz (And.intro hperm (And.intro hsort (And.intro hR hG))))
  clear hP hS hR hG hz hperm hsort
  go_wp2_with fail
  go_returns
  exact ⟨rfl, k, HX.out⟩
end Go.Proofs.YtclhhegfffccgaaGreat
