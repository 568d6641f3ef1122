/-
  The law: what curves have together, and their corners, are what the document says.
-/
import Derived.Test.YtkeffkfjgblicaaR4Late
namespace Go.Proofs.Ytkeffkfjgblicaa
set_option linter.unusedVariables false
open Go.RowKit

/-- one curve's cells -/
theorem CvAt.at_ {w : World} {a : Option Addr} {cap k : Nat} {l : List Cv} {c : Cv} (h : CvAt w (.slice a l.length cap) l) (hc : l[k]? = some c) : ∃ b off, a = some ⟨b, off, none⟩ ∧ b < w.heap.size ∧ w.cell? ⟨b, off + k * 3, none⟩ = some (.int .u64 c.1) ∧ w.cell? ⟨b, off + k * 3 + 1, none⟩ = some (.int .u64 c.2.1) ∧ w.cell? ⟨b, off + k * 3 + 2, none⟩ = some (.int .u64 c.2.2) := by
  obtain ⟨_, _, a', cap', e, h3⟩ := h
  cases e
  rcases h3 with rfl | ⟨b, off, rfl, hl, hcap, hcc⟩
  · simp at hc
  · exact ⟨b, off, rfl, hl, hcc k c hc⟩

set_option maxRecDepth 100000 in
set_option maxHeartbeats 4000000 in
theorem have_walk (a : Option Addr) (len cap : Nat) (zs : List (List Value)) (t : Int) (w : World) (hz : IsRows [some .u64, some .u64, some .u64] w a len cap zs) (ht : U t) :
    Calls Try.prog 3 #[.slice a len cap, .int .u64 t] w fun e w' => e = .returned (.bool true) ∧ Below w.heap.size w w' := by
  have hlm : len ≤ 9223372036854775807 := by have := hz.1; have := hz.2.1; unfold maxLen at this; omega
  by_cases h8 : len ≤ 140
  · obtain ⟨l, rfl, hcv⟩ := cvs_of hz (by omega)
    have hb0 := (Below.refl w.heap.size w).alloc (Nat.le_refl _) (.cells #[] 31)
    obtain ⟨v1, w1, r1, o1, b1⟩ := app_all 22 (hcv.later hb0) (World.ownsRow_made (base := w.heap.size) (e := 31) (size := 3) w #[] 0 (Nat.le_refl _) (by decide) rfl) hb0.size
    have hb1 := hb0.trans (b1.mono hb0.size)
    have hcv1 := CvAt.of_owns o1 hcv.1 hcv.2.1
    obtain ⟨a1, p1, rfl⟩ : ∃ a cap, v1 = .slice a l.length cap := by obtain ⟨_, _, a, cap, e, _⟩ := hcv1; exact ⟨a, cap, e⟩
    have hat := sat_any _ l t w1 hcv1 ht
    have hcvl := hcv.later hb1
    have H1 := Lib.hid hcv1; have H := Lib.hid hcvl; have HB1 := Lib.hid hb1
    clear hcv hz hlm hb0 o1 b1 hb1 hcv1 hcvl
    go_enter Try.func3, Try.ntmps3
    go_wp2_with (at_builtin; first | (refine wpList_append_runW rfl _ _ _ rfl _ _ _ rfl rfl r1 ?_; clear r1))
    refine hat.mono ?_
    clear hat
    rintro e w2 ⟨rfl, hb2⟩
    have hat := r4at_any _ l t w2 (H.out.later hb2) ht
    unfold wv at hat
    have HB2 := Lib.hid hb2
    generalize hiW (vS l t) = x1 at hat ⊢
    generalize loW (vS l t) = x0 at hat ⊢
    clear hb2
    go_wp2_with fail
    refine hat.mono ?_
    clear hat
    rintro e w3 ⟨rfl, hb3⟩
    have hb3' := HB2.out.trans (hb3.mono HB2.out.size)
    have hco := corners_any _ l w3 (H1.out.later hb3')
    have HB3 := Lib.hid hb3'
    clear hb3 hb3' HB2
    go_wp2_with fail
    refine hco.mono ?_
    clear hco
    rintro e w4 ⟨va, ks, rfl, hIC, hrow, hb4⟩
    have hb4' := HB3.out.trans (hb4.mono HB3.out.size)
    have hwa := WordsAt.of_owns hrow (by simp) (by omega)
    have hco := r4corners_any _ l w4 (H.out.later hb4')
    have HB4 := Lib.hid hb4'; have HWA := Lib.hid hwa; have HIC := Lib.hid hIC
    clear hb4 hb4' HB3 hwa hIC hrow
    go_wp2_with fail
    refine hco.mono ?_
    clear hco
    rintro e w5 ⟨vb, ks2, rfl, hIC, hrow, hb5⟩
    obtain rfl := HIC.out.unique hIC
    have hb5' := HB4.out.trans (hb5.mono HB4.out.size)
    have hwb := WordsAt.of_owns hrow (by simp) (by omega)
    have hkl : (0 :: ks).length ≤ 2000000 := by
      have hn : ks.Nodup := (List.pairwise_cons.1 hIC.up).2.imp fun {a b} h => by omega
      have hsub : ∀ x ∈ ks, x ∈ l.map (fun c => c.2.1) := fun x hx => by
        obtain ⟨c, hc, _, _, e⟩ := (hIC.mem x).1 hx
        exact List.mem_map.2 ⟨c, hc, e⟩
      have := List.Nodup.length_le_of_subset hn hsub
      rw [List.length_map] at this
      simp; omega
    have hsa := same_eq va vb (0 :: ks) w5 (HWA.out.later hb5) hwb hkl
    have HB5 := Lib.hid hb5'
    clear hb5 hb5' HB4 hwb hIC hrow HWA HIC hkl
    go_wp2_with fail
    refine hsa.mono ?_
    clear hsa
    rintro e w6 ⟨rfl, hb6⟩
    have hb6' := HB5.out.trans (hb6.mono HB5.out.size)
    have HB6 := Lib.hid hb6'
    clear hb6 hb6' HB5
    go_wp2_with fail
    go_loopw [6] (fun vi W => ∃ k : Nat, vi = .int .i64 k ∧ k ≤ l.length ∧ Below w1.heap.size w1 W) (fun vi _ => (l.length - Go.RowKit.intOf vi).toNat)
    case atStart => exact ⟨0, rfl, by omega, HB6.out⟩
    case round =>
      obtain ⟨k, rfl, hk, hB⟩ := hrel
      by_cases hlt : k < l.length
      · obtain ⟨c, hc⟩ : ∃ c, l[k]? = some c := ⟨_, List.getElem?_eq_getElem hlt⟩
        obtain ⟨b, off, rfl, hbl, c0, c1, c2⟩ := (H.out.later hB).at_ hc
        obtain ⟨b', off', rfl, hbl', d0, d1, d2⟩ := (H1.out.later hB).at_ hc
        have HB := Lib.hid hB
        clear hB hc hbl hbl'
        go_wp2_with fail
        go_quiet (fail)
        go_wp2_with fail
        go_roundw
        case measure => (simp [Go.RowKit.intOf]; try omega)
        case rel => exact ⟨k + 1, by go_num, by omega, below_drewN HB.out _⟩
      · obtain rfl : k = l.length := by omega
        have HB := Lib.hid (HB1.out.trans (hB.mono HB1.out.size))
        clear hB
        go_wp2_with fail
        go_ret
        exact ⟨rfl, HB.out⟩
  · clear hz
    go_enter Try.func3, Try.ntmps3
    have hgt : (140 : Int) < (len : Int) := by omega
    go_wp2_with fail
    go_ret
    exact ⟨rfl, Below.refl _ _⟩
end Go.Proofs.Ytkeffkfjgblicaa
