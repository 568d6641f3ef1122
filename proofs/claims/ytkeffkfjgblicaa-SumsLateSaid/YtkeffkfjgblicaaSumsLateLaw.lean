/-
  The law: when curves are late first is what the document says.
-/
import Derived.Test.YtkeffkfjgblicaaR4Late
namespace Go.Proofs.Ytkeffkfjgblicaa
set_option linter.unusedVariables false
open Go.RowKit

set_option maxRecDepth 100000 in
set_option maxHeartbeats 4000000 in
theorem late_walk (a : Option Addr) (len cap : Nat) (zs : List (List Value)) (r : Int) (w : World) (hz : IsRows [some .u64, some .u64, some .u64] w a len cap zs) (hr : U r) :
    Calls Try.prog 4 #[.slice a len cap, .int .u64 r] w fun e w' => e = .returned (.bool true) ∧ Below w.heap.size w w' := by
  have hlm : len ≤ 9223372036854775807 := by have := hz.1; have := hz.2.1; unfold maxLen at this; omega
  by_cases h8 : len ≤ 40
  · obtain ⟨l, rfl, hcv⟩ := cvs_of hz (by omega)
    have H := Lib.hid hcv
    have hla := late_any _ l r w hcv hr
    clear hcv hz hlm
    go_enter Try.func4, Try.ntmps4
    go_wp2_with fail
    refine hla.mono ?_
    clear hla
    rintro e w1 ⟨n, rfl, hn, hb1⟩
    have hla := r4lateall_any _ l r w1 (H.out.later hb1) hr
    have HN := Lib.hid hn; have HB1 := Lib.hid hb1
    clear hn hb1
    go_wp2_with fail
    refine hla.mono ?_
    clear hla
    rintro e w2 ⟨m, rfl, hm, hb2⟩
    obtain rfl : n = m := HN.out.unique hm
    have hbw2 := HB1.out.trans (hb2.mono HB1.out.size)
    have hk := kept_any _ l r w2 (H.out.later hbw2) hr
    obtain ⟨kb, hkb⟩ : ∃ kb, decide (Keep l r) = kb := ⟨_, rfl⟩
    rw [hkb] at hk
    have HB2 := Lib.hid hbw2
    clear hm hb2 hbw2
    go_wp2_with fail
    refine hk.mono ?_
    clear hk
    rintro e w3 ⟨rfl, hb3⟩
    have hbw3 := HB2.out.trans (hb3.mono HB2.out.size)
    have hk := r4kept_any _ l r w3 (H.out.later hbw3) hr
    rw [hkb] at hk
    have HB3 := Lib.hid hbw3
    clear hb3 hbw3 hkb
    go_wp2_with fail
    refine hk.mono ?_
    clear hk
    rintro e w4 ⟨rfl, hb4⟩
    have HB4 := Lib.hid (HB3.out.trans (hb4.mono HB3.out.size))
    clear hb4
    go_wp2_with fail
    go_ret
    exact ⟨by simp, HB4.out⟩
  · clear hz
    go_enter Try.func4, Try.ntmps4
    have hgt : (40 : Int) < (len : Int) := by omega
    go_wp2_with fail
    go_ret
    exact ⟨rfl, Below.refl _ _⟩
end Go.Proofs.Ytkeffkfjgblicaa
