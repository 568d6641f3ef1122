/-
  The law's book behind acts.
-/
import Derived.Test.YthmhboagbeibdaaAdmActs
namespace Go.Proofs.Ythmhboagbeibdaa
set_option linter.unusedVariables false
open Go.RowKit Go.Maps Go.Sort
attribute [local go_sem ↓] Go.wp_at_zero Go.wp_at_succ
attribute [local go_sem] quietR quietAtR quietUponR midAt midUpon
attribute [local irreducible] TStep HStep

def PlayedW (w : World) (r : Int) (z : List BAct) (e : Ending) (w' : World) : Prop :=
  ((¬ (1 ≤ r ∧ r ≤ 1048576) ∧ e = .returned (.pointer none)) ∨ ((1 ≤ r ∧ r ≤ 1048576) ∧ ∃ g m vg, e = .returned (.pointer (some ⟨g, 0, none⟩)) ∧ BkO w' w.heap.size g m r (playP r z).1 (playP r z).2 vg)) ∧ Below w.heap.size w w'

set_option maxRecDepth 100000 in
set_option maxHeartbeats 4000000 in
theorem played_any (r : Int) (a0 : Option Addr) (cap : Nat) (z : List BAct) (w : World) (hr : U r) (hz : BActsAt w a0 z.length z) (hlen : z.length ≤ 60) :
    Calls Try.prog 15 #[.int .u64 r, .slice a0 z.length cap] w (PlayedW w r z) := by
  have hnw := make_any r w hr
  have HZ := Lib.hid hz
  clear hz
  go_enter Try.func15, Try.ntmps15
  go_wp2_with fail
  refine hnw.mono ?_
  clear hnw
  rintro e w2 ⟨hcase, hb2⟩
  rcases hcase with ⟨hbad, rfl⟩ | ⟨hgood, g, m, rfl, hbo⟩
  · have HB2 := Lib.hid hb2; have HBAD := Lib.hid hbad
    clear hb2 hbad
    go_wp2_with fail
    go_ret
    exact ⟨.inl ⟨HBAD.out, rfl⟩, HB2.out⟩
  · have HS := Lib.hid (And.intro hbo hb2); have HG := Lib.hid hgood
    clear hbo hb2 hgood
    go_wp2_with fail
    go_loopw [7] (fun v7 W => ∃ (i : Nat) (vg : Value), v7 = .int .i64 i ∧ i ≤ z.length ∧ BkO W w.heap.size g m r (playP r (z.take i)).1 (playP r (z.take i)).2 vg ∧ Below w.heap.size w W) (fun v7 _ => (z.length - Go.RowKit.intOf v7).toNat)
    case atStart => exact ⟨0, _, rfl, Nat.zero_le _, by simpa [playP] using HS.out.1, HS.out.2⟩
    case round =>
      obtain ⟨i, vg, rfl, hi, hbo, hbr⟩ := hrel
      by_cases hlt : i < z.length
      · obtain ⟨hzl, hzu, hzc⟩ := HZ.out.later hbr
        obtain ⟨b, off, rfl, hbl, hcl⟩ := hzc.resolve_left (by omega)
        obtain ⟨q, hq⟩ : ∃ q, z[i]? = some q := ⟨_, List.getElem?_eq_getElem hlt⟩
        have hfit := hzu q (List.mem_of_getElem? hq)
        have hsn := play_snoc (r := r) hq
        have hle := play_len r (z.take i)
        rw [List.length_take] at hle
        obtain ⟨c0, c1, c2, c3, c4, c5⟩ := hcl i q hq
        generalize playP r (z.take i) = S at hbo hsn hle
        obtain ⟨LL, GG⟩ := S
        dsimp only at hbo hle
        have hfew : LL.length + GG.length < 99999 := by omega
        obtain ⟨⟨hk0, hk1⟩, hid, hU⟩ := hfit
        have o1 := fun e => (over_cell (w := wr) (e := e) hbl).trans c1
        have o2 := fun e => (over_cell (w := wr) (e := e) hbl).trans c2
        have o3 := fun e => (over_cell (w := wr) (e := e) hbl).trans c3
        have o4 := fun e => (over_cell (w := wr) (e := e) hbl).trans c4
        have o5 := fun e => (over_cell (w := wr) (e := e) hbl).trans c5
        have HSN := Lib.hid hsn; have HBO := Lib.hid hbo; have HFEW := Lib.hid hfew; have HBR := Lib.hid hbr; have HU := Lib.hid hU; have HID := Lib.hid hid
        clear hzl hzu hzc hcl hq hsn hbo hfew hbr hU hid hle c1 c2 c3 c4 c5
        obtain ⟨k, id, F, L, R, kp⟩ := q
        dsimp only [BAct.c] at hk0 hk1 HSN HU HID o1 o2 o3 o4 o5 c0
        obtain ⟨kk, hkk⟩ : ∃ kk, k % 5 = kk := ⟨_, rfl⟩
        have hq1 : 0 ≤ kk := by omega
        have hq2 : kk < 5 := by omega
        have HKK := Lib.hid hkk
        rcases (by omega : kk = 0 ∨ kk = 1 ∨ kk = 2 ∨ kk = 3 ∨ kk = 4) with rfl | rfl | rfl | rfl | rfl
        · have hst : stepP r (LL, GG) ⟨k, id, F, L, R, kp⟩ = (putBk LL GG id (F, L, R) r, GG) := by
            unfold stepP BAct.c
            dsimp only
            rw [if_pos HKK.out]
          have HST := Lib.hid hst
          clear hst
          go_upto_region 9 with fail
          refine wp_region_over_tail 11 (by kernel_rfl) (by kernel_rfl) ?_
          simp only [List.take_succ_cons, List.take_zero, List.drop_succ_cons, List.drop_zero]
          repeat (first | go_big_quiet_skip | (go_big_quiet_want; go_big_quiet_op; go_big_quiet_on))
          refine wpQuiet_nil ?_
          rintro W2 ⟨e, he⟩
          have hb22 := over_below wr e
          rw [← he] at hb22
          have hbo2 := HBO.out.later hb22
          have hbr2 := HBR.out.trans (hb22.mono HBR.out.size)
          have hcall := putO_any F L R id w.heap.size g m r LL GG vg W2 HU.out HID.out hbo2 (by have := HFEW.out; omega)
          have HB2 := Lib.hid hbr2
          clear he o1 o2 o3 o4 o5 c0 hb22 hbo2 hbr2 hkk
          go_wp2_with fail
          refine hcall.mono ?_
          clear hcall
          rintro e w3 ⟨rfl, hbo3, hb3, _⟩
          have HF := Lib.hid (And.intro hbo3 (HB2.out.trans hb3))
          clear hbo3 hb3
          go_wp2_with fail
          go_roundw
          case measure => (simp [Go.RowKit.intOf]; try omega)
          case rel => exact ⟨i + 1, _, by go_num, by omega, by rw [HSN.out, HST.out]; exact HF.out.1, HF.out.2⟩
        · have hst : stepP r (LL, GG) ⟨k, id, F, L, R, kp⟩ = (swapL LL GG id (F, L, R) kp r, swapG LL GG id (F, L, R) kp r) := by
            unfold stepP BAct.c
            dsimp only
            rw [if_neg (by rw [HKK.out]; decide)]; rw [if_pos HKK.out]
          have HST := Lib.hid hst
          clear hst
          go_upto_region 11 with fail
          refine wp_region_over_tail 16 (by kernel_rfl) (by kernel_rfl) ?_
          simp only [List.take_succ_cons, List.take_zero, List.drop_succ_cons, List.drop_zero]
          repeat (first | go_big_quiet_skip | (go_big_quiet_want; go_big_quiet_op; go_big_quiet_on))
          refine wpQuiet_nil ?_
          rintro W2 ⟨e, he⟩
          have hb22 := over_below wr e
          rw [← he] at hb22
          have hbo2 := HBO.out.later hb22
          have hbr2 := HBR.out.trans (hb22.mono HBR.out.size)
          have hcall := swap_any F L R id kp w.heap.size g m r LL GG vg W2 HU.out HID.out hbo2 HFEW.out
          have HB2 := Lib.hid hbr2
          clear he o1 o2 o3 o4 o5 c0 hb22 hbo2 hbr2 hkk
          go_wp2_with fail
          refine hcall.mono ?_
          clear hcall
          rintro e w3 ⟨rfl, ⟨vg', hbo3, _⟩, hb3, _⟩
          have HF := Lib.hid (And.intro hbo3 (HB2.out.trans hb3))
          clear hbo3 hb3
          go_wp2_with fail
          go_roundw
          case measure => (simp [Go.RowKit.intOf]; try omega)
          case rel => exact ⟨i + 1, _, by go_num, by omega, by rw [HSN.out, HST.out]; exact HF.out.1, HF.out.2⟩
        · have hst : stepP r (LL, GG) ⟨k, id, F, L, R, kp⟩ = (delM LL id, if kp then GG ++ (lookM LL id).toList else GG) := by
            unfold stepP BAct.c
            dsimp only
            rw [if_neg (by rw [HKK.out]; decide)]; rw [if_neg (by rw [HKK.out]; decide)]; rw [if_pos HKK.out]
          have HST := Lib.hid hst
          clear hst
          go_upto_region 13 with fail
          refine wp_region_over_tail 11 (by kernel_rfl) (by kernel_rfl) ?_
          simp only [List.take_succ_cons, List.take_zero, List.drop_succ_cons, List.drop_zero]
          repeat (first | go_big_quiet_skip | (go_big_quiet_want; go_big_quiet_op; go_big_quiet_on))
          refine wpQuiet_nil ?_
          rintro W2 ⟨e, he⟩
          have hb22 := over_below wr e
          rw [← he] at hb22
          have hbo2 := HBO.out.later hb22
          have hbr2 := HBR.out.trans (hb22.mono HBR.out.size)
          have hcall := drop_any id kp w.heap.size g m r LL GG vg W2 HID.out hbo2 (by have := HFEW.out; omega)
          have HB2 := Lib.hid hbr2
          clear he o1 o2 o3 o4 o5 c0 hb22 hbo2 hbr2 hkk
          go_wp2_with fail
          refine hcall.mono ?_
          clear hcall
          rintro e w3 ⟨rfl, ⟨vg', hbo3⟩, hb3, _⟩
          have HF := Lib.hid (And.intro hbo3 (HB2.out.trans hb3))
          clear hbo3 hb3
          go_wp2_with fail
          go_roundw
          case measure => (simp [Go.RowKit.intOf]; try omega)
          case rel => exact ⟨i + 1, _, by go_num, by omega, by rw [HSN.out, HST.out]; exact HF.out.1, HF.out.2⟩
        · have hst : stepP r (LL, GG) ⟨k, id, F, L, R, kp⟩ = (LL, []) := by
            unfold stepP BAct.c
            dsimp only
            rw [if_neg (by rw [HKK.out]; decide)]; rw [if_neg (by rw [HKK.out]; decide)]; rw [if_neg (by rw [HKK.out]; decide)]; rw [if_pos HKK.out]
          have HST := Lib.hid hst
          clear hst
          have hcall := settleO_any w.heap.size g m r LL GG vg wr HBO.out
          have HB2 := HBR
          clear o1 o2 o3 o4 o5
          go_wp2_with fail
          refine hcall.mono ?_
          clear hcall c0 hkk
          rintro e w3 ⟨rfl, hbo3, hb3, _⟩
          have HF := Lib.hid (And.intro hbo3 (HB2.out.trans hb3))
          clear hbo3 hb3
          go_wp2_with fail
          go_roundw
          case measure => (simp [Go.RowKit.intOf]; try omega)
          case rel => exact ⟨i + 1, _, by go_num, by omega, by rw [HSN.out, HST.out]; exact HF.out.1, HF.out.2⟩
        · have hst : stepP r (LL, GG) ⟨k, id, F, L, R, kp⟩ = (LL, GG) := by
            unfold stepP BAct.c
            dsimp only
            rw [if_neg (by rw [HKK.out]; decide)]; rw [if_neg (by rw [HKK.out]; decide)]; rw [if_neg (by rw [HKK.out]; decide)]; rw [if_neg (by rw [HKK.out]; decide)]; skip
          have HST := Lib.hid hst
          clear hst
          have HF := Lib.hid (And.intro HBO.out HBR.out)
          clear o1 o2 o3 o4 o5
          go_wp2_with fail
          go_roundw
          case measure => (simp [Go.RowKit.intOf]; try omega)
          case rel => exact ⟨i + 1, _, by go_num, by omega, by rw [HSN.out, HST.out]; exact HF.out.1, HF.out.2⟩
      · obtain rfl : i = z.length := by omega
        rw [List.take_length] at hbo
        have HF := Lib.hid (And.intro hbo hbr)
        clear hbo hbr
        go_wp2_with fail
        go_ret
        exact ⟨.inr ⟨HG.out, g, m, vg, rfl, HF.out.1⟩, HF.out.2⟩
end Go.Proofs.Ythmhboagbeibdaa
