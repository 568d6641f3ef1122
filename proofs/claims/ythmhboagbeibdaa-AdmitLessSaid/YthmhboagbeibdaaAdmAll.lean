/-
  The statements' word of layer 17: all live curves and ghosts.
-/
import Derived.Test.YthmhboagbeibdaaAdmCopy
namespace Go.Proofs.Ythmhboagbeibdaa
set_option linter.unusedVariables false
open Go.RowKit Go.Maps Go.Sort

set_option maxRecDepth 100000 in
set_option maxHeartbeats 4000000 in
theorem all_any (g m : Nat) (r : Int) (L : List (Int × Cv)) (G : List Cv) (vg : Value) (w : World) (h : BkAt w g m r L G vg) :
    Calls Try.prog 16 #[.pointer (some ⟨g, 0, none⟩)] w (CloneW w w (G ++ L.map (·.2))) := by
  have hgh := ghosts_any g m r L G vg w h
  have hfew := h.few
  have hrise := h.rising
  have H := Lib.hid h; have HRI := Lib.hid hrise
  clear h hrise
  go_enter Try.func16, Try.ntmps16
  go_wp2_with fail
  refine hgh.mono ?_
  clear hgh
  rintro e w1 ⟨v1, rfl, ho1, hb1⟩
  have hids := ids_any g m r L G vg w1 (H.out.later hb1)
  have HO1 := Lib.hid ho1; have HB1 := Lib.hid hb1
  clear ho1 hb1
  go_wp2_with fail
  refine hids.mono ?_
  clear hids
  rintro e w2 ⟨vk, rfl, hok, hb2⟩
  have hbw2 := HB1.out.trans (hb2.mono HB1.out.size)
  have hkr := owns_base hok HB1.out.size
  have hrow := owns_later HO1.out hb2
  obtain ⟨ak, ck, rfl⟩ := owns_slice hok
  have hLl : (L.map (·.1)).length = L.length := by simp
  rw [hLl] at hkr
  have HK := Lib.hid hkr; have HR := Lib.hid hrow; have HB2 := Lib.hid hbw2
  clear hok hb2 hbw2 hkr hrow HO1
  simp only [hLl]
  clear hLl
  go_wp2_with fail
  go_loopw [3, 5, 6, 7] (fun v3 v5 v6 v7 W => ∃ i : Nat, v5 = .int .i64 i ∧ i ≤ L.length ∧ W.ownsRow w.heap.size 25 3 v3 (G ++ (L.take i).map (·.2)).length (cvCells (G ++ (L.take i).map (·.2))) ∧ W.ownsRow w.heap.size 3 1 (.slice ak L.length ck) L.length ((L.map (·.1)).map (Value.int .i64)) ∧ Below w.heap.size w W) (fun _ v5 _ _ _ => (L.length - Go.RowKit.intOf v5).toNat)
  case atStart => exact ⟨0, rfl, Nat.zero_le _, by simpa using HR.out, HK.out, HB2.out⟩
  case round =>
    obtain ⟨i, rfl, hi, hrow, hkr, hbr⟩ := hrel
    by_cases hlt : i < L.length
    · obtain ⟨⟨id, CF, CL, CR⟩, hic⟩ : ∃ p, L[i]? = some p := ⟨_, List.getElem?_eq_getElem hlt⟩
      obtain ⟨gk, ck', e9, hk1, hk2⟩ := hkr.form (by omega)
      simp only [Value.slice.injEq, true_and] at e9
      obtain ⟨rfl, rfl⟩ := e9
      have ck0 : wr.cell? ⟨gk, i, none⟩ = some (.int .i64 id) := by
        rw [hkr.cellAt i (by omega), List.getElem?_map, List.getElem?_map, hic]; rfl
      have hwf := H.out.wf _ (List.mem_of_getElem? hic)
      have hlv := live_any id g m r L G vg wr hwf (H.out.later hbr)
      unfold LiveW at hlv
      rw [look_at HRI.out hic] at hlv
      simp only [Option.getD_some, Option.isSome_some, cvV] at hlv
      have huc := H.out.u _ (List.mem_map.2 ⟨_, List.mem_of_getElem? hic, rfl⟩)
      have hT : (L.take (i + 1)).map (·.2) = (L.take i).map (·.2) ++ [(CF, CL, CR)] := by rw [List.take_add_one, hic]; simp
      have HT := Lib.hid hT; have HROW := Lib.hid hrow; have HKR := Lib.hid hkr; have HBR := Lib.hid hbr
      clear hrow hkr hbr hT hk1 hk2 hic hwf
      go_wp2_with fail
      refine hlv.mono ?_
      clear hlv ck0
      rintro e w4 ⟨rfl, hb4⟩
      have hbb := (Below.refl w4.heap.size w4).alloc (Nat.le_refl _) (.cells #[.int .u64 CF, .int .u64 CL, .int .u64 CR] 25)
      have hbl := hbb.alloc hbb.size (.cells #[.int .u64 CF, .int .u64 CL, .int .u64 CR] 25)
      have hB2 := Blk.new (w4.alloc (.cells #[.int .u64 CF, .int .u64 CL, .int .u64 CR] 25)) 25 #[.int .u64 CF, .int .u64 CL, .int .u64 CR]
      rw [World.size_alloc] at hB2
      have hrow5 := owns_later (owns_later HROW.out hb4) hbl
      have hkr5 := owns_later (owns_later HKR.out hb4) hbl
      have hbw4 := HBR.out.trans (hb4.mono HBR.out.size)
      have hbw5 := hbw4.trans (hbl.mono hbw4.size)
      obtain ⟨v', w', hr, ho, hb, hg⟩ := app_more 23 (cvat_lit (c := (CF, CL, CR)) hB2 huc) hrow5 hbw5.size (by simp; omega)
      have hkr6 := hkr5.kept hg (rows_apart hkr5 hrow5 (by decide))
      have HO := Lib.hid ho; have HK6 := Lib.hid hkr6; have HB6 := Lib.hid (hbw5.trans hb)
      clear hb4 hbb hbl hB2 hrow5 hkr5 hbw4 hbw5 ho hb hg hkr6
      go_wp2_with (at_builtin; refine wpList_append_runW rfl _ _ _ rfl _ _ _ rfl rfl hr ?_; clear hr)
      go_roundw
      case measure => (simp [Go.RowKit.intOf]; try omega)
      case rel => exact ⟨i + 1, by go_num, by omega, by rw [HT.out]; simpa using HO.out, HK6.out, HB6.out⟩
    · obtain rfl : i = L.length := by omega
      rw [List.take_length] at hrow
      have HROW := Lib.hid hrow; have HBR := Lib.hid hbr
      clear hrow hkr hbr
      go_wp2_with fail
      go_ret
      exact ⟨_, rfl, HROW.out, HBR.out⟩
end Go.Proofs.Ythmhboagbeibdaa
