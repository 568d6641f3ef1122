/- Lemmas of the claim, merged: HPlays. No conditions beyond those that each states. -/
import Derived.Test.YtclhhegfffccgaaGreatHP9
import Derived.Deep.RegionHeld3
/-
  Whatever classes come, change, go: all is what the chapter says: the law. (Printed by wip/mkhcopies.py.)
-/
namespace Go.Proofs.YtclhhegfffccgaaGreat
set_option linter.unusedVariables false
open Go.RowKit Go.Maps
attribute [local go_sem ↓] Go.wp_at_zero Go.wp_at_succ
attribute [local go_sem] quietR quietAtR quietUponR midAt midUpon
attribute [local irreducible] TStep HStep


set_option maxRecDepth 100000 in
set_option maxHeartbeats 8000000 in
theorem hierPlays_any (a0 : Option Addr) (len cap : Nat) (z : List HAct) (id : Int) (w : World) (hl : len ≤ 9223372036854775807) (hz : HActsAt w a0 len z) (hid : (Lit.int .i64 id).wf = true) :
    Calls Tryz.prog 5 #[.slice a0 len cap, .int .i64 id] w fun e w' => e = .returned (.bool true) ∧ Below w.heap.size w w' := by
  have HZ := Lib.hid hz
  have HID := Lib.hid hid
  have hzl : z.length = len := hz.1
  clear hz hid
  go_enter Tryz.func5, Tryz.ntmps5
  go_wp2_with fail
  refine (hlong_any a0 len cap w hl).mono ?_
  rintro e w1' ⟨rfl, rfl⟩
  by_cases hlong : 150 < len
  · have hd : decide (150 < len) = true := decide_eq_true hlong
    rw [hd]
    clear hd
    go_wp2_with fail
    go_ret
    exact ⟨rfl, Below.refl _ _⟩
  have hd : decide (150 < len) = false := decide_eq_false hlong
  rw [hd]
  clear hd
  subst hzl
  have hnew := (St.emp w).newT good_emp
  go_wp2_with fail
  refine hnew.mono ?_
  clear hnew
  rintro e w2 ⟨g0, ma0, mu0, rfl, hT⟩
  have HT := Lib.hid (hT.newD ((gT g0 ma0 mu0 []).star good_emp))
  clear hT
  go_upto_region 4 with fail
  generalize w2.alloc (.cells #[.slice none 0 0] 29) = w3 at HT ⊢
  generalize w2.heap.size = p at HT ⊢
  go_wp2_with fail
  go_loopw [5, 7] (fun v5 v7 W => ∃ (i : Nat) (g ma mu : Nat) (M : Mp), v5 = .pointer (some ⟨g, 0, none⟩) ∧ v7 = .int .i64 i ∧ i ≤ z.length ∧ St w W (Star (DO p (sps M)) (Star (TO g ma mu M) Emp))) (fun _ v7 _ => (z.length - Go.RowKit.intOf v7).toNat)
  case atStart => exact ⟨0, g0, ma0, mu0, [], rfl, rfl, Nat.zero_le _, HT.out⟩
  case round =>
    clear HT
    obtain ⟨i, g, ma, mu, M, rfl, rfl, hi, hst⟩ := hrel
    have HS := Lib.hid hst
    by_cases hlt : i < z.length
    · clear hst
      obtain ⟨q, hq⟩ : ∃ q, z[i]? = some q := ⟨_, List.getElem?_eq_getElem hlt⟩
      obtain ⟨⟨⟨hk0, hk1⟩, hws⟩, b, off, rfl⟩ := HZ.out.at_ hq
      obtain ⟨k, s⟩ := q
      dsimp only at hk0 hk1 hws
      have HWS := Lib.hid hws
      have hcq := HZ.out.cells HS.out.1 hq
      have c0 := hcq 0 _ rfl; have c1 := hcq 1 _ rfl; have c2 := hcq 2 _ rfl; have c3 := hcq 3 _ rfl; have c4 := hcq 4 _ rfl; have c5 := hcq 5 _ rfl; have c6 := hcq 6 _ rfl; have c7 := hcq 7 _ rfl; have c8 := hcq 8 _ rfl; have c9 := hcq 9 _ rfl; have c10 := hcq 10 _ rfl; have c11 := hcq 11 _ rfl; have c12 := hcq 12 _ rfl; have c13 := hcq 13 _ rfl; have c14 := hcq 14 _ rfl
      simp only [Nat.add_zero] at c0
      dsimp only at c0 c1 c2 c3 c4 c5 c6 c7 c8 c9 c10 c11 c12 c13 c14
      have hal := (Below.refl wr.heap.size wr).alloc (Nat.le_refl _) (.cells #[.int .i64 s.id, .int .i64 s.pa, .bool s.lf, .int .u64 s.r.1, .int .u64 s.r.2.1, .int .u64 s.r.2.2, .int .u64 s.s.1, .int .u64 s.s.2.1, .int .u64 s.s.2.2, .int .u64 s.u.1, .int .u64 s.u.2.1, .int .u64 s.u.2.2, .int .i64 s.pk, .int .i64 s.by_] 36)
      have hbx := HS.out.box ((gD _ _).star ((gT _ _ _ _).star good_emp)) hal (Blk.new wr 36 #[.int .i64 s.id, .int .i64 s.pa, .bool s.lf, .int .u64 s.r.1, .int .u64 s.r.2.1, .int .u64 s.r.2.2, .int .u64 s.s.1, .int .u64 s.s.2.1, .int .u64 s.s.2.2, .int .u64 s.u.1, .int .u64 s.u.2.1, .int .u64 s.u.2.2, .int .i64 s.pk, .int .i64 s.by_]) (Nat.le_refl _)
      have c0' := (hal.cell (p := ⟨b, off + i * 15, none⟩) (by have := (HZ.out.cells HS.out.1 hq 0 _ rfl); exact World.block_lt_of_cell? _ _ this)).trans c0
      have HX := Lib.hid hbx
      clear hcq hq hws hal hbx
      obtain ⟨kk, hkk⟩ : ∃ kk, k % 4 = kk := ⟨_, rfl⟩
      have hq1 : 0 ≤ kk := by omega
      have hq2 : kk < 4 := by omega
      go_upto_region 10 with fail
      clear c0 c1 c2 c3 c4 c5 c6 c7 c8 c9 c10 c11 c12 c13 c14
      generalize wr.alloc (.cells #[.int .i64 s.id, .int .i64 s.pa, .bool s.lf, .int .u64 s.r.1, .int .u64 s.r.2.1, .int .u64 s.r.2.2, .int .u64 s.s.1, .int .u64 s.s.2.1, .int .u64 s.s.2.2, .int .u64 s.u.1, .int .u64 s.u.2.1, .int .u64 s.u.2.2, .int .i64 s.pk, .int .i64 s.by_] 36) = W3 at HX c0' ⊢
      rcases (by omega : kk = 0 ∨ kk = 1 ∨ kk = 2 ∨ kk = 3) with rfl | rfl | rfl | rfl
      · clear HS
        have HI := Lib.hid (toInv HX.out.rest.second)
        have kE : ∀ W Lx, St w W (Star (BoxO wr.heap.size 36 #[.int .i64 s.id, .int .i64 s.pa, .bool s.lf, .int .u64 s.r.1, .int .u64 s.r.2.1, .int .u64 s.r.2.2, .int .u64 s.s.1, .int .u64 s.s.2.1, .int .u64 s.s.2.2, .int .u64 s.u.1, .int .u64 s.u.2.1, .int .u64 s.u.2.2, .int .i64 s.pk, .int .i64 s.by_]) (Star (DO p Lx) (Star (TO g ma mu M) Emp))) → Calls Tryz.prog 8 #[.pointer (some ⟨g, 0, none⟩), spV s] W fun e W' => e = .returned (.int .i64 (addM M s).1) ∧ St w W' (Star (BoxO wr.heap.size 36 #[.int .i64 s.id, .int .i64 s.pa, .bool s.lf, .int .u64 s.r.1, .int .u64 s.r.2.1, .int .u64 s.r.2.2, .int .u64 s.s.1, .int .u64 s.s.2.1, .int .u64 s.s.2.2, .int .u64 s.u.1, .int .u64 s.u.2.1, .int .u64 s.u.2.2, .int .i64 s.pk, .int .i64 s.by_]) (Star (DO p Lx) (Star (TO g ma mu (addM M s).2) Emp))) ∧ (W'.cell? ⟨wr.heap.size, 0, none⟩ = some (.int .i64 s.id) ∧ W'.cell? ⟨wr.heap.size, 1, none⟩ = some (.int .i64 s.pa) ∧ W'.cell? ⟨wr.heap.size, 2, none⟩ = some (.bool s.lf) ∧ W'.cell? ⟨wr.heap.size, 3, none⟩ = some (.int .u64 s.r.1) ∧ W'.cell? ⟨wr.heap.size, 4, none⟩ = some (.int .u64 s.r.2.1) ∧ W'.cell? ⟨wr.heap.size, 5, none⟩ = some (.int .u64 s.r.2.2) ∧ W'.cell? ⟨wr.heap.size, 6, none⟩ = some (.int .u64 s.s.1) ∧ W'.cell? ⟨wr.heap.size, 7, none⟩ = some (.int .u64 s.s.2.1) ∧ W'.cell? ⟨wr.heap.size, 8, none⟩ = some (.int .u64 s.s.2.2) ∧ W'.cell? ⟨wr.heap.size, 9, none⟩ = some (.int .u64 s.u.1) ∧ W'.cell? ⟨wr.heap.size, 10, none⟩ = some (.int .u64 s.u.2.1) ∧ W'.cell? ⟨wr.heap.size, 11, none⟩ = some (.int .u64 s.u.2.2) ∧ W'.cell? ⟨wr.heap.size, 12, none⟩ = some (.int .i64 s.pk) ∧ W'.cell? ⟨wr.heap.size, 13, none⟩ = some (.int .i64 s.by_)) := fun W Lx h => (h.act3 (good_box _ _ _) (gD _ _) (gT _ _ _ _) good_emp (to_add s HWS.out)).mono fun e W' ⟨h1, h2⟩ => ⟨h1, h2, by
          have hB := h2.boxed
          exact ⟨hB.cell 0, hB.cell 1, hB.cell 2, hB.cell 3, hB.cell 4, hB.cell 5, hB.cell 6, hB.cell 7, hB.cell 8, hB.cell 9, hB.cell 10, hB.cell 11, hB.cell 12, hB.cell 13⟩⟩
        have kF : ∀ W Mx, St w W (Star (BoxO wr.heap.size 36 #[.int .i64 s.id, .int .i64 s.pa, .bool s.lf, .int .u64 s.r.1, .int .u64 s.r.2.1, .int .u64 s.r.2.2, .int .u64 s.s.1, .int .u64 s.s.2.1, .int .u64 s.s.2.2, .int .u64 s.u.1, .int .u64 s.u.2.1, .int .u64 s.u.2.2, .int .i64 s.pk, .int .i64 s.by_]) (Star (DO p (sps M)) (Star (TO g ma mu Mx) Emp))) → Calls Tryz.prog 9 #[.pointer (some ⟨p, 0, none⟩), spV s] W fun e W' => e = .returned (.int .i64 (addM M s).1) ∧ St w W' (Star (BoxO wr.heap.size 36 #[.int .i64 s.id, .int .i64 s.pa, .bool s.lf, .int .u64 s.r.1, .int .u64 s.r.2.1, .int .u64 s.r.2.2, .int .u64 s.s.1, .int .u64 s.s.2.1, .int .u64 s.s.2.2, .int .u64 s.u.1, .int .u64 s.u.2.1, .int .u64 s.u.2.2, .int .i64 s.pk, .int .i64 s.by_]) (Star (DO p (sps (addM M s).2)) (Star (TO g ma mu Mx) Emp))) ∧ (W'.cell? ⟨wr.heap.size, 0, none⟩ = some (.int .i64 s.id) ∧ W'.cell? ⟨wr.heap.size, 1, none⟩ = some (.int .i64 s.pa) ∧ W'.cell? ⟨wr.heap.size, 2, none⟩ = some (.bool s.lf) ∧ W'.cell? ⟨wr.heap.size, 3, none⟩ = some (.int .u64 s.r.1) ∧ W'.cell? ⟨wr.heap.size, 4, none⟩ = some (.int .u64 s.r.2.1) ∧ W'.cell? ⟨wr.heap.size, 5, none⟩ = some (.int .u64 s.r.2.2) ∧ W'.cell? ⟨wr.heap.size, 6, none⟩ = some (.int .u64 s.s.1) ∧ W'.cell? ⟨wr.heap.size, 7, none⟩ = some (.int .u64 s.s.2.1) ∧ W'.cell? ⟨wr.heap.size, 8, none⟩ = some (.int .u64 s.s.2.2) ∧ W'.cell? ⟨wr.heap.size, 9, none⟩ = some (.int .u64 s.u.1) ∧ W'.cell? ⟨wr.heap.size, 10, none⟩ = some (.int .u64 s.u.2.1) ∧ W'.cell? ⟨wr.heap.size, 11, none⟩ = some (.int .u64 s.u.2.2) ∧ W'.cell? ⟨wr.heap.size, 12, none⟩ = some (.int .i64 s.pk) ∧ W'.cell? ⟨wr.heap.size, 13, none⟩ = some (.int .i64 s.by_)) := fun W Mx h => (h.act2 (good_box _ _ _) (gD _ _) ((gT _ _ _ _).star good_emp) (do_add HI.out s HWS.out)).mono fun e W' ⟨h1, h2⟩ => ⟨h1, h2, by
          have hB := h2.boxed
          exact ⟨hB.cell 0, hB.cell 1, hB.cell 2, hB.cell 3, hB.cell 4, hB.cell 5, hB.cell 6, hB.cell 7, hB.cell 8, hB.cell 9, hB.cell 10, hB.cell 11, hB.cell 12, hB.cell 13⟩⟩
        unfold spV spC at kE kF
        have HK := Lib.hid (And.intro kE kF)
        clear kE kF
        generalize (addM M s).1 = r9 at HK
        generalize (addM M s).2 = M9 at HK
        go_upto_region 17 with fail
        go_cut [51] from 17 to 81 (fun vc wx => vc = .bool false ∧ St w wx (Star (BoxO wr.heap.size 36 #[.int .i64 s.id, .int .i64 s.pa, .bool s.lf, .int .u64 s.r.1, .int .u64 s.r.2.1, .int .u64 s.r.2.2, .int .u64 s.s.1, .int .u64 s.s.2.1, .int .u64 s.s.2.2, .int .u64 s.u.1, .int .u64 s.u.2.1, .int .u64 s.u.2.2, .int .i64 s.pk, .int .i64 s.by_]) (Star (DO p (sps M9)) (Star (TO g ma mu M9) Emp))))
        case first =>
          have a1 : (W3.cell? ⟨wr.heap.size, 0, none⟩ = some (.int .i64 s.id) ∧ W3.cell? ⟨wr.heap.size, 1, none⟩ = some (.int .i64 s.pa) ∧ W3.cell? ⟨wr.heap.size, 2, none⟩ = some (.bool s.lf) ∧ W3.cell? ⟨wr.heap.size, 3, none⟩ = some (.int .u64 s.r.1) ∧ W3.cell? ⟨wr.heap.size, 4, none⟩ = some (.int .u64 s.r.2.1) ∧ W3.cell? ⟨wr.heap.size, 5, none⟩ = some (.int .u64 s.r.2.2) ∧ W3.cell? ⟨wr.heap.size, 6, none⟩ = some (.int .u64 s.s.1) ∧ W3.cell? ⟨wr.heap.size, 7, none⟩ = some (.int .u64 s.s.2.1) ∧ W3.cell? ⟨wr.heap.size, 8, none⟩ = some (.int .u64 s.s.2.2) ∧ W3.cell? ⟨wr.heap.size, 9, none⟩ = some (.int .u64 s.u.1) ∧ W3.cell? ⟨wr.heap.size, 10, none⟩ = some (.int .u64 s.u.2.1) ∧ W3.cell? ⟨wr.heap.size, 11, none⟩ = some (.int .u64 s.u.2.2) ∧ W3.cell? ⟨wr.heap.size, 12, none⟩ = some (.int .i64 s.pk) ∧ W3.cell? ⟨wr.heap.size, 13, none⟩ = some (.int .i64 s.by_)) := by
            have hB := HX.out.boxed
            exact ⟨hB.cell 0, hB.cell 1, hB.cell 2, hB.cell 3, hB.cell 4, hB.cell 5, hB.cell 6, hB.cell 7, hB.cell 8, hB.cell 9, hB.cell 10, hB.cell 11, hB.cell 12, hB.cell 13⟩
          go_region_held3 (fun W' => W'.cell? ⟨wr.heap.size, 0, none⟩ = some (.int .i64 s.id) ∧ W'.cell? ⟨wr.heap.size, 1, none⟩ = some (.int .i64 s.pa) ∧ W'.cell? ⟨wr.heap.size, 2, none⟩ = some (.bool s.lf) ∧ W'.cell? ⟨wr.heap.size, 3, none⟩ = some (.int .u64 s.r.1) ∧ W'.cell? ⟨wr.heap.size, 4, none⟩ = some (.int .u64 s.r.2.1) ∧ W'.cell? ⟨wr.heap.size, 5, none⟩ = some (.int .u64 s.r.2.2) ∧ W'.cell? ⟨wr.heap.size, 6, none⟩ = some (.int .u64 s.s.1) ∧ W'.cell? ⟨wr.heap.size, 7, none⟩ = some (.int .u64 s.s.2.1) ∧ W'.cell? ⟨wr.heap.size, 8, none⟩ = some (.int .u64 s.s.2.2) ∧ W'.cell? ⟨wr.heap.size, 9, none⟩ = some (.int .u64 s.u.1) ∧ W'.cell? ⟨wr.heap.size, 10, none⟩ = some (.int .u64 s.u.2.1) ∧ W'.cell? ⟨wr.heap.size, 11, none⟩ = some (.int .u64 s.u.2.2) ∧ W'.cell? ⟨wr.heap.size, 12, none⟩ = some (.int .i64 s.pk) ∧ W'.cell? ⟨wr.heap.size, 13, none⟩ = some (.int .i64 s.by_)) (first | exact a1 | exact sE | exact sF | exact sE2 | exact s9) (first
            | (go_at_call 8; refine (HK.out.1 _ _ (HX.out.later ((good_box _ _ _).star ((gD _ _).star ((gT _ _ _ _).star good_emp))) (by first | exact Below.refl _ _ | exact ⟨rfl, rfl, rfl, Nat.le_refl _, fun _ _ => rfl⟩))).mono ?_; rintro e wE ⟨rfl, hE, sE⟩)
            | (go_at_call 8; refine (HK.out.1 _ _ (hF.later ((good_box _ _ _).star ((gD _ _).star ((gT _ _ _ _).star good_emp))) (by first | exact Below.refl _ _ | exact ⟨rfl, rfl, rfl, Nat.le_refl _, fun _ _ => rfl⟩))).mono ?_; rintro e wE ⟨rfl, hE2, sE2⟩)
            | (go_at_call 9; refine (HK.out.2 _ _ (HX.out.later ((good_box _ _ _).star ((gD _ _).star ((gT _ _ _ _).star good_emp))) (by first | exact Below.refl _ _ | exact ⟨rfl, rfl, rfl, Nat.le_refl _, fun _ _ => rfl⟩))).mono ?_; rintro e wF ⟨rfl, hF, sF⟩)
            | (go_at_call 9; refine (HK.out.2 _ _ (hE.later ((good_box _ _ _).star ((gD _ _).star ((gT _ _ _ _).star good_emp))) (by first | exact Below.refl _ _ | exact ⟨rfl, rfl, rfl, Nat.le_refl _, fun _ _ => rfl⟩))).mono ?_; rintro e wF ⟨rfl, h9, s9⟩))
          all_goals (go_wp2_with fail; go_meet)
          all_goals (first | exact ⟨by simp, h9⟩ | exact ⟨by simp, hE2⟩)
        case rest =>
          obtain ⟨hvc, hT⟩ := hcut
          rw [hvc]
          have HB := Lib.hid hT.rest
          clear hvc hT HX HK
          -- the round's end
          by_cases h8 : (i : Int) % 8 = 0
          · have h8b : ((i : Int) % 8 == 0) = true := by simpa using h8
            have hs := lawsame_any g ma mu p id M9 _ (TD.of HB.out.second HB.out.first) HID.out
            go_wp2_with fail
            refine hs.mono ?_
            clear hs
            rintro e wZ ⟨rfl, hbZ⟩
            have hS2 := HB.out.later ((gD _ _).star ((gT _ _ _ _).star good_emp)) hbZ
            have HF := Lib.hid hS2
            clear hS2 hbZ h8 h8b
            go_wp2_with fail
            go_roundw
            case measure => (simp [Go.RowKit.intOf]; try omega)
            case rel => exact ⟨i + 1, g, ma, mu, M9, rfl, by go_num, by omega, HF.out⟩
          · have h8b : ((i : Int) % 8 == 0) = false := by simpa using h8
            clear h8
            go_wp2_with fail
            go_roundw
            case measure => (simp [Go.RowKit.intOf]; try omega)
            case rel => exact ⟨i + 1, g, ma, mu, M9, rfl, by go_num, by omega, HB.out⟩
      · clear HS
        have HI := Lib.hid (toInv HX.out.rest.second)
        have kE : ∀ W Lx, St w W (Star (BoxO wr.heap.size 36 #[.int .i64 s.id, .int .i64 s.pa, .bool s.lf, .int .u64 s.r.1, .int .u64 s.r.2.1, .int .u64 s.r.2.2, .int .u64 s.s.1, .int .u64 s.s.2.1, .int .u64 s.s.2.2, .int .u64 s.u.1, .int .u64 s.u.2.1, .int .u64 s.u.2.2, .int .i64 s.pk, .int .i64 s.by_]) (Star (DO p Lx) (Star (TO g ma mu M) Emp))) → Calls Tryz.prog 24 #[.pointer (some ⟨g, 0, none⟩), spV s] W fun e W' => e = .returned (.int .i64 (changeM M s).1) ∧ St w W' (Star (BoxO wr.heap.size 36 #[.int .i64 s.id, .int .i64 s.pa, .bool s.lf, .int .u64 s.r.1, .int .u64 s.r.2.1, .int .u64 s.r.2.2, .int .u64 s.s.1, .int .u64 s.s.2.1, .int .u64 s.s.2.2, .int .u64 s.u.1, .int .u64 s.u.2.1, .int .u64 s.u.2.2, .int .i64 s.pk, .int .i64 s.by_]) (Star (DO p Lx) (Star (TO g ma mu (changeM M s).2) Emp))) ∧ (W'.cell? ⟨wr.heap.size, 0, none⟩ = some (.int .i64 s.id) ∧ W'.cell? ⟨wr.heap.size, 1, none⟩ = some (.int .i64 s.pa) ∧ W'.cell? ⟨wr.heap.size, 2, none⟩ = some (.bool s.lf) ∧ W'.cell? ⟨wr.heap.size, 3, none⟩ = some (.int .u64 s.r.1) ∧ W'.cell? ⟨wr.heap.size, 4, none⟩ = some (.int .u64 s.r.2.1) ∧ W'.cell? ⟨wr.heap.size, 5, none⟩ = some (.int .u64 s.r.2.2) ∧ W'.cell? ⟨wr.heap.size, 6, none⟩ = some (.int .u64 s.s.1) ∧ W'.cell? ⟨wr.heap.size, 7, none⟩ = some (.int .u64 s.s.2.1) ∧ W'.cell? ⟨wr.heap.size, 8, none⟩ = some (.int .u64 s.s.2.2) ∧ W'.cell? ⟨wr.heap.size, 9, none⟩ = some (.int .u64 s.u.1) ∧ W'.cell? ⟨wr.heap.size, 10, none⟩ = some (.int .u64 s.u.2.1) ∧ W'.cell? ⟨wr.heap.size, 11, none⟩ = some (.int .u64 s.u.2.2) ∧ W'.cell? ⟨wr.heap.size, 12, none⟩ = some (.int .i64 s.pk) ∧ W'.cell? ⟨wr.heap.size, 13, none⟩ = some (.int .i64 s.by_)) := fun W Lx h => (h.act3 (good_box _ _ _) (gD _ _) (gT _ _ _ _) good_emp (to_change s HWS.out)).mono fun e W' ⟨h1, h2⟩ => ⟨h1, h2, by
          have hB := h2.boxed
          exact ⟨hB.cell 0, hB.cell 1, hB.cell 2, hB.cell 3, hB.cell 4, hB.cell 5, hB.cell 6, hB.cell 7, hB.cell 8, hB.cell 9, hB.cell 10, hB.cell 11, hB.cell 12, hB.cell 13⟩⟩
        have kF : ∀ W Mx, St w W (Star (BoxO wr.heap.size 36 #[.int .i64 s.id, .int .i64 s.pa, .bool s.lf, .int .u64 s.r.1, .int .u64 s.r.2.1, .int .u64 s.r.2.2, .int .u64 s.s.1, .int .u64 s.s.2.1, .int .u64 s.s.2.2, .int .u64 s.u.1, .int .u64 s.u.2.1, .int .u64 s.u.2.2, .int .i64 s.pk, .int .i64 s.by_]) (Star (DO p (sps M)) (Star (TO g ma mu Mx) Emp))) → Calls Tryz.prog 25 #[.pointer (some ⟨p, 0, none⟩), spV s] W fun e W' => e = .returned (.int .i64 (changeM M s).1) ∧ St w W' (Star (BoxO wr.heap.size 36 #[.int .i64 s.id, .int .i64 s.pa, .bool s.lf, .int .u64 s.r.1, .int .u64 s.r.2.1, .int .u64 s.r.2.2, .int .u64 s.s.1, .int .u64 s.s.2.1, .int .u64 s.s.2.2, .int .u64 s.u.1, .int .u64 s.u.2.1, .int .u64 s.u.2.2, .int .i64 s.pk, .int .i64 s.by_]) (Star (DO p (sps (changeM M s).2)) (Star (TO g ma mu Mx) Emp))) ∧ (W'.cell? ⟨wr.heap.size, 0, none⟩ = some (.int .i64 s.id) ∧ W'.cell? ⟨wr.heap.size, 1, none⟩ = some (.int .i64 s.pa) ∧ W'.cell? ⟨wr.heap.size, 2, none⟩ = some (.bool s.lf) ∧ W'.cell? ⟨wr.heap.size, 3, none⟩ = some (.int .u64 s.r.1) ∧ W'.cell? ⟨wr.heap.size, 4, none⟩ = some (.int .u64 s.r.2.1) ∧ W'.cell? ⟨wr.heap.size, 5, none⟩ = some (.int .u64 s.r.2.2) ∧ W'.cell? ⟨wr.heap.size, 6, none⟩ = some (.int .u64 s.s.1) ∧ W'.cell? ⟨wr.heap.size, 7, none⟩ = some (.int .u64 s.s.2.1) ∧ W'.cell? ⟨wr.heap.size, 8, none⟩ = some (.int .u64 s.s.2.2) ∧ W'.cell? ⟨wr.heap.size, 9, none⟩ = some (.int .u64 s.u.1) ∧ W'.cell? ⟨wr.heap.size, 10, none⟩ = some (.int .u64 s.u.2.1) ∧ W'.cell? ⟨wr.heap.size, 11, none⟩ = some (.int .u64 s.u.2.2) ∧ W'.cell? ⟨wr.heap.size, 12, none⟩ = some (.int .i64 s.pk) ∧ W'.cell? ⟨wr.heap.size, 13, none⟩ = some (.int .i64 s.by_)) := fun W Mx h => (h.act2 (good_box _ _ _) (gD _ _) ((gT _ _ _ _).star good_emp) (do_change HI.out s HWS.out)).mono fun e W' ⟨h1, h2⟩ => ⟨h1, h2, by
          have hB := h2.boxed
          exact ⟨hB.cell 0, hB.cell 1, hB.cell 2, hB.cell 3, hB.cell 4, hB.cell 5, hB.cell 6, hB.cell 7, hB.cell 8, hB.cell 9, hB.cell 10, hB.cell 11, hB.cell 12, hB.cell 13⟩⟩
        unfold spV spC at kE kF
        have HK := Lib.hid (And.intro kE kF)
        clear kE kF
        generalize (changeM M s).1 = r9 at HK
        generalize (changeM M s).2 = M9 at HK
        go_upto_region 20 with fail
        go_cut [60] from 17 to 81 (fun vc wx => vc = .bool false ∧ St w wx (Star (BoxO wr.heap.size 36 #[.int .i64 s.id, .int .i64 s.pa, .bool s.lf, .int .u64 s.r.1, .int .u64 s.r.2.1, .int .u64 s.r.2.2, .int .u64 s.s.1, .int .u64 s.s.2.1, .int .u64 s.s.2.2, .int .u64 s.u.1, .int .u64 s.u.2.1, .int .u64 s.u.2.2, .int .i64 s.pk, .int .i64 s.by_]) (Star (DO p (sps M9)) (Star (TO g ma mu M9) Emp))))
        case first =>
          have a1 : (W3.cell? ⟨wr.heap.size, 0, none⟩ = some (.int .i64 s.id) ∧ W3.cell? ⟨wr.heap.size, 1, none⟩ = some (.int .i64 s.pa) ∧ W3.cell? ⟨wr.heap.size, 2, none⟩ = some (.bool s.lf) ∧ W3.cell? ⟨wr.heap.size, 3, none⟩ = some (.int .u64 s.r.1) ∧ W3.cell? ⟨wr.heap.size, 4, none⟩ = some (.int .u64 s.r.2.1) ∧ W3.cell? ⟨wr.heap.size, 5, none⟩ = some (.int .u64 s.r.2.2) ∧ W3.cell? ⟨wr.heap.size, 6, none⟩ = some (.int .u64 s.s.1) ∧ W3.cell? ⟨wr.heap.size, 7, none⟩ = some (.int .u64 s.s.2.1) ∧ W3.cell? ⟨wr.heap.size, 8, none⟩ = some (.int .u64 s.s.2.2) ∧ W3.cell? ⟨wr.heap.size, 9, none⟩ = some (.int .u64 s.u.1) ∧ W3.cell? ⟨wr.heap.size, 10, none⟩ = some (.int .u64 s.u.2.1) ∧ W3.cell? ⟨wr.heap.size, 11, none⟩ = some (.int .u64 s.u.2.2) ∧ W3.cell? ⟨wr.heap.size, 12, none⟩ = some (.int .i64 s.pk) ∧ W3.cell? ⟨wr.heap.size, 13, none⟩ = some (.int .i64 s.by_)) := by
            have hB := HX.out.boxed
            exact ⟨hB.cell 0, hB.cell 1, hB.cell 2, hB.cell 3, hB.cell 4, hB.cell 5, hB.cell 6, hB.cell 7, hB.cell 8, hB.cell 9, hB.cell 10, hB.cell 11, hB.cell 12, hB.cell 13⟩
          go_region_held3 (fun W' => W'.cell? ⟨wr.heap.size, 0, none⟩ = some (.int .i64 s.id) ∧ W'.cell? ⟨wr.heap.size, 1, none⟩ = some (.int .i64 s.pa) ∧ W'.cell? ⟨wr.heap.size, 2, none⟩ = some (.bool s.lf) ∧ W'.cell? ⟨wr.heap.size, 3, none⟩ = some (.int .u64 s.r.1) ∧ W'.cell? ⟨wr.heap.size, 4, none⟩ = some (.int .u64 s.r.2.1) ∧ W'.cell? ⟨wr.heap.size, 5, none⟩ = some (.int .u64 s.r.2.2) ∧ W'.cell? ⟨wr.heap.size, 6, none⟩ = some (.int .u64 s.s.1) ∧ W'.cell? ⟨wr.heap.size, 7, none⟩ = some (.int .u64 s.s.2.1) ∧ W'.cell? ⟨wr.heap.size, 8, none⟩ = some (.int .u64 s.s.2.2) ∧ W'.cell? ⟨wr.heap.size, 9, none⟩ = some (.int .u64 s.u.1) ∧ W'.cell? ⟨wr.heap.size, 10, none⟩ = some (.int .u64 s.u.2.1) ∧ W'.cell? ⟨wr.heap.size, 11, none⟩ = some (.int .u64 s.u.2.2) ∧ W'.cell? ⟨wr.heap.size, 12, none⟩ = some (.int .i64 s.pk) ∧ W'.cell? ⟨wr.heap.size, 13, none⟩ = some (.int .i64 s.by_)) (first | exact a1 | exact sE | exact sF | exact sE2 | exact s25) (first
            | (go_at_call 24; refine (HK.out.1 _ _ (HX.out.later ((good_box _ _ _).star ((gD _ _).star ((gT _ _ _ _).star good_emp))) (by first | exact Below.refl _ _ | exact ⟨rfl, rfl, rfl, Nat.le_refl _, fun _ _ => rfl⟩))).mono ?_; rintro e wE ⟨rfl, hE, sE⟩)
            | (go_at_call 24; refine (HK.out.1 _ _ (hF.later ((good_box _ _ _).star ((gD _ _).star ((gT _ _ _ _).star good_emp))) (by first | exact Below.refl _ _ | exact ⟨rfl, rfl, rfl, Nat.le_refl _, fun _ _ => rfl⟩))).mono ?_; rintro e wE ⟨rfl, hE2, sE2⟩)
            | (go_at_call 25; refine (HK.out.2 _ _ (HX.out.later ((good_box _ _ _).star ((gD _ _).star ((gT _ _ _ _).star good_emp))) (by first | exact Below.refl _ _ | exact ⟨rfl, rfl, rfl, Nat.le_refl _, fun _ _ => rfl⟩))).mono ?_; rintro e wF ⟨rfl, hF, sF⟩)
            | (go_at_call 25; refine (HK.out.2 _ _ (hE.later ((good_box _ _ _).star ((gD _ _).star ((gT _ _ _ _).star good_emp))) (by first | exact Below.refl _ _ | exact ⟨rfl, rfl, rfl, Nat.le_refl _, fun _ _ => rfl⟩))).mono ?_; rintro e wF ⟨rfl, h25, s25⟩))
          all_goals (go_wp2_with fail; go_meet)
          all_goals (first | exact ⟨by simp, h25⟩ | exact ⟨by simp, hE2⟩)
        case rest =>
          obtain ⟨hvc, hT⟩ := hcut
          rw [hvc]
          have HB := Lib.hid hT.rest
          clear hvc hT HX HK
          -- the round's end
          by_cases h8 : (i : Int) % 8 = 0
          · have h8b : ((i : Int) % 8 == 0) = true := by simpa using h8
            have hs := lawsame_any g ma mu p id M9 _ (TD.of HB.out.second HB.out.first) HID.out
            go_wp2_with fail
            refine hs.mono ?_
            clear hs
            rintro e wZ ⟨rfl, hbZ⟩
            have hS2 := HB.out.later ((gD _ _).star ((gT _ _ _ _).star good_emp)) hbZ
            have HF := Lib.hid hS2
            clear hS2 hbZ h8 h8b
            go_wp2_with fail
            go_roundw
            case measure => (simp [Go.RowKit.intOf]; try omega)
            case rel => exact ⟨i + 1, g, ma, mu, M9, rfl, by go_num, by omega, HF.out⟩
          · have h8b : ((i : Int) % 8 == 0) = false := by simpa using h8
            clear h8
            go_wp2_with fail
            go_roundw
            case measure => (simp [Go.RowKit.intOf]; try omega)
            case rel => exact ⟨i + 1, g, ma, mu, M9, rfl, by go_num, by omega, HB.out⟩
      · clear HS
        have HI := Lib.hid (toInv HX.out.rest.second)
        have kE : ∀ W Lx, St w W (Star (BoxO wr.heap.size 36 #[.int .i64 s.id, .int .i64 s.pa, .bool s.lf, .int .u64 s.r.1, .int .u64 s.r.2.1, .int .u64 s.r.2.2, .int .u64 s.s.1, .int .u64 s.s.2.1, .int .u64 s.s.2.2, .int .u64 s.u.1, .int .u64 s.u.2.1, .int .u64 s.u.2.2, .int .i64 s.pk, .int .i64 s.by_]) (Star (DO p Lx) (Star (TO g ma mu M) Emp))) → Calls Tryz.prog 12 #[.pointer (some ⟨g, 0, none⟩), .int .i64 s.id] W fun e W' => e = .returned (.int .i64 (dropM M s.id).1) ∧ St w W' (Star (BoxO wr.heap.size 36 #[.int .i64 s.id, .int .i64 s.pa, .bool s.lf, .int .u64 s.r.1, .int .u64 s.r.2.1, .int .u64 s.r.2.2, .int .u64 s.s.1, .int .u64 s.s.2.1, .int .u64 s.s.2.2, .int .u64 s.u.1, .int .u64 s.u.2.1, .int .u64 s.u.2.2, .int .i64 s.pk, .int .i64 s.by_]) (Star (DO p Lx) (Star (TO g ma mu (dropM M s.id).2) Emp))) ∧ (W'.cell? ⟨wr.heap.size, 0, none⟩ = some (.int .i64 s.id) ∧ W'.cell? ⟨wr.heap.size, 1, none⟩ = some (.int .i64 s.pa) ∧ W'.cell? ⟨wr.heap.size, 2, none⟩ = some (.bool s.lf) ∧ W'.cell? ⟨wr.heap.size, 3, none⟩ = some (.int .u64 s.r.1) ∧ W'.cell? ⟨wr.heap.size, 4, none⟩ = some (.int .u64 s.r.2.1) ∧ W'.cell? ⟨wr.heap.size, 5, none⟩ = some (.int .u64 s.r.2.2) ∧ W'.cell? ⟨wr.heap.size, 6, none⟩ = some (.int .u64 s.s.1) ∧ W'.cell? ⟨wr.heap.size, 7, none⟩ = some (.int .u64 s.s.2.1) ∧ W'.cell? ⟨wr.heap.size, 8, none⟩ = some (.int .u64 s.s.2.2) ∧ W'.cell? ⟨wr.heap.size, 9, none⟩ = some (.int .u64 s.u.1) ∧ W'.cell? ⟨wr.heap.size, 10, none⟩ = some (.int .u64 s.u.2.1) ∧ W'.cell? ⟨wr.heap.size, 11, none⟩ = some (.int .u64 s.u.2.2) ∧ W'.cell? ⟨wr.heap.size, 12, none⟩ = some (.int .i64 s.pk) ∧ W'.cell? ⟨wr.heap.size, 13, none⟩ = some (.int .i64 s.by_)) := fun W Lx h => (h.act3 (good_box _ _ _) (gD _ _) (gT _ _ _ _) good_emp (to_drop s.id HWS.out.1.1)).mono fun e W' ⟨h1, h2⟩ => ⟨h1, h2, by
          have hB := h2.boxed
          exact ⟨hB.cell 0, hB.cell 1, hB.cell 2, hB.cell 3, hB.cell 4, hB.cell 5, hB.cell 6, hB.cell 7, hB.cell 8, hB.cell 9, hB.cell 10, hB.cell 11, hB.cell 12, hB.cell 13⟩⟩
        have kF : ∀ W Mx, St w W (Star (BoxO wr.heap.size 36 #[.int .i64 s.id, .int .i64 s.pa, .bool s.lf, .int .u64 s.r.1, .int .u64 s.r.2.1, .int .u64 s.r.2.2, .int .u64 s.s.1, .int .u64 s.s.2.1, .int .u64 s.s.2.2, .int .u64 s.u.1, .int .u64 s.u.2.1, .int .u64 s.u.2.2, .int .i64 s.pk, .int .i64 s.by_]) (Star (DO p (sps M)) (Star (TO g ma mu Mx) Emp))) → Calls Tryz.prog 13 #[.pointer (some ⟨p, 0, none⟩), .int .i64 s.id] W fun e W' => e = .returned (.int .i64 (dropM M s.id).1) ∧ St w W' (Star (BoxO wr.heap.size 36 #[.int .i64 s.id, .int .i64 s.pa, .bool s.lf, .int .u64 s.r.1, .int .u64 s.r.2.1, .int .u64 s.r.2.2, .int .u64 s.s.1, .int .u64 s.s.2.1, .int .u64 s.s.2.2, .int .u64 s.u.1, .int .u64 s.u.2.1, .int .u64 s.u.2.2, .int .i64 s.pk, .int .i64 s.by_]) (Star (DO p (sps (dropM M s.id).2)) (Star (TO g ma mu Mx) Emp))) ∧ (W'.cell? ⟨wr.heap.size, 0, none⟩ = some (.int .i64 s.id) ∧ W'.cell? ⟨wr.heap.size, 1, none⟩ = some (.int .i64 s.pa) ∧ W'.cell? ⟨wr.heap.size, 2, none⟩ = some (.bool s.lf) ∧ W'.cell? ⟨wr.heap.size, 3, none⟩ = some (.int .u64 s.r.1) ∧ W'.cell? ⟨wr.heap.size, 4, none⟩ = some (.int .u64 s.r.2.1) ∧ W'.cell? ⟨wr.heap.size, 5, none⟩ = some (.int .u64 s.r.2.2) ∧ W'.cell? ⟨wr.heap.size, 6, none⟩ = some (.int .u64 s.s.1) ∧ W'.cell? ⟨wr.heap.size, 7, none⟩ = some (.int .u64 s.s.2.1) ∧ W'.cell? ⟨wr.heap.size, 8, none⟩ = some (.int .u64 s.s.2.2) ∧ W'.cell? ⟨wr.heap.size, 9, none⟩ = some (.int .u64 s.u.1) ∧ W'.cell? ⟨wr.heap.size, 10, none⟩ = some (.int .u64 s.u.2.1) ∧ W'.cell? ⟨wr.heap.size, 11, none⟩ = some (.int .u64 s.u.2.2) ∧ W'.cell? ⟨wr.heap.size, 12, none⟩ = some (.int .i64 s.pk) ∧ W'.cell? ⟨wr.heap.size, 13, none⟩ = some (.int .i64 s.by_)) := fun W Mx h => (h.act2 (good_box _ _ _) (gD _ _) ((gT _ _ _ _).star good_emp) (do_drop HI.out s.id)).mono fun e W' ⟨h1, h2⟩ => ⟨h1, h2, by
          have hB := h2.boxed
          exact ⟨hB.cell 0, hB.cell 1, hB.cell 2, hB.cell 3, hB.cell 4, hB.cell 5, hB.cell 6, hB.cell 7, hB.cell 8, hB.cell 9, hB.cell 10, hB.cell 11, hB.cell 12, hB.cell 13⟩⟩
        skip
        have HK := Lib.hid (And.intro kE kF)
        clear kE kF
        generalize (dropM M s.id).1 = r9 at HK
        generalize (dropM M s.id).2 = M9 at HK
        go_upto_region 23 with fail
        go_cut [71] from 17 to 81 (fun vc wx => vc = .bool false ∧ St w wx (Star (BoxO wr.heap.size 36 #[.int .i64 s.id, .int .i64 s.pa, .bool s.lf, .int .u64 s.r.1, .int .u64 s.r.2.1, .int .u64 s.r.2.2, .int .u64 s.s.1, .int .u64 s.s.2.1, .int .u64 s.s.2.2, .int .u64 s.u.1, .int .u64 s.u.2.1, .int .u64 s.u.2.2, .int .i64 s.pk, .int .i64 s.by_]) (Star (DO p (sps M9)) (Star (TO g ma mu M9) Emp))))
        case first =>
          have a1 : (W3.cell? ⟨wr.heap.size, 0, none⟩ = some (.int .i64 s.id) ∧ W3.cell? ⟨wr.heap.size, 1, none⟩ = some (.int .i64 s.pa) ∧ W3.cell? ⟨wr.heap.size, 2, none⟩ = some (.bool s.lf) ∧ W3.cell? ⟨wr.heap.size, 3, none⟩ = some (.int .u64 s.r.1) ∧ W3.cell? ⟨wr.heap.size, 4, none⟩ = some (.int .u64 s.r.2.1) ∧ W3.cell? ⟨wr.heap.size, 5, none⟩ = some (.int .u64 s.r.2.2) ∧ W3.cell? ⟨wr.heap.size, 6, none⟩ = some (.int .u64 s.s.1) ∧ W3.cell? ⟨wr.heap.size, 7, none⟩ = some (.int .u64 s.s.2.1) ∧ W3.cell? ⟨wr.heap.size, 8, none⟩ = some (.int .u64 s.s.2.2) ∧ W3.cell? ⟨wr.heap.size, 9, none⟩ = some (.int .u64 s.u.1) ∧ W3.cell? ⟨wr.heap.size, 10, none⟩ = some (.int .u64 s.u.2.1) ∧ W3.cell? ⟨wr.heap.size, 11, none⟩ = some (.int .u64 s.u.2.2) ∧ W3.cell? ⟨wr.heap.size, 12, none⟩ = some (.int .i64 s.pk) ∧ W3.cell? ⟨wr.heap.size, 13, none⟩ = some (.int .i64 s.by_)) := by
            have hB := HX.out.boxed
            exact ⟨hB.cell 0, hB.cell 1, hB.cell 2, hB.cell 3, hB.cell 4, hB.cell 5, hB.cell 6, hB.cell 7, hB.cell 8, hB.cell 9, hB.cell 10, hB.cell 11, hB.cell 12, hB.cell 13⟩
          go_region_held3 (fun W' => W'.cell? ⟨wr.heap.size, 0, none⟩ = some (.int .i64 s.id) ∧ W'.cell? ⟨wr.heap.size, 1, none⟩ = some (.int .i64 s.pa) ∧ W'.cell? ⟨wr.heap.size, 2, none⟩ = some (.bool s.lf) ∧ W'.cell? ⟨wr.heap.size, 3, none⟩ = some (.int .u64 s.r.1) ∧ W'.cell? ⟨wr.heap.size, 4, none⟩ = some (.int .u64 s.r.2.1) ∧ W'.cell? ⟨wr.heap.size, 5, none⟩ = some (.int .u64 s.r.2.2) ∧ W'.cell? ⟨wr.heap.size, 6, none⟩ = some (.int .u64 s.s.1) ∧ W'.cell? ⟨wr.heap.size, 7, none⟩ = some (.int .u64 s.s.2.1) ∧ W'.cell? ⟨wr.heap.size, 8, none⟩ = some (.int .u64 s.s.2.2) ∧ W'.cell? ⟨wr.heap.size, 9, none⟩ = some (.int .u64 s.u.1) ∧ W'.cell? ⟨wr.heap.size, 10, none⟩ = some (.int .u64 s.u.2.1) ∧ W'.cell? ⟨wr.heap.size, 11, none⟩ = some (.int .u64 s.u.2.2) ∧ W'.cell? ⟨wr.heap.size, 12, none⟩ = some (.int .i64 s.pk) ∧ W'.cell? ⟨wr.heap.size, 13, none⟩ = some (.int .i64 s.by_)) (first | exact a1 | exact sE | exact sF | exact sE2 | exact s13) (first
            | (go_at_call 12; refine (HK.out.1 _ _ (HX.out.later ((good_box _ _ _).star ((gD _ _).star ((gT _ _ _ _).star good_emp))) (by first | exact Below.refl _ _ | exact ⟨rfl, rfl, rfl, Nat.le_refl _, fun _ _ => rfl⟩))).mono ?_; rintro e wE ⟨rfl, hE, sE⟩)
            | (go_at_call 12; refine (HK.out.1 _ _ (hF.later ((good_box _ _ _).star ((gD _ _).star ((gT _ _ _ _).star good_emp))) (by first | exact Below.refl _ _ | exact ⟨rfl, rfl, rfl, Nat.le_refl _, fun _ _ => rfl⟩))).mono ?_; rintro e wE ⟨rfl, hE2, sE2⟩)
            | (go_at_call 13; refine (HK.out.2 _ _ (HX.out.later ((good_box _ _ _).star ((gD _ _).star ((gT _ _ _ _).star good_emp))) (by first | exact Below.refl _ _ | exact ⟨rfl, rfl, rfl, Nat.le_refl _, fun _ _ => rfl⟩))).mono ?_; rintro e wF ⟨rfl, hF, sF⟩)
            | (go_at_call 13; refine (HK.out.2 _ _ (hE.later ((good_box _ _ _).star ((gD _ _).star ((gT _ _ _ _).star good_emp))) (by first | exact Below.refl _ _ | exact ⟨rfl, rfl, rfl, Nat.le_refl _, fun _ _ => rfl⟩))).mono ?_; rintro e wF ⟨rfl, h13, s13⟩))
          all_goals (go_wp2_with fail; go_meet)
          all_goals (first | exact ⟨by simp, h13⟩ | exact ⟨by simp, hE2⟩)
        case rest =>
          obtain ⟨hvc, hT⟩ := hcut
          rw [hvc]
          have HB := Lib.hid hT.rest
          clear hvc hT HX HK
          -- the round's end
          by_cases h8 : (i : Int) % 8 = 0
          · have h8b : ((i : Int) % 8 == 0) = true := by simpa using h8
            have hs := lawsame_any g ma mu p id M9 _ (TD.of HB.out.second HB.out.first) HID.out
            go_wp2_with fail
            refine hs.mono ?_
            clear hs
            rintro e wZ ⟨rfl, hbZ⟩
            have hS2 := HB.out.later ((gD _ _).star ((gT _ _ _ _).star good_emp)) hbZ
            have HF := Lib.hid hS2
            clear hS2 hbZ h8 h8b
            go_wp2_with fail
            go_roundw
            case measure => (simp [Go.RowKit.intOf]; try omega)
            case rel => exact ⟨i + 1, g, ma, mu, M9, rfl, by go_num, by omega, HF.out⟩
          · have h8b : ((i : Int) % 8 == 0) = false := by simpa using h8
            clear h8
            go_wp2_with fail
            go_roundw
            case measure => (simp [Go.RowKit.intOf]; try omega)
            case rel => exact ⟨i + 1, g, ma, mu, M9, rfl, by go_num, by omega, HB.out⟩
      · clear HS
        have hc := HX.out.copyT ((good_box _ _ _).star ((gD _ _).star ((gT _ _ _ _).star good_emp))) HX.out.rest.second
        go_wp2_with fail
        refine hc.mono ?_
        clear hc
        rintro e wA ⟨g2, ma2, mu2, rfl, hA⟩
        have HA := Lib.hid hA
        clear hA HX
        have b1 := HA.out.rest.boxed.cell 0
        simp only [List.getElem?_toArray, List.getElem?_cons_zero, List.getElem?_cons_succ] at b1
        have hd := HA.out.act4 (gT _ _ _ _) (good_box _ _ _) (gD _ _) (gT _ _ _ _) good_emp (to_drop s.id HWS.out.1.1)
        go_wp2_with fail
        refine hd.mono ?_
        clear hd b1
        rintro e wB ⟨rfl, hB⟩
        have HB := Lib.hid (hB.swap.rest.swap.cut2)
        clear hB HA
        -- the round's end
        by_cases h8 : (i : Int) % 8 = 0
        · have h8b : ((i : Int) % 8 == 0) = true := by simpa using h8
          have hs := lawsame_any g2 ma2 mu2 p id M _ (TD.of HB.out.second HB.out.first) HID.out
          go_wp2_with fail
          refine hs.mono ?_
          clear hs
          rintro e wZ ⟨rfl, hbZ⟩
          have hS2 := HB.out.later ((gD _ _).star ((gT _ _ _ _).star good_emp)) hbZ
          have HF := Lib.hid hS2
          clear hS2 hbZ h8 h8b
          go_wp2_with fail
          go_roundw
          case measure => (simp [Go.RowKit.intOf]; try omega)
          case rel => exact ⟨i + 1, g2, ma2, mu2, M, rfl, by go_num, by omega, HF.out⟩
        · have h8b : ((i : Int) % 8 == 0) = false := by simpa using h8
          clear h8
          go_wp2_with fail
          go_roundw
          case measure => (simp [Go.RowKit.intOf]; try omega)
          case rel => exact ⟨i + 1, g2, ma2, mu2, M, rfl, by go_num, by omega, HB.out⟩
    · obtain rfl : i = z.length := by omega
      clear hst
      have hs := lawsame_any g ma mu p id M _ (TD.of HS.out.second HS.out.first) HID.out
      go_wp2_with fail
      refine hs.mono ?_
      clear hs
      rintro e wA ⟨rfl, hbA⟩
      have HF := Lib.hid (HS.out.1.trans (hbA.mono HS.out.1.size))
      clear hbA HS
      go_wp2_with fail
      go_ret
      exact ⟨rfl, HF.out⟩
end Go.Proofs.YtclhhegfffccgaaGreat
