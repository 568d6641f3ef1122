/-
  distributarylaw06.awake: the chapter's examples.
-/
import Derived.Test.YtmmodhhheojkfaaSagStarted
namespace Go.Proofs.Ytmmodhhheojkfaa
open Go.RowKit

theorem u_small {n : Int} (h : 0 ≤ n) (h2 : n ≤ 9223372036854775808) : U n := ⟨h, by omega⟩

set_option maxRecDepth 100000 in
set_option maxHeartbeats 2000000 in
theorem awake_any (w : World) :
    Calls Try.prog 33 #[] w fun e w' => e = .returned (.bool true) ∧ Below w.heap.size w w' := by
  go_enter Try.func33, Try.ntmps33
  go_wp2_with fail
  refine (live_new (F := 1) (L := 10) (R := 4) w (by decide) (by decide) (by decide) (by decide) (by decide)).mono ?_
  rintro e w1 ⟨g, rfl, hg, hl, hb⟩
  have HL := Lib.hid hl; clear hl
  go_wp2_with fail
  refine (snew_no 4 10 1 w1 (by decide) (.inr ⟨by decide, by decide⟩)).mono ?_
  rintro e w2 ⟨rfl, hb2⟩
  have HL2 := Lib.hid (HL.out.below hb2)
  have hbb := hb.trans (hb2.mono hb.size)
  clear HL hb hb2
  go_wp2_with fail
  refine (sat_none _ 7 w2 HL2.out.none).mono ?_
  rintro e w3 ⟨rfl, hb2⟩
  have HL := Lib.hid (HL2.out.below hb2)
  have hb := hbb.trans (hb2.mono hbb.size)
  clear HL2 hbb hb2
  go_wp2_with fail
  refine (sreach_none _ 1 w3 HL.out.none).mono ?_
  rintro e w4 ⟨rfl, hb2⟩
  have HL2 := Lib.hid (HL.out.below hb2)
  have hbb := hb.trans (hb2.mono hb.size)
  have hnev : nev 1 = 9223372036854775808 := by decide
  rw [hnev]
  clear HL hb hb2 hnev
  go_wp2_with fail
  refine (live_start HL2.out 0 0 0 0 (u_small (by decide) (by decide)) (u_small (by decide) (by decide)) (by decide) (by decide) (by decide)).mono ?_
  rintro e w5 ⟨rfl, hl, hg2⟩
  rw [show startK 1 10 4 0 [] (0, 0) = [(0, 0)] from by decide] at hl
  rw [show [] ++ [(0, 0)] = ([(0, 0)] : List (Int × Int)) from rfl] at hl
  have HL := Lib.hid hl
  have hb := hbb.grown hg2 hbb.size (fun j hj => by injection hj with hj; omega)
  clear HL2 hbb hl hg2
  go_wp2_with fail
  have hc := live_at HL.out (by decide) 20 (u_small (by decide) (by decide))
  rw [show minF (atK 1 10 4 (max 20 0)) 4611686018427387904 ([(0, 0)] : List (Int × Int)) = 50 from by decide] at hc
  refine hc.mono ?_
  rintro e w6 ⟨rfl, hb2⟩
  have HL2 := Lib.hid (HL.out.below hb2)
  have hbb := hb.trans (hb2.mono hb.size)
  clear HL hb hb2 hc
  go_wp2_with fail
  have hc := live_line HL2.out (by decide) 20 (u_small (by decide) (by decide))
  rw [show minF (linK 4 (max 20 0)) 4611686018427387904 ([(0, 0)] : List (Int × Int)) = 80 from by decide] at hc
  refine hc.mono ?_
  rintro e w7 ⟨rfl, hb2⟩
  have HL := Lib.hid (HL2.out.below hb2)
  have hb := hbb.trans (hb2.mono hbb.size)
  clear HL2 hbb hb2 hc
  go_wp2_with fail
  refine (live_start HL.out 5 3 5 3 (u_small (by decide) (by decide)) (u_small (by decide) (by decide)) (by decide) (by decide) (by decide)).mono ?_
  rintro e w8 ⟨rfl, hl, hg2⟩
  rw [show startK 1 10 4 5 [(0, 0)] (5, 3) = [(5, 3)] from by decide] at hl
  rw [show [(0, 0)] ++ [(5, 3)] = ([(0, 0), (5, 3)] : List (Int × Int)) from rfl] at hl
  have HL2 := Lib.hid hl
  have hbb := hb.grown hg2 hb.size (fun j hj => by injection hj with hj; omega)
  clear HL hb hl hg2
  go_wp2_with fail
  refine (live_kept HL2.out (by decide)).mono ?_
  rintro e w' ⟨rfl, rfl⟩
  simp only [List.length_cons, List.length_nil]
  go_wp2_with fail
  refine (live_start HL2.out 8 20 8 20 (u_small (by decide) (by decide)) (u_small (by decide) (by decide)) (by decide) (by decide) (by decide)).mono ?_
  rintro e w10 ⟨rfl, hl, hg2⟩
  rw [show startK 1 10 4 8 [(5, 3)] (8, 20) = [(5, 3)] from by decide] at hl
  rw [show [(0, 0), (5, 3)] ++ [(8, 20)] = ([(0, 0), (5, 3), (8, 20)] : List (Int × Int)) from rfl] at hl
  have HL := Lib.hid hl
  have hb := hbb.grown hg2 hbb.size (fun j hj => by injection hj with hj; omega)
  clear HL2 hbb hl hg2
  go_wp2_with fail
  refine (live_kept HL.out (by decide)).mono ?_
  rintro e w' ⟨rfl, rfl⟩
  simp only [List.length_cons, List.length_nil]
  go_wp2_with fail
  refine (live_starts HL.out (by decide)).mono ?_
  rintro e w' ⟨rfl, rfl⟩
  simp only [List.length_cons, List.length_nil]
  go_wp2_with fail
  have hc := live_at HL.out (by decide) 10 (u_small (by decide) (by decide))
  rw [show minF (atK 1 10 4 (max 10 8)) 4611686018427387904 ([(0, 0), (5, 3), (8, 20)] : List (Int × Int)) = 8 from by decide] at hc
  refine hc.mono ?_
  rintro e w13 ⟨rfl, hb2⟩
  have HL2 := Lib.hid (HL.out.below hb2)
  have hbb := hb.trans (hb2.mono hb.size)
  clear HL hb hb2 hc
  go_wp2_with fail
  have hc := live_at HL2.out (by decide) 20 (u_small (by decide) (by decide))
  rw [show minF (atK 1 10 4 (max 20 8)) 4611686018427387904 ([(0, 0), (5, 3), (8, 20)] : List (Int × Int)) = 33 from by decide] at hc
  refine hc.mono ?_
  rintro e w14 ⟨rfl, hb2⟩
  have HL := Lib.hid (HL2.out.below hb2)
  have hb := hbb.trans (hb2.mono hbb.size)
  clear HL2 hbb hb2 hc
  go_wp2_with fail
  have hc := live_line HL.out (by decide) 10 (u_small (by decide) (by decide))
  rw [show minF (linK 4 (max 10 8)) 4611686018427387904 ([(0, 0), (5, 3), (8, 20)] : List (Int × Int)) = 23 from by decide] at hc
  refine hc.mono ?_
  rintro e w15 ⟨rfl, hb2⟩
  have HL2 := Lib.hid (HL.out.below hb2)
  have hbb := hb.trans (hb2.mono hb.size)
  clear HL hb hb2 hc
  go_wp2_with fail
  have hc := live_reach HL2.out (by decide) 33 (u_small (by decide) (by decide))
  rw [show lastAt (reachC 1 10 4) 33 [(5, 3)] 8 = 20 from by decide] at hc
  refine hc.mono ?_
  rintro e w16 ⟨rfl, hb2⟩
  have HL := Lib.hid (HL2.out.below hb2)
  have hb := hbb.trans (hb2.mono hbb.size)
  clear HL2 hbb hb2 hc
  go_wp2_with fail
  have hc := live_ahead HL.out (by decide) 23 (u_small (by decide) (by decide))
  rw [show lastAt (reachC 0 0 4) 23 [(5, 3)] 8 = 10 from by decide] at hc
  refine hc.mono ?_
  rintro e w17 ⟨rfl, hb2⟩
  have HL2 := Lib.hid (HL.out.below hb2)
  have hbb := hb.trans (hb2.mono hb.size)
  clear HL hb hb2 hc
  go_wp2_with fail
  go_ret
  exact ⟨rfl, hbb⟩

end Go.Proofs.Ytmmodhhheojkfaa
