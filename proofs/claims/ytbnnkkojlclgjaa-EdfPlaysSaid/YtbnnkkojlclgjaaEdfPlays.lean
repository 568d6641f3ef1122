/-
  Law 19: a row of leaves answers as the document's row does. (Printed by wip/mkedfplays.py.)
-/
import Derived.Test.YtbnnkkojlclgjaaEdfPair
import Derived.Deep.RegionHeld3
namespace Go.Proofs.Ytbnnkkojlclgjaa
set_option linter.unusedVariables false
open Go.RowKit Go.Maps
attribute [local go_sem ↓] Go.wp_at_zero Go.wp_at_succ
attribute [local go_sem] quietR quietAtR quietUponR midAt midUpon plain plainUpon

set_option maxRecDepth 100000 in
set_option maxHeartbeats 8000000 in
theorem edfPlays_any (a0 : Option Addr) (len cap : Nat) (z : List EAct) (now id : Int) (w : World) (hz : EActsAt w a0 len z) (hn : 0 ≤ now ∧ now < 18446744073709551616) (hid : (Lit.int .i64 id).wf = true) :
    Calls Try.prog 6 #[.slice a0 len cap, .int .u64 now, .int .i64 id] w fun e w' => e = .returned (.bool true) ∧ Below w.heap.size w w' := by
  have HZ := Lib.hid hz
  have HID := Lib.hid hid
  have hzl : z.length = len := hz.1
  clear hz hid
  go_enter Try.func6, Try.ntmps6
  go_wp2_with fail
  refine (elong_any a0 len cap w).mono ?_
  rintro e w1' ⟨rfl, rfl⟩
  by_cases hlong : 200 < len
  · have hd : decide (200 < len) = true := decide_eq_true hlong
    rw [hd]
    clear hlong hd
    go_wp2_with fail
    go_ret
    exact ⟨rfl, Below.refl _ _⟩
  have hd : decide (200 < len) = false := decide_eq_false hlong
  rw [hd]
  clear hd
  subst hzl
  have hnw := rnew_any w1'
  go_wp2_with fail
  refine hnw.mono ?_
  clear hnw
  rintro e W1 ⟨r, S, rfl, h1, h2, h3⟩
  have hpe := PE.start (w0 := w1') h1 h3 h2 ((Below.refl W1.heap.size W1).alloc (Nat.le_refl _) (.cells #[.slice none 0 0] 44)) (Blk.new W1 _ _)
  obtain ⟨p, hp⟩ : ∃ p, p = W1.heap.size := ⟨_, rfl⟩
  rw [← hp] at hpe
  have HP := Lib.hid hp
  have H := Lib.hid hpe
  clear h1 h2 h3 hpe hp
  go_upto_region 4 with fail
  rw [← HP.out]
  generalize W1.alloc (.cells #[.slice none 0 0] 44) = W2 at H ⊢
  clear HP
  have hsm := H.out.same now id OkE.nil HID.out (by simp)
  go_wp2_with fail
  refine hsm.mono ?_
  clear hsm
  rintro e W3 ⟨rfl, hb3⟩
  have H3 := Lib.hid (H.out.later hb3)
  clear H hb3
  go_wp2_with fail
  go_loopw [7, 9] (fun v7 v9 W => ∃ (i r : Nat), v7 = .pointer (some ⟨r, 0, none⟩) ∧ v9 = .int .i64 i ∧ i ≤ z.length ∧ PE w1' W r (playP (z.take i)) p (playP (z.take i)) (fun _ => False)) (fun _ v9 _ => (z.length - Go.RowKit.intOf v9).toNat)
  case atStart => exact ⟨0, _, rfl, rfl, Nat.zero_le _, by simpa [playP] using H3.out⟩
  case round =>
    obtain ⟨i, r, rfl, rfl, hi, hpl⟩ := hrel
    clear H3
    have hokz := playP_ok (z := z.take i) (fun q hq => HZ.out.2.1 q (List.mem_of_mem_take hq))
    have hinz := (playP_inv (z.take i)).1
    have hle := (playP_inv (z.take i)).2
    rw [List.length_take] at hle
    by_cases hlt : i < z.length
    · obtain ⟨hzl, hzu, hzc⟩ := HZ.out.later hpl.below
      obtain ⟨b, off, rfl, hbl, hcl⟩ := hzc.resolve_left (by omega)
      obtain ⟨q, hq⟩ : ∃ q, z[i]? = some q := ⟨_, List.getElem?_eq_getElem hlt⟩
      have hfit := hzu q (List.mem_of_getElem? hq)
      have hsn := playP_snoc hq
      obtain ⟨c0, c1, c2, c3⟩ := hcl i q hq
      generalize playP (z.take i) = LL at hpl hsn hle hokz hinz
      obtain ⟨⟨hk0, hk1⟩, hqi, hqa, hqb⟩ := hfit
      have HSN := Lib.hid hsn; have HQ := Lib.hid (And.intro hqi (And.intro hqa hqb)); have HL := Lib.hid (And.intro hokz (And.intro hinz (show LL.length ≤ 200 by omega)))
      clear hzl hzu hzc hcl hq hsn hqi hqa hqb hokz hinz hle
      obtain ⟨k, qi, A, B⟩ := q
      dsimp only at hk0 hk1 HSN HQ c0 c1 c2 c3
      obtain ⟨kk, hkk⟩ : ∃ kk, k % 3 = kk := ⟨_, rfl⟩
      have hq1 : 0 ≤ kk := by omega
      have hq2 : kk < 3 := by omega
      have HKK := Lib.hid hkk
      have hb6 := (Below.refl wr.heap.size wr).alloc (Nat.le_refl _) (.cells #[.int .u8 k, .int .i64 qi, .int .u64 A, .int .u64 B] 47)
      have hB6 := Blk.new wr 47 #[.int .u8 k, .int .i64 qi, .int .u64 A, .int .u64 B]
      have hP6 : PE w1' (wr.alloc (.cells #[.int .u8 k, .int .i64 qi, .int .u64 A, .int .u64 B] 47)) r LL p LL (fun b => b = wr.heap.size) := hpl.with hb6 (fun b hb => .inr ⟨Nat.le_of_eq hb.symm, by rw [hb]; simp⟩)
      have HB := Lib.hid hB6
      have H := Lib.hid hP6
      clear hb6 hB6 hP6 hpl
      rcases (by omega : kk = 0 ∨ kk = 1 ∨ kk = 2) with rfl | rfl | rfl
      · have hst : playP1 LL ⟨k, qi, A, B⟩ = putI LL qi A B := by
          unfold playP1
          dsimp only
          rw [if_pos HKK.out]
        have HST := Lib.hid hst
        clear hst
        have ha := H.out.put qi A B HQ.out.1 (by have := HL.out.2.2; omega)
        go_wp2_with fail
        refine ha.mono ?_
        clear ha c0 c1 c2 c3 hkk
        rintro e W4 ⟨rfl, hT, hK⟩
        have HB4 := Lib.hid (show Blk W4 wr.heap.size 47 _ from (hK _ rfl).trans HB.out)
        clear H HB hK
        have HB := HB4
        clear HB4
        have H := Lib.hid hT
        clear hT
        have ha := H.out.rput qi A B HL.out.2.1 (by have := HL.out.2.2; omega)
        have a1 := HB.out.cell 1; have a2 := HB.out.cell 2; have a3 := HB.out.cell 3
        simp only [List.getElem?_toArray, List.getElem?_cons_zero, List.getElem?_cons_succ] at a1 a2 a3
        go_wp2_with fail
        refine ha.mono ?_
        clear ha a1 a2 a3
        rintro e W5 ⟨rfl, hT, hK⟩
        have HB4 := Lib.hid (show Blk W5 wr.heap.size 47 _ from (hK _ rfl).trans HB.out)
        clear H HB hK
        have HB := HB4
        clear HB4
        have H := Lib.hid hT
        clear hT
        have hok9 := HL.out.1.put (i := qi) (a := A) (b := B) HQ.out.1 HQ.out.2.1 HQ.out.2.2
        have hle9 : (putI LL qi A B).length ≤ 300 := by have := put_le LL qi A B; have := HL.out.2.2; omega
        have HLe := Lib.hid hle9
        have HOk := Lib.hid hok9
        clear hle9 hok9
        have ha := H.out.same now id HOk.out HID.out (by have := HLe.out; omega)
        go_wp2_with fail
        refine ha.mono ?_
        clear ha
        rintro e W8 ⟨rfl, hb⟩
        have H8 := Lib.hid (H.out.later hb)
        have HB8 := Lib.hid (HB.out.below hb HB.out.lt)
        clear H HB hb
        have ha := H8.out.same A qi HOk.out HQ.out.1 (by have := HLe.out; omega)
        have a1 := HB8.out.cell 1; have a2 := HB8.out.cell 2
        simp only [List.getElem?_toArray, List.getElem?_cons_zero, List.getElem?_cons_succ] at a1 a2
        go_wp2_with fail
        refine ha.mono ?_
        clear ha a1 a2
        rintro e W9 ⟨rfl, hb⟩
        have H9 := Lib.hid (H8.out.later hb)
        clear H8 HB8 hb
        go_wp2_with fail
        go_roundw
        case measure => (simp [Go.RowKit.intOf]; try omega)
        case rel => exact ⟨i + 1, _, rfl, by go_num, by omega, by rw [HSN.out, HST.out]; exact H9.out.less fun _ h => h.elim⟩
      · have hst : playP1 LL ⟨k, qi, A, B⟩ = dropI LL qi := by
          unfold playP1
          dsimp only
          rw [if_neg (by rw [HKK.out]; decide), if_pos HKK.out]
        have HST := Lib.hid hst
        clear hst
        obtain ⟨y, hy⟩ : ∃ y, getIs LL qi = y := ⟨_, rfl⟩
        have kE : ∀ W N, PE w1' W r LL p N (fun b => b = wr.heap.size) → Blk W wr.heap.size 47 #[.int .u8 k, .int .i64 qi, .int .u64 A, .int .u64 B] → Calls Try.prog 17 #[.pointer (some ⟨r, 0, none⟩), .int .i64 qi] W fun e w' => e = .returned (.bool y) ∧ (PE w1' w' r (dropI LL qi) p N (fun b => b = wr.heap.size) ∧ Blk w' wr.heap.size 47 #[.int .u8 k, .int .i64 qi, .int .u64 A, .int .u64 B]) ∧ w'.cell? ⟨wr.heap.size, 1, none⟩ = some (.int .i64 qi) := fun W N h hB =>
          (h.drop qi HQ.out.1 (by have := HL.out.2.2; omega)).mono fun e w' ⟨x1, x2, x3⟩ => ⟨by rw [x1, hy], ⟨x2, (x3 _ rfl).trans hB⟩, (Blk.cell (w := w') (t := 47) ((x3 _ rfl).trans hB) 1)⟩
        have kF : ∀ W M, PE w1' W r M p LL (fun b => b = wr.heap.size) → Blk W wr.heap.size 47 #[.int .u8 k, .int .i64 qi, .int .u64 A, .int .u64 B] → Calls Try.prog 20 #[.pointer (some ⟨p, 0, none⟩), .int .i64 qi] W fun e w' => e = .returned (.bool y) ∧ (PE w1' w' r M p (dropI LL qi) (fun b => b = wr.heap.size) ∧ Blk w' wr.heap.size 47 #[.int .u8 k, .int .i64 qi, .int .u64 A, .int .u64 B]) ∧ w'.cell? ⟨wr.heap.size, 1, none⟩ = some (.int .i64 qi) := fun W M h hB =>
          (h.rdrop qi HL.out.2.1).mono fun e w' ⟨x1, x2, x3⟩ => ⟨by rw [x1, hy], ⟨x2, (x3 _ rfl).trans hB⟩, (Blk.cell (w := w') (t := 47) ((x3 _ rfl).trans hB) 1)⟩
        have HK := Lib.hid (And.intro kE kF)
        have hok9 := HL.out.1.drop qi
        have hle9 : (dropI LL qi).length ≤ 300 := by have := drop_le LL qi; have := HL.out.2.2; omega
        generalize dropI LL qi = D at HST HK hok9 hle9
        clear kE kF hy
        go_upto_region 21 with fail
        clear c0 c1 c2 c3 hkk
        generalize wr.alloc (.cells #[.int .u8 k, .int .i64 qi, .int .u64 A, .int .u64 B] 47) = W3 at H HB ⊢
        go_cut [84] from 27 to 100 (fun vc wx => vc = .bool false ∧ PE w1' wx r D p D (fun b => b = wr.heap.size) ∧ Blk wx wr.heap.size 47 #[.int .u8 k, .int .i64 qi, .int .u64 A, .int .u64 B])
        case first =>
          have a1 := HB.out.cell 1
          simp only [List.getElem?_toArray, List.getElem?_cons_zero, List.getElem?_cons_succ] at a1
          go_region_held3 (fun W' => W'.cell? ⟨wr.heap.size, 1, none⟩ = some (.int .i64 qi)) (first | exact a1 | exact sE | exact sF | exact sE2 | exact sF2) (first
            | (go_at_call 17; refine (HK.out.1 _ _ (H.out.later (by first | exact Below.refl _ _ | exact ⟨rfl, rfl, rfl, Nat.le_refl _, fun _ _ => rfl⟩)) (HB.out.below (by first | exact Below.refl _ _ | exact ⟨rfl, rfl, rfl, Nat.le_refl _, fun _ _ => rfl⟩) HB.out.lt)).mono ?_; rintro e wE ⟨rfl, hE, sE⟩)
            | (go_at_call 17; refine (HK.out.1 _ _ (hF.1.later (by first | exact Below.refl _ _ | exact ⟨rfl, rfl, rfl, Nat.le_refl _, fun _ _ => rfl⟩)) (hF.2.below (by first | exact Below.refl _ _ | exact ⟨rfl, rfl, rfl, Nat.le_refl _, fun _ _ => rfl⟩) hF.2.lt)).mono ?_; rintro e wE ⟨rfl, hE2, sE2⟩)
            | (go_at_call 20; refine (HK.out.2 _ _ (H.out.later (by first | exact Below.refl _ _ | exact ⟨rfl, rfl, rfl, Nat.le_refl _, fun _ _ => rfl⟩)) (HB.out.below (by first | exact Below.refl _ _ | exact ⟨rfl, rfl, rfl, Nat.le_refl _, fun _ _ => rfl⟩) HB.out.lt)).mono ?_; rintro e wF ⟨rfl, hF, sF⟩)
            | (go_at_call 20; refine (HK.out.2 _ _ (hE.1.later (by first | exact Below.refl _ _ | exact ⟨rfl, rfl, rfl, Nat.le_refl _, fun _ _ => rfl⟩)) (hE.2.below (by first | exact Below.refl _ _ | exact ⟨rfl, rfl, rfl, Nat.le_refl _, fun _ _ => rfl⟩) hE.2.lt)).mono ?_; rintro e wF ⟨rfl, hF2, sF2⟩))
          all_goals (go_wp2_with fail; go_meet)
          all_goals (first | exact ⟨by simp, hF2⟩ | exact ⟨by simp, hE2⟩)
        case rest =>
          obtain ⟨hvc, hT, hB⟩ := hcut
          rw [hvc]
          clear H HB HK
          have HB := Lib.hid hB
          have H := Lib.hid hT
          clear hT hB hvc
          have HLe := Lib.hid hle9
          have HOk := Lib.hid hok9
          clear hle9 hok9
          have ha := H.out.same now id HOk.out HID.out (by have := HLe.out; omega)
          go_wp2_with fail
          refine ha.mono ?_
          clear ha
          rintro e W8 ⟨rfl, hb⟩
          have H8 := Lib.hid (H.out.later hb)
          have HB8 := Lib.hid (HB.out.below hb HB.out.lt)
          clear H HB hb
          have ha := H8.out.same A qi HOk.out HQ.out.1 (by have := HLe.out; omega)
          have a1 := HB8.out.cell 1; have a2 := HB8.out.cell 2
          simp only [List.getElem?_toArray, List.getElem?_cons_zero, List.getElem?_cons_succ] at a1 a2
          go_wp2_with fail
          refine ha.mono ?_
          clear ha a1 a2
          rintro e W9 ⟨rfl, hb⟩
          have H9 := Lib.hid (H8.out.later hb)
          clear H8 HB8 hb
          go_wp2_with fail
          go_roundw
          case measure => (simp [Go.RowKit.intOf]; try omega)
          case rel => exact ⟨i + 1, _, rfl, by go_num, by omega, by rw [HSN.out, HST.out]; exact H9.out.less fun _ h => h.elim⟩
      · have hst : playP1 LL ⟨k, qi, A, B⟩ = LL := by
          unfold playP1
          dsimp only
          rw [if_neg (by rw [HKK.out]; decide), if_neg (by rw [HKK.out]; decide)]
        have HST := Lib.hid hst
        clear hst
        have ha := H.out.copy
        go_wp2_with fail
        refine ha.mono ?_
        clear ha c0 c1 c2 c3 hkk
        rintro e W4 ⟨r2, rfl, hT, hb⟩
        have HB4 := Lib.hid (HB.out.below hb HB.out.lt)
        clear H HB hb
        have HB := HB4
        clear HB4
        have H := Lib.hid hT
        clear hT
        have ha := H.out.put qi B A HQ.out.1 (by have := HL.out.2.2; omega)
        have a1 := HB.out.cell 1; have a2 := HB.out.cell 2; have a3 := HB.out.cell 3
        simp only [List.getElem?_toArray, List.getElem?_cons_zero, List.getElem?_cons_succ] at a1 a2 a3
        go_wp2_with fail
        refine ha.mono ?_
        clear ha a1 a2 a3
        rintro e W5 ⟨rfl, hT, hK⟩
        have HB4 := Lib.hid (show Blk W5 wr.heap.size 47 _ from hK.trans HB.out)
        clear H HB hK
        have HB := HB4
        clear HB4
        have H := Lib.hid hT
        clear hT
        have ha := H.out.drop id HID.out (by have := put_le LL qi B A; have := HL.out.2.2; omega)
        go_wp2_with fail
        refine ha.mono ?_
        clear ha
        rintro e W6 ⟨rfl, hT, hK⟩
        have HB4 := Lib.hid (show Blk W6 wr.heap.size 47 _ from hK.trans HB.out)
        clear H HB hK
        have HB := HB4
        clear HB4
        have H := Lib.hid hT.new
        clear hT
        have hok9 := HL.out.1
        have hle9 : LL.length ≤ 300 := by have := HL.out.2.2; omega
        have HLe := Lib.hid hle9
        have HOk := Lib.hid hok9
        clear hle9 hok9
        have ha := H.out.same now id HOk.out HID.out (by have := HLe.out; omega)
        go_wp2_with fail
        refine ha.mono ?_
        clear ha
        rintro e W8 ⟨rfl, hb⟩
        have H8 := Lib.hid (H.out.later hb)
        have HB8 := Lib.hid (HB.out.below hb HB.out.lt)
        clear H HB hb
        have ha := H8.out.same A qi HOk.out HQ.out.1 (by have := HLe.out; omega)
        have a1 := HB8.out.cell 1; have a2 := HB8.out.cell 2
        simp only [List.getElem?_toArray, List.getElem?_cons_zero, List.getElem?_cons_succ] at a1 a2
        go_wp2_with fail
        refine ha.mono ?_
        clear ha a1 a2
        rintro e W9 ⟨rfl, hb⟩
        have H9 := Lib.hid (H8.out.later hb)
        clear H8 HB8 hb
        go_wp2_with fail
        go_roundw
        case measure => (simp [Go.RowKit.intOf]; try omega)
        case rel => exact ⟨i + 1, _, rfl, by go_num, by omega, by rw [HSN.out, HST.out]; exact H9.out.less fun _ h => h.elim⟩
    · obtain rfl : i = z.length := by omega
      rw [List.take_length] at hpl hokz hle
      have ha := hpl.same now id hokz HID.out (by omega)
      have H := Lib.hid hpl
      clear hpl hokz hle hinz
      go_wp2_with fail
      refine ha.mono ?_
      clear ha
      rintro e W9 ⟨rfl, hb⟩
      have HF := Lib.hid (H.out.later hb)
      clear H hb
      go_wp2_with fail
      go_ret
      exact ⟨rfl, HF.out.below⟩
end Go.Proofs.Ytbnnkkojlclgjaa
