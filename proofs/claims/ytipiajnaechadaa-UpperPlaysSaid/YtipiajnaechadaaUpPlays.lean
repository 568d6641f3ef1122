/-
  The law UpperPlays: a limit tells what the document's tells, whatever is woken and gained; a copy goes on alone; its walk.
-/
import Derived.Test.YtipiajnaechadaaUpU
namespace Go.Proofs.Ytipiajnaechadaa
set_option linter.unusedVariables false
open Go.RowKit
attribute [local go_sem] quietR quietAtR quietUponR midAt midUpon

theorem plong (a : Option Addr) (len cap : Nat) (w : World) (h : len ≤ 9223372036854775807) :
    Calls Try.prog 12 #[.slice a len cap] w fun e w' => e = .returned (.bool (decide (100 < len))) ∧ w = w' := by
  by_cases h1 : 100 < len
  · have hd : decide (100 < len) = true := by simpa using h1
    rw [hd]
    clear hd
    go_enter Try.func12, Try.ntmps12
    go_wp2
    go_ret
    exact ⟨by simp; omega, rfl⟩
  · have hd : decide (100 < len) = false := by simpa using h1
    rw [hd]
    clear hd
    go_enter Try.func12, Try.ntmps12
    go_wp2
    go_ret
    exact ⟨by simp; omega, rfl⟩

theorem uplays_long (F L R total t : Int) (a : Option Addr) (len cap : Nat) (w : World) (h : 100 < len) (hlen : len ≤ 9223372036854775807) :
    Calls Try.prog 4 #[.agg #[.int .u64 F, .int .u64 L, .int .u64 R], .slice a len cap, .int .u64 total, .int .u64 t] w fun e' w' => e' = .returned (.bool true) ∧ Below w.heap.size w w' := by
  have hd : decide (100 < len) = true := by simpa using h
  have HD := Lib.hid hd; clear hd
  go_enter Try.func4, Try.ntmps4
  go_wp2_with (go_at_call 12; refine (plong _ _ _ _ hlen).mono ?_; rintro e' w' ⟨rfl, rfl⟩; rw [HD.out])
  go_ret
  exact ⟨rfl, by go_grown⟩

/-- both limits as the loop finds them -/
def PairU (w W : World) (l r g q k : Nat) (fr : Bool) (F L R x : Int) (A : List (Int × Int)) : Prop :=
  A.length ≤ k ∧ w.heap.size ≤ g ∧ LimU W l r g fr F L R x A ∧ RefU W q w.heap.size fr F L R x A ∧ Below w.heap.size w W
theorem PairU.below {w W W' : World} {l r g q k : Nat} {fr : Bool} {F L R x : Int} {A : List (Int × Int)} (h : PairU w W l r g q k fr F L R x A) (hb : Below W.heap.size W W') : PairU w W' l r g q k fr F L R x A :=
  ⟨h.1, h.2.1, h.2.2.1.below hb, h.2.2.2.1.below hb, h.2.2.2.2.trans (hb.mono h.2.2.2.2.size)⟩

set_option maxRecDepth 100000 in
set_option maxHeartbeats 4000000 in
theorem uplays_some (F L R total t : Int) (a : Option Addr) (len cap : Nat) (z : List UAct) (w : World) (fr : Bool) (hF : U F) (hL : U L) (hR : U R) (hT0 : U total) (ht : U t) (hz : UActsAt w a len z) (hlen : len ≤ 100) (hk : KindU fr F L R) :
    Calls Try.prog 4 #[.agg #[.int .u64 F, .int .u64 L, .int .u64 R], .slice a len cap, .int .u64 total, .int .u64 t] w fun e' w' => e' = .returned (.bool true) ∧ Below w.heap.size w w' := by
  have nb := Blk.new w 24 #[.int .u64 F, .int .u64 L, .int .u64 R]
  have hal := (Below.refl w.heap.size w).alloc (Nat.le_refl _) (.cells #[.int .u64 F, .int .u64 L, .int .u64 R] 24)
  have H := Lib.hid hk
  have HZ := Lib.hid hz
  have hd : decide (100 < len) = false := by simp; omega
  have HD := Lib.hid hd
  obtain ⟨T, hT⟩ : ∃ T, total.tmod 4611686018427387905 = T := ⟨_, rfl⟩
  have hTb : 0 ≤ T ∧ T ≤ 4611686018427387904 := by rw [← hT, Int.tmod_eq_emod_of_nonneg hT0.1]; omega
  obtain ⟨Wa, hWa⟩ : ∃ Wa, w.alloc (.cells #[.int .u64 F, .int .u64 L, .int .u64 R] 24) = Wa := ⟨_, rfl⟩
  rw [hWa] at nb hal
  have o0 := fun e => (over_cell (e := e) (o := 0) nb.lt).trans (nb.cell 0)
  have o1 := fun e => (over_cell (e := e) (o := 1) nb.lt).trans (nb.cell 1)
  have o2 := fun e => (over_cell (e := e) (o := 2) nb.lt).trans (nb.cell 2)
  simp only [List.getElem?_toArray, List.getElem?_cons_zero, List.getElem?_cons_succ] at o0 o1 o2
  have hF0 := hF.1; have hL0 := hL.1; have hR0 := hR.1
  clear nb hk hz hF hL hR hd hT0
  go_enter Try.func4, Try.ntmps4
  go_wp2_with (go_at_call 12; refine (plong _ _ _ _ (by omega)).mono ?_; rintro e' w' ⟨rfl, rfl⟩; rw [HD.out])
  refine wp_region_mid (w := Wa) 4 2 [1, 3] [] [(1, fun u W' => NewLim w.heap.size fr F L R u W'), (3, fun u W' => NewRefU w.heap.size fr F L R u W')] rfl (by kernel_rfl) (by kernel_rfl) (by kernel_rfl) (by kernel_rfl) (fun _ _ _ _ _ h => h) ⟨?st1, ?st2, trivial⟩ ?_
  case st1 => exact fun v W1 W2 ⟨l, r, g, h1, h2, h3, h4⟩ hb => ⟨l, r, g, h1, h2, h3, h4.below hb⟩
  case st2 => exact fun v W1 W2 ⟨q, h1, h3⟩ hb => ⟨q, h1, h3.below hb⟩
  intro LL hL
  have HL := Lib.hid hL
  clear hL
  simp only [List.take_succ_cons, List.take_zero, putL]
  repeat (first | refine wpHead_skip (by decide) ?_ | (refine wpHead_step (by decide) (fun K hK => ?_); go_simp; first | (refine hK _ ?_; clear hK K) | (apply Exists.intro; refine ⟨fun _ => ?_, hK _ ?_⟩; (fail); clear hK K)))
  refine wpHead_nil (HL.out _ ⟨?_, ?_, trivial⟩ ?_)
  · intro vs W1 hb1 hf
    clear hf HL
    change midAt _ _ (Act.put (Act.put _ (some 19) (vs 1)) (some 21) (vs 3)) _ _
    go_simp
    exact ulim_new F L R W1 w.heap.size hF0 hL0 hR0 (Nat.le_trans hal.size hb1.size) H.out
  · intro vs W1 hb1 hf
    clear hf HL
    change midAt _ _ (Act.put (Act.put _ (some 19) (vs 1)) (some 21) (vs 3)) _ _
    go_simp
    exact uref_new F L R W1 w.heap.size hF0 hL0 hR0 (Nat.le_trans hal.size hb1.size) H.out
  · intro vs W1 hb1 hf
    obtain ⟨⟨l0, r0, g0, hf1, hgw, hlw, hrun⟩, ⟨q, hf2, href⟩, hff⟩ := hf
    clear hff
    clear HL o0 o1 o2
    change wpList _ _ _ _ (Act.put (Act.put _ (some 19) (vs 1)) (some 21) (vs 3)) _
    rw [hf1, hf2]
    clear hf1 hf2
    simp only [List.drop_succ_cons, List.drop_zero, List.take_succ_cons, List.take_zero]
    have hboth : PairU w W1 l0 r0 g0 q 0 fr F L R 0 [] := ⟨by simp, hgw, hrun, href, hal.trans (hb1.mono hal.size)⟩
    have HBO := Lib.hid hboth
    clear hrun href hboth hb1 hal hWa
    go_wp2
    go_loopw [9, 11, 12, 13] (fun xv nv sv i W => ∃ (k l r g : Nat) (now sum x : Int) (A : List (Int × Int)), k ≤ len ∧ i = .int .i64 k ∧ xv = .pointer (some ⟨l, 0, none⟩) ∧ nv = .int .u64 now ∧ sv = .int .u64 sum ∧ 0 ≤ now ∧ now ≤ 1099511627776 ∧ 0 ≤ sum ∧ sum ≤ 4611686018427387904 ∧ PairU w W l r g q k fr F L R x A) (fun _ _ _ i _ => len - (intOf i).toNat)
    case atStart => exact ⟨0, l0, r0, g0, 0, 0, 0, [], by omega, rfl, rfl, rfl, rfl, by omega, by omega, by omega, by omega, HBO.out⟩
    case round =>
      clear HBO
      obtain ⟨wo, rfl⟩ : ∃ wo : World, wo = wr := ⟨_, rfl⟩
      obtain ⟨k, l, r, g, now, sum, x, A, hk, rfl, rfl, rfl, rfl, hn0, hn1, hs0, hs1, hbo⟩ := hrel
      have HBO := Lib.hid hbo; clear hbo
      by_cases hlt : k < len
      · obtain ⟨⟨X, Y, wk, cp⟩, hq⟩ : ∃ q, z[k]? = some q := ⟨_, List.getElem?_eq_getElem (by have := HZ.out.1; omega)⟩
        have hu := HZ.out.2.1 _ (List.mem_of_getElem? hq)
        obtain ⟨b, off, hab, hbl, hcl⟩ := HZ.out.2.2.resolve_left (by omega)
        subst hab
        obtain ⟨e0, e1, e2, e3⟩ := hcl k _ hq
        have c0 := (HBO.out.2.2.2.2.cell (p := ⟨b, off + k * 4, none⟩) hbl).trans e0
        have c1 := (HBO.out.2.2.2.2.cell (p := ⟨b, off + k * 4 + 1, none⟩) hbl).trans e1
        have c2 := (HBO.out.2.2.2.2.cell (p := ⟨b, off + k * 4 + 2, none⟩) hbl).trans e2
        have c3 := (HBO.out.2.2.2.2.cell (p := ⟨b, off + k * 4 + 3, none⟩) hbl).trans e3
        simp only at c0 c1 c2 c3
        clear hcl hq e0 e1 e2 e3
        have hX0 := hu.1.1; have hY0 := hu.2.1
        simp only at hX0 hY0
        obtain ⟨d, hd⟩ : ∃ d, X.tmod 1073741824 = d := ⟨_, rfl⟩
        obtain ⟨y, hy⟩ : ∃ y, Y.tmod 1073741824 = y := ⟨_, rfl⟩
        have hd2 : 0 ≤ d ∧ d < 1073741824 := by rw [← hd, Int.tmod_eq_emod_of_nonneg hX0]; omega
        have hy2 : 0 ≤ y ∧ y < 1073741824 := by rw [← hy, Int.tmod_eq_emod_of_nonneg hY0]; omega
        obtain ⟨nd, hnd⟩ : ∃ nd, now + d = nd := ⟨_, rfl⟩
        obtain ⟨sy, hsy⟩ : ∃ sy, sum + y = sy := ⟨_, rfl⟩
        obtain ⟨nw, hnw⟩ : ∃ nw, (if 1099511627776 < nd then (1099511627776 : Int) else nd) = nw := ⟨_, rfl⟩
        obtain ⟨sw, hsw⟩ : ∃ sw, (if 4611686018427387904 < sy then (4611686018427387904 : Int) else sy) = sw := ⟨_, rfl⟩
        have hnw2 : 0 ≤ nw ∧ nw ≤ 1099511627776 := by split at hnw <;> omega
        have hsw2 : 0 ≤ sw ∧ sw ≤ 4611686018427387904 := by split at hsw <;> omega
        have hnd2 : 0 ≤ nd ∧ nd ≤ 1100585369600 := by omega
        have hsy2 : 0 ≤ sy ∧ sy ≤ 4611686019501129728 := by omega
        have hal2 := (Below.refl wo.heap.size wo).alloc (Nat.le_refl _) (.cells #[.int .u64 X, .int .u64 Y, .bool wk, .bool cp] 43)
        have na := Blk.new wo 43 #[.int .u64 X, .int .u64 Y, .bool wk, .bool cp]
        have hb2 := HBO.out.below hal2
        have HP := Lib.hid hb2; have NA := Lib.hid na
        have y0 := na.cell 0; have y1 := na.cell 1; have y2 := na.cell 2; have y3 := na.cell 3
        simp only [List.getElem?_toArray, List.getElem?_cons_zero, List.getElem?_cons_succ] at y0 y1 y2 y3
        clear hb2 na HBO hal2
        obtain ⟨wa, hwa⟩ : ∃ wa, wo.alloc (.cells #[.int .u64 X, .int .u64 Y, .bool wk, .bool cp] 43) = wa := ⟨_, rfl⟩
        rw [hwa] at HP NA y0 y1 y2 y3
        go_upto_region 12 with fail
        clear hwa c0 c1 c2 c3
        go_upto_if 49 with fail
        go_cut [9] from 26 to 102 (fun s9 wx => s9 = .pointer (some ⟨l, 0, none⟩) ∧ Blk wx wo.heap.size 43 #[.int .u64 X, .int .u64 Y, .bool wk, .bool cp] ∧ ∃ x A, PairU w wx l r g q (k + 1) fr F L R x A)
        case first =>
          rcases wk with _ | _
          · go_wp2
            go_meet
            exact ⟨rfl, NA.out, x, A, Nat.le_succ_of_le HP.out.1, HP.out.2⟩
          · have huN : U nw := ⟨by omega, by omega⟩
            have huS : U sw := ⟨by omega, by omega⟩
            have hfew : A.length < 900000 := by have := HP.out.1; omega
            go_wp2_with fail
            refine (ulim_wake HP.out.2.2.1 nw sw _ _ huN huS rfl rfl hfew).mono ?_
            rintro e' w1 ⟨rfl, hl1, hf1⟩
            have HR1 := Lib.hid (HP.out.2.2.2.1.stay HP.out.2.2.1 hf1)
            have HB1 := Lib.hid (HP.out.2.2.2.2.trans (hf1.low HP.out.2.2.2.2.size HP.out.2.1))
            have NA1 := Lib.hid (NA.out.upFr HP.out.2.2.1 hf1 (by decide) (by decide))
            have HL1 := Lib.hid hl1
            clear hl1
            go_wp2_with fail
            refine (uref_wake HR1.out HB1.out.size nw sw _ _ huN huS rfl rfl hfew).mono ?_
            rintro e' w2 ⟨rfl, hr2, hf2⟩
            have HL2 := Lib.hid (HL1.out.ref hf2)
            have HB2 := Lib.hid (HB1.out.trans (hf2.low HB1.out.size))
            have NA2 := Lib.hid (NA1.out.refFr hf2 (by decide) (by decide))
            have HR2 := Lib.hid hr2
            clear hr2
            go_wp2
            go_meet
            exact ⟨rfl, NA2.out, _, _, by have := HP.out.1; simp; omega, HP.out.2.1, HL2.out, HR2.out, HB2.out⟩
        case rest =>
          obtain ⟨rfl, na, x, A, hp⟩ := hcut
          have y2 := na.cell 2; have y3 := na.cell 3
          clear y0 y1
          simp only [List.getElem?_toArray, List.getElem?_cons_zero, List.getElem?_cons_succ] at y2 y3
          clear HP NA
          have HP := Lib.hid hp
          clear hp na
          go_upto_if 59 with fail
          go_cut [9] from 26 to 102 (fun s9 wx => ∃ l r g x A, s9 = .pointer (some ⟨l, 0, none⟩) ∧ PairU w wx l r g q (k + 1) fr F L R x A)
          case first =>
            rcases cp with _ | _
            · go_wp2
              go_meet
              exact ⟨l, r, g, x, A, rfl, HP.out⟩
            · have huN : U (nw + 1) := ⟨by omega, by omega⟩
              have hu0 : U 0 := ⟨by decide, by decide⟩
              have hfew : A.length < 900000 := by have := HP.out.1; omega
              go_wp2_with fail
              refine (ulim_copy HP.out.2.2.1).mono ?_
              rintro e' w1 ⟨l2, r2, g2, rfl, hl2, hg2, hn, hb1⟩
              have HN1 := Lib.hid hn
              have HP1 := Lib.hid (HP.out.below hb1)
              have hgg : fr = false → g ≠ g2 := fun hf => by have := HP.out.2.2.1.glt hf; omega
              clear hn y2 y3
              have HGG := Lib.hid hgg
              clear hgg
              go_wp2_with fail
              refine (ulim_wake HP1.out.2.2.1 (nw + 1) 0 _ _ huN hu0 rfl rfl hfew).mono ?_
              rintro e' w2 ⟨rfl, hl3, hf1⟩
              clear hl3
              go_wp2
              go_meet
              exact ⟨l2, r2, g2, x, A, rfl, HP.out.1, Nat.le_trans HP.out.2.2.2.2.size hg2, HN1.out.stay HP1.out.2.2.1 HGG.out hf1, HP1.out.2.2.2.1.stay HP1.out.2.2.1 hf1, HP1.out.2.2.2.2.trans (hf1.low HP1.out.2.2.2.2.size HP1.out.2.1)⟩
          case rest =>
            clear y2 y3
            obtain ⟨l, r, g, x, A, rfl, hp⟩ := hcut
            clear HP
            have HP := Lib.hid hp
            clear hp
            have huN : U nw := ⟨by omega, by omega⟩
            have huS : U sw := ⟨by omega, by omega⟩
            have huT : U T := ⟨by omega, by omega⟩
            go_wp2_with fail
            refine (ulim_fit HP.out.2.2.1 sw huS).mono ?_
            rintro e' v0 ⟨rfl, hb⟩
            have HP0 := Lib.hid (HP.out.below hb)
            clear hb
            go_wp2_with fail
            refine (uref_fit HP0.out.2.2.2.1 sw huS).mono ?_
            rintro e' v1 ⟨rfl, hb⟩
            have HP1 := Lib.hid (HP0.out.below hb)
            clear hb
            go_wp2_with fail
            refine (ulim_fit HP1.out.2.2.1 T huT).mono ?_
            rintro e' v2 ⟨rfl, hb⟩
            have HP2 := Lib.hid (HP1.out.below hb)
            clear hb
            go_wp2_with fail
            refine (uref_fit HP2.out.2.2.2.1 T huT).mono ?_
            rintro e' v3 ⟨rfl, hb⟩
            have HP3 := Lib.hid (HP2.out.below hb)
            clear hb
            go_wp2_with fail
            refine (ulim_most HP3.out.2.2.1 t ht).mono ?_
            rintro e' v4 ⟨rfl, hb⟩
            have HP4 := Lib.hid (HP3.out.below hb)
            clear hb
            go_wp2_with fail
            refine (uref_most HP4.out.2.2.2.1 t ht).mono ?_
            rintro e' v5 ⟨rfl, hb⟩
            have HP5 := Lib.hid (HP4.out.below hb)
            clear hb
            go_wp2_with fail
            refine (ulim_most HP5.out.2.2.1 nw huN).mono ?_
            rintro e' v6 ⟨rfl, hb⟩
            have HP6 := Lib.hid (HP5.out.below hb)
            clear hb
            go_wp2_with fail
            refine (uref_most HP6.out.2.2.2.1 nw huN).mono ?_
            rintro e' v7 ⟨rfl, hb⟩
            have HP7 := Lib.hid (HP6.out.below hb)
            clear hb
            go_wp2
            go_roundw
            case rel => exact ⟨k + 1, l, r, g, nw, sw, x, A, by omega, by go_num, rfl, rfl, rfl, hnw2.1, hnw2.2, hsw2.1, hsw2.2, HP7.out⟩
            case measure => simp [intOf]; omega
      · obtain rfl : k = len := by omega
        have huT : U T := ⟨by omega, by omega⟩
        have TF := Lib.hid (show True from trivial); have TM := Lib.hid (show True from trivial)
        go_wp2_with (first
          | (go_at_call 18; refine (ulim_fit HBO.out.2.2.1 T huT).mono ?_; rintro e' w2 ⟨rfl, hb2⟩; have HP2 := Lib.hid (HBO.out.below hb2))
          | (go_at_call 19; refine (uref_fit HP2.out.2.2.2.1 T huT).mono ?_; rintro e' w3 ⟨rfl, hb3⟩; have HP3 := Lib.hid (HP2.out.below hb3))
          | (go_at_call 20; refine (ulim_most HP3.out.2.2.1 t ht).mono ?_; rintro e' w4 ⟨rfl, hb4⟩; have HP4 := Lib.hid (HP3.out.below hb4))
          | (go_at_call 21; refine (uref_most HP4.out.2.2.2.1 t ht).mono ?_; rintro e' w5 ⟨rfl, hb5⟩; have HP5 := Lib.hid (HP4.out.below hb5)))
        go_ret
        exact ⟨rfl, HP5.out.2.2.2.2⟩

theorem uplays_walk (F L R total t : Int) (a : Option Addr) (len cap : Nat) (zs : List (List Value)) (w : World) (hF : U F) (hL : U L) (hR : U R) (hT : U total) (ht : U t) (hz : IsRows [some .u64, some .u64, none, none] w a len cap zs) :
    Calls Try.prog 4 #[.agg #[.int .u64 F, .int .u64 L, .int .u64 R], .slice a len cap, .int .u64 total, .int .u64 t] w fun e' w' => e' = .returned (.bool true) ∧ Below w.heap.size w w' := by
  obtain ⟨hlen, l, hl⟩ := uacts_of hz
  by_cases h100 : 100 < len
  · exact uplays_long F L R total t a len cap w h100 hlen
  · obtain ⟨fr, hk⟩ := kindU_any F L R
    exact uplays_some F L R total t a len cap l w fr hF hL hR hT ht hl (by omega) hk

end Go.Proofs.Ytipiajnaechadaa
