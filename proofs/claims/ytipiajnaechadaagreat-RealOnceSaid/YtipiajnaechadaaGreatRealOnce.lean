/-
  The law RealOnce: of any curve, woken once with any head, served once by any rule, a debt tells what the document's tells; its walk.
-/
import Derived.Test.YtipiajnaechadaaGreatRealPair
namespace Go.Proofs.YtipiajnaechadaaGreat
set_option linter.unusedVariables false
open Go.RowKit
attribute [local go_sem] quietR quietAtR quietUponR midAt midUpon

set_option maxHeartbeats 1000000 in
theorem once_nil (F L R now len q nx : Int) (w : World) (hL : 0 ≤ L) (h1 : mayB F L R = false) :
    Calls Tryz.prog 3 #[.agg #[.int .u64 F, .int .u64 L, .int .u64 R], .int .u64 now, .int .i64 len, .int .u8 q, .int .i64 nx] w fun e' w' => e' = .returned (.bool true) ∧ Below w.heap.size w w' := by
  have nb := Blk.new w 24 #[.int .u64 F, .int .u64 L, .int .u64 R]
  have hal := (Below.refl w.heap.size w).alloc (Nat.le_refl _) (.cells #[.int .u64 F, .int .u64 L, .int .u64 R] 24)
  have H := Lib.hid h1
  obtain ⟨Wa, hWa⟩ : ∃ Wa, w.alloc (.cells #[.int .u64 F, .int .u64 L, .int .u64 R] 24) = Wa := ⟨_, rfl⟩
  rw [hWa] at nb hal
  have o0 := fun e => (over_cell (e := e) (o := 0) nb.lt).trans (nb.cell 0)
  have o1 := fun e => (over_cell (e := e) (o := 1) nb.lt).trans (nb.cell 1)
  have o2 := fun e => (over_cell (e := e) (o := 2) nb.lt).trans (nb.cell 2)
  simp only [List.getElem?_toArray, List.getElem?_cons_zero, List.getElem?_cons_succ] at o0 o1 o2
  clear nb h1
  go_enter Tryz.func3, Tryz.ntmps3
  go_wp2
  refine wp_region_over (by kernel_rfl) (by kernel_rfl) ?_
  repeat (first | go_big_quiet_skip | (go_big_quiet_want; go_big_quiet_op; first | go_big_quiet_on | (apply Exists.intro; refine ⟨fun e => ?_, ?_⟩; (focus (first | (go_at_call 5; exact calls_over (real_no F L R _ hL H.out)) | (go_at_call 6; exact calls_over (rdebt_no F L R _ hL H.out)))); go_big_quiet_on)))
  refine wpQuiet_nil ?_
  rintro W2 ⟨e, he⟩
  have hb2 := over_below Wa e
  rw [← he] at hb2
  clear he o0 o1 o2
  go_wp2
  go_ret
  exact ⟨rfl, hal.trans (hb2.mono hal.size)⟩

set_option maxRecDepth 100000 in
set_option maxHeartbeats 4000000 in
theorem once_some (F L R now len q nx : Int) (w : World) (hF0 : 0 ≤ F) (hL0 : 0 ≤ L) (hR0 : 0 ≤ R) (hn : U now) (h1 : mayB F L R = true) :
    Calls Tryz.prog 3 #[.agg #[.int .u64 F, .int .u64 L, .int .u64 R], .int .u64 now, .int .i64 len, .int .u8 q, .int .i64 nx] w fun e' w' => e' = .returned (.bool true) ∧ Below w.heap.size w w' := by
  have nb := Blk.new w 24 #[.int .u64 F, .int .u64 L, .int .u64 R]
  have hal := (Below.refl w.heap.size w).alloc (Nat.le_refl _) (.cells #[.int .u64 F, .int .u64 L, .int .u64 R] 24)
  have H := Lib.hid h1
  obtain ⟨Wa, hWa⟩ : ∃ Wa, w.alloc (.cells #[.int .u64 F, .int .u64 L, .int .u64 R] 24) = Wa := ⟨_, rfl⟩
  rw [hWa] at nb hal
  have o0 := fun e => (over_cell (e := e) (o := 0) nb.lt).trans (nb.cell 0)
  have o1 := fun e => (over_cell (e := e) (o := 1) nb.lt).trans (nb.cell 1)
  have o2 := fun e => (over_cell (e := e) (o := 2) nb.lt).trans (nb.cell 2)
  simp only [List.getElem?_toArray, List.getElem?_cons_zero, List.getElem?_cons_succ] at o0 o1 o2
  obtain ⟨T, hT⟩ : ∃ T, now.tmod 1099511627777 = T := ⟨_, rfl⟩
  have hTb : 0 ≤ T ∧ T ≤ 1099511627776 := by rw [← hT, Int.tmod_eq_emod_of_nonneg hn.1]; omega
  have uT : U T := ⟨hTb.1, by omega⟩
  clear nb h1
  go_enter Tryz.func3, Tryz.ntmps3
  go_wp2
  refine wp_region_mid (w := Wa) 4 2 [1, 3] [] [(1, fun u W' => NewDeb w.heap.size F L R u W'), (3, fun u W' => NewRDebt w.heap.size F L R u W')] rfl (by kernel_rfl) (by kernel_rfl) (by kernel_rfl) (by kernel_rfl) (fun _ _ _ _ _ h => h) ⟨?st1, ?st2, trivial⟩ ?_
  case st1 => exact fun v W1 W2 ⟨d, r, g, h1, h2, h3, h4⟩ hb => ⟨d, r, g, h1, h2, h3, h4.below hb⟩
  case st2 => exact fun v W1 W2 ⟨q, p, h1, h3⟩ hb => ⟨q, p, h1, h3.below hb⟩
  intro LL hL
  have HL := Lib.hid hL
  clear hL
  simp only [List.take_succ_cons, List.take_zero, putL]
  repeat (first | refine wpHead_skip (by decide) ?_ | (refine wpHead_step (by decide) (fun K hK => ?_); go_simp; first | (refine hK _ ?_; clear hK K) | (apply Exists.intro; refine ⟨fun _ => ?_, hK _ ?_⟩; (fail); clear hK K)))
  refine wpHead_nil (HL.out _ ⟨?_, ?_, trivial⟩ ?_)
  · intro vs W1 hb1 hf
    clear hf HL
    change midAt _ _ (Act.put (Act.put _ (some 16) (vs 1)) (some 18) (vs 3)) _ _
    go_simp
    exact deb_new F L R W1 w.heap.size hF0 hL0 hR0 (Nat.le_trans hal.size hb1.size) H.out
  · intro vs W1 hb1 hf
    clear hf HL
    change midAt _ _ (Act.put (Act.put _ (some 16) (vs 1)) (some 18) (vs 3)) _ _
    go_simp
    exact rdebt_new F L R W1 w.heap.size hF0 hL0 hR0 (Nat.le_trans hal.size hb1.size) H.out
  · intro vs W1 hb1 hf
    obtain ⟨⟨d, r, g, hf1, hgw, hdw, hdeb⟩, ⟨v, p, hf2, href⟩, hff⟩ := hf
    clear hff
    clear HL o0 o1 o2
    change wpList _ _ _ _ (Act.put (Act.put _ (some 16) (vs 1)) (some 18) (vs 3)) _
    rw [hf1, hf2]
    clear hf1 hf2
    simp only [List.drop_succ_cons, List.drop_zero, List.take_succ_cons, List.take_zero]
    have hpair : PairD w W1 d r g v p 0 F L R 0 [] 0 false 9223372036854775808 0 := ⟨by simp, hgw, hdw, by decide, hdeb, href, hal.trans (hb1.mono hal.size)⟩
    have HP := Lib.hid hpair
    clear hdeb href hpair hb1 hal hWa
    go_wp2_with fail
    refine (deb_wake HP.out.2.2.2.2.1 T len _ uT (by decide) (by decide) rfl (by decide)).mono ?_
    rintro e' w1 ⟨rfl, hd1, hk1⟩
    obtain ⟨hr1, hb1⟩ := HP.out.after hk1
    have HD1 := Lib.hid hd1; have HR1 := Lib.hid hr1; have HB1 := Lib.hid hb1
    clear hd1 hr1 hb1
    go_wp2_with fail
    refine (rdebt_wake HR1.out HB1.out.size T len _ uT (by decide) (by decide) rfl (by decide)).mono ?_
    rintro e' w2 ⟨rfl, hr2, hg2⟩
    have HP2 := Lib.hid (pair_done (k' := 1) (by simp) hgw hdw (by decide) HD1.out HR1.out HB1.out hr2 hg2)
    clear hr2 hg2
    go_wp2_with fail
    refine (same18 HP2.out.2.2.2.2.1 HP2.out.2.2.2.2.2.1 (by decide) (by decide) T uT).mono ?_
    rintro e' w3 ⟨rfl, hb3⟩
    have HP3 := Lib.hid (HP2.out.below hb3)
    clear hb3
    by_cases hq : q = 1
    · subst hq
      have hgb := dueY_bd (got := 0) (n := len) (by decide)
      go_wp2_with fail
      refine (deb_real HP3.out.2.2.2.2.1 (by decide) (by decide) len nx).mono ?_
      rintro e' w4 ⟨rfl, hd4, hk4⟩
      obtain ⟨hr4, hb4⟩ := HP3.out.after hk4
      have HD4 := Lib.hid hd4; have HR4 := Lib.hid hr4; have HB4 := Lib.hid hb4
      clear hd4 hr4 hb4
      go_wp2_with fail
      refine (rdebt_real HR4.out len nx (by decide) (by decide)).mono ?_
      rintro e' w5 ⟨rfl, hr5, hg5⟩
      have HP5 := Lib.hid (pair_done (k' := 1) (by simp) hgw hdw hgb HD4.out HR4.out HB4.out hr5 hg5)
      clear hr5 hg5
      go_wp2_with fail
      refine (same18 HP5.out.2.2.2.2.1 HP5.out.2.2.2.2.2.1 hgb.1 hgb.2 T uT).mono ?_
      rintro e' w6 ⟨rfl, hb6⟩
      go_wp2
      go_ret
      exact ⟨rfl, HP5.out.2.2.2.2.2.2.trans (hb6.mono HP5.out.2.2.2.2.2.2.size)⟩
    · go_wp2_with fail
      refine (deb_share HP3.out.2.2.2.2.1 (by decide) (by decide) q len nx hq).mono ?_
      rintro e' w4 ⟨rfl, hd4, hk4⟩
      obtain ⟨hr4, hb4⟩ := HP3.out.after hk4
      have HD4 := Lib.hid hd4; have HR4 := Lib.hid hr4; have HB4 := Lib.hid hb4
      clear hd4 hr4 hb4
      go_wp2_with fail
      refine (rdebt_share HR4.out q len nx hq).mono ?_
      rintro e' w5 ⟨rfl, hr5, hg5⟩
      have HP5 := Lib.hid (pair_done (k' := 1) (by simp) hgw hdw (by decide) HD4.out HR4.out HB4.out hr5 hg5)
      clear hr5 hg5
      go_wp2_with fail
      refine (same18 HP5.out.2.2.2.2.1 HP5.out.2.2.2.2.2.1 (by decide) (by decide) T uT).mono ?_
      rintro e' w6 ⟨rfl, hb6⟩
      go_wp2
      go_ret
      exact ⟨rfl, HP5.out.2.2.2.2.2.2.trans (hb6.mono HP5.out.2.2.2.2.2.2.size)⟩

theorem once_walk (F L R now len q nx : Int) (w : World) (hF : U F) (hL : U L) (hR : U R) (hn : U now) :
    Calls Tryz.prog 3 #[.agg #[.int .u64 F, .int .u64 L, .int .u64 R], .int .u64 now, .int .i64 len, .int .u8 q, .int .i64 nx] w fun e' w' => e' = .returned (.bool true) ∧ Below w.heap.size w w' := by
  cases h1 : mayB F L R with
  | false => exact once_nil F L R now len q nx w hL.1 h1
  | true => exact once_some F L R now len q nx w hF.1 hL.1 hR.1 hn h1

end Go.Proofs.YtipiajnaechadaaGreat
