/-
  The document's book of counters: Refused.
-/
import Derived.Test.YtclhhegfffccgaaCbTell
import Derived.Test.YtclhhegfffccgaaRegM
namespace Go.Proofs.Ytclhhegfffccgaa
set_option linter.unusedVariables false
open Go.RowKit Go.Maps

theorem both_places (c : Int) (base p : Nat) (B : Bk) (W : World) (h : CbAt W base p B) (hr : Rising B) (hn : B.length < 1000) (hc : (Lit.int .i64 c).wf = true) :
    Calls Try.prog 36 #[.pointer (some ⟨p, 0, none⟩), .int .i64 c] W (fun e W' => ∃ gb ks B1, Places B c ks B1 ∧ e = .returned (.slice (some ⟨gb, 0, none⟩) ks.length ks.length) ∧ Blk W' gb 3 (ks.map fun k : Nat => Value.int .i64 k).toArray ∧ CbAt W' base p B1 ∧ (Below base W W' ∧ KeepD W W') ∧ base ≤ gb ∧ 1 ≤ ks.length ∧ ks.length ≤ 2) := by
  have hb := h.base_le
  refine (both_any c base p B W h hr hn hc).mono ?_
  rintro e W' ⟨gb, hg, hbl, ⟨h1, rfl, hB, hC⟩ | ⟨h1, k, rfl, hB, hk, hkk, hC⟩⟩
  · exact ⟨gb, [0], B, .inl ⟨h1, rfl, rfl⟩, rfl, hB, hC, hbl, by omega, by simp, by simp⟩
  · exact ⟨gb, [0, k], insB B c, .inr ⟨h1, k, rfl, rfl, hk, hkk⟩, rfl, hB, hC, hbl, by omega, by simp, by simp⟩

set_option maxRecDepth 100000 in
set_option maxHeartbeats 4000000 in
theorem rrefused_any (c : Int) (base p : Nat) (B : Bk) (W : World) (h : CbAt W base p B) (hr : Rising B) (hh : Head0 B) (hn : B.length < 1000) (hc : (Lit.int .i64 c).wf = true) :
    Calls Try.prog 11 #[.pointer (some ⟨p, 0, none⟩), .int .i64 c] W (fun e W' => e = .returned (.tuple #[]) ∧ CbAt W' base p (tellB B c refusedL) ∧ Below base W W') := by
  have hbo := both_places c base p B W h hr hn hc
  have HR := Lib.hid (And.intro hr hh)
  have hbW := h.base_le
  clear h hr hh
  go_enter Try.func11, Try.ntmps11
  go_wp2_with fail
  refine hbo.mono ?_
  clear hbo
  rintro e W1 ⟨gb, ks, B1, hpl, rfl, hB, hC, ⟨hbl, _⟩, hgb, hk1, hk2⟩
  have hlt := hpl.lt (by obtain ⟨s0, R, rfl, _⟩ := HR.out.2; simp)
  obtain ⟨n, hkn⟩ : ∃ n, ks.length = n := ⟨_, rfl⟩
  rw [hkn] at hk1 hk2 ⊢
  have HP := Lib.hid (And.intro hpl (And.intro hlt hkn)); have HS := Lib.hid (And.intro hB (And.intro hC hbl))
  clear hpl hB hC hbl hlt hkn
  go_wp2_with fail
  go_loopw [5] (fun v5 W' => ∃ i : Nat, v5 = .int .i64 i ∧ i ≤ n ∧ Blk W' gb 3 (ks.map fun k : Nat => Value.int .i64 k).toArray ∧ CbAt W' base p (atKs (fun s => stepsS s refusedL) B1 (ks.take i)) ∧ Below base W W') (fun v5 _ => (n - Go.RowKit.intOf v5).toNat)
  case atStart => exact ⟨0, rfl, Nat.zero_le _, HS.out.1, by simpa [atKs] using HS.out.2.1, HS.out.2.2⟩
  case round =>
    obtain ⟨i, rfl, hi, hB, hC, hbl⟩ := hrel
    by_cases hlt : i < n
    · obtain ⟨j, hj⟩ : ∃ j, ks[i]? = some j := ⟨_, List.getElem?_eq_getElem (by have := HP.out.2.2; omega)⟩
      have hjl := HP.out.2.1 j (List.mem_of_getElem? hj)
      have hlen := atKs_len (fun s => stepsS s refusedL) (ks.take i) B1
      obtain ⟨Bi, hBi⟩ : ∃ Bi, atKs (fun s => stepsS s refusedL) B1 (ks.take i) = Bi := ⟨_, rfl⟩
      rw [hBi] at hC hlen
      obtain ⟨⟨q, s⟩, hq⟩ : ∃ q, Bi[j]? = some q := ⟨_, List.getElem?_eq_getElem (by omega)⟩
      obtain ⟨⟨g, cap, cur, h1, h2, h3, h4, h5, h6, h7⟩, hpb, hok⟩ := hC
      have hs := hok _ (List.mem_of_getElem? hq)
      obtain ⟨hs0, hs1⟩ := hs 1
      have hsnoc : atKs (fun s => stepsS s refusedL) B1 (ks.take (i + 1)) = Bi.set j (q, stepsS s refusedL) := by
        rw [List.take_add_one, hj]
        show atKs _ B1 (ks.take i ++ [j]) = _
        rw [atKs_snoc, hBi, atK_some hq]
      have hup := fun W => up_any (s 1) 1 W hs0 hs1 (by decide) (by decide)
      have hnl : j < Bi.length := by omega
      obtain ⟨nb, hnb⟩ : ∃ nb, Bi.length = nb := ⟨_, rfl⟩
      rw [hnb] at h1 h4 hnl
      have hjc : j < cap := by omega
      have l1 := h1.lt; have l2 := h2.lt; have l3 := hB.lt
      have o0 := fun e => (over_cell (w := wr) (e := e) (o := 0) l1).trans (h1.cell 0)
      have hgi : (ks.map fun k : Nat => Value.int .i64 k).toArray[i]? = some (.int .i64 j) := by simp [hj]
      have og := fun e => (over_cell (w := wr) (e := e) (o := i) l3).trans ((hB.cell i).trans hgi)
      have oc := fun e => (over_cell (w := wr) (e := e) (o := j * 9 + 1 + 1) l2).trans ((h2.cell _).trans ((h3.2 j _ hq).2 1 (by decide)))
      simp only [List.getElem?_toArray, List.getElem?_cons_zero] at o0
      have hi0 : (0 : Int) ≤ (i : Int) := by omega
      have hj0 : (0 : Int) ≤ (j : Int) := by omega
      have hjn : (j : Int) < (nb : Int) := by omega
      have hin : (i : Int) < (n : Int) := by omega
      have HZ := Lib.hid (And.intro h1 (And.intro h2 (And.intro h3 (And.intro h4 (And.intro h5 (And.intro h6 (And.intro h7 (And.intro hok (And.intro hq (And.intro hs (And.intro hsnoc (And.intro hB (And.intro hbl hnb)))))))))))))
      clear h1 h2 h3 h4 h5 h6 h7 hok hq hs hsnoc hB hbl hnb hBi hlen hgi l1 l2 l3 hj hjl hjc hnl
      go_upto_region 4 with fail
      refine wp_region_over_tail 24 (by kernel_rfl) (by kernel_rfl) ?_
      simp only [List.take_succ_cons, List.take_zero, List.drop_succ_cons, List.drop_zero]
      repeat (first | go_big_quiet_skip | (go_big_quiet_want; go_big_quiet_op; first | go_big_quiet_on | (apply Exists.intro; refine ⟨fun e => ?_, ?_⟩; (focus (go_at_call 37; with_reducible exact calls_over_same (hup _))); go_big_quiet_on)))
      refine wpQuiet_nil ?_
      rintro W2 ⟨e2, he2⟩
      have hb2 := over_below wr e2
      rw [← he2] at hb2
      clear he2 o0 og oc hup
      obtain ⟨h1, h2, h3, h4, h5, h6, h7, hok, hq, hs, hsnoc, hB, hbl, hnb⟩ := HZ.out
      have k1 := h1.below hb2 h1.lt
      have k2 := h2.below hb2 h2.lt
      have kB := hB.below hb2 hB.lt
      have z0 := k2.frozen (j * 9 + 1 + 1)
      have z1 := (k2.cell (j * 9 + 1 + 1)).trans ((h3.2 j _ hq).2 1 (by decide))
      have hgs := grown_setC W2 g (j * 9 + 1 + 1) (.int .u64 (sumv (s 1) false 1))
      have hne1 : p ≠ g := by
        rintro rfl
        have := h1.symm.trans h2
        simp at this
      have hneB : gb ≠ g := by
        rintro rfl
        have := hB.symm.trans h2
        simp at this
      have hfin : CbAt (W2.setCell ⟨g, j * 9 + 1 + 1, none⟩ (.int .u64 (sumv (s 1) false 1))) base p (atKs (fun s => stepsS s refusedL) B1 (ks.take (i + 1))) := by
        rw [hsnoc]
        refine CbAt.put (W := W2) (by rw [hnb]; exact k1.grown hgs (by simpa using hne1)) (k2.set_ (j * 9 + 1 + 1) (.int .u64 (sumv (s 1) false 1))) h3 (by rw [hnb]; exact h4) h5 h6 h7 hpb hok hq (s' := stepsS s refusedL) (hs.steps okL_refused) (by simp) (fun m hm => ?_) (fun f hf => ?_)
        · rw [Array.getElem?_setIfInBounds, if_neg (by omega)]
        · rw [Array.getElem?_setIfInBounds]
          have hsz := h3.1
          by_cases e : f = 1
          · subst e
            rw [if_pos rfl, if_pos (by have := (List.getElem?_eq_some_iff.1 hq).1; omega)]
            rfl
          · rw [if_neg (by omega), (h3.2 j _ hq).2 f hf]
            show _ = some (Value.int .u64 (if f = 1 then _ else s f))
            rw [if_neg e]
      have HW := Lib.hid (And.intro (kB.grown hgs (by simpa using hneB)) (And.intro hfin ((hbl.trans (hb2.mono (Nat.le_trans (by omega) hbl.size))).setCell (p := ⟨g, j * 9 + 1 + 1, none⟩) h7 (.int .u64 (sumv (s 1) false 1)))))
      clear h1 h2 h3 h4 h5 h6 h7 hok hq hs hsnoc hB hbl hnb k1 k2 kB hgs hne1 hneB hfin hb2
      go_wp2_with fail
      go_roundw
      case measure => (simp [Go.RowKit.intOf]; try omega)
      case rel => exact ⟨i + 1, by go_num, by omega, HW.out⟩
    · obtain rfl : i = n := by omega
      have hfin : atKs (fun s => stepsS s refusedL) B1 (ks.take i) = tellB B c refusedL := by
        rw [List.take_of_length_le (by rw [HP.out.2.2]; exact Nat.le_refl _)]
        exact HP.out.1.told HR.out.2 HR.out.1 refusedL
      rw [hfin] at hC
      have HF := Lib.hid (And.intro hC hbl)
      clear hB hC hbl hfin
      go_wp2_with fail
      go_returns
      exact ⟨rfl, HF.out⟩
end Go.Proofs.Ytclhhegfffccgaa
