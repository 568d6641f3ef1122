/-
  sums.Late: the first tick at which curves are late; sums.Kept.
-/
import Derived.Test.YthmhboagbeibdaaGreatLate
namespace Go.Proofs.YthmhboagbeibdaaGreat
set_option linter.unusedVariables false
open Go.RowKit

theorem CvAt.kept2 {w w' : World} {v : Value} {l : List Cv} {row : Option Nat} (h : CvAt w v l) (hg : w.grownBy w' row) (hne : l = [] ∨ ∀ k, v.ownBlock = some k → some k ≠ row) : CvAt w' v l := by
  rcases hne with h0 | hne
  · obtain ⟨h1, h2, a, cap, e, _⟩ := h
    exact ⟨h1, h2, a, cap, e, .inl h0⟩
  · exact h.grown hg hne
/-- what sums.Late hands back -/
def LateW (w : World) (l : List Cv) (r : Int) (e : Ending) (w' : World) : Prop := ∃ n : Int, e = .returned (.int .u64 n) ∧ IsLate l r n ∧ Below w.heap.size w w'

/-- between two rounds: what is left of the ends, from where on, nothing late up to there -/
structure LateAt (w W : World) (v ve : Value) (f : List Cv) (r fr : Int) (vb rb fb : Nat) (pre rest : List Int) : Prop where
  ask : AskAt W v f r fr vb rb fb
  ends : WordsAt W ve (pre ++ rest)
  chain : Chain f fr rest
  no : ∀ t, 0 ≤ t → t ≤ fr → ¬ Lt f r t
  fr0 : 0 ≤ fr
  last : rest = [] → fr = 9223372036854775807
  le : ∀ x ∈ rest, x ≤ 9223372036854775807
  top : rest ≠ [] → rest.getLast? = some 9223372036854775807
  below : Below w.heap.size w W
  vbw : vb = w.heap.size
  rbw : rb = w.heap.size + 1
  fbw : w.heap.size + 1 < fb
  own : f = [] ∨ ∀ k, v.ownBlock = some k → k ≠ fb
  oe : ∀ k, ve.ownBlock = some k → w.heap.size + 1 < k ∧ k ≠ fb

set_option maxHeartbeats 4000000 in
theorem late_any (v : Value) (l : List Cv) (r : Int) (w : World) (h : CvAt w v l) (hr : U r) :
    Calls Tryz.prog 47 #[v, .int .u64 r] w (LateW w l r) := by
  have hm := fun w h => smay_any v l w h
  obtain ⟨a0, n0, p0, rfl⟩ : ∃ a n cap, v = .slice a n cap := by obtain ⟨_, _, a, cap, e, _⟩ := h; exact ⟨a, _, cap, e⟩
  have H := Lib.hid h; have HM := Lib.hid hm
  clear h hm
  go_enter Tryz.func47, Tryz.ntmps47
  go_wp2_with fail
  refine (HM.out _ ((H.out.later ((Below.refl w.heap.size w).alloc (Nat.le_refl _) _)).later ((Below.refl _ _).alloc (Nat.le_refl _) _))).mono ?_
  rintro e w1 ⟨v1, rfl, ⟨hc1, hown⟩, hb1⟩
  obtain ⟨a1, p1, rfl⟩ : ∃ a cap, v1 = .slice a (l.filter okC).length cap := by obtain ⟨_, _, a, cap, e, _⟩ := hc1; exact ⟨a, cap, e⟩
  have hB0 : Boxed w1 w.heap.size 45 (.slice a0 n0 p0) := (hb1.block w.heap.size (by simp; omega)).trans ((Boxed.new w 45 (.slice a0 n0 p0)).alloc _)
  have hB1 : Boxed w1 (w.heap.size + 1) 22 (.int .u64 r) := by
    have := Boxed.new (w.alloc (.cells #[.slice a0 n0 p0] 45)) 22 (.int .u64 r)
    rw [World.size_alloc] at this
    exact (hb1.block (w.heap.size + 1) (by simp)).trans this
  have hbw := (((Below.refl w.heap.size w).alloc (Nat.le_refl _) (.cells #[.slice a0 n0 p0] 45)).alloc (by simp) (.cells #[.int .u64 r] 22)).trans (hb1.mono (by simp; omega))
  obtain ⟨f, hf⟩ : ∃ f, f = l.filter okC := ⟨_, rfl⟩
  rw [← hf] at hc1 hown ⊢
  have hown' : ∀ k, (Value.slice a1 f.length p1).ownBlock = some k → w.heap.size + 2 ≤ k := fun k e => by have := hown k e; simp at this; omega
  have c0 := hB0.cell; have z0 := hB0.frozen
  have hsz1 := (Array.getElem?_eq_some_iff.1 hB1).1
  have hB0' := hB0.set (.slice a1 f.length p1)
  have hB1' := hB1.other (B' := w.heap.size) (by omega) (.slice a1 f.length p1)
  have hcv := hc1.grown (grownBy_setCell' w1 w.heap.size (.slice a1 f.length p1)) (fun k e e2 => by cases e2; have := hown' _ e; omega)
  have hbw' := hbw.setCell (p := ⟨w.heap.size, 0, none⟩) (by simp) (.slice a1 f.length p1)
  have hcor := corners_any _ f _ hcv
  obtain ⟨w2, hw2⟩ : ∃ w2, w1.setCell ⟨w.heap.size, 0, none⟩ (.slice a1 f.length p1) = w2 := ⟨_, rfl⟩
  rw [hw2] at hB0' hB1' hcv hbw' hcor
  have c0' := hB0'.cell
  have HF := Lib.hid hf; have HB0 := Lib.hid hB0'; have HB1 := Lib.hid hB1'; have HCV := Lib.hid hcv; have HBW := Lib.hid hbw'; have HW2 := Lib.hid hw2; have HO := Lib.hid hown'
  clear hf hB0' hB1' hcv hbw' hown hown' hc1 hb1 hbw hB0 hB1 H HM
  go_wp2_with fail
  clear c0 z0 hw2 HW2
  refine hcor.mono ?_
  clear hcor
  rintro e w3 ⟨ve, ks, rfl, hIC, hrow, hb3⟩
  have hks0 : ∀ x ∈ ks, 0 ≤ x ∧ x ≤ 1099511627776 := fun x hx => hIC.le x (.tail _ hx)
  obtain ⟨g, cap, rfl, hg1, hg2⟩ := hrow.form (by omega)
  rcases hrow.2 with ⟨h, _⟩ | ⟨g', cap', cur, e, q1, q2, q3, q4, q5, q6⟩
  · cases h
  cases e
  have hkl : ks.length ≤ 2000000 := by
    have hn : ks.Nodup := (List.pairwise_cons.1 hIC.up).2.imp fun {a b} h => by omega
    have hsub : ∀ x ∈ ks, x ∈ f.map (fun c => c.2.1) := fun x hx => by
      obtain ⟨c, hc, _, _, rfl⟩ := (hIC.mem x).1 hx
      exact List.mem_map.2 ⟨c, hc, rfl⟩
    have := List.Nodup.length_le_of_subset hn hsub
    have := HCV.out.2.1
    simp at *; omega
  -- the row without its head, one more behind it
  have happ : ∀ W : World, Below w3.heap.size w3 W → ∀ off c, (off = 1 ∧ c = cap - 1 ∨ off = 0 ∧ c = 0 ∧ ks.length = 0) → ∀ B, Blk W B 22 #[.int .u64 9223372036854775807] → ∃ v' w', (Builtin.append_ #[82, 82] 82 #[.slice (some ⟨g, off, none⟩) ks.length c, .slice (some ⟨B, 0, none⟩) 1 1]).run Tryz.prog W = .ok v' w' ∧ WordsAt w' v' (ks ++ [9223372036854775807]) ∧ W.grownBy w' (some g) ∧ ∃ k, v'.ownBlock = some k ∧ w2.heap.size ≤ k := fun W hW off c hoc B hB => by
    refine run_append_word 82 B _ ((hW.block g hg2).trans q2) hg1 (by omega) (by omega) (by omega) (fun i y hy => ?_) hB (Nat.le_trans hb3.size hW.size) (by omega)
    have hil : i < ks.length := (List.getElem?_eq_some_iff.1 hy).1
    rcases hoc with ⟨rfl, rfl⟩ | ⟨rfl, rfl, h0⟩
    · have : (cur.toList.take ((ks.length + 1) * 1))[1 + i]? = some (.int .u64 y) := by
        rw [q6, Nat.add_comm 1 i, List.map_cons, List.getElem?_cons_succ, List.getElem?_map, hy]; rfl
      rw [List.getElem?_take_of_lt (by omega), Array.getElem?_toList] at this
      exact this
    · omega
  have HIC := Lib.hid hIC; have HAPP := Lib.hid happ; have HB3 := Lib.hid hb3; have HK0 := Lib.hid hks0
  clear hrow q2 q5 q6 happ hIC hb3 hks0
  by_cases hc1 : cap = 1
  · subst hc1
    obtain rfl : ks = [] := List.eq_nil_of_length_eq_zero (by omega)
    obtain ⟨ve, w4, hrun, hends, hgr, k4, hob, hk4⟩ := HAPP.out (w3.alloc (.cells #[.int .u64 9223372036854775807] 22)) ((Below.refl _ _).alloc (Nat.le_refl _) _) 0 0 (.inr ⟨rfl, rfl, rfl⟩) w3.heap.size (Blk.new w3 _ _)
    obtain ⟨E, hEE⟩ : ∃ E, ([] : List Int) ++ [9223372036854775807] = E := ⟨_, rfl⟩
    obtain ⟨m0, hm0⟩ : ∃ m0, m0 = E.length := ⟨_, rfl⟩
    rw [hEE] at hends
    obtain ⟨g2, off2, cap2, rfl, hg4, hcells⟩ := hends.ex
    rw [← hm0] at hends hob hrun
    have hml : m0 ≤ 3000000 := by rw [hm0, ← hEE]; simp; try omega
    have HEE := Lib.hid hEE; have HM0 := Lib.hid hm0
    clear hEE hm0
    have hb4 : Below w2.heap.size w2 w4 := (HB3.out.alloc HB3.out.size _).grown hgr (by have := HB3.out.size; simp; omega) (fun j e => by cases e; exact hg1)
    have HR4 := Lib.hid hends; have HB4 := Lib.hid hb4; have HOB := Lib.hid (And.intro hob hk4)
    clear hends hgr hcells hb4 hob hk4 hg4
    go_wp2_with (at_builtin; refine wpList_append_runW rfl _ _ _ rfl _ _ _ rfl rfl hrun ?_)
    clear hrun
    have hL : LateAt w (w4.alloc (.cells #[.int .u64 0] 22)) (.slice a1 f.length p1) (.slice (some ⟨g2, off2, none⟩) m0 cap2) f r 0 w.heap.size (w.heap.size + 1) w4.heap.size [] E := by
      have hb5 := HB4.out.alloc HB4.out.size (.cells #[.int .u64 0] 22)
      have hs2 := (Array.getElem?_eq_some_iff.1 HB1.out).1
      have hs4 := HB4.out.size
      refine ⟨⟨HCV.out.later hb5, (hb5.block _ (by omega)).trans HB0.out, (hb5.block _ hs2).trans HB1.out, Boxed.new w4 _ _⟩, HR4.out.later ((Below.refl _ _).alloc (Nat.le_refl _) _), by rw [← HEE.out]; exact HIC.out.chain, fun t t0 t1 => ?_, Int.le_refl _, fun e => ?_, fun x hx => ?_, fun _ => by rw [← HEE.out]; simp, HBW.out.trans (hb5.mono HBW.out.size), rfl, rfl, by omega, ?_, fun k e => ?_⟩
      · obtain rfl : t = 0 := by omega
        exact late_zero HCV.out.1.nn
      · rw [← HEE.out] at e; simp at e
      · have hx2 : x ∈ ([] : List Int) ++ [9223372036854775807] := by rw [HEE.out]; exact hx
        rcases List.mem_append.1 hx2 with hx | hx
        · have := HK0.out x hx; omega
        · simp at hx; omega
      · obtain ⟨_, _, a', cap', e', h0 | ⟨b, off, e2, hbl, _⟩⟩ := HCV.out
        · exact .inl h0
        · refine .inr fun k e => ?_
          simp only [Value.slice.injEq, true_and] at e'
          obtain ⟨rfl, _⟩ := e'
          subst e2
          simp [Value.ownBlock] at e
          omega
      · obtain ⟨h1, h2⟩ := HOB.out
        simp only [Value.ownBlock, Option.some.injEq] at e h1
        obtain ⟨g3, off3, cap3, e3, h3, _⟩ := HR4.out.ex
        simp only [Value.slice.injEq, Option.some.injEq, Addr.mk.injEq] at e3
        omega
    have HL := Lib.hid hL
    clear hL HB3 HAPP HCV HB0 HB1 HBW HB4 HR4 HIC HK0 HO HOB
    go_loopw [19] (fun vi W => ∃ (pre rest : List Int) (fr : Int), vi = .int .i64 (pre.length : Nat) ∧ pre ++ rest = E ∧ LateAt w W (.slice a1 f.length p1) (.slice (some ⟨g2, off2, none⟩) m0 cap2) f r fr w.heap.size (w.heap.size + 1) w4.heap.size pre rest) (fun vi _ => m0 - (Go.RowKit.intOf vi).toNat)
    case atStart => exact ⟨[], _, 0, rfl, rfl, HL.out⟩
    case round =>
      obtain ⟨pre, rest, fr, rfl, hE, hL⟩ := hrel
      obtain ⟨w6, rfl⟩ : ∃ w' : World, w' = wr := ⟨_, rfl⟩
      have hlen : pre.length + rest.length = m0 := by have := congrArg List.length hE; rw [← HM0.out, List.length_append] at this; exact this
      have HL2 := Lib.hid hL; have HE := Lib.hid hE
      clear HL hE
      cases rest with
      | nil =>
        have hpl : pre.length = m0 := by simpa using hlen
        have hfr := hL.last rfl
        have hres : IsLate l r 9223372036854775808 := by
          refine IsLate.congr (fun t => by rw [HF.out, vS_filter]) (l := f) (.inl ⟨rfl, fun t t0 t1 => hL.no t t0 (by omega)⟩)
        have HRES := Lib.hid hres
        clear hL hres hlen hfr
        have hnot : ¬ (pre.length : Int) < (m0 : Nat) := by omega
        go_wp2
        go_ret
        exact ⟨_, rfl, HRES.out, HL2.out.below⟩
      | cons q1 rest =>
        have hlt : pre.length < m0 := by simp at hlen; omega
        have hltz : (pre.length : Int) < (m0 : Nat) := by omega
        obtain ⟨g3, off3, cap3, e3, hg3, hc3⟩ := hL.ends.ex
        simp only [Value.slice.injEq, Option.some.injEq, Addr.mk.injEq] at e3
        obtain ⟨⟨rfl, rfl, _⟩, hx9, rfl⟩ := e3
        clear hx9
        have ce := hc3 pre.length q1 (by simp)
        have cv := hL.ask.bv.cell; have cr := hL.ask.br.cell; have cf := hL.ask.bf.cell; have zf := hL.ask.bf.frozen
        have hto := hL.le q1 (.head _)
        have hch := hL.chain.1
        have hfr0 := hL.fr0
        have hs := slate_any (.slice a1 f.length p1) f r q1 w6 hL.ask.cv hr (by unfold U; omega)
        clear hL hc3 hg3 hlen
        cases hlate : decide (Lt f r q1)
        · have hnl : ¬ Lt f r q1 := of_decide_eq_false hlate
          rw [hlate] at hs
          clear hlate
          have HNL := Lib.hid hnl
          clear hnl
          go_wp2_with fail
          refine hs.mono ?_
          clear hs
          rintro e w7 ⟨rfl, hb7⟩
          have hA7 := HL2.out.ask.later hb7
          have zf7 := hA7.bf.frozen; have cf7 := hA7.bf.cell
          have HA7 := Lib.hid hA7; have HB7 := Lib.hid hb7
          clear hA7 hb7 cv cr cf zf ce
          go_wp2_with fail
          go_roundw
          case measure => (simp [Go.RowKit.intOf]; try omega)
          case rel =>
            have hh := HL2.out
            have hsz := hh.below.size
            have h7 := HA7.out
            have hg := grownBy_setCell' w7 w4.heap.size (.int .u64 q1)
            refine ⟨pre ++ [q1], rest, q1, by simp, by rw [← HE.out, List.append_assoc]; rfl, ?_⟩
            refine ⟨⟨h7.cv.kept2 hg (hh.own.imp_right fun h k e e2 => h k e (by cases e2; rfl)), h7.bv.other (by have := hh.fbw; omega) _, h7.br.other (by have := hh.fbw; omega) _, h7.bf.set _⟩, ?_, hh.chain.2.2, fun t t0 t1 => ?_, by omega, fun e => ?_, fun x hx => hh.le x (.tail _ hx), fun e => ?_, ?_, rfl, rfl, hh.fbw, hh.own, hh.oe⟩
            · have := (hh.ends.later HB7.out).grown hg (fun e => by obtain ⟨k, hk⟩ : ∃ k, (Value.slice (some ⟨g2, off2, none⟩) m0 cap2).ownBlock = some k := ⟨_, rfl⟩; have h1 := (hh.oe k hk).2; rw [hk] at e; cases e; exact h1 rfl)
              simpa using this
            · by_cases c : t ≤ fr
              · exact hh.no t t0 c
              · exact late_no hh.chain.2.1 (hh.no fr hfr0 (Int.le_refl _)) HNL.out (by omega) t1
            · have h := hh.top (by simp)
              subst e
              simpa using h
            · have h := hh.top (by simp)
              rw [List.getLast?_cons_of_ne_nil e] at h
              exact h
            · exact (hh.below.trans (HB7.out.mono hsz)).grown hg (by have := HB7.out.size; omega) (fun j e => by cases e; have := hh.fbw; omega)
        · have hyl : Lt f r q1 := of_decide_eq_true hlate
          rw [hlate] at hs
          clear hlate
          have HYL := Lib.hid hyl
          clear hyl
          go_wp2_with fail
          refine hs.mono ?_
          clear hs
          rintro e w7 ⟨rfl, hb7⟩
          have hA7 := HL2.out.ask.later hb7
          have cf7 := hA7.bf.cell
          obtain ⟨N, hN⟩ : ∃ N : Nat, q1 - fr = (N : Int) := ⟨(q1 - fr).toNat, by omega⟩
          have hN2 : N ≤ 9223372036854775807 := by omega
          have hN3 : 0 < N := by omega
          have hse := search_any 56 #[.pointer (some ⟨w.heap.size, 0, none⟩), .pointer (some ⟨w.heap.size + 1, 0, none⟩), .pointer (some ⟨w4.heap.size, 0, none⟩)] N (fun i => decide (Lt f r (fr + i))) w7 (enters_of Tryz.func56 (by kernel_rfl) rfl) hN2
            (fun W i hW hi => ask_any _ f r fr _ _ _ i W (hA7.later hW) hr hfr0 (by omega))
            (fun a b hab hbn hp => by
              have h1 := of_decide_eq_true hp
              have hh := HL2.out
              exact decide_eq_true (late_up (x := fr + a) hh.chain.2.1 (hh.no fr hfr0 (Int.le_refl _)) h1 (by omega) (by omega) (by omega)))
          have HB7 := Lib.hid (HL2.out.below.trans (hb7.mono HL2.out.below.size)); have HNN := Lib.hid hN
          clear hA7 hb7 cv cr cf zf ce
          go_wp2_with fail
          refine hse.mono ?_
          clear hse
          rintro e w8 ⟨m, rfl, hm1, hm2, hm3, hb8⟩
          have cf8 := (hb8.cell (p := ⟨w4.heap.size, 0, none⟩) (World.block_lt_of_cell? _ _ cf7)).trans cf7
          have hres : IsLate l r (fr + m) := by
            refine IsLate.congr (fun t => by rw [HF.out, vS_filter]) (l := f) ?_
            have hh := HL2.out
            have hm0 : 0 < m := by
              by_cases h0 : m = 0
              · subst h0
                have := of_decide_eq_true (hm3 0 (by omega) (by omega))
                exact absurd this (hh.no _ (by omega) (by simp))
              · omega
            refine .inr ⟨by omega, by omega, ?_, fun t t0 t1 => ?_⟩
            · by_cases hmn : m < N
              · exact of_decide_eq_true (hm3 m (by omega) hmn)
              · rw [show fr + (m : Int) = q1 by omega]; exact HYL.out
            · by_cases c : t ≤ fr
              · exact hh.no t t0 c
              · obtain ⟨i, hi⟩ : ∃ i : Nat, t = fr + i := ⟨(t - fr).toNat, by omega⟩
                subst hi
                exact of_decide_eq_false (hm2 i (by omega))
          have HRES := Lib.hid hres; have HB8 := Lib.hid (HB7.out.trans (hb8.mono HB7.out.size))
          clear hm2 hm3 hb8 hres cf7
          go_wp2_with fail
          go_ret
          exact ⟨fr + m, rfl, HRES.out, HB8.out⟩
  · have hcz : (1 : Int) < (cap : Int) := by omega
    obtain ⟨ve, w4, hrun, hends, hgr, k4, hob, hk4⟩ := HAPP.out (w3.alloc (.cells #[.int .u64 9223372036854775807] 22)) ((Below.refl _ _).alloc (Nat.le_refl _) _) 1 (cap - 1) (.inl ⟨rfl, rfl⟩) w3.heap.size (Blk.new w3 _ _)
    obtain ⟨E, hEE⟩ : ∃ E, ks ++ [9223372036854775807] = E := ⟨_, rfl⟩
    obtain ⟨m0, hm0⟩ : ∃ m0, m0 = E.length := ⟨_, rfl⟩
    rw [hEE] at hends
    obtain ⟨g2, off2, cap2, rfl, hg4, hcells⟩ := hends.ex
    rw [← hm0] at hends hob hrun
    have hml : m0 ≤ 3000000 := by rw [hm0, ← hEE]; simp; try omega
    have HEE := Lib.hid hEE; have HM0 := Lib.hid hm0
    clear hEE hm0
    have hb4 : Below w2.heap.size w2 w4 := (HB3.out.alloc HB3.out.size _).grown hgr (by have := HB3.out.size; simp; omega) (fun j e => by cases e; exact hg1)
    have HR4 := Lib.hid hends; have HB4 := Lib.hid hb4; have HOB := Lib.hid (And.intro hob hk4)
    clear hends hgr hcells hb4 hob hk4 hg4
    go_wp2_with (at_builtin; refine wpList_append_runW rfl _ _ _ rfl _ _ _ rfl rfl hrun ?_)
    clear hrun
    have hL : LateAt w (w4.alloc (.cells #[.int .u64 0] 22)) (.slice a1 f.length p1) (.slice (some ⟨g2, off2, none⟩) m0 cap2) f r 0 w.heap.size (w.heap.size + 1) w4.heap.size [] E := by
      have hb5 := HB4.out.alloc HB4.out.size (.cells #[.int .u64 0] 22)
      have hs2 := (Array.getElem?_eq_some_iff.1 HB1.out).1
      have hs4 := HB4.out.size
      refine ⟨⟨HCV.out.later hb5, (hb5.block _ (by omega)).trans HB0.out, (hb5.block _ hs2).trans HB1.out, Boxed.new w4 _ _⟩, HR4.out.later ((Below.refl _ _).alloc (Nat.le_refl _) _), by rw [← HEE.out]; exact HIC.out.chain, fun t t0 t1 => ?_, Int.le_refl _, fun e => ?_, fun x hx => ?_, fun _ => by rw [← HEE.out]; simp, HBW.out.trans (hb5.mono HBW.out.size), rfl, rfl, by omega, ?_, fun k e => ?_⟩
      · obtain rfl : t = 0 := by omega
        exact late_zero HCV.out.1.nn
      · rw [← HEE.out] at e; simp at e
      · have hx2 : x ∈ ks ++ [9223372036854775807] := by rw [HEE.out]; exact hx
        rcases List.mem_append.1 hx2 with hx | hx
        · have := HK0.out x hx; omega
        · simp at hx; omega
      · obtain ⟨_, _, a', cap', e', h0 | ⟨b, off, e2, hbl, _⟩⟩ := HCV.out
        · exact .inl h0
        · refine .inr fun k e => ?_
          simp only [Value.slice.injEq, true_and] at e'
          obtain ⟨rfl, _⟩ := e'
          subst e2
          simp [Value.ownBlock] at e
          omega
      · obtain ⟨h1, h2⟩ := HOB.out
        simp only [Value.ownBlock, Option.some.injEq] at e h1
        obtain ⟨g3, off3, cap3, e3, h3, _⟩ := HR4.out.ex
        simp only [Value.slice.injEq, Option.some.injEq, Addr.mk.injEq] at e3
        omega
    have HL := Lib.hid hL
    clear hL HB3 HAPP HCV HB0 HB1 HBW HB4 HR4 HIC HK0 HO HOB
    go_loopw [19] (fun vi W => ∃ (pre rest : List Int) (fr : Int), vi = .int .i64 (pre.length : Nat) ∧ pre ++ rest = E ∧ LateAt w W (.slice a1 f.length p1) (.slice (some ⟨g2, off2, none⟩) m0 cap2) f r fr w.heap.size (w.heap.size + 1) w4.heap.size pre rest) (fun vi _ => m0 - (Go.RowKit.intOf vi).toNat)
    case atStart => exact ⟨[], _, 0, rfl, rfl, HL.out⟩
    case round =>
      obtain ⟨pre, rest, fr, rfl, hE, hL⟩ := hrel
      obtain ⟨w6, rfl⟩ : ∃ w' : World, w' = wr := ⟨_, rfl⟩
      have hlen : pre.length + rest.length = m0 := by have := congrArg List.length hE; rw [← HM0.out, List.length_append] at this; exact this
      have HL2 := Lib.hid hL; have HE := Lib.hid hE
      clear HL hE
      cases rest with
      | nil =>
        have hpl : pre.length = m0 := by simpa using hlen
        have hfr := hL.last rfl
        have hres : IsLate l r 9223372036854775808 := by
          refine IsLate.congr (fun t => by rw [HF.out, vS_filter]) (l := f) (.inl ⟨rfl, fun t t0 t1 => hL.no t t0 (by omega)⟩)
        have HRES := Lib.hid hres
        clear hL hres hlen hfr
        have hnot : ¬ (pre.length : Int) < (m0 : Nat) := by omega
        go_wp2
        go_ret
        exact ⟨_, rfl, HRES.out, HL2.out.below⟩
      | cons q1 rest =>
        have hlt : pre.length < m0 := by simp at hlen; omega
        have hltz : (pre.length : Int) < (m0 : Nat) := by omega
        obtain ⟨g3, off3, cap3, e3, hg3, hc3⟩ := hL.ends.ex
        simp only [Value.slice.injEq, Option.some.injEq, Addr.mk.injEq] at e3
        obtain ⟨⟨rfl, rfl, _⟩, hx9, rfl⟩ := e3
        clear hx9
        have ce := hc3 pre.length q1 (by simp)
        have cv := hL.ask.bv.cell; have cr := hL.ask.br.cell; have cf := hL.ask.bf.cell; have zf := hL.ask.bf.frozen
        have hto := hL.le q1 (.head _)
        have hch := hL.chain.1
        have hfr0 := hL.fr0
        have hs := slate_any (.slice a1 f.length p1) f r q1 w6 hL.ask.cv hr (by unfold U; omega)
        clear hL hc3 hg3 hlen
        cases hlate : decide (Lt f r q1)
        · have hnl : ¬ Lt f r q1 := of_decide_eq_false hlate
          rw [hlate] at hs
          clear hlate
          have HNL := Lib.hid hnl
          clear hnl
          go_wp2_with fail
          refine hs.mono ?_
          clear hs
          rintro e w7 ⟨rfl, hb7⟩
          have hA7 := HL2.out.ask.later hb7
          have zf7 := hA7.bf.frozen; have cf7 := hA7.bf.cell
          have HA7 := Lib.hid hA7; have HB7 := Lib.hid hb7
          clear hA7 hb7 cv cr cf zf ce
          go_wp2_with fail
          go_roundw
          case measure => (simp [Go.RowKit.intOf]; try omega)
          case rel =>
            have hh := HL2.out
            have hsz := hh.below.size
            have h7 := HA7.out
            have hg := grownBy_setCell' w7 w4.heap.size (.int .u64 q1)
            refine ⟨pre ++ [q1], rest, q1, by simp, by rw [← HE.out, List.append_assoc]; rfl, ?_⟩
            refine ⟨⟨h7.cv.kept2 hg (hh.own.imp_right fun h k e e2 => h k e (by cases e2; rfl)), h7.bv.other (by have := hh.fbw; omega) _, h7.br.other (by have := hh.fbw; omega) _, h7.bf.set _⟩, ?_, hh.chain.2.2, fun t t0 t1 => ?_, by omega, fun e => ?_, fun x hx => hh.le x (.tail _ hx), fun e => ?_, ?_, rfl, rfl, hh.fbw, hh.own, hh.oe⟩
            · have := (hh.ends.later HB7.out).grown hg (fun e => by obtain ⟨k, hk⟩ : ∃ k, (Value.slice (some ⟨g2, off2, none⟩) m0 cap2).ownBlock = some k := ⟨_, rfl⟩; have h1 := (hh.oe k hk).2; rw [hk] at e; cases e; exact h1 rfl)
              simpa using this
            · by_cases c : t ≤ fr
              · exact hh.no t t0 c
              · exact late_no hh.chain.2.1 (hh.no fr hfr0 (Int.le_refl _)) HNL.out (by omega) t1
            · have h := hh.top (by simp)
              subst e
              simpa using h
            · have h := hh.top (by simp)
              rw [List.getLast?_cons_of_ne_nil e] at h
              exact h
            · exact (hh.below.trans (HB7.out.mono hsz)).grown hg (by have := HB7.out.size; omega) (fun j e => by cases e; have := hh.fbw; omega)
        · have hyl : Lt f r q1 := of_decide_eq_true hlate
          rw [hlate] at hs
          clear hlate
          have HYL := Lib.hid hyl
          clear hyl
          go_wp2_with fail
          refine hs.mono ?_
          clear hs
          rintro e w7 ⟨rfl, hb7⟩
          have hA7 := HL2.out.ask.later hb7
          have cf7 := hA7.bf.cell
          obtain ⟨N, hN⟩ : ∃ N : Nat, q1 - fr = (N : Int) := ⟨(q1 - fr).toNat, by omega⟩
          have hN2 : N ≤ 9223372036854775807 := by omega
          have hN3 : 0 < N := by omega
          have hse := search_any 56 #[.pointer (some ⟨w.heap.size, 0, none⟩), .pointer (some ⟨w.heap.size + 1, 0, none⟩), .pointer (some ⟨w4.heap.size, 0, none⟩)] N (fun i => decide (Lt f r (fr + i))) w7 (enters_of Tryz.func56 (by kernel_rfl) rfl) hN2
            (fun W i hW hi => ask_any _ f r fr _ _ _ i W (hA7.later hW) hr hfr0 (by omega))
            (fun a b hab hbn hp => by
              have h1 := of_decide_eq_true hp
              have hh := HL2.out
              exact decide_eq_true (late_up (x := fr + a) hh.chain.2.1 (hh.no fr hfr0 (Int.le_refl _)) h1 (by omega) (by omega) (by omega)))
          have HB7 := Lib.hid (HL2.out.below.trans (hb7.mono HL2.out.below.size)); have HNN := Lib.hid hN
          clear hA7 hb7 cv cr cf zf ce
          go_wp2_with fail
          refine hse.mono ?_
          clear hse
          rintro e w8 ⟨m, rfl, hm1, hm2, hm3, hb8⟩
          have cf8 := (hb8.cell (p := ⟨w4.heap.size, 0, none⟩) (World.block_lt_of_cell? _ _ cf7)).trans cf7
          have hres : IsLate l r (fr + m) := by
            refine IsLate.congr (fun t => by rw [HF.out, vS_filter]) (l := f) ?_
            have hh := HL2.out
            have hm0 : 0 < m := by
              by_cases h0 : m = 0
              · subst h0
                have := of_decide_eq_true (hm3 0 (by omega) (by omega))
                exact absurd this (hh.no _ (by omega) (by simp))
              · omega
            refine .inr ⟨by omega, by omega, ?_, fun t t0 t1 => ?_⟩
            · by_cases hmn : m < N
              · exact of_decide_eq_true (hm3 m (by omega) hmn)
              · rw [show fr + (m : Int) = q1 by omega]; exact HYL.out
            · by_cases c : t ≤ fr
              · exact hh.no t t0 c
              · obtain ⟨i, hi⟩ : ∃ i : Nat, t = fr + i := ⟨(t - fr).toNat, by omega⟩
                subst hi
                exact of_decide_eq_false (hm2 i (by omega))
          have HRES := Lib.hid hres; have HB8 := Lib.hid (HB7.out.trans (hb8.mono HB7.out.size))
          clear hm2 hm3 hb8 hres cf7
          go_wp2_with fail
          go_ret
          exact ⟨fr + m, rfl, HRES.out, HB8.out⟩
end Go.Proofs.YthmhboagbeibdaaGreat
