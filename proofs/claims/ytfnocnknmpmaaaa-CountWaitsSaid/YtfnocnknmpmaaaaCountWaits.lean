/-
  CountWaits: the law's walk.
-/
import Derived.Test.YtfnocnknmpmaaaaCountQ
import Derived.Test.YtfnocnknmpmaaaaCountWPlain
import Derived.Test.YtfnocnknmpmaaaaCountTurned
namespace Go.Proofs.Ytfnocnknmpmaaaa
set_option linter.unusedVariables false
open Go.RowKit

/-- between two rounds: the book, and the two rows of packets -/
structure WAt (w W : World) (g m base : Nat) (s : WS) (vC vD : Value) : Prop where
  book : BookAt W g m s.B
  below : Below w.heap.size w W
  lo : w.heap.size ≤ m
  hb : w.heap.size ≤ base
  gb : g < base
  mb : m < base
  hW : base ≤ W.heap.size
  qc : QAt W base vC s.C
  qd : QAt W base vD s.D
  ap : ∀ k, vC.ownBlock = some k → vD.ownBlock ≠ some k
theorem own_ne {w : World} {base m : Nat} {v : Value} {l : List CAct} (h : QAt w base v l) (hm : m < base) : v.ownBlock = none ∨ v.ownBlock ≠ some m := by
  cases e : v.ownBlock with
  | none => exact .inl rfl
  | some k => right; have := (h.block k e).1; intro h2; cases h2; omega
theorem WAt.later {w W W' : World} {g m base : Nat} {s : WS} {vC vD : Value} (h : WAt w W g m base s vC vD) (hb : Below W.heap.size W W') : WAt w W' g m base s vC vD :=
  ⟨h.book.grown (grown_none hb), h.below.trans (hb.mono h.below.size), h.lo, h.hb, h.gb, h.mb, Nat.le_trans h.hW hb.size, h.qc.kept (grown_none hb) (by cases vC.ownBlock <;> simp), h.qd.kept (grown_none hb) (by cases vD.ownBlock <;> simp), h.ap⟩
theorem WAt.told {w W W' : World} {g m base : Nat} {s : WS} {vC vD : Value} {B' : Bk} (h : WAt w W g m base s vC vD) (hT : TellAt W g m B' W') : WAt w W' g m base { s with B := B' } vC vD :=
  ⟨hT.book, h.below.grown hT.grown h.below.size (fun k e => by cases e; exact h.lo), h.lo, h.hb, h.gb, h.mb, Nat.le_trans h.hW hT.grown.size, h.qc.kept hT.grown (own_ne h.qc h.mb), h.qd.kept hT.grown (own_ne h.qd h.mb), h.ap⟩
theorem WAt.appC {w W W' : World} {g m base : Nat} {s : WS} {vC vD v' : Value} {l : List CAct} (h : WAt w W g m base s vC vD) (hq : QAt W' base v' l) (hg : W.grownBy W' vC.ownBlock) (hv : v'.ownBlock = vC.ownBlock ∨ ∃ k, v'.ownBlock = some k ∧ W.heap.size ≤ k) :
    WAt w W' g m base { s with C := l } v' vD := by
  have hrow : ∀ k, vC.ownBlock = some k → base ≤ k := fun k e => (h.qc.block k e).1
  have hne : ∀ x, x < base → some x ≠ vC.ownBlock := fun x hx e => by have := hrow x e.symm; omega
  refine ⟨⟨h.book.blk.grown hg (hne g h.gb), h.book.map.kept hg (hne m h.mb), h.book.ok⟩, h.below.grown hg h.below.size (fun k e => Nat.le_trans h.hb (hrow k e)), h.lo, h.hb, h.gb, h.mb, Nat.le_trans h.hW hg.size, hq, h.qd.kept hg ?_, fun k e => ?_⟩
  · cases e : vD.ownBlock with
    | none => exact .inl rfl
    | some k => right; intro e2; exact h.ap k e2.symm e
  · rcases hv with hv | ⟨k2, hv, hk2⟩
    · rw [hv] at e; exact h.ap k e
    · rw [hv] at e; cases e
      intro e2
      have := (h.qd.block _ e2).2.1; omega
theorem WAt.appD {w W W' : World} {g m base : Nat} {s : WS} {vC vD v' : Value} {l : List CAct} (h : WAt w W g m base s vC vD) (hq : QAt W' base v' l) (hg : W.grownBy W' vD.ownBlock) (hv : v'.ownBlock = vD.ownBlock ∨ ∃ k, v'.ownBlock = some k ∧ W.heap.size ≤ k) :
    WAt w W' g m base { s with D := l } vC v' := by
  have hrow : ∀ k, vD.ownBlock = some k → base ≤ k := fun k e => (h.qd.block k e).1
  have hne : ∀ x, x < base → some x ≠ vD.ownBlock := fun x hx e => by have := hrow x e.symm; omega
  refine ⟨⟨h.book.blk.grown hg (hne g h.gb), h.book.map.kept hg (hne m h.mb), h.book.ok⟩, h.below.grown hg h.below.size (fun k e => Nat.le_trans h.hb (hrow k e)), h.lo, h.hb, h.gb, h.mb, Nat.le_trans h.hW hg.size, h.qc.kept hg ?_, hq, fun k e => ?_⟩
  · cases e : vC.ownBlock with
    | none => exact .inl rfl
    | some k => right; intro e2; exact h.ap k e e2.symm
  · rcases hv with hv | ⟨k2, hv, hk2⟩
    · rw [hv]; exact h.ap k e
    · rw [hv]; intro e2; cases e2
      have := (h.qc.block _ e).2.1; omega
theorem WAt.as {w W : World} {g m base : Nat} {s s' : WS} {vC vD vC' vD' : Value} (h : WAt w W g m base s vC vD) (hB : s.B = s'.B) (hC : s.C = s'.C) (hD : s.D = s'.D) (h1 : vC = vC') (h2 : vD = vD') : WAt w W g m base s' vC' vD' := by
  subst h1 h2
  exact ⟨hB ▸ h.book, h.below, h.lo, h.hb, h.gb, h.mb, h.hW, hC ▸ h.qc, hD ▸ h.qd, h.ap⟩
theorem WAt.cut {w W : World} {g m base : Nat} {s : WS} {vC vD vC' : Value} {l : List CAct} (h : WAt w W g m base s vC vD) (hq : QAt W base vC' l) (hv : vC'.ownBlock = vC.ownBlock) : WAt w W g m base { s with C := l } vC' vD :=
  ⟨h.book, h.below, h.lo, h.hb, h.gb, h.mb, h.hW, hq, h.qd, fun k e => h.ap k (hv ▸ e)⟩
theorem WAt.cutD {w W : World} {g m base : Nat} {s : WS} {vC vD vD' : Value} {l : List CAct} (h : WAt w W g m base s vC vD) (hq : QAt W base vD' l) (hv : vD'.ownBlock = vD.ownBlock) : WAt w W g m base { s with D := l } vC vD' :=
  ⟨h.book, h.below, h.lo, h.hb, h.gb, h.mb, h.hW, h.qc, hq, fun k e => by rw [hv]; exact h.ap k e⟩
def wfold (l : List CAct) (k : Nat) : WS := (l.take k).foldl wstep ws0
theorem wfold_succ {l : List CAct} {k : Nat} {q : CAct} (h : l[k]? = some q) : wfold l (k + 1) = wstep (wfold l k) q := by
  unfold wfold; rw [List.take_add_one, h]; simp

set_option maxRecDepth 100000 in
set_option maxHeartbeats 4000000 in
theorem countWaits_any (a : Option Addr) (len cap : Nat) (l : List CAct) (w : World) (hl : len ≤ 9223372036854775807) (hz : CActsAt w a len l) :
    Calls Try.prog 5 #[.slice a len cap] w fun e w' => e = .returned (.bool true) ∧ Below w.heap.size w w' := by
  go_enter Try.func5, Try.ntmps5
  go_wp2_with fail
  refine (awake_any _).mono ?_
  rintro e w1 ⟨rfl, hb1⟩
  go_wp2_with fail
  refine (long_any a len cap _ hl).mono ?_
  rintro e w' ⟨rfl, rfl⟩
  by_cases hlong : 200 < len
  · have hd : decide (200 < len) = true := decide_eq_true hlong
    rw [hd]
    go_wp2_with fail
    go_ret
    exact ⟨rfl, hb1⟩
  · have hd : decide (200 < len) = false := decide_eq_false hlong
    rw [hd]
    clear hd
    go_wp2_with fail
    refine (new_any _).mono ?_
    rintro e w2 ⟨g, m, rfl, hB1, hb2, hg1, hm1⟩
    have h2 : WAt w w2 g m w2.heap.size ws0 (.slice none 0 0) (.slice none 0 0) := by
      have hl1 := hB1.map.lt; have hl2 := hB1.blk.lt
      exact ⟨hB1, hb1.trans (hb2.mono hb1.size), Nat.le_trans hb1.size hm1, Nat.le_trans hb1.size hb2.size, hl2, hl1, Nat.le_refl _, QAt.nil _ _, QAt.nil _ _, fun k e => by simp [Value.ownBlock] at e⟩
    have H2 := Lib.hid h2
    clear hB1 hb2 hg1 hm1 h2 hb1
    have hlen := hz.1
    have hzl : ∀ k q, l[k]? = some q → CFit q := fun k q hq => hz.2.1 q (List.mem_of_getElem? hq)
    go_wp2_with fail
    go_loopw [4, 5, 6, 7, 8] (fun vC vD pv tv iv W => ∃ (k : Nat) (s : WS), k ≤ len ∧ iv = .int .i64 k ∧ s = wfold l k ∧ pv = .int .u64 s.put ∧ tv = .int .u64 s.taken ∧ WAt w W g m w2.heap.size s vC vD ∧ WInv k s) (fun _ _ _ _ iv _ => len - (intOf iv).toNat)
    case atStart => exact ⟨0, ws0, by omega, rfl, rfl, rfl, rfl, H2.out, winv0⟩
    case round =>
      obtain ⟨k, s, hk, rfl, hs, rfl, rfl, hT, hI⟩ := hrel
      have HS := Lib.hid hs
      have HI := Lib.hid hI
      clear hs hI
      by_cases hlt : k < len
      · obtain ⟨q, hq⟩ : ∃ q, l[k]? = some q := ⟨_, List.getElem?_eq_getElem (by omega)⟩
        have hcells := (hz.below hT.below).2.2
        have hqf := hzl k q hq
        rcases hcells with h0 | ⟨b, off, rfl, hbl, hcells⟩
        · omega
        · obtain ⟨c0, c1, c2, c3, c4, c5⟩ := hcells k q hq
          clear hcells
          have hpt := winv_val HI.out (by omega)
          obtain ⟨_, _, _, _, _, _, _, _, _, _, _, t0, t1, t2, t3, t4⟩ := hpt
          have HT := Lib.hid hT
          clear hT
          go_wp2_with fail
          refine (fits_any q _).mono ?_
          rintro e w5 ⟨rfl, hb5⟩
          have hA := (Blk.new wr 40 #[.int .u8 q.k, .int .u8 q.r, .int .u64 q.i, .int .i64 q.c, .int .i64 q.n, .int .u64 q.t]).below hb5 (by simp)
          have HT5 := Lib.hid ((HT.out.later ((Below.refl _ wr).alloc (Nat.le_refl _) _)).later hb5)
          clear hb5 c0 c1 c2 c3 c4 c5
          cases hf : fitB q
          · go_wp2_with fail
            go_ret
            exact ⟨rfl, HT5.out.below⟩
          · have HA := Lib.hid hA
            have d0 := hA.cell 0; have d1 := hA.cell 1; have d2 := hA.cell 2; have d3 := hA.cell 3; have d4 := hA.cell 4; have d5 := hA.cell 5
            simp only [List.getElem?_toArray, List.getElem?_cons_zero, List.getElem?_cons_succ] at d0 d1 d2 d3 d4 d5
            clear hA
            have hw := winv_step HI.out hf hqf (by omega)
            have HW := Lib.hid hw
            clear hw
            have hfn : 0 ≤ q.n ∧ q.n < 65536 := by unfold fitB at hf; have := of_decide_eq_true hf; omega
            obtain ⟨hn0, hn1⟩ := hfn
            have hk0 := hqf.1.1; have hk1 := hqf.1.2
            have hbm : wr.heap.size ≠ m := by have := HT.out.mb; have := HT.out.hW; omega
            obtain ⟨r, hr⟩ : ∃ r, q.k % 6 = r := ⟨_, rfl⟩
            have hr1 : 0 ≤ r := by omega
            have hr2 : r < 6 := by omega
            have HR := Lib.hid hr
            rcases (by omega : r = 0 ∨ r = 2 ∨ r = 3 ∨ r = 1 ∨ r = 4 ∨ r = 5) with rfl | rfl | rfl | rfl | rfl | rfl
            · have hws : wstep s q = ⟨tellB s.B q.c (cameL q.n), s.C ++ [q], s.D, s.put + q.n, s.taken⟩ := by unfold wstep; rw [if_pos HR.out]
              have hs2 : wstep s q = wfold l (k + 1) := by rw [wfold_succ hq, ← HS.out]
              rw [hws] at hs2
              have HS2 := Lib.hid hs2
              clear hs2
              rw [hws] at HW
              clear hws
              go_wp2_with fail
              refine (came_any g m _ _ _ _ _ _ HT5.out.book hqf.2.1 hqf.2.2 (by have := HI.out.len; omega)).mono ?_
              rintro e w6 ⟨rfl, hT6⟩
              have HT6 := Lib.hid (HT5.out.told hT6)
              have HA6 := Lib.hid (HA.out.grown hT6.grown (by simp [hbm]))
              clear hT6 d0 d1 d2 d3 d4 d5
              have d2 := HA6.out.cell 2; have d3 := HA6.out.cell 3; have d4 := HA6.out.cell 4; have d5 := HA6.out.cell 5
              simp only [List.getElem?_toArray, List.getElem?_cons_zero, List.getElem?_cons_succ] at d2 d3 d4 d5
              have ha7 := HT6.out.later ((Below.refl _ w6).alloc (Nat.le_refl _) (.cells (pkC q).toArray 24))
              obtain ⟨v7, w7, hr7, hq7, hg7, hv7⟩ := ha7.qc.append 37 w6.heap.size q (Blk.new w6 _ _) ha7.hW (by dsimp only; omega)
              have HX := Lib.hid (ha7.appC hq7 hg7 hv7)
              have e6 := (HA6.out.alloc (.cells (pkC q).toArray 24)).grown hg7 (fun e => by have := (ha7.qc.block _ e.symm).2.2; obtain ⟨cur, hc⟩ := this; have hx := HA6.out.alloc (.cells (pkC q).toArray 24); unfold Blk at hx; rw [hx] at hc; cases hc)
              have f2 := e6.cell 4
              simp only [List.getElem?_toArray, List.getElem?_cons_zero, List.getElem?_cons_succ] at f2
              clear ha7 hq7 hg7 hv7 e6
              unfold pkC at hr7
              have HR7 := Lib.hid hr7
              clear hr7
              obtain ⟨x1, x2, x3, x5, hv, y0, y1, y2, y3, y4, y5, y6, y7, y8, y9, y10⟩ := winv_val HW.out (by omega)
              try dsimp only at hv y0 y1 y2 y3 y4 y5 y6 y7 y8 y9 y10
              have HV := Lib.hid hv
              clear hv
              obtain ⟨p4, e4, h4⟩ := HX.out.qc.form
              obtain ⟨p5, e5, h5⟩ := HX.out.qd.form
              try dsimp only at h4 h5
              subst h4 h5
              go_wp2_with (at_builtin; refine wpList_append_run rfl _ _ _ rfl _ _ _ rfl rfl HR7.out ?_)
              refine (get_any g m _ 0 _ HX.out.book (by decide)).mono ?_
              rintro e wz ⟨rfl, hbz⟩
              try dsimp only
              rw [HV.out]
              have HZ := fun o => Lib.hid (HX.out.later (hbz.trans (((Below.refl _ wz).alloc (Nat.le_refl _) o).mono hbz.size)))
              clear hbz
              go_wp2_with fail
              go_roundw
              case rel => exact ⟨k + 1, _, by omega, by go_num, HS2.out, rfl, rfl, WAt.as (HZ _).out rfl rfl rfl (by first | (simp; done) | (simp [hC]; done)) (by first | (simp; done) | (simp [hD]; done)), HW.out⟩
              case measure => simp [intOf]; omega
            · cases hC : s.C with
              | nil =>
                have hCl : s.C.length = 0 := by rw [hC]; rfl
                have HCL := Lib.hid hCl
                clear hCl
                have hws : wstep s q = s := by unfold wstep; rw [if_neg (by rw [HR.out]; omega), if_pos HR.out]; simp [hC]
                have hs2 : wstep s q = wfold l (k + 1) := by rw [wfold_succ hq, ← HS.out]
                rw [hws] at hs2
                have HS2 := Lib.hid hs2
                rw [hws] at HW
                clear hs2 hws
                have HX := HT5
                obtain ⟨x1, x2, x3, x5, hv, y0, y1, y2, y3, y4, y5, y6, y7, y8, y9, y10⟩ := winv_val HW.out (by omega)
                have HV := Lib.hid hv
                clear hv
                obtain ⟨p4, e4, h4⟩ := HX.out.qc.form
                obtain ⟨p5, e5, h5⟩ := HX.out.qd.form
                subst h4 h5
                go_wp2_with fail
                refine (get_any g m _ 0 _ HX.out.book (by decide)).mono ?_
                rintro e wz ⟨rfl, hbz⟩
                rw [HV.out]
                have HZ := fun o => Lib.hid (HX.out.later (hbz.trans (((Below.refl _ wz).alloc (Nat.le_refl _) o).mono hbz.size)))
                clear hbz
                go_wp2_with fail
                go_roundw
                case rel => exact ⟨k + 1, _, by omega, by go_num, HS2.out, rfl, rfl, WAt.as (HZ _).out rfl rfl rfl (by first | (simp; done) | (simp [hC]; done)) (by first | (simp; done) | (simp [hD]; done)), HW.out⟩
                case measure => simp [intOf]; omega
              | cons p rest =>
                have hws : wstep s q = ⟨tellB s.B p.c (chosenL p.n q.r), rest, s.D ++ [p], s.put, s.taken + p.n⟩ := by unfold wstep; rw [if_neg (by rw [HR.out]; omega), if_pos HR.out, hC]
                have hs2 : wstep s q = wfold l (k + 1) := by rw [wfold_succ hq, ← HS.out]
                rw [hws] at hs2
                have HS2 := Lib.hid hs2
                rw [hws] at HW
                clear hs2 hws
                have hpm : p ∈ s.C := by rw [hC]; simp
                have hpf := HI.out.hC p hpm
                have hpw := HI.out.wf.1 p hpm
                have hpn : 0 ≤ p.n ∧ p.n < 65536 := by unfold fitB at hpf; have := of_decide_eq_true hpf; omega
                obtain ⟨pn0, pn1⟩ := hpn
                have HPW := Lib.hid hpw
                clear hpf hpw hpm
                have hqc := HT5.out.qc
                rw [hC] at hqc
                rcases hqc with ⟨_, h0⟩ | ⟨gq, oq, capq, cur, hv4, hge, hcur, hcl, hcm, hcs, hel⟩
                · cases h0
                have hqc2 : QAt w5 w2.heap.size (.slice (some ⟨gq, oq, none⟩) (rest.length + 1) capq) (p :: rest) := .inr ⟨gq, oq, capq, cur, by simp, hge, hcur, hcl, hcm, hcs, hel⟩
                have hgq : gq < w5.heap.size := (Array.getElem?_eq_some_iff.1 hcur).1
                simp only [List.length_cons] at hv4 hcl
                subst hv4
                have HQ := Lib.hid hqc2
                have k0 := HQ.out.cell 0 _ (by rfl); have k1 := HQ.out.cell 1 _ (by rfl); have k2 := HQ.out.cell 2 _ (by rfl); have k3 := HQ.out.cell 3 _ (by rfl)
                simp only [Nat.add_zero] at k0
                have o0 := fun e => (over_cell (w := w5) (e := e) hgq).trans k0
                have o1 := fun e => (over_cell (w := w5) (e := e) hgq).trans k1
                have o2 := fun e => (over_cell (w := w5) (e := e) hgq).trans k2
                have o3 := fun e => (over_cell (w := w5) (e := e) hgq).trans k3
                have o4 := fun e => (over_cell (w := w5) (e := e) HA.out.lt).trans d1
                have hlp : decide ((0 : Int) < (rest.length : Int) + 1) = true := decide_eq_true (by omega)
                clear hqc2 hcur hel hcs
                go_wp2_with fail
                refine wp_region_over_tail 6 (by kernel_rfl) (by kernel_rfl) ?_
                simp only [List.take_succ_cons, List.take_zero, List.drop_succ_cons, List.drop_zero]
                repeat (first | go_big_quiet_skip | (go_big_quiet_want; go_big_quiet_op; go_big_quiet_on))
                refine wpQuiet_nil ?_
                rintro W6 ⟨e6, he6⟩
                have hb6 := over_below w5 e6
                rw [← he6] at hb6
                clear he6 o0 o1 o2 o3 o4 k0 k1 k2 k3
                have HB6 := Lib.hid hb6
                clear hb6
                go_wp2_with fail
                refine (chosen_any g m _ _ _ _ _ _ _ (HT5.out.later HB6.out).book HPW.out.2.1 HPW.out.2.2 (by have := HI.out.len; omega)).mono ?_
                rintro e w6 ⟨rfl, hT6⟩
                have hr6 : m ≠ gq := by have := HT5.out.mb; omega
                have HT6 := Lib.hid ((HT5.out.later HB6.out).told hT6)
                have HQ6 := Lib.hid ((HQ.out.kept (grown_none HB6.out) (by simp [Value.ownBlock])).kept hT6.grown (.inr (by simp [Value.ownBlock]; omega)))
                have hgq6 : gq < w6.heap.size := by have := HB6.out.size; have := hT6.grown.size; omega
                clear hT6 d0 d1 d2 d3 d4 d5
                have k0 := HQ6.out.cell 0 _ (by rfl); have k1 := HQ6.out.cell 1 _ (by rfl); have k2 := HQ6.out.cell 2 _ (by rfl); have k3 := HQ6.out.cell 3 _ (by rfl)
                simp only [Nat.add_zero] at k0
                have ha7 := HT6.out.later ((Below.refl _ w6).alloc (Nat.le_refl _) (.cells (pkC p).toArray 24))
                obtain ⟨v7, w7, hr7, hq7, hg7, hv7⟩ := ha7.qd.append 37 w6.heap.size p (Blk.new w6 _ _) ha7.hW (by dsimp only; omega)
                have hx7 := ha7.appD hq7 hg7 hv7
                try dsimp only at hx7
                clear ha7 hq7 hg7 hv7
                unfold pkC at hr7
                have HR7 := Lib.hid hr7
                clear hr7
                by_cases hc1 : 1 < capq
                · have hqx := hx7.qc
                  try dsimp only at hqx
                  rw [hC] at hqx
                  have hqx2 := hqx.pop hc1
                  have HX := Lib.hid (WAt.cut hx7 hqx2 rfl)
                  clear hx7 hqx hqx2
                  obtain ⟨x1, x2, x3, x5, hv, y0, y1, y2, y3, y4, y5, y6, y7, y8, y9, y10⟩ := winv_val HW.out (by omega)
                  try dsimp only at hv y0 y1 y2 y3 y4 y5 y6 y7 y8 y9 y10
                  have HV := Lib.hid hv
                  clear hv
                  obtain ⟨p4, e4, h4⟩ := HX.out.qc.form
                  obtain ⟨p5, e5, h5⟩ := HX.out.qd.form
                  try dsimp only at h4 h5
                  subst h5
                  go_wp2_with (at_builtin; refine wpList_append_run rfl _ _ _ rfl _ _ _ rfl rfl HR7.out ?_)
                  refine (get_any g m _ 0 _ HX.out.book (by decide)).mono ?_
                  rintro e wz ⟨rfl, hbz⟩
                  try dsimp only
                  rw [HV.out]
                  have HZ := fun o => Lib.hid (HX.out.later (hbz.trans (((Below.refl _ wz).alloc (Nat.le_refl _) o).mono hbz.size)))
                  clear hbz
                  go_wp2_with fail
                  go_roundw
                  case rel => exact ⟨k + 1, _, by omega, by go_num, HS2.out, rfl, rfl, WAt.as (HZ _).out rfl rfl rfl (by first | (simp; done) | (simp [hC]; done)) (by first | (simp; done) | (simp [hD]; done)), HW.out⟩
                  case measure => simp [intOf]; omega
                · obtain rfl : capq = 1 := by omega
                  have hqx := hx7.qc
                  try dsimp only at hqx
                  rw [hC] at hqx
                  obtain ⟨hr0, hqx2⟩ := hqx.pop1
                  subst hr0
                  have HX := Lib.hid (WAt.cut hx7 hqx2 rfl)
                  clear hx7 hqx hqx2
                  obtain ⟨x1, x2, x3, x5, hv, y0, y1, y2, y3, y4, y5, y6, y7, y8, y9, y10⟩ := winv_val HW.out (by omega)
                  try dsimp only at hv y0 y1 y2 y3 y4 y5 y6 y7 y8 y9 y10
                  have HV := Lib.hid hv
                  clear hv
                  obtain ⟨p4, e4, h4⟩ := HX.out.qc.form
                  obtain ⟨p5, e5, h5⟩ := HX.out.qd.form
                  try dsimp only at h4 h5
                  subst h5
                  go_wp2_with (at_builtin; refine wpList_append_run rfl _ _ _ rfl _ _ _ rfl rfl HR7.out ?_)
                  refine (get_any g m _ 0 _ HX.out.book (by decide)).mono ?_
                  rintro e wz ⟨rfl, hbz⟩
                  try dsimp only
                  rw [HV.out]
                  have HZ := fun o => Lib.hid (HX.out.later (hbz.trans (((Below.refl _ wz).alloc (Nat.le_refl _) o).mono hbz.size)))
                  clear hbz
                  go_wp2_with fail
                  go_roundw
                  case rel => exact ⟨k + 1, _, by omega, by go_num, HS2.out, rfl, rfl, WAt.as (HZ _).out rfl rfl rfl (by first | (simp; done) | (simp [hC]; done)) (by first | (simp; done) | (simp [hD]; done)), HW.out⟩
                  case measure => simp [intOf]; omega
            · cases hD : s.D with
              | nil =>
                have hws : wstep s q = s := by unfold wstep; rw [if_neg (by rw [HR.out]; omega), if_neg (by rw [HR.out]; omega), if_pos HR.out]; simp [hD]
                have hs2 : wstep s q = wfold l (k + 1) := by rw [wfold_succ hq, ← HS.out]
                rw [hws] at hs2
                have HS2 := Lib.hid hs2
                rw [hws] at HW
                clear hs2 hws
                have HX := HT5
                obtain ⟨x1, x2, x3, x5, hv, y0, y1, y2, y3, y4, y5, y6, y7, y8, y9, y10⟩ := winv_val HW.out (by omega)
                have HV := Lib.hid hv
                clear hv
                obtain ⟨p4, e4, h4⟩ := HX.out.qc.form
                obtain ⟨p5, e5, h5⟩ := HX.out.qd.form
                subst h4 h5
                go_wp2_with fail
                refine (get_any g m _ 0 _ HX.out.book (by decide)).mono ?_
                rintro e wz ⟨rfl, hbz⟩
                rw [HV.out]
                have HZ := fun o => Lib.hid (HX.out.later (hbz.trans (((Below.refl _ wz).alloc (Nat.le_refl _) o).mono hbz.size)))
                clear hbz
                go_wp2_with fail
                go_roundw
                case rel => exact ⟨k + 1, _, by omega, by go_num, HS2.out, rfl, rfl, WAt.as (HZ _).out rfl rfl rfl (by first | (simp; done) | (simp [hC]; done)) (by first | (simp; done) | (simp [hD]; done)), HW.out⟩
                case measure => simp [intOf]; omega
              | cons p rest =>
                have hws : wstep s q = ⟨tellB s.B p.c (throughL p.n), s.C, rest, s.put, s.taken⟩ := by unfold wstep; rw [if_neg (by rw [HR.out]; omega), if_neg (by rw [HR.out]; omega), if_pos HR.out, hD]
                have hs2 : wstep s q = wfold l (k + 1) := by rw [wfold_succ hq, ← HS.out]
                rw [hws] at hs2
                have HS2 := Lib.hid hs2
                rw [hws] at HW
                clear hs2 hws
                have hpm : p ∈ s.D := by rw [hD]; simp
                have hpw := HI.out.wf.2 p hpm
                have HPW := Lib.hid hpw
                clear hpw hpm
                have hqc := HT5.out.qd
                rw [hD] at hqc
                rcases hqc with ⟨_, h0⟩ | ⟨gq, oq, capq, cur, hv4, hge, hcur, hcl, hcm, hcs, hel⟩
                · cases h0
                have hqc2 : QAt w5 w2.heap.size (.slice (some ⟨gq, oq, none⟩) (rest.length + 1) capq) (p :: rest) := .inr ⟨gq, oq, capq, cur, by simp, hge, hcur, hcl, hcm, hcs, hel⟩
                simp only [List.length_cons] at hv4 hcl
                subst hv4
                have HQ := Lib.hid hqc2
                have k0 := HQ.out.cell 0 _ (by rfl); have k1 := HQ.out.cell 1 _ (by rfl); have k2 := HQ.out.cell 2 _ (by rfl); have k3 := HQ.out.cell 3 _ (by rfl)
                simp only [Nat.add_zero] at k0
                have hlp : decide ((0 : Int) < (rest.length : Int) + 1) = true := decide_eq_true (by omega)
                clear hqc2 hcur hel hcs
                go_wp2_with fail
                refine (through_any g m _ _ _ _ _ _ HT5.out.book HPW.out.2.1 HPW.out.2.2 (by have := HI.out.len; omega)).mono ?_
                rintro e w6 ⟨rfl, hT6⟩
                have hx7 := HT5.out.told hT6
                try dsimp only at hx7
                clear hT6 d0 d1 d2 d3 d4 d5 k0 k1 k2 k3
                by_cases hc1 : 1 < capq
                · have hqx := hx7.qd
                  try dsimp only at hqx
                  rw [hD] at hqx
                  have hqx2 := hqx.pop hc1
                  have HX := Lib.hid (WAt.cutD hx7 hqx2 rfl)
                  clear hx7 hqx hqx2
                  obtain ⟨x1, x2, x3, x5, hv, y0, y1, y2, y3, y4, y5, y6, y7, y8, y9, y10⟩ := winv_val HW.out (by omega)
                  try dsimp only at hv y0 y1 y2 y3 y4 y5 y6 y7 y8 y9 y10
                  have HV := Lib.hid hv
                  clear hv
                  obtain ⟨p4, e4, h4⟩ := HX.out.qc.form
                  obtain ⟨p5, e5, h5⟩ := HX.out.qd.form
                  try dsimp only at h4 h5
                  subst h4
                  go_wp2_with fail
                  refine (get_any g m _ 0 _ HX.out.book (by decide)).mono ?_
                  rintro e wz ⟨rfl, hbz⟩
                  try dsimp only
                  rw [HV.out]
                  have HZ := fun o => Lib.hid (HX.out.later (hbz.trans (((Below.refl _ wz).alloc (Nat.le_refl _) o).mono hbz.size)))
                  clear hbz
                  go_wp2_with fail
                  go_roundw
                  case rel => exact ⟨k + 1, _, by omega, by go_num, HS2.out, rfl, rfl, WAt.as (HZ _).out rfl rfl rfl (by first | (simp; done) | (simp [hC]; done)) (by first | (simp; done) | (simp [hD]; done)), HW.out⟩
                  case measure => simp [intOf]; omega
                · obtain rfl : capq = 1 := by omega
                  have hqx := hx7.qd
                  try dsimp only at hqx
                  rw [hD] at hqx
                  obtain ⟨hr0, hqx2⟩ := hqx.pop1
                  subst hr0
                  have HX := Lib.hid (WAt.cutD hx7 hqx2 rfl)
                  clear hx7 hqx hqx2
                  obtain ⟨x1, x2, x3, x5, hv, y0, y1, y2, y3, y4, y5, y6, y7, y8, y9, y10⟩ := winv_val HW.out (by omega)
                  try dsimp only at hv y0 y1 y2 y3 y4 y5 y6 y7 y8 y9 y10
                  have HV := Lib.hid hv
                  clear hv
                  obtain ⟨p4, e4, h4⟩ := HX.out.qc.form
                  obtain ⟨p5, e5, h5⟩ := HX.out.qd.form
                  try dsimp only at h4 h5
                  subst h4
                  go_wp2_with fail
                  refine (get_any g m _ 0 _ HX.out.book (by decide)).mono ?_
                  rintro e wz ⟨rfl, hbz⟩
                  try dsimp only
                  rw [HV.out]
                  have HZ := fun o => Lib.hid (HX.out.later (hbz.trans (((Below.refl _ wz).alloc (Nat.le_refl _) o).mono hbz.size)))
                  clear hbz
                  go_wp2_with fail
                  go_roundw
                  case rel => exact ⟨k + 1, _, by omega, by go_num, HS2.out, rfl, rfl, WAt.as (HZ _).out rfl rfl rfl (by first | (simp; done) | (simp [hC]; done)) (by first | (simp; done) | (simp [hD]; done)), HW.out⟩
                  case measure => simp [intOf]; omega
            · have hws : wstep s q = s := by unfold wstep; rw [if_neg (by rw [HR.out]; omega), if_neg (by rw [HR.out]; omega), if_neg (by rw [HR.out]; omega)]
              have hs2 : wstep s q = wfold l (k + 1) := by rw [wfold_succ hq, ← HS.out]
              rw [hws] at hs2
              have HS2 := Lib.hid hs2
              rw [hws] at HW
              clear hs2 hws
              have HX := HT5
              obtain ⟨x1, x2, x3, x5, hv, y0, y1, y2, y3, y4, y5, y6, y7, y8, y9, y10⟩ := winv_val HW.out (by omega)
              have HV := Lib.hid hv
              clear hv
              obtain ⟨p4, e4, h4⟩ := HX.out.qc.form
              obtain ⟨p5, e5, h5⟩ := HX.out.qd.form
              subst h4 h5
              go_wp2_with fail
              refine (get_any g m _ 0 _ HX.out.book (by decide)).mono ?_
              rintro e wz ⟨rfl, hbz⟩
              rw [HV.out]
              have HZ := fun o => Lib.hid (HX.out.later (hbz.trans (((Below.refl _ wz).alloc (Nat.le_refl _) o).mono hbz.size)))
              clear hbz
              go_wp2_with fail
              go_roundw
              case rel => exact ⟨k + 1, _, by omega, by go_num, HS2.out, rfl, rfl, WAt.as (HZ _).out rfl rfl rfl (by first | (simp; done) | (simp [hC]; done)) (by first | (simp; done) | (simp [hD]; done)), HW.out⟩
              case measure => simp [intOf]; omega
            · have hws : wstep s q = s := by unfold wstep; rw [if_neg (by rw [HR.out]; omega), if_neg (by rw [HR.out]; omega), if_neg (by rw [HR.out]; omega)]
              have hs2 : wstep s q = wfold l (k + 1) := by rw [wfold_succ hq, ← HS.out]
              rw [hws] at hs2
              have HS2 := Lib.hid hs2
              rw [hws] at HW
              clear hs2 hws
              have HX := HT5
              obtain ⟨x1, x2, x3, x5, hv, y0, y1, y2, y3, y4, y5, y6, y7, y8, y9, y10⟩ := winv_val HW.out (by omega)
              have HV := Lib.hid hv
              clear hv
              obtain ⟨p4, e4, h4⟩ := HX.out.qc.form
              obtain ⟨p5, e5, h5⟩ := HX.out.qd.form
              subst h4 h5
              go_wp2_with fail
              refine (get_any g m _ 0 _ HX.out.book (by decide)).mono ?_
              rintro e wz ⟨rfl, hbz⟩
              rw [HV.out]
              have HZ := fun o => Lib.hid (HX.out.later (hbz.trans (((Below.refl _ wz).alloc (Nat.le_refl _) o).mono hbz.size)))
              clear hbz
              go_wp2_with fail
              go_roundw
              case rel => exact ⟨k + 1, _, by omega, by go_num, HS2.out, rfl, rfl, WAt.as (HZ _).out rfl rfl rfl (by first | (simp; done) | (simp [hC]; done)) (by first | (simp; done) | (simp [hD]; done)), HW.out⟩
              case measure => simp [intOf]; omega
            · have hws : wstep s q = s := by unfold wstep; rw [if_neg (by rw [HR.out]; omega), if_neg (by rw [HR.out]; omega), if_neg (by rw [HR.out]; omega)]
              have hs2 : wstep s q = wfold l (k + 1) := by rw [wfold_succ hq, ← HS.out]
              rw [hws] at hs2
              have HS2 := Lib.hid hs2
              rw [hws] at HW
              clear hs2 hws
              have HX := HT5
              obtain ⟨x1, x2, x3, x5, hv, y0, y1, y2, y3, y4, y5, y6, y7, y8, y9, y10⟩ := winv_val HW.out (by omega)
              have HV := Lib.hid hv
              clear hv
              obtain ⟨p4, e4, h4⟩ := HX.out.qc.form
              obtain ⟨p5, e5, h5⟩ := HX.out.qd.form
              subst h4 h5
              go_wp2_with fail
              refine (get_any g m _ 0 _ HX.out.book (by decide)).mono ?_
              rintro e wz ⟨rfl, hbz⟩
              rw [HV.out]
              have HZ := fun o => Lib.hid (HX.out.later (hbz.trans (((Below.refl _ wz).alloc (Nat.le_refl _) o).mono hbz.size)))
              clear hbz
              go_wp2_with fail
              go_roundw
              case rel => exact ⟨k + 1, _, by omega, by go_num, HS2.out, rfl, rfl, WAt.as (HZ _).out rfl rfl rfl (by first | (simp; done) | (simp [hC]; done)) (by first | (simp; done) | (simp [hD]; done)), HW.out⟩
              case measure => simp [intOf]; omega
      · obtain rfl : k = len := by omega
        go_wp2_with fail
        go_ret
        exact ⟨rfl, hT.below⟩
end Go.Proofs.Ytfnocnknmpmaaaa
