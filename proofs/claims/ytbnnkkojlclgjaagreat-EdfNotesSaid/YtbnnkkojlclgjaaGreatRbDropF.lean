/-
  A left-leaning tree of red and black nodes in memory: the least one goes, one that is there goes. (Printed by wip/mkllrbdrop.py.)
-/
import Derived.Test.YtbnnkkojlclgjaaGreatRbRed
import Derived.Deep.LoopGhost
namespace Go.Proofs.YtbnnkkojlclgjaaGreat
set_option linter.unusedVariables false
open Go.RowKit
attribute [local go_sem ↓] Go.wp_at_zero Go.wp_at_succ
attribute [local go_sem] quietR quietAtR quietUponR midAt midUpon

theorem less_of_perm {l l' : List Nat} {x : Nat} (h : l.Perm (x :: l')) (hn : l.Nodup) : l'.Nodup ∧ ∀ y ∈ l', y ∈ l :=
  ⟨(List.nodup_cons.1 (h.nodup_iff.1 hn)).2, fun y hy => h.mem_iff.2 (.tail _ hy)⟩
theorem setR_node {t r' : RB} (h : t ≠ .nil) : ∃ a k v s c l r, t = .node a k v s c l r ∧ setR t r' = .node a k v s c l r' := by
  cases t with
  | nil => exact absurd rfl h
  | node a k v s c l r => exact ⟨a, k, v, s, c, l, r, rfl, rfl⟩

set_option maxRecDepth 100000 in
set_option maxHeartbeats 8000000 in
theorem dropF_any (g : Nat) (p : Value) (n : Int) : ∀ (m : Nat) (t t' : RB) (w : World), BalS w w g p n (addrs t) t → dropF m t = some t' →
    Calls Tryz.prog 103 #[.pointer (some ⟨g, 0, none⟩), ptrV t] w (TurnW w (addrs t) t') := by
  intro m
  induction m with
  | zero => intro t t' w _ e; cases e
  | succ m ih =>
    intro t t' w h e
    cases t with
    | nil => cases e
    | node a k v s c l r =>
    have ev : ptrV (.node a k v s c l r) = .pointer (some ⟨a, 0, none⟩) := rfl
    rw [ev]
    have EV := Lib.hid ev
    clear ev
    by_cases hl : l = .nil
    · subst hl
      unfold dropF at e
      rw [if_pos (show adr .nil = none from rfl)] at e
      split at e
      · cases e
        have a6 := h.rb.1.cell 6
        unfold nodeC at a6
        simp only [List.getElem?_toArray, List.getElem?_cons_zero, List.getElem?_cons_succ] at a6
        have en : ptrV .nil = .pointer none := rfl
        rw [en] at a6
        have HE := Lib.hid (Fr.refl (fun x => x ∈ addrs (.node a k v s c .nil r)) w)
        clear h en
        go_enter Tryz.func103, Tryz.ntmps103
        go_wp2_with fail
        go_ret
        exact ⟨rfl, trivial, HE.out⟩
      · cases e
    · unfold dropF at e
      rw [if_neg (fun hh => hl (adr_none.1 hh))] at e
      obtain ⟨t1, e1, e⟩ := Option.bind_eq_some_iff.1 e
      obtain ⟨l', e2, e3⟩ := Option.bind_eq_some_iff.1 e
      have EG := Lib.hid e1
      have E := Lib.hid (And.intro e2 e3)
      have H0N := Lib.hid hl
      obtain ⟨S, hS⟩ : ∃ S, S = addrs (.node a k v s c l r) := ⟨_, rfl⟩
      rw [← hS] at h ⊢
      have H0 := Lib.hid h
      have a6 := h.rb.1.cell 6
      unfold nodeC at a6
      simp only [List.getElem?_toArray, List.getElem?_cons_zero, List.getElem?_cons_succ] at a6
      obtain ⟨bb, kk, vv, ss, cc, ll, rr, hch⟩ := node_of hl
      have el : ptrV l = .pointer (some ⟨bb, 0, none⟩) := by rw [hch]; rfl
      rw [el] at a6
      clear e e1 e2 e3 hl hS h hch el
      go_enter Tryz.func103, Tryz.ntmps103
      go_upto_region 3 with fail
      clear a6
      go_cut [26] from 10 to 26 (fun vc wx => Cnd (isR l = false ∧ isR (lft l) = false) w vc wx)
      case first =>
        have a6 := H0.out.rb.1.cell 6
        unfold nodeC at a6
        simp only [List.getElem?_toArray, List.getElem?_cons_zero, List.getElem?_cons_succ] at a6
        obtain ⟨bb, kk, vv, ss, cc, ll, rr, hch⟩ := node_of H0N.out
        have hrb := H0.out.rb.2.1
        rw [hch] at hrb
        have b6 := hrb.1.cell 6
        unfold nodeC at b6
        simp only [List.getElem?_toArray, List.getElem?_cons_zero, List.getElem?_cons_succ] at b6
        have hil := is_any l w H0.out.rb.2.1
        have hill := is_any ll w hrb.2.1
        have el : ptrV l = .pointer (some ⟨bb, 0, none⟩) := by rw [hch]; rfl
        rw [el] at a6 hil
        have HCH := Lib.hid hch
        cases hl : isR l with
        | true =>
          rw [hl] at hil
          have HRR := Lib.hid hl
          clear hl el hch hrb
          go_wp2_with fail
          refine hil.mono ?_
          rintro e w1 ⟨rfl, rfl⟩
          go_wp2_with fail
          go_meet
          exact ⟨_, rfl, by rw [HRR.out]; simp, rfl⟩
        | false =>
          rw [hl] at hil
          have HRR := Lib.hid hl
          clear hl el hch hrb
          go_wp2_with fail
          refine hil.mono ?_
          rintro e w1 ⟨rfl, rfl⟩
          go_wp2_with fail
          refine hill.mono ?_
          rintro e w1 ⟨rfl, rfl⟩
          go_wp2_with fail
          go_meet
          exact ⟨_, rfl, by rw [HRR.out, HCH.out, lft_node]; simp, rfl⟩
      case rest =>
        obtain ⟨cb, rfl, hcb, hwc⟩ := hcut
        rw [hwc]
        clear hwc
        have HC := Lib.hid hcb
        clear hcb
        go_upto_if 26 with fail
        go_cut [1] from 27 to 29 (fun vx wx => BalR w g p n S (goL (.node a k v s c l r)) vx wx)
        case first =>
          cases cb with
          | false =>
            have HB := Lib.hid (show goL (.node a k v s c l r) = some (.node a k v s c l r) by
              obtain ⟨bb, kk, vv, ss, cc, ll, rr, hch⟩ := node_of H0N.out
              have hh := fun hx => Bool.false_ne_true (HC.out.2 hx)
              unfold goL
              rw [lft_node]
              rw [hch] at hh ⊢
              exact if_neg (fun hx => hh ⟨hx.1, hx.2⟩))
            go_wp2_with fail
            go_meet
            exact ⟨_, HB.out, EV.out.symm, H0.out⟩
          | true =>
            have HB := Lib.hid (show goL (.node a k v s c l r) = redL (.node a k v s c l r) by
              obtain ⟨bb, kk, vv, ss, cc, ll, rr, hch⟩ := node_of H0N.out
              have hh := HC.out.1 rfl
              unfold goL
              rw [lft_node]
              rw [hch] at hh ⊢
              exact if_pos ⟨hh.1, hh.2⟩)
            have hred := redL_any g p n (.node a k v s c l r) t1 w ⟨H0.out.tree, H0.out.rb, H0.out.nd, fun _ h => h, Fr.refl _ _⟩ (by rw [← HB.out]; exact EG.out)
            rw [EV.out] at hred
            go_wp2_with fail
            refine hred.mono ?_
            clear hred
            rintro e w1 ⟨rfl, hr1, hf1⟩
            have H9 := Lib.hid (H0.out.turn (goL_same EG.out).1.addr hr1 hf1)
            clear hr1 hf1
            go_wp2_with fail
            go_meet
            exact ⟨_, EG.out, rfl, H9.out⟩
        case rest =>
          obtain ⟨tq, e1, rfl, hb1⟩ := hcut
          rw [EG.out] at e1
          obtain rfl : t1 = tq := Option.some.inj e1
          obtain ⟨W1, rfl⟩ : ∃ W, W = wc := ⟨_, rfl⟩
          have H1 := Lib.hid hb1
          clear hb1 e1 H0 EV
          have hne : t1 ≠ .nil := by
            rintro rfl
            have e2 := E.out.1
            cases m <;> cases e2
          cases t1 with
          | nil => exact absurd rfl hne
          | node a1 k1 v1 s1 c1 l1 r1 =>
          have e2 : dropF m l1 = some l' := E.out.1
          have e3 : bal (.node a1 k1 v1 s1 c1 l' r1) = some t' := E.out.2
          obtain ⟨_, ⟨x, hx⟩, _⟩ := dropF_list m l1 l' e2
          have hsub := less_of_perm hx (nd_left H1.out.nd)
          have hrec := ih l1 l' W1 ⟨H1.out.tree, H1.out.rb.2.1, nd_left H1.out.nd, fun _ h => h, Fr.refl _ _⟩ e2
          have HE := Lib.hid (And.intro e3 hsub)
          have a6 := H1.out.rb.1.cell 6
          unfold nodeC at a6
          simp only [List.getElem?_toArray, List.getElem?_cons_zero, List.getElem?_cons_succ] at a6
          obtain ⟨q0, hq0⟩ : ∃ q, ptrV l1 = .pointer q := ⟨_, rfl⟩
          rw [hq0] at a6 hrec
          have HQ := Lib.hid hq0
          have ev : ptrV (.node a1 k1 v1 s1 c1 l1 r1) = .pointer (some ⟨a1, 0, none⟩) := rfl
          rw [ev]
          clear ev hne e2 e3 hx hsub E EG hq0
          go_wp2_with fail
          refine hrec.mono ?_
          clear hrec a6
          rintro e W2 ⟨rfl, hr2, hf2⟩
          obtain ⟨q, hq⟩ : ∃ q, ptrV l' = .pointer q := ⟨_, rfl⟩
          obtain ⟨hb2, hB2⟩ := child_left H1.out HE.out.2.1 HE.out.2.2 hr2 hf2 hq.symm
          rw [hq]
          have H2 := Lib.hid hb2
          have c6 := hB2.cell 6; have f6 := hB2.frozen 6
          unfold nodeC at c6
          simp only [List.getElem?_toArray, List.getElem?_cons_zero, List.getElem?_cons_succ] at c6
          rw [HQ.out] at c6
          clear hr2 hf2 hq hb2 hB2
          go_upto_region 6 with fail
          generalize W2.setCell ⟨a1, 6, none⟩ (.pointer q) = W3 at H2 ⊢
          clear c6 f6 H1
          have hbal := balance_any g p n _ t' W3 H2.out.tree H2.out.rb H2.out.nd HE.out.1
          have ea : ptrV (.node a1 k1 v1 s1 c1 l' r1) = .pointer (some ⟨a1, 0, none⟩) := rfl
          rw [ea] at hbal
          clear ea
          go_wp2_with fail
          refine hbal.mono ?_
          clear hbal
          rintro e W4 ⟨rfl, hr4, hf4⟩
          have H4 := Lib.hid (H2.out.turn (bal_same HE.out.1).1.addr hr4 hf4)
          clear hr4 hf4 H2
          go_wp2_with fail
          go_ret
          exact ⟨rfl, H4.out.rb, H4.out.fr⟩
end Go.Proofs.YtbnnkkojlclgjaaGreat
