/-
  A left-leaning tree of red and black nodes in memory: a node is made well again.
-/
import Derived.Test.YtbnnkkojlclgjaaGreatRbFlip
namespace Go.Proofs.YtbnnkkojlclgjaaGreat
set_option linter.unusedVariables false
open Go.RowKit
attribute [local go_sem ↓] Go.wp_at_zero Go.wp_at_succ
attribute [local go_sem] quietR quietAtR quietUponR midAt midUpon

/-- a tree under way -/
structure BalS (w W : World) (g : Nat) (p : Value) (n : Int) (S : List Nat) (t : RB) : Prop where
  tree : Blk W g 129 (treeC p n)
  rb : RBAt W t
  nd : (addrs t).Nodup
  sub : ∀ x ∈ addrs t, x ∈ S
  fr : Fr (fun x => x ∈ S) w W
section
variable {w W W' : World} {g : Nat} {p : Value} {n : Int} {S : List Nat} {t t' : RB}
theorem BalS.later (h : BalS w W g p n S t) (hb : Below W.heap.size W W') : BalS w W' g p n S t :=
  ⟨h.tree.below hb h.tree.lt, h.rb.later hb, h.nd, h.sub, h.fr.trans (Fr.of_below hb)⟩
theorem BalS.turn (h : BalS w W g p n S t) (hs : (addrs t').Perm (addrs t)) (hr : RBAt W' t') (hf : Fr (fun x => x ∈ addrs t) W W') : BalS w W' g p n S t' :=
  ⟨h.tree.fr hf (RBAt.typed h.tree (by decide) h.rb), hr, hs.nodup_iff.2 h.nd, fun x hx => h.sub x (hs.mem_iff.1 hx), h.fr.trans (hf.weak fun x _ hx => h.sub x hx)⟩
end
def BalR (w : World) (g : Nat) (p : Value) (n : Int) (S : List Nat) (o : Option RB) (v : Value) (W : World) : Prop := ∃ t, o = some t ∧ v = ptrV t ∧ BalS w W g p n S t
def Cnd (P : Prop) (w : World) (v : Value) (W : World) : Prop := ∃ b : Bool, v = .bool b ∧ (b = true ↔ P) ∧ W = w
theorem is_eq (t : RB) (b : Bool) (hb : isR t = b) (w : World) (h : RBAt w t) : Calls Tryz.prog 90 #[ptrV t] w fun e w' => e = .returned (.bool b) ∧ w = w' := hb ▸ is_any t w h

set_option maxRecDepth 100000 in
set_option maxHeartbeats 4000000 in
theorem balance_any (g : Nat) (p : Value) (n : Int) (t t' : RB) (w : World) (hg : Blk w g 129 (treeC p n)) (h : RBAt w t) (hn : (addrs t).Nodup) (e : bal t = some t') :
    Calls Tryz.prog 100 #[.pointer (some ⟨g, 0, none⟩), ptrV t] w (TurnW w (addrs t) t') := by
  unfold bal at e
  obtain ⟨t1, e1, e⟩ := Option.bind_eq_some_iff.1 e
  obtain ⟨t2, e2, e⟩ := Option.bind_eq_some_iff.1 e
  obtain ⟨t3, e3, e4⟩ := Option.bind_eq_some_iff.1 e
  have H0 := Lib.hid (⟨hg, h, hn, fun _ hx => hx, Fr.refl _ _⟩ : BalS w w g p n (addrs t) t)
  have E := Lib.hid (And.intro e1 (And.intro e2 (And.intro e3 e4)))
  have hne : t ≠ .nil := by
    rintro rfl
    cases e1
    cases e2
    cases e3
    cases e4
  clear e e1 e2 e3 e4 hg h hn
  obtain ⟨S, hS⟩ : ∃ S, S = addrs t := ⟨_, rfl⟩
  rw [← hS] at H0 ⊢
  clear hS
  cases t with
  | nil => exact absurd rfl hne
  | node a k v s c l r =>
  clear hne
  have ev : ptrV (.node a k v s c l r) = .pointer (some ⟨a, 0, none⟩) := rfl
  rw [ev]
  have EV := Lib.hid ev
  clear ev
  go_enter Tryz.func100, Tryz.ntmps100
  go_upto_region 1 with fail
  go_cut [17] from 5 to 17 (fun vc wx => Cnd (isR r = true ∧ isR l = false) w vc wx)
  case first =>
    have a6 := H0.out.rb.1.cell 6; have a7 := H0.out.rb.1.cell 7
    unfold nodeC at a6 a7
    simp only [List.getElem?_toArray, List.getElem?_cons_zero, List.getElem?_cons_succ] at a6 a7
    cases hr : isR r with
    | false =>
      have hir := is_eq r _ hr w H0.out.rb.2.2; have HRR := Lib.hid hr
      clear hr
      go_wp2_with fail
      refine hir.mono ?_
      rintro e w1 ⟨rfl, rfl⟩
      go_wp2_with fail
      go_meet
      exact ⟨_, rfl, by rw [HRR.out]; simp, rfl⟩
    | true =>
      have hir := is_eq r _ hr w H0.out.rb.2.2; have HRR := Lib.hid hr
      have hil := is_eq l _ rfl w H0.out.rb.2.1
      clear hr
      go_wp2_with fail
      refine hir.mono ?_
      rintro e w1 ⟨rfl, rfl⟩
      go_wp2_with fail
      refine hil.mono ?_
      rintro e w1 ⟨rfl, rfl⟩
      go_wp2_with fail
      go_meet
      exact ⟨_, rfl, by rw [HRR.out]; simp, rfl⟩
  case rest =>
    obtain ⟨cb, rfl, hcb, hwc⟩ := hcut
    rw [hwc]
    clear hwc
    have HC := Lib.hid hcb
    clear hcb
    go_upto_if 17 with fail
    go_cut [1] from 18 to 20 (fun vx wx => BalR w g p n S (bal1 (.node a k v s c l r)) vx wx)
    case first =>
      cases cb with
      | false =>
        have HB := Lib.hid (show bal1 (.node a k v s c l r) = some (.node a k v s c l r) by unfold bal1; rw [rgt_node, lft_node, if_neg (fun hh => by have := HC.out.2 hh; cases this)])
        go_wp2_with fail
        go_meet
        exact ⟨_, HB.out, EV.out.symm, H0.out⟩
      | true =>
        have HB := Lib.hid (show bal1 (.node a k v s c l r) = rotL (.node a k v s c l r) by unfold bal1; rw [rgt_node, lft_node, if_pos (HC.out.1 rfl)])
        have hrot := rotL_any g p n (.node a k v s c l r) t1 w H0.out.tree H0.out.rb H0.out.nd (by rw [← HB.out]; exact E.out.1)
        rw [EV.out] at hrot
        go_wp2_with fail
        refine hrot.mono ?_
        clear hrot
        rintro e w1 ⟨rfl, hr1, hf1⟩
        have H1 := Lib.hid (H0.out.turn (rotL_same (by rw [← HB.out]; exact E.out.1)).1.addr hr1 hf1)
        clear hr1 hf1
        go_wp2_with fail
        go_meet
        exact ⟨_, E.out.1, rfl, H1.out⟩
    case rest =>
      obtain ⟨t1', e1, rfl, hb1⟩ := hcut
      have e1' := E.out.1
      rw [e1'] at e1
      obtain rfl : t1 = t1' := Option.some.inj e1
      obtain ⟨W1, rfl⟩ : ∃ W, W = wc := ⟨_, rfl⟩
      have H1 := Lib.hid hb1
      clear hb1 e1 e1' H0 EV
      have hne : t1 ≠ .nil := by
        rintro rfl
        have e2 := E.out.2.1; have e3 := E.out.2.2.1; have e4 := E.out.2.2.2
        cases e2
        cases e3
        cases e4
      cases t1 with
      | nil => exact absurd rfl hne
      | node a1 k1 v1 s1 c1 l1 r1 =>
      clear hne
      have ev : ptrV (.node a1 k1 v1 s1 c1 l1 r1) = .pointer (some ⟨a1, 0, none⟩) := rfl
      rw [ev]
      have EV := Lib.hid ev
      clear ev
      go_upto_region 3 with fail
      go_cut [35] from 21 to 35 (fun vc wx => Cnd (isR l1 = true ∧ isR (lft l1) = true) W1 vc wx)
      case first =>
        have a6 := H1.out.rb.1.cell 6
        unfold nodeC at a6
        simp only [List.getElem?_toArray, List.getElem?_cons_zero, List.getElem?_cons_succ] at a6
        cases hl : isR l1 with
        | false =>
          have hil := is_eq l1 _ hl W1 H1.out.rb.2.1; have HRR := Lib.hid hl
          clear hl
          go_wp2_with fail
          refine hil.mono ?_
          rintro e w1 ⟨rfl, rfl⟩
          go_wp2_with fail
          go_meet
          exact ⟨_, rfl, by rw [HRR.out]; simp, rfl⟩
        | true =>
          have hil := is_eq l1 _ hl W1 H1.out.rb.2.1; have HRR := Lib.hid hl
          cases l1 with
          | nil => cases hl
          | node b k2 v2 s2 c2 ll lr =>
          have b6 := H1.out.rb.2.1.1.cell 6
          unfold nodeC at b6
          simp only [List.getElem?_toArray, List.getElem?_cons_zero, List.getElem?_cons_succ] at b6
          have el : ptrV (.node b k2 v2 s2 c2 ll lr) = .pointer (some ⟨b, 0, none⟩) := rfl
          rw [el] at a6 hil
          clear el
          have hill := is_eq ll _ rfl W1 H1.out.rb.2.1.2.1
          have HL := Lib.hid hl
          clear hl
          go_wp2_with fail
          refine hil.mono ?_
          rintro e w1 ⟨rfl, rfl⟩
          go_wp2_with fail
          refine hill.mono ?_
          rintro e w1 ⟨rfl, rfl⟩
          go_wp2_with fail
          go_meet
          exact ⟨_, rfl, ⟨fun h => ⟨HL.out, h⟩, fun h => h.2⟩, rfl⟩
      case rest =>
        obtain ⟨cb, rfl, hcb, hwc⟩ := hcut
        rw [hwc]
        clear hwc
        have HC := Lib.hid hcb
        clear hcb
        go_upto_if 35 with fail
        go_cut [1] from 36 to 38 (fun vx wx => BalR w g p n S (bal2 (.node a1 k1 v1 s1 c1 l1 r1)) vx wx)
        case first =>
          cases cb with
          | false =>
            have HB := Lib.hid (show bal2 (.node a1 k1 v1 s1 c1 l1 r1) = some (.node a1 k1 v1 s1 c1 l1 r1) by unfold bal2; rw [lft_node, if_neg (fun hh => by have := HC.out.2 hh; cases this)])
            go_wp2_with fail
            go_meet
            exact ⟨_, HB.out, EV.out.symm, H1.out⟩
          | true =>
            have HB := Lib.hid (show bal2 (.node a1 k1 v1 s1 c1 l1 r1) = rotR (.node a1 k1 v1 s1 c1 l1 r1) by unfold bal2; rw [lft_node, if_pos (HC.out.1 rfl)])
            have hrot := rotR_any g p n (.node a1 k1 v1 s1 c1 l1 r1) t2 W1 H1.out.tree H1.out.rb H1.out.nd (by rw [← HB.out]; exact E.out.2.1)
            rw [EV.out] at hrot
            go_wp2_with fail
            refine hrot.mono ?_
            clear hrot
            rintro e w1 ⟨rfl, hr1, hf1⟩
            have H2 := Lib.hid (H1.out.turn (rotR_same (by rw [← HB.out]; exact E.out.2.1)).1.addr hr1 hf1)
            clear hr1 hf1
            go_wp2_with fail
            go_meet
            exact ⟨_, E.out.2.1, rfl, H2.out⟩
        case rest =>
          obtain ⟨t2', e1, rfl, hb1⟩ := hcut
          have e1' := E.out.2.1
          rw [e1'] at e1
          obtain rfl : t2 = t2' := Option.some.inj e1
          obtain ⟨W2, rfl⟩ : ∃ W, W = wc := ⟨_, rfl⟩
          have H2 := Lib.hid hb1
          clear hb1 e1 e1' H1 EV
          have hne : t2 ≠ .nil := by
            rintro rfl
            have e3 := E.out.2.2.1; have e4 := E.out.2.2.2
            cases e3
            cases e4
          cases t2 with
          | nil => exact absurd rfl hne
          | node a2 k2 v2 s2 c2 l2 r2 =>
          clear hne
          have ev : ptrV (.node a2 k2 v2 s2 c2 l2 r2) = .pointer (some ⟨a2, 0, none⟩) := rfl
          rw [ev]
          have EV := Lib.hid ev
          clear ev
          go_upto_region 5 with fail
          go_cut [50] from 39 to 50 (fun vc wx => Cnd (isR l2 = true ∧ isR r2 = true) W2 vc wx)
          case first =>
            have a6 := H2.out.rb.1.cell 6; have a7 := H2.out.rb.1.cell 7
            unfold nodeC at a6 a7
            simp only [List.getElem?_toArray, List.getElem?_cons_zero, List.getElem?_cons_succ] at a6 a7
            cases hr : isR l2 with
            | false =>
              have hir := is_eq l2 _ hr W2 H2.out.rb.2.1; have HRR := Lib.hid hr
              clear hr
              go_wp2_with fail
              refine hir.mono ?_
              rintro e w1 ⟨rfl, rfl⟩
              go_wp2_with fail
              go_meet
              exact ⟨_, rfl, by rw [HRR.out]; simp, rfl⟩
            | true =>
              have hir := is_eq l2 _ hr W2 H2.out.rb.2.1; have HRR := Lib.hid hr
              have hil := is_eq r2 _ rfl W2 H2.out.rb.2.2
              clear hr
              go_wp2_with fail
              refine hir.mono ?_
              rintro e w1 ⟨rfl, rfl⟩
              go_wp2_with fail
              refine hil.mono ?_
              rintro e w1 ⟨rfl, rfl⟩
              go_wp2_with fail
              go_meet
              exact ⟨_, rfl, by rw [HRR.out]; simp, rfl⟩
          case rest =>
            obtain ⟨cb, rfl, hcb, hwc⟩ := hcut
            rw [hwc]
            clear hwc
            have HC := Lib.hid hcb
            clear hcb
            go_upto_if 50 with fail
            go_cut [] from 51 to 52 (fun wx => BalR w g p n S (bal3 (.node a2 k2 v2 s2 c2 l2 r2)) (.pointer (some ⟨a2, 0, none⟩)) wx)
            case first =>
              cases cb with
              | false =>
                have HB := Lib.hid (show bal3 (.node a2 k2 v2 s2 c2 l2 r2) = some (.node a2 k2 v2 s2 c2 l2 r2) by unfold bal3; rw [lft_node, rgt_node, if_neg (fun hh => by have := HC.out.2 hh; cases this)])
                go_wp2_with fail
                go_meet
                exact ⟨_, HB.out, EV.out.symm, H2.out⟩
              | true =>
                have HB := Lib.hid (show bal3 (.node a2 k2 v2 s2 c2 l2 r2) = flipT (.node a2 k2 v2 s2 c2 l2 r2) by unfold bal3; rw [lft_node, rgt_node, if_pos (HC.out.1 rfl)])
                have hfl := flip_any (.node a2 k2 v2 s2 c2 l2 r2) t3 W2 H2.out.rb H2.out.nd (by rw [← HB.out]; exact E.out.2.2.1)
                rw [EV.out] at hfl
                have HP := Lib.hid (show ptrV t3 = .pointer (some ⟨a2, 0, none⟩) by
                  have e := E.out.2.2.1
                  rw [HB.out] at e
                  cases l2 with
                  | nil => cases e
                  | node => cases r2 with
                    | nil => cases e
                    | node => cases e; rfl)
                go_wp2_with fail
                refine hfl.mono ?_
                clear hfl
                rintro e w1 ⟨rfl, hr1, hf1⟩
                have H3 := Lib.hid (H2.out.turn (flip_same (by rw [← HB.out]; exact E.out.2.2.1)).1.addr hr1 hf1)
                clear hr1 hf1
                go_wp2_with fail
                go_meet
                exact ⟨_, E.out.2.2.1, HP.out.symm, H3.out⟩
            case rest =>
              obtain ⟨t3', e1, hp3, hb1⟩ := hcut
              have e1' := E.out.2.2.1
              rw [e1'] at e1
              obtain rfl : t3 = t3' := Option.some.inj e1
              obtain ⟨W3, rfl⟩ : ∃ W, W = wc := ⟨_, rfl⟩
              have H3 := Lib.hid hb1
              clear hb1 e1 e1' H2 EV
              cases t3 with
              | nil => cases hp3
              | node a3 k3 v3 s3 c3 l3 r3 =>
              have ha : a2 = a3 := by
                have : (Value.pointer (some ⟨a2, 0, none⟩)) = .pointer (some ⟨a3, 0, none⟩) := hp3
                simpa using this
              subst ha
              clear hp3
              have ht := total_any g a2 p n k3 v3 s3 c3 l3 r3 W3 H3.out.tree H3.out.rb
              obtain ⟨x, hx⟩ : ∃ x, total k3 v3 l3 r3 = x := ⟨_, rfl⟩
              rw [hx] at ht
              have HX := Lib.hid hx
              clear hx
              go_wp2_with fail
              refine ht.mono ?_
              clear ht
              rintro e W4 ⟨rfl, hb4⟩
              have H4 := Lib.hid (H3.out.later hb4)
              clear hb4 H3
              have a3' := H4.out.rb.1.cell 3; have a4' := H4.out.rb.1.cell 4; have f3 := H4.out.rb.1.frozen 3; have f4 := H4.out.rb.1.frozen 4
              unfold nodeC at a3' a4'
              simp only [List.getElem?_toArray, List.getElem?_cons_zero, List.getElem?_cons_succ] at a3' a4'
              go_wp2
              go_ret
              have e4 := E.out.2.2.2
              cases e4
              have hA := ((H4.out.rb.1.set_ 3 (.int .u64 x.1)).set_ 4 (.int .i64 x.2))
              have hnd := H4.out.nd
              have hal : a2 ∉ addrs l3 := fun hm => (List.nodup_cons.1 hnd).1 (List.mem_append.2 (.inl hm))
              have har : a2 ∉ addrs r3 := fun hm => (List.nodup_cons.1 hnd).1 (List.mem_append.2 (.inr hm))
              have hk : ∀ {t : RB}, RBAt W4 t → a2 ∉ addrs t → RBAt ((W4.setCell ⟨a2, 3, none⟩ (.int .u64 x.1)).setCell ⟨a2, 4, none⟩ (.int .i64 x.2)) t := fun ht hn => ht.kept fun q hq =>
                (Below.heap_setCell _ ⟨a2, 4, none⟩ _ q fun e => hn (show a2 ∈ addrs _ from (show q = a2 from e) ▸ hq)).trans (Below.heap_setCell _ ⟨a2, 3, none⟩ _ q fun e => hn (show a2 ∈ addrs _ from (show q = a2 from e) ▸ hq))
              refine ⟨rfl, ⟨?_, hk H4.out.rb.2.1 hal, hk H4.out.rb.2.2 har⟩, H4.out.fr.trans ((Fr.set (H4.out.sub a2 (.head _))).trans (Fr.set (H4.out.sub a2 (.head _))))⟩
              rw [HX.out]
              exact hA
end Go.Proofs.YtbnnkkojlclgjaaGreat
