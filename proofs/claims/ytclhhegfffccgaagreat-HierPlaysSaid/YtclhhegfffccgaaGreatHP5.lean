/- Lemmas of the claim, merged: HState, RtLeaf, RtDo. No conditions beyond those that each states. -/
import Derived.Test.YtclhhegfffccgaaGreatHP4
import Derived.Test.YtclhhegfffccgaaGreatHP2
import Derived.Deep.CutRange
import Derived.Deep.DeepCutAuto
import Derived.Test.YtclhhegfffccgaaGreatRegX
/-
  A tree of classes, what is known of it between calls.
-/
namespace Go.Proofs.YtclhhegfffccgaaGreat
set_option linter.unusedVariables false
open Go.RowKit Go.Maps
attribute [local go_sem ↓] Go.wp_at_zero Go.wp_at_succ
attribute [local go_sem] quietR quietAtR quietUponR midAt midUpon

/-- numbers in memory -/
def IntAt (w : World) (v : Value) (ks : List Int) : Prop :=
  ks.length ≤ 1000000 ∧ ∃ a cap, v = .slice a ks.length cap ∧ (ks = [] ∨ ∃ b off, a = some ⟨b, off, none⟩ ∧ b < w.heap.size ∧ ks.length ≤ cap ∧ ∀ i k, ks[i]? = some k → w.cell? ⟨b, off + i, none⟩ = some (.int .i64 k))
theorem IntAt.later {w w' : World} {v : Value} {ks : List Int} (h : IntAt w v ks) (hb : Below w.heap.size w w') : IntAt w' v ks := by
  obtain ⟨hl, a, cap, e, h3⟩ := h
  refine ⟨hl, a, cap, e, ?_⟩
  rcases h3 with h3 | ⟨b, off, e2, hbl, hcap, hc⟩
  · exact .inl h3
  · exact .inr ⟨b, off, e2, Nat.lt_of_lt_of_le hbl hb.size, hcap, fun i k hi => (hb.cell (p := ⟨b, off + i, none⟩) hbl).trans (hc i k hi)⟩
theorem IntAt.of_owns {w : World} {base : Nat} {v : Value} {ks : List Int} (h : w.ownsRow base 3 1 v ks.length (ks.map (Value.int .i64))) (hl : ks.length ≤ 1000000) : IntAt w v ks := by
  rcases h.2 with ⟨rfl, h0⟩ | ⟨g, cap, cur, rfl, h1, h2, h3, h4⟩
  · obtain rfl : ks = [] := List.eq_nil_of_length_eq_zero h0
    exact ⟨hl, none, 0, rfl, .inl rfl⟩
  · refine ⟨hl, _, _, rfl, .inr ⟨g, 0, rfl, (Array.getElem?_eq_some_iff.1 h2).1, h3, fun i k hi => ?_⟩⟩
    rw [Nat.zero_add, h.cellAt i (by have := (List.getElem?_eq_some_iff.1 hi).1; omega), List.getElem?_map, hi]; rfl
theorem owns_slice {w : World} {base sz n : Nat} {e : TypeId} {v : Value} {xs : List Value} (h : w.ownsRow base e sz v n xs) : ∃ a cap, v = .slice a n cap := by
  rcases h.2 with ⟨rfl, rfl⟩ | ⟨g, c, cur, rfl, _⟩
  · exact ⟨none, 0, rfl⟩
  · exact ⟨_, _, rfl⟩
/-- rows of numbers that are the same -/
theorem same16_any (va vb : Value) (ks : List Int) (w : World) (ha : IntAt w va ks) (hb : IntAt w vb ks) :
    Calls Tryz.prog 20 #[va, vb] w fun e w' => e = .returned (.bool true) ∧ Below w.heap.size w w' := by
  obtain ⟨hl, a, cap, rfl, ha⟩ := ha
  obtain ⟨_, a2, cap2, rfl, hb⟩ := hb
  obtain ⟨n, hn⟩ : ∃ n, n = ks.length := ⟨_, rfl⟩
  rw [← hn] at hl ⊢
  have HN := Lib.hid hn; have HA := Lib.hid ha; have HB0 := Lib.hid hb
  clear hn ha hb
  go_enter Tryz.func20, Tryz.ntmps20
  go_wp2_with fail
  go_loopw [5] (fun vi W => ∃ k : Nat, vi = .int .i64 k ∧ k ≤ n ∧ Below w.heap.size w W) (fun vi _ => (n - Go.RowKit.intOf vi).toNat)
  case atStart => exact ⟨0, rfl, by omega, Below.refl _ _⟩
  case round =>
    obtain ⟨k, rfl, hk, hB⟩ := hrel
    have HB := Lib.hid hB
    by_cases hlt : k < n
    · obtain ⟨x, hx⟩ : ∃ x, ks[k]? = some x := ⟨_, List.getElem?_eq_getElem (by have := HN.out; omega)⟩
      rcases HA.out with h0 | ⟨g, off, rfl, hg, _, hc⟩
      · rw [h0] at hx; simp at hx
      rcases HB0.out with h0 | ⟨g2, off2, rfl, hg2, _, hc2⟩
      · rw [h0] at hx; simp at hx
      have c1 := (hB.cell (p := ⟨g, off + k, none⟩) hg).trans (hc k x hx)
      have c2 := (hB.cell (p := ⟨g2, off2 + k, none⟩) hg2).trans (hc2 k x hx)
      clear hB hx hc hc2
      go_wp2
      go_quiet (fail)
      go_wp2
      go_roundw
      case measure => (simp [Go.RowKit.intOf]; try omega)
      case rel => exact ⟨k + 1, by go_num, by omega, below_drewN HB.out _⟩
    · obtain rfl : k = n := by omega
      clear hB
      go_wp2
      go_ret
      exact ⟨rfl, HB.out⟩

theorem int_two {W : World} {B : Nat} {x y : Int} (h : Blk W B 3 #[.int .i64 x, .int .i64 y]) : IntAt W (.slice (some ⟨B, 0, none⟩) 2 2) [x, y] := by
  refine ⟨by simp, _, _, rfl, .inr ⟨B, 0, rfl, h.lt, by simp, fun i k hi => ?_⟩⟩
  rw [Nat.zero_add, h.cell]
  match i with
  | 0 => simp at hi; subst hi; rfl
  | 1 => simp at hi; subst hi; rfl
  | i + 2 => simp at hi
set_option linter.unusedVariables false
open Go.RowKit Go.Maps

structure TS (w W : World) (base g ma mu : Nat) (M : Mp) : Prop where
  tree : ∃ U, TreeX W base g ma mu U M
  lo : w.heap.size ≤ base
  below : Below w.heap.size w W
section
variable {w W W' : World} {base g ma mu : Nat} {M : Mp}
theorem TS.later (h : TS w W base g ma mu M) (hb : Below W.heap.size W W') : TS w W' base g ma mu M := by
  obtain ⟨⟨U, ht⟩, hl, hb0⟩ := h
  exact ⟨⟨U, ht.later hb⟩, hl, hb0.trans (hb.mono hb0.size)⟩
theorem TS.inv (h : TS w W base g ma mu M) : InvT M := by obtain ⟨⟨U, ht⟩, _⟩ := h; exact ht.inv
theorem TS.act (h : TS w W base g ma mu M) {U : List (Int × Value)} (ht : TreeX W base g ma mu U M) {r : Int × Mp} {e : Ending} (ha : ActW W base g ma mu U r e W') : e = .returned (.int .i64 r.1) ∧ TS w W' base g ma mu r.2 := by
  obtain ⟨U', he, ht', hfr, _⟩ := ha
  have hbs : base ≤ W.heap.size := Nat.le_trans ht.gb (Nat.le_of_lt ht.blk.lt)
  exact ⟨he, ⟨U', ht'⟩, h.lo, h.below.trans ((hfr.below (fun b hb => (ht.owned hb).1) hbs).mono h.lo)⟩
theorem TS.add (h : TS w W base g ma mu M) (s : Sp) (hw : WfSp s) : Calls Tryz.prog 8 #[.pointer (some ⟨g, 0, none⟩), spV s] W fun e W' => e = .returned (.int .i64 (addM M s).1) ∧ TS w W' base g ma mu (addM M s).2 := by
  obtain ⟨U, ht⟩ := h.tree
  exact (tadd_any s base g ma mu U M W hw ht).mono fun e W' ha => h.act ht ha
theorem TS.change (h : TS w W base g ma mu M) (s : Sp) (hw : WfSp s) : Calls Tryz.prog 24 #[.pointer (some ⟨g, 0, none⟩), spV s] W fun e W' => e = .returned (.int .i64 (changeM M s).1) ∧ TS w W' base g ma mu (changeM M s).2 := by
  obtain ⟨U, ht⟩ := h.tree
  exact (tchange_any s base g ma mu U M W hw ht).mono fun e W' ha => h.act ht ha
theorem TS.drop (h : TS w W base g ma mu M) (id : Int) (hid : (Lit.int .i64 id).wf = true) : Calls Tryz.prog 12 #[.pointer (some ⟨g, 0, none⟩), .int .i64 id] W fun e W' => e = .returned (.int .i64 (dropM M id).1) ∧ TS w W' base g ma mu (dropM M id).2 := by
  obtain ⟨U, ht⟩ := h.tree
  exact (tdrop_any id base g ma mu U M W hid ht).mono fun e W' ha => h.act ht ha
theorem TS.get (h : TS w W base g ma mu M) (id : Int) (hid : (Lit.int .i64 id).wf = true) : Calls Tryz.prog 18 #[.pointer (some ⟨g, 0, none⟩), .int .i64 id] W (GetW W M id) := by
  obtain ⟨U, ht⟩ := h.tree
  exact tget_any id base g ma mu U M W hid ht
theorem TS.len (h : TS w W base g ma mu M) : Calls Tryz.prog 23 #[.pointer (some ⟨g, 0, none⟩)] W fun e w' => e = .returned (.int .i64 M.length) ∧ Below W.heap.size W w' := by
  obtain ⟨U, ht⟩ := h.tree
  exact tlen_any base g ma mu U M W ht
theorem TS.ids (h : TS w W base g ma mu M) : Calls Tryz.prog 17 #[.pointer (some ⟨g, 0, none⟩)] W (IdsW W (M.map (·.1))) := by
  obtain ⟨U, ht⟩ := h.tree
  exact tids_any base g ma mu U M W ht
theorem TS.under (h : TS w W base g ma mu M) (id : Int) (hid : (Lit.int .i64 id).wf = true) : Calls Tryz.prog 21 #[.pointer (some ⟨g, 0, none⟩), .int .i64 id] W (IdsW W (kids M id)) := by
  obtain ⟨U, ht⟩ := h.tree
  exact tunder_any id base g ma mu U M W hid ht
theorem TS.path (h : TS w W base g ma mu M) (id : Int) (hid : (Lit.int .i64 id).wf = true) : Calls Tryz.prog 19 #[.pointer (some ⟨g, 0, none⟩), .int .i64 id] W (IdsW W (pathM M id)) := by
  obtain ⟨U, ht⟩ := h.tree
  exact tpath_any id base g ma mu U M W hid ht
end
def TnewS (w : World) (e : Ending) (w' : World) : Prop := ∃ g ma mu, e = .returned (.pointer (some ⟨g, 0, none⟩)) ∧ TS w w' w.heap.size g ma mu []
theorem tnewS (w : World) : Calls Tryz.prog 7 #[] w (TnewS w) :=
  (tnew_any w).mono fun e w' ⟨g, ma, mu, he, ht, hb⟩ => ⟨g, ma, mu, he, ⟨[], ht⟩, Nat.le_refl _, hb⟩
end Go.Proofs.YtclhhegfffccgaaGreat
/-
  The document's tree: the leaves below a class.
-/
namespace Go.Proofs.YtclhhegfffccgaaGreat
set_option linter.unusedVariables false
open Go.RowKit Go.Maps
attribute [local go_sem ↓] Go.wp_at_zero Go.wp_at_succ
attribute [local go_sem] quietR quietAtR quietUponR midAt midUpon

set_option maxRecDepth 100000 in
theorem rthas_any (v : Value) (ks : List Int) (n : Int) (w : World) (h : IntAt w v ks) :
    Calls Tryz.prog 62 #[v, .int .i64 n] w fun e w' => e = .returned (.bool (decide (n ∈ ks))) ∧ w' = w := by
  obtain ⟨hl, a, cap, rfl, h3⟩ := h
  have H3 := Lib.hid h3
  clear h3
  go_enter Tryz.func62, Tryz.ntmps62
  go_wp2_with fail
  go_loopw [5] (fun v5 wr => ∃ i : Nat, v5 = .int .i64 i ∧ i ≤ ks.length ∧ wr = w ∧ ∀ (j : Nat) x, j < i → ks[j]? = some x → x ≠ n) (fun v5 _ => (ks.length - Go.RowKit.intOf v5).toNat)
  case atStart => exact ⟨0, rfl, Nat.zero_le _, rfl, fun j x hj => by omega⟩
  case round =>
    obtain ⟨i, rfl, hi, hwr, hno⟩ := hrel
    rw [hwr]
    clear hwr
    have HNO := Lib.hid hno
    clear hno
    by_cases hlt : i < ks.length
    · obtain ⟨k, hk⟩ : ∃ k, ks[i]? = some k := ⟨_, List.getElem?_eq_getElem hlt⟩
      obtain ⟨b, off, rfl, hbl, hcap, hc⟩ := H3.out.resolve_left (fun h => by rw [h] at hlt; cases hlt)
      have k0 := hc i k hk
      by_cases hid : k = n
      · have heq : (k == n) = true := by simpa using hid
        have HG := Lib.hid (show decide (n ∈ ks) = true from decide_eq_true (hid ▸ List.mem_of_getElem? hk))
        clear hid hk hc
        go_wp2_with fail
        go_ret
        exact ⟨by rw [HG.out]; rfl, rfl⟩
      · have heq : (k == n) = false := by simpa using hid
        have HID := Lib.hid (And.intro hid hk)
        clear hid hc
        go_wp2_with fail
        go_roundw
        case measure => (simp [Go.RowKit.intOf]; try omega)
        case rel => exact ⟨i + 1, by go_num, by omega, (by first | rfl | trivial), fun j x hj hx => by
          by_cases hji : j = i
          · subst hji
            rw [HID.out.2] at hx
            cases hx
            exact HID.out.1
          · exact HNO.out j x (by omega) hx⟩
    · have HG := Lib.hid (show decide (n ∈ ks) = false from decide_eq_false fun hm => by
        obtain ⟨j, hj, hej⟩ := List.mem_iff_getElem.1 hm
        exact HNO.out j n (by omega) (by rw [List.getElem?_eq_getElem hj, hej]) rfl)
      go_wp2_with fail
      go_ret
      exact ⟨by rw [HG.out]; rfl, rfl⟩
def leafB (L : List Sp) (id : Int) (e : Sp) : Bool := e.lf && (decide (id = 0) || decide (id ∈ pathL L (L.length + 1) e.id))
def leavesS (L : List Sp) (id : Int) : List Int := (L.filter (leafB L id)).map (·.id)
set_option maxRecDepth 100000 in
set_option maxHeartbeats 4000000 in
theorem rtleaves_any (p : Nat) (v : Value) (L : List Sp) (id : Int) (w : World) (h : RtAt w p v L) (hfew : L.length ≤ 1000) :
    Calls Tryz.prog 42 #[.pointer (some ⟨p, 0, none⟩), .int .i64 id] w fun e w' => ∃ u, e = .returned u ∧ w'.ownsRow w.heap.size 3 1 u (leavesS L id).length ((leavesS L id).map (Value.int .i64)) ∧ Below w.heap.size w w' := by
  obtain ⟨hl, a, cap, hv, _⟩ := h.sr
  have H := Lib.hid h
  clear h
  go_enter Tryz.func42, Tryz.ntmps42
  go_wp2_with fail
  go_loopw [5, 6] (fun vo vi W => ∃ (i : Nat) (A : List Int), vi = .int .i64 i ∧ i ≤ L.length ∧ W.ownsRow w.heap.size 3 1 vo A.length (A.map (Value.int .i64)) ∧ Below w.heap.size w W ∧ A = ((L.take i).filter (leafB L id)).map (·.id)) (fun _ vi _ => (L.length - Go.RowKit.intOf vi).toNat)
  case atStart => exact ⟨0, [], rfl, by omega, World.ownsRow_nil _ _ _ _, Below.refl _ _, by simp⟩
  case round =>
    obtain ⟨i, A, rfl, hi, hown, hbr, hA⟩ := hrel
    have HR := Lib.hid (H.out.later hbr)
    have c0 := HR.out.blk.cell 0
    simp only [List.getElem?_toArray, List.getElem?_cons_zero, List.getElem?_cons_succ] at c0
    rw [hv] at c0
    have hAl : A.length ≤ i := by rw [hA, List.length_map]; exact Nat.le_trans (List.length_filter_le _ _) (by rw [List.length_take]; omega)
    by_cases hlt : i < L.length
    · obtain ⟨e, he⟩ : ∃ e, L[i]? = some e := ⟨_, List.getElem?_eq_getElem hlt⟩
      obtain ⟨_, a', cap', e1, h3⟩ := HR.out.sr
      rw [hv] at e1
      cases e1
      obtain ⟨b, off, rfl, hbl, hcap, hc⟩ := h3.resolve_left (fun h => by rw [h] at hlt; cases hlt)
      obtain ⟨k0, k1, k2, -⟩ := sr_row (hc i e he)
      have hsn := filt_snoc (q := leafB L id) (f := (·.id)) he
      rw [← hA] at hsn
      have HS := Lib.hid (And.intro hown (And.intro hbr hAl))
      obtain ⟨tst, htst⟩ : ∃ t, leafB L id e = t := ⟨_, rfl⟩
      rw [htst] at hsn
      unfold leafB at htst
      have HSN := Lib.hid hsn
      have HBL := Lib.hid hbl
      clear h3 hc he hown hbr hA hAl hsn
      obtain ⟨i1, pa, i3, ⟨F1, L1, R1⟩, ⟨F2, L2, R2⟩, ⟨F3, L3, R3⟩, i4, i5⟩ := e
      dsimp only at k0 k1 k2 HSN htst
      go_upto_region 5 with fail
      go_cut [41] from 7 to 52 (fun vc wx => vc = .bool tst ∧ Below wr.heap.size wr wx)
      case first =>
        cases i3 with
        | false =>
          have ht : tst = false := by rw [← htst]; rfl
          subst ht
          clear htst
          go_wp2_with fail
          go_meet
          exact ⟨rfl, Below.refl _ _⟩
        | true =>
          by_cases hz : id = 0
          · have heq : (id == 0) = true := by simpa using hz
            have ht : tst = true := by rw [← htst, hz]; simp
            subst ht
            clear htst hz
            go_wp2_with fail
            go_meet
            exact ⟨rfl, Below.refl _ _⟩
          · have heq : (id == 0) = false := by simpa using hz
            have ht : decide (id ∈ pathL L (L.length + 1) i1) = tst := by rw [← htst]; simp [hz]
            have HT := Lib.hid ht
            have hp := rtpath_any p v L i1 wr HR.out hfew
            clear htst hz ht
            go_wp2_with fail
            refine hp.mono ?_
            clear hp
            rintro e9 w1 ⟨u, rfl, ho, hb⟩
            have hh := rthas_any u _ id w1 (IntAt.of_owns ho (by have := pathL_le L (L.length + 1) i1; omega))
            rw [HT.out] at hh
            have HB := Lib.hid hb
            clear ho hb
            go_wp2_with fail
            refine hh.mono ?_
            clear hh
            rintro e9 w2 ⟨rfl, hw2⟩
            rw [hw2]
            clear hw2
            go_wp2_with fail
            go_meet
            exact ⟨rfl, HB.out⟩
      case rest =>
        obtain ⟨hvc, hb⟩ := hcut
        rw [hvc]
        have c1 := (hb.cell (p := ⟨p, 0, none⟩) HR.out.blk.lt).trans c0
        have k9 := (hb.cell (p := ⟨b, off + i * 14, none⟩) HBL.out).trans k0
        have HO1 := Lib.hid (And.intro (owns_laterH HS.out.1 hb) (HS.out.2.1.trans (hb.mono HS.out.2.1.size)))
        clear c0 k0 k1 k2 hvc htst hb
        cases tst with
        | true =>
          have hsn := HSN.out
          rw [if_pos rfl] at hsn
          have HSN2 := Lib.hid hsn
          have hb3 := (Below.refl wc.heap.size wc).alloc (Nat.le_refl _) (.cells #[.int .i64 i1] 3)
          have k8 := Blk.new wc 3 #[.int .i64 i1]
          have ho3 := owns_laterH HO1.out.1 hb3
          have hw3 := HO1.out.2.trans (hb3.mono HO1.out.2.size)
          obtain ⟨v', w', hr, ho', hg⟩ := app_one 47 (A := A) (k8.cell 0) ho3 hw3.size (by have := HS.out.2.2; omega)
          have HO := Lib.hid (And.intro ho' (hw3.grown hg hw3.size fun k hk => (ho3.lt k hk).1))
          clear hb3 k8 ho3 hw3 ho' hg hsn
          go_wp2_with (at_builtin; refine wpList_append_runH rfl _ _ _ rfl _ _ _ rfl rfl hr ?_; clear hr)
          go_roundw
          case measure => (simp [Go.RowKit.intOf]; try omega)
          case rel => exact ⟨i + 1, A ++ [i1], by go_num, by omega, HO.out.1, HO.out.2, HSN2.out.symm⟩
        | false =>
          have hsn := HSN.out
          rw [if_neg (by decide), List.append_nil] at hsn
          have HSN2 := Lib.hid hsn
          clear hsn c1 k9
          go_wp2_with fail
          go_roundw
          case measure => (simp [Go.RowKit.intOf]; try omega)
          case rel => exact ⟨i + 1, A, by go_num, by omega, HO1.out.1, HO1.out.2, HSN2.out.symm⟩
    · obtain rfl : i = L.length := by omega
      rw [List.take_length] at hA
      have HA := Lib.hid (show A = leavesS L id from hA)
      have HE := Lib.hid (And.intro hown hbr)
      clear hA hown hbr
      go_wp2_with fail
      go_ret
      exact ⟨_, rfl, by rw [← HA.out]; exact HE.out.1, HE.out.2⟩
end Go.Proofs.YtclhhegfffccgaaGreat
/-
  The document's tree: a copy; a class goes. (Printed by wip/mkrtdo.py.)
-/
namespace Go.Proofs.YtclhhegfffccgaaGreat
set_option linter.unusedVariables false
open Go.RowKit Go.Maps
attribute [local go_sem ↓] Go.wp_at_zero Go.wp_at_succ
attribute [local go_sem] quietR quietAtR quietUponR midAt midUpon
attribute [local irreducible] TStep HStep

theorem Fr.setT {S : Nat → Prop} {w : World} {b o : Nat} {u : Value} (hb : S b) : Fr S w (w.setCell ⟨b, o, none⟩ u) := by
  exact ⟨rfl, rfl, rfl, by simp, fun k hk hn => Below.heap_setCell w ⟨b, o, none⟩ u k fun e => hn (by rw [e]; exact hb)⟩
theorem midAt_appS {P : Program} {o : Oper} {a : Act} {W W' : World} {T : Value → World → Prop} {s x : Operand} {t : TypeId} {va vx v : Value}
    (ho : o.op = .call { callee := .builtin .append, args := #[s, x], argTypes := #[t, t] }) (hs : a.eval s = va) (hx : a.eval x = vx)
    (hr : (Builtin.append_ #[t, t] o.type #[va, vx]).run P W = .ok v W') (hb : Below W.heap.size W W') (hT : T v W') : midAt P o a W T := by
  unfold midAt execOp
  simp only [ho, resolve, invoke, builtin, Sem.run_bind, Sem.run_pure, Result.andThen_ok, List.map_toArray, List.map_cons, List.map_nil, hs, hx, hr]
  exact ⟨hb, hT⟩
theorem hotUpon_appS {P : Program} {o : Oper} {a : Act} {w W W' : World} {T : Value → World → Prop} {s x : Operand} {t : TypeId} {va vx v : Value}
    (ho : o.op = .call { callee := .builtin .append, args := #[s, x], argTypes := #[t, t] }) (hs : a.eval s = va) (hx : a.eval x = vx)
    (hr : (Builtin.append_ #[t, t] o.type #[va, vx]).run P W = .ok v W') (hb : Below w.heap.size w W') (hT : T v W') : hotUpon P w W T ((execOp a.eval o).run P W) := by
  unfold execOp
  simp only [ho, resolve, invoke, builtin, Sem.run_bind, Sem.run_pure, Result.andThen_ok, List.map_toArray, List.map_cons, List.map_nil, hs, hx, hr]
  exact ⟨hb, hT⟩
/-- all of a row, laid behind an empty literal -/
theorem sr_all (ty : TypeId) {L : List Sp} {w : World} {v : Value} {base g : Nat} (h : SrAt w v L) (hown : w.ownsRow base 36 14 (.slice (some ⟨g, 0, none⟩) 0 0) 0 []) (hb : base ≤ w.heap.size) :
    ∃ v' w', (Builtin.append_ #[27, 27] ty #[.slice (some ⟨g, 0, none⟩) 0 0, v]).run Tryz.prog w = .ok v' w' ∧ w'.ownsRow base 36 14 v' L.length (srCells L) ∧ Below w.heap.size w w' := by
  obtain ⟨i0, hi0, hz0, hz1, hz2⟩ := info_parts info_sp
  obtain ⟨a, cap, rfl⟩ : ∃ a cap, v = .slice a L.length cap := by obtain ⟨_, a, cap, e, _⟩ := h; exact ⟨a, cap, e⟩
  by_cases hne : L = []
  · subst hne
    refine ⟨_, _, run_append_nothing w _ _ ty _ i0 Tryz.underlying27 hi0 _ 0 0 (Nat.le_refl _) _ ?_, hown, Below.refl _ _⟩
    cases a with
    | none => exact Src.ofNil w Tryz.underlying27 cap
    | some ad => exact Src.ofSlice w Tryz.underlying27 ad 0 cap [] (by simp) (fun j u hj => by simp at hj) (fun u hu => by simp at hu)
  · obtain ⟨ad, rfl, hcap, hc⟩ := h.cells hne
    have hl0 : 0 < L.length := List.length_pos_iff.2 hne
    have hl := h.1
    obtain ⟨v', w', hr, ho, hg⟩ := run_append_arg_grows (P := Tryz.prog) w 27 ty 36 i0 _ 14 112 Tryz.underlying27 hi0 hz0 hz1 hz2 rfl (by decide) ⟨g, 0, none⟩ 0 0 [] (by simp) (fun j u hj => by simp at hj) ad L.length cap (srCells L) (srCells_length L) hc (by omega) (by unfold maxLen; omega) (by omega)
    have ho' : w'.ownsRow base 36 14 v' L.length (srCells L) := by
      have h0 : w'.ownsRow w.heap.size 36 14 v' L.length (srCells L) := by simpa using ho
      obtain ⟨h1, h2⟩ := h0
      refine ⟨h1, ?_⟩
      rcases h2 with h2 | ⟨g', c', cur, e, h3, h4⟩
      · exact .inl h2
      · exact .inr ⟨g', c', cur, e, by omega, h4⟩
    refine ⟨v', w', hr, ho', ⟨hg.os, hg.tape, hg.output, hg.size, fun k hk => hg.block k hk (by simp)⟩⟩
/-- a copy -/
def RtCopyW (w : World) (L : List Sp) (e : Ending) (w' : World) : Prop := ∃ p v, e = .returned (.pointer (some ⟨p, 0, none⟩)) ∧ RtAt w' p v L ∧ w.heap.size ≤ p ∧ (∀ b, v.ownBlock = some b → w.heap.size ≤ b) ∧ Below w.heap.size w w'
set_option maxRecDepth 100000 in
set_option maxHeartbeats 4000000 in
theorem rtcopy_any (p : Nat) (v : Value) (L : List Sp) (w : World) (h : RtAt w p v L) :
    Calls Tryz.prog 11 #[.pointer (some ⟨p, 0, none⟩)] w (RtCopyW w L) := by
  obtain ⟨a, cap, hv⟩ : ∃ a cap, v = .slice a L.length cap := by obtain ⟨_, a, cap, e, _⟩ := h.sr; exact ⟨a, cap, e⟩
  have hb0 := (Below.refl w.heap.size w).alloc (Nat.le_refl _) (.cells #[] 36)
  obtain ⟨v1, w1, r1, o1, b1⟩ := sr_all 27 (base := w.heap.size) (h.sr.later hb0) (World.ownsRow_made (base := w.heap.size) (e := 36) (size := 14) w #[] 0 (Nat.le_refl _) (by decide) rfl) hb0.size
  have c0 := (h.later hb0).blk.cell 0
  simp only [List.getElem?_toArray, List.getElem?_cons_zero, List.getElem?_cons_succ] at c0
  subst hv
  obtain ⟨a1, c1, rfl⟩ := owns_sliceS o1
  have hw1 := hb0.trans (b1.mono hb0.size)
  have hl := h.sr.1
  have hb2 := (Below.refl w1.heap.size w1).alloc (Nat.le_refl _) (.cells #[.slice a1 L.length c1] 29)
  have hB := Blk.new w1 29 #[.slice a1 L.length c1]
  have hfin : RtCopyW w L (.returned (.pointer (some ⟨w1.heap.size, 0, none⟩))) (w1.alloc (.cells #[.slice a1 L.length c1] 29)) :=
    ⟨_, _, rfl, ⟨hB, (SrAt.of_owns o1 hl).later hb2, owns_baseS (owns_laterS o1 hb2) (Nat.zero_le _)⟩, hw1.size, fun b hb => (owns_geS o1 b hb).1, hw1.trans (hb2.mono hw1.size)⟩
  have HF := Lib.hid hfin
  clear h hb0 o1 b1 hw1 hl hb2 hB hfin
  go_enter Tryz.func11, Tryz.ntmps11
  go_wp2_with (at_builtin; refine wpList_append_runH rfl _ _ _ rfl _ _ _ rfl rfl r1 ?_; clear r1)
  go_ret
  exact HF.out
/-- the document's tree turned -/
def TurnR (w : World) (p : Nat) (v : Value) (L : List Sp) (w' : World) : Prop := ∃ v', RtAt w' p v' L ∧ (∀ b, v'.ownBlock = some b → v.ownBlock = some b ∨ w.heap.size ≤ b) ∧ Fr (fun b => b = p) w w'
def EmpS (n : Nat) (u : Value) (W : World) : Prop := ∃ g, u = .slice (some ⟨g, 0, none⟩) 0 0 ∧ W.ownsRow n 36 14 (.slice (some ⟨g, 0, none⟩) 0 0) 0 []
def OwnS (n : Nat) (L : List Sp) (u : Value) (W : World) : Prop := W.ownsRow n 36 14 u L.length (srCells L)
def outL (L : List Sp) (id : Int) : List Sp := L.filter fun e => !decide (e.id = id)
def dropS (L : List Sp) (id : Int) : Int × List Sp := if getL L id = none then (81, L) else if 0 < (underL L id).length then (161, L) else (0, outL L id)
theorem out_no {L : List Sp} {id : Int} (h : ∀ e ∈ L, e.id ≠ id) : outL L id = L := by
  unfold outL
  rw [List.filter_eq_self]
  intro e he
  simpa using h e he
theorem out_at {L : List Sp} (h : L.Pairwise fun a b => a.id ≠ b.id) {i : Nat} {e : Sp} (he : L[i]? = some e) : outL L e.id = L.take i ++ L.drop (i + 1) := by
  induction L generalizing i with
  | nil => cases he
  | cons x L ih =>
    have hp := List.pairwise_cons.1 h
    cases i with
    | zero =>
      cases he
      unfold outL
      rw [List.filter_cons_of_neg (by simp)]
      exact out_no fun y hy hh => hp.1 y hy hh.symm
    | succ i =>
      have hne : x.id ≠ e.id := hp.1 e (List.mem_of_getElem? he)
      unfold outL
      rw [List.filter_cons_of_pos (by simpa using hne)]
      have := ih hp.2 he
      unfold outL at this
      rw [this]; rfl
set_option maxRecDepth 100000 in
set_option maxHeartbeats 8000000 in
theorem rtdrop_any (p : Nat) (v : Value) (L : List Sp) (id : Int) (w : World) (h : RtAt w p v L) (hinv : L.Pairwise fun a b => a.id ≠ b.id) :
    Calls Tryz.prog 13 #[.pointer (some ⟨p, 0, none⟩), .int .i64 id] w fun e w' => e = .returned (.int .i64 (dropS L id).1) ∧ TurnR w p v (dropS L id).2 w' := by
  have hat := rtat_any p v L id w h
  have H0 := Lib.hid h
  have HINV := Lib.hid hinv
  clear h hinv
  go_enter Tryz.func13, Tryz.ntmps13
  go_wp2_with fail
  refine hat.mono ?_
  clear hat
  rintro e9 w1 ⟨r, rfl, hpos, hw1⟩
  rw [hw1]
  clear hw1
  rcases hpos with ⟨i, e, he, hid, rfl, hg⟩ | ⟨_, rfl, hg⟩
  rotate_left
  · have HG := Lib.hid (show dropS L id = (81, L) by unfold dropS; rw [if_pos hg])
    clear hg
    go_wp2_with fail
    go_ret
    exact ⟨by rw [HG.out]; rfl, by rw [HG.out]; exact ⟨v, H0.out, fun b hb => .inl hb, Fr.refl _ _⟩⟩
  have hlt := (List.getElem?_eq_some_iff.1 he).1
  have hni : ¬ (i : Int) < 0 := by omega
  have hun := rtunder_any p v L id w H0.out
  have HE := Lib.hid (And.intro he (And.intro hid hg))
  clear hid hg
  go_wp2_with fail
  refine hun.mono ?_
  clear hun
  rintro e9 w1 ⟨u, rfl, hown, hb1⟩
  obtain ⟨ua, uc, rfl⟩ := owns_sliceS hown
  by_cases hpos : 0 < (underL L id).length
  · have HG := Lib.hid (show dropS L id = (161, L) by unfold dropS; rw [if_neg (by rw [HE.out.2.2]; simp), if_pos hpos])
    have hpi : (0 : Int) < ((underL L id).length : Int) := by omega
    have HB1 := Lib.hid hb1
    clear hown hb1 hpos he
    go_wp2_with fail
    go_ret
    exact ⟨by rw [HG.out]; rfl, by rw [HG.out]; exact ⟨v, H0.out.later HB1.out, fun b hb => .inl hb, Fr.of_below HB1.out⟩⟩
  have hlist := out_at HINV.out he
  rw [HE.out.2.1] at hlist
  have HG := Lib.hid (show dropS L id = (0, L.take i ++ L.drop (i + 1)) by unfold dropS; rw [if_neg (by rw [HE.out.2.2]; simp), if_neg hpos, hlist])
  have hpi : ¬ (0 : Int) < ((underL L id).length : Int) := by omega
  have HB1 := Lib.hid hb1
  have H := Lib.hid (H0.out.later hb1)
  clear hown hb1 hpos hlist
  generalize (underL L id).length = nu at hpi ⊢
  obtain ⟨hl, a, cap, rfl, h3⟩ := H.out.sr
  have c0 := H.out.blk.cell 0
  simp only [List.getElem?_toArray, List.getElem?_cons_zero, List.getElem?_cons_succ] at c0
  obtain ⟨b, off, rfl, hbl, hcap, hc⟩ := h3.resolve_left (fun h => by rw [h] at hlt; cases hlt)
  have hwi : IntKind.i64.wrap ((i : Int) + 1) = ((i + 1 : Nat) : Int) := by rw [IntKind.wrap_i64]; omega
  have hci : i ≤ cap := by omega
  have hci1 : i + 1 ≤ cap := by omega
  have htk := sr_take (k := i) H.out.sr (by omega)
  have hdr := sr_drop (k := i + 1) H.out.sr (by omega)
  have HT := Lib.hid (And.intro htk hdr)
  clear he hc htk hdr
  go_upto_region 6 with fail
  have o0 := fun e9 => (over_cell (w := w1) (e := e9) (o := 0) H.out.blk.lt).trans c0
  clear hpi
  have hs1 : (0 : Int) ≤ (i : Int) + 1 := by omega
  have hs2 : (i : Int) + 1 ≤ (L.length : Int) := by omega
  rcases Classical.em (cap = i + 1) with hce | hce
  · have HT := Lib.hid (show SrAt w1 (.slice (some ⟨b, off, none⟩) i cap) (L.take i) ∧ SrAt w1 (.slice (some ⟨b, off, none⟩) (L.length - (i + 1)) (cap - (i + 1))) (L.drop (i + 1)) from ⟨HT.out.1, by have := HT.out.2; rwa [if_pos hce] at this⟩)
    have hce2 : (cap = i + 1) = True := eq_true hce
    clear hce
    refine wp_region_hot (w := w1) 17 3 [1, 8, 16] [] [(1, EmpS w1.heap.size), (8, OwnS w1.heap.size (L.take i)), (16, OwnS w1.heap.size (L.take i ++ L.drop (i + 1)))] [(1, 8), (8, 16)] [16] [] rfl (by decide) (by decide) (by kernel_rfl) (by kernel_rfl) (by kernel_rfl) (by kernel_rfl) (by kernel_rfl) (fun _ _ _ _ _ h => h) ⟨fun u A C ⟨g, h1, h2⟩ hb => ⟨g, h1, owns_laterS h2 hb⟩, fun u A C h hb => owns_laterS h hb, fun u A C h hb => owns_laterS h hb, trivial⟩ ⟨(fun h => (by cases h)), (fun h => (by cases h)), (fun h => (by cases h)), trivial⟩ ?_
    intro LL hL
    have HL2 := Lib.hid hL
    clear hL
    simp only [List.take_succ_cons, List.take_zero, putL]
    iterate 17 (first | refine wpHead_skip (by decide) ?_ | (refine wpHead_step (by decide) (fun K hK => ?_); go_simp; refine hK _ ?_; clear hK K))
    refine wpHead_nil (HL2.out _ ⟨?_, ?_, ?_, trivial⟩ ?_)
    · intro vs W2 hb2 hf
      clear HL2 o0 hf
      change TStep _ _ _ (Act.put (Act.put (Act.put _ (some 17) (vs 1)) (some 24) (vs 8)) (some 32) (vs 16)) _ _
      refine tstep_yes (by kernel_rfl) ?_
      go_simp
      exact ⟨(Below.refl _ _).alloc (Nat.le_refl _) _, W2.heap.size, rfl, World.ownsRow_made (base := w1.heap.size) (e := 36) (size := 14) W2 #[] 0 hb2.size (by decide) rfl⟩
    · intro vs W2 hb2 hf
      have hf := fits_cast (q := EmpS w1.heap.size (vs 1) W2 ∧ True) hf (by kernel_rfl)
      clear HL2 o0
      change TStep _ _ _ (Act.put (Act.put (Act.put _ (some 17) (vs 1)) (some 24) (vs 8)) (some 32) (vs 16)) _ _
      refine Exists.elim hf.1 fun g hg => ?_
      rw [hg.1]
      refine tstep_yes (by kernel_rfl) ?_
      have happ := sr_all 27 (base := w1.heap.size) (g := g) (HT.out.1.later hb2) hg.2 hb2.size
      refine Exists.elim happ fun v' ha1 => ?_
      refine Exists.elim ha1 fun w' ha2 => ?_
      have hr := ha2.1
      refine midAt_appS rfl (by kernel_rfl) (by kernel_rfl) hr ha2.2.2 ?_
      exact ha2.2.1
    · intro vs W2 hb2 hf
      have hf := fits_cast (q := OwnS w1.heap.size (L.take i) (vs 8) W2 ∧ True) hf (by kernel_rfl)
      clear HL2 o0
      change HStep _ _ _ _ (Act.put (Act.put (Act.put _ (some 17) (vs 1)) (some 24) (vs 8)) (some 32) (vs 16)) _ _
      have happ := sr_app 27 (base := w1.heap.size) (A := L.take i) (HT.out.2.later hb2) hf.1 hb2.size (by rw [List.length_take, List.length_drop]; omega)
      refine Exists.elim happ fun v' ha1 => ?_
      refine Exists.elim ha1 fun w' ha2 => ?_
      refine hstep_yes (by kernel_rfl) ?_
      exact hotUpon_appS rfl (by kernel_rfl) (by kernel_rfl) ha2.1 (hb2.trans ha2.2.2.1) ha2.2.1
    · intro vs W2 hb2 hf
      have hf := fits_cast (q := OwnS w1.heap.size (L.take i ++ L.drop (i + 1)) (vs 16) W2 ∧ True) hf (by kernel_rfl)
      clear HL2 o0
      change wpList _ _ _ _ (Act.put (Act.put (Act.put _ (some 17) (vs 1)) (some 24) (vs 8)) (some 32) (vs 16)) _
      refine Exists.elim (owns_sliceS hf.1) fun b1 x1 => ?_
      refine Exists.elim x1 fun d1 y1 => ?_
      have hown := hf.1
      rw [y1] at hown ⊢
      have hblk := H.out.blk.below hb2 H.out.blk.lt
      have hlen : (L.take i ++ L.drop (i + 1)).length ≤ 1000000 := by rw [List.length_append, List.length_take, List.length_drop]; omega
      have hlf := SrAt.of_owns hown hlen
      have hfin : TurnR w p (.slice (some ⟨b, off, none⟩) L.length cap) (L.take i ++ L.drop (i + 1)) (W2.setCell ⟨p, 0, none⟩ (.slice b1 (L.take i ++ L.drop (i + 1)).length d1)) := by
        have hfar : ∀ b, (Value.slice b1 (L.take i ++ L.drop (i + 1)).length d1).ownBlock = some b → b ≠ p := fun b hb => by
          have := (owns_geS hown b hb).1
          have := H.out.blk.lt
          omega
        refine ⟨_, ⟨hblk.set_ 0 _, ?_, owns_heapS (owns_baseS hown (Nat.zero_le _)) fun b hb => Below.heap_setCell _ ⟨p, 0, none⟩ _ b (hfar b hb)⟩, fun b hb => .inr (Nat.le_trans HB1.out.size (owns_geS hown b hb).1), ((Fr.of_below HB1.out).trans (Fr.of_below hb2)).trans (Fr.setT rfl)⟩
        refine hlf.kept (by simp) fun b hb _ => Below.heap_setCell _ ⟨p, 0, none⟩ _ b ?_
        have := (owns_geS hown b hb).1
        have := H.out.blk.lt
        show b ≠ p
        omega
      have HFIN := Lib.hid hfin
      have c0' := hblk.cell 0; have f0' := hblk.frozen 0
      simp only [List.getElem?_toArray, List.getElem?_cons_zero, List.getElem?_cons_succ] at c0'
      generalize (L.take i ++ L.drop (i + 1)).length = n9 at HFIN ⊢
      clear hf y1 x1 hown hblk hlen hlf hfin hb2
      simp only [List.drop_succ_cons, List.drop_zero, List.take_succ_cons, List.take_zero]
      go_wp2_with fail
      go_ret
      exact ⟨by rw [HG.out]; rfl, by rw [HG.out]; exact HFIN.out⟩
  · have HT := Lib.hid (show SrAt w1 (.slice (some ⟨b, off, none⟩) i cap) (L.take i) ∧ SrAt w1 (.slice (some ⟨b, off + (i + 1) * 14, none⟩) (L.length - (i + 1)) (cap - (i + 1))) (L.drop (i + 1)) from ⟨HT.out.1, by have := HT.out.2; rw [if_neg hce] at this; simpa [Addr.add_lit] using this⟩)
    refine wp_region_hot (w := w1) 17 3 [1, 8, 16] [] [(1, EmpS w1.heap.size), (8, OwnS w1.heap.size (L.take i)), (16, OwnS w1.heap.size (L.take i ++ L.drop (i + 1)))] [(1, 8), (8, 16)] [16] [] rfl (by decide) (by decide) (by kernel_rfl) (by kernel_rfl) (by kernel_rfl) (by kernel_rfl) (by kernel_rfl) (fun _ _ _ _ _ h => h) ⟨fun u A C ⟨g, h1, h2⟩ hb => ⟨g, h1, owns_laterS h2 hb⟩, fun u A C h hb => owns_laterS h hb, fun u A C h hb => owns_laterS h hb, trivial⟩ ⟨(fun h => (by cases h)), (fun h => (by cases h)), (fun h => (by cases h)), trivial⟩ ?_
    intro LL hL
    have HL2 := Lib.hid hL
    clear hL
    simp only [List.take_succ_cons, List.take_zero, putL]
    iterate 17 (first | refine wpHead_skip (by decide) ?_ | (refine wpHead_step (by decide) (fun K hK => ?_); go_simp; refine hK _ ?_; clear hK K))
    refine wpHead_nil (HL2.out _ ⟨?_, ?_, ?_, trivial⟩ ?_)
    · intro vs W2 hb2 hf
      clear HL2 o0 hf
      change TStep _ _ _ (Act.put (Act.put (Act.put _ (some 17) (vs 1)) (some 24) (vs 8)) (some 32) (vs 16)) _ _
      refine tstep_yes (by kernel_rfl) ?_
      go_simp
      exact ⟨(Below.refl _ _).alloc (Nat.le_refl _) _, W2.heap.size, rfl, World.ownsRow_made (base := w1.heap.size) (e := 36) (size := 14) W2 #[] 0 hb2.size (by decide) rfl⟩
    · intro vs W2 hb2 hf
      have hf := fits_cast (q := EmpS w1.heap.size (vs 1) W2 ∧ True) hf (by kernel_rfl)
      clear HL2 o0
      change TStep _ _ _ (Act.put (Act.put (Act.put _ (some 17) (vs 1)) (some 24) (vs 8)) (some 32) (vs 16)) _ _
      refine Exists.elim hf.1 fun g hg => ?_
      rw [hg.1]
      refine tstep_yes (by kernel_rfl) ?_
      have happ := sr_all 27 (base := w1.heap.size) (g := g) (HT.out.1.later hb2) hg.2 hb2.size
      refine Exists.elim happ fun v' ha1 => ?_
      refine Exists.elim ha1 fun w' ha2 => ?_
      have hr := ha2.1
      refine midAt_appS rfl (by kernel_rfl) (by kernel_rfl) hr ha2.2.2 ?_
      exact ha2.2.1
    · intro vs W2 hb2 hf
      have hf := fits_cast (q := OwnS w1.heap.size (L.take i) (vs 8) W2 ∧ True) hf (by kernel_rfl)
      clear HL2 o0
      change HStep _ _ _ _ (Act.put (Act.put (Act.put _ (some 17) (vs 1)) (some 24) (vs 8)) (some 32) (vs 16)) _ _
      have happ := sr_app 27 (base := w1.heap.size) (A := L.take i) (HT.out.2.later hb2) hf.1 hb2.size (by rw [List.length_take, List.length_drop]; omega)
      refine Exists.elim happ fun v' ha1 => ?_
      refine Exists.elim ha1 fun w' ha2 => ?_
      refine hstep_yes (by kernel_rfl) ?_
      exact hotUpon_appS rfl (by kernel_rfl) (by kernel_rfl) ha2.1 (hb2.trans ha2.2.2.1) ha2.2.1
    · intro vs W2 hb2 hf
      have hf := fits_cast (q := OwnS w1.heap.size (L.take i ++ L.drop (i + 1)) (vs 16) W2 ∧ True) hf (by kernel_rfl)
      clear HL2 o0
      change wpList _ _ _ _ (Act.put (Act.put (Act.put _ (some 17) (vs 1)) (some 24) (vs 8)) (some 32) (vs 16)) _
      refine Exists.elim (owns_sliceS hf.1) fun b1 x1 => ?_
      refine Exists.elim x1 fun d1 y1 => ?_
      have hown := hf.1
      rw [y1] at hown ⊢
      have hblk := H.out.blk.below hb2 H.out.blk.lt
      have hlen : (L.take i ++ L.drop (i + 1)).length ≤ 1000000 := by rw [List.length_append, List.length_take, List.length_drop]; omega
      have hlf := SrAt.of_owns hown hlen
      have hfin : TurnR w p (.slice (some ⟨b, off, none⟩) L.length cap) (L.take i ++ L.drop (i + 1)) (W2.setCell ⟨p, 0, none⟩ (.slice b1 (L.take i ++ L.drop (i + 1)).length d1)) := by
        have hfar : ∀ b, (Value.slice b1 (L.take i ++ L.drop (i + 1)).length d1).ownBlock = some b → b ≠ p := fun b hb => by
          have := (owns_geS hown b hb).1
          have := H.out.blk.lt
          omega
        refine ⟨_, ⟨hblk.set_ 0 _, ?_, owns_heapS (owns_baseS hown (Nat.zero_le _)) fun b hb => Below.heap_setCell _ ⟨p, 0, none⟩ _ b (hfar b hb)⟩, fun b hb => .inr (Nat.le_trans HB1.out.size (owns_geS hown b hb).1), ((Fr.of_below HB1.out).trans (Fr.of_below hb2)).trans (Fr.setT rfl)⟩
        refine hlf.kept (by simp) fun b hb _ => Below.heap_setCell _ ⟨p, 0, none⟩ _ b ?_
        have := (owns_geS hown b hb).1
        have := H.out.blk.lt
        show b ≠ p
        omega
      have HFIN := Lib.hid hfin
      have c0' := hblk.cell 0; have f0' := hblk.frozen 0
      simp only [List.getElem?_toArray, List.getElem?_cons_zero, List.getElem?_cons_succ] at c0'
      generalize (L.take i ++ L.drop (i + 1)).length = n9 at HFIN ⊢
      clear hf y1 x1 hown hblk hlen hlf hfin hb2
      simp only [List.drop_succ_cons, List.drop_zero, List.take_succ_cons, List.take_zero]
      go_wp2_with fail
      go_ret
      exact ⟨by rw [HG.out]; rfl, by rw [HG.out]; exact HFIN.out⟩
end Go.Proofs.YtclhhegfffccgaaGreat
