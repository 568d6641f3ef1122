/-
  The chapter's example.
-/
import Derived.Test.YthmhboagbeibdaaAdmActs
namespace Go.Proofs.Ythmhboagbeibdaa
set_option linter.unusedVariables false
open Go.RowKit Go.Maps Go.Sort
attribute [local go_sem ↓] Go.wp_at_zero Go.wp_at_succ
attribute [local go_sem] quietR quietAtR quietUponR midAt midUpon
attribute [local irreducible] TStep HStep

def stC (n : Int) : Cv := (0, 0, n)
theorem vS_st (ns : List Int) (h : ∀ x ∈ ns, 0 ≤ x ∧ x ≤ 1048576) (t : Int) (ht : 0 ≤ t) : vS (ns.map stC) t = ns.sum * t := by
  induction ns with
  | nil => simp [vS]
  | cons n ns ih =>
    have h0 := h n (.head _)
    have ho : okC (stC n) = true := by simp [stC, okC, mayB, h0.2]
    simp only [List.map_cons, vS, ho, if_true, ih fun x hx => h x (.tail _ hx), List.sum_cons, Int.add_mul]
    simp only [vC, stC]
    unfold W
    rw [Int.min_eq_right ht]
    simp
theorem ask_st {l : List Cv} {ns : List Int} {n r : Int} (hl : l = ns.map stC) (h : ∀ x ∈ ns, 0 ≤ x ∧ x ≤ 1048576) (h0 : 1 ≤ n) (h1 : n ≤ 1048576) : askB l (stC n) r = decide (ns.sum + n ≤ r) := by
  subst hl
  have hz : decide (stC n = (0, 0, 0)) = false := decide_eq_false (by simp [stC]; omega)
  have hk : Keep (ns.map stC ++ [stC n]) r ↔ ns.sum + n ≤ r := by
    have e : ns.map stC ++ [stC n] = (ns ++ [n]).map stC := by simp
    have hv := vS_st (ns ++ [n]) (fun x hx => by rcases List.mem_append.1 hx with hx | hx; exact h x hx; simp at hx; subst hx; omega)
    have hs : (ns ++ [n]).sum = ns.sum + n := by simp
    rw [hs] at hv
    constructor
    · intro hk
      have := hk 1 (by decide) (by decide)
      unfold Lt at this
      rw [e, hv 1 (by decide)] at this
      omega
    · intro hk t t0 t1
      unfold Lt
      rw [e, hv t t0]
      have := Int.mul_le_mul_of_nonneg_right hk t0
      omega
  unfold askB
  rw [hz, Bool.false_or]
  exact decide_eq_decide.2 hk
theorem put_st {L : List (Int × Cv)} {G : List Cv} {id n r : Int} (ns : List Int) (hl : G ++ L.map (·.2) = ns.map stC) (hk : lookM L id = none) (h : ∀ x ∈ ns, 0 ≤ x ∧ x ≤ 1048576) (h0 : 1 ≤ n) (h1 : n ≤ 1048576) :
    (ns.sum + n ≤ r → putC L G id (stC n) r = 0 ∧ putBk L G id (stC n) r = putM L id (stC n)) ∧ (¬ ns.sum + n ≤ r → putC L G id (stC n) r = 170 ∧ putBk L G id (stC n) r = L) := by
  have ho : okC (stC n) = true := by simp [stC, okC, mayB, h1]
  have ha := ask_st (r := r) hl h h0 h1
  constructor
  · intro hs
    have e1 : putC L G id (stC n) r = 0 := by unfold putC; rw [if_neg (by rw [ho]; simp), hk, if_neg (by simp), ha, if_neg (by simp [hs])]
    exact ⟨e1, by unfold putBk; rw [if_pos ⟨e1, by simp [stC]; omega⟩]⟩
  · intro hs
    have e1 : putC L G id (stC n) r = 170 := by unfold putC; rw [if_neg (by rw [ho]; simp), hk, if_neg (by simp), ha, if_pos (by simp [hs])]
    exact ⟨e1, by unfold putBk; rw [if_neg (by rw [e1]; simp)]⟩

theorem straight_any (n : Int) (w : World) : Calls Try.prog 33 #[.int .u64 n] w fun e w' => e = .returned (cvV (stC n)) ∧ Below w.heap.size w w' := by
  unfold cvV stC
  go_enter Try.func33, Try.ntmps33
  go_wp2_with fail
  have hE := Blk.new w 25 #[.int .u64 0, .int .u64 0, .int .u64 n]
  have q0 := hE.cell 0; have q1 := hE.cell 1; have q2 := hE.cell 2
  simp only [List.getElem?_toArray, List.getElem?_cons_zero, List.getElem?_cons_succ] at q0 q1 q2
  refine bodyPost_ret (v := .agg #[.int .u64 0, .int .u64 0, .int .u64 n]) (by simp [results, Try.results33, go_sem, q0, q1, q2]) rfl ⟨rfl, (Below.refl w.heap.size w).alloc (Nat.le_refl _) _⟩

/-- Put of a straight curve -/
theorem putS_any (id n : Int) (base g m : Nat) (r : Int) (L L' : List (Int × Cv)) (G : List Cv) (vg : Value) (w : World) (c : Int) (hp : putC L G id (stC n) r = c ∧ putBk L G id (stC n) r = L') (hu : U n) (hid : (Lit.int .i64 id).wf = true) (h : BkO w base g m r L G vg) (hf : L.length + G.length < 100000) :
    Calls Try.prog 10 #[.pointer (some ⟨g, 0, none⟩), .int .i64 id, cvV (stC n)] w fun e w' => e = .returned (.int .i64 c) ∧ BkO w' base g m r L' G vg ∧ Below base w w' := by
  have := putO_any 0 0 n id base g m r L G vg w ⟨⟨by decide, by decide⟩, ⟨by decide, by decide⟩, hu⟩ hid h hf
  refine this.mono fun e w' hw => ?_
  rw [← hp.1, ← hp.2]
  exact ⟨hw.1, hw.2.1, hw.2.2.1⟩

set_option maxRecDepth 100000 in
set_option maxHeartbeats 4000000 in
theorem awake_any (w : World) : Calls Try.prog 13 #[] w fun e w' => e = .returned (.bool true) ∧ Below w.heap.size w w' := by
  have q1 := (put_st (L := []) (G := []) (id := 1) (n := 60) (r := 100) [] rfl rfl (by simp) (by decide) (by decide)).1 (by decide)
  have q2 := (put_st (L := [(1, stC 60)]) (G := []) (id := 2) (n := 40) (r := 100) [60] rfl rfl (by simp) (by decide) (by decide)).1 (by decide)
  have q3 := (put_st (L := [(1, stC 60), (2, stC 40)]) (G := []) (id := 3) (n := 1) (r := 100) [60, 40] rfl rfl (by simp) (by decide) (by decide)).2 (by decide)
  have q4 := (put_st (L := [(1, stC 60)]) (G := [stC 40]) (id := 3) (n := 1) (r := 100) [40, 60] rfl rfl (by simp) (by decide) (by decide)).2 (by decide)
  have q5 := (put_st (L := [(1, stC 60)]) (G := []) (id := 3) (n := 40) (r := 100) [60] rfl rfl (by simp) (by decide) (by decide)).1 (by decide)
  have q6 : putC [(1, stC 60), (3, stC 40)] [] 3 (stC 0) 100 = 80 ∧ putBk [(1, stC 60), (3, stC 40)] [] 3 (stC 0) 100 = [(1, stC 60), (3, stC 40)] := by
    have e1 : putC [(1, stC 60), (3, stC 40)] [] 3 (stC 0) 100 = 80 := by unfold putC; rw [if_neg (by decide), if_pos (by decide)]
    exact ⟨e1, by unfold putBk; rw [if_neg (by rw [e1]; simp)]⟩
  have q7 : fitsB ([] ++ ([(1, stC 60), (3, stC 40)] : List (Int × Cv)).map (·.2)) (stC 1) 100 = false := by
    unfold fitsB
    rw [ask_st (l := [] ++ ([(1, stC 60), (3, stC 40)] : List (Int × Cv)).map (·.2)) (ns := [60, 40]) rfl (by simp) (by decide) (by decide)]
    decide
  have HQ := Lib.hid (And.intro q1 (And.intro q2 (And.intro q3 (And.intro q4 (And.intro q5 (And.intro q6 q7))))))
  clear q1 q2 q3 q4 q5 q6 q7
  go_enter Try.func13, Try.ntmps13
  go_wp2_with fail
  refine (make_any 100 _ ⟨by decide, by decide⟩).mono ?_
  rintro e w1 ⟨hcase, hb1⟩
  rcases hcase with ⟨hbad, rfl⟩ | ⟨_, g, m, rfl, hbo⟩
  · exact absurd (by decide) hbad
  have H1 := Lib.hid (And.intro hbo hb1)
  clear hbo hb1
  go_wp2_with fail
  refine (make_any 0 _ ⟨by decide, by decide⟩).mono ?_
  rintro e w2 ⟨hcase, hb2⟩
  rcases hcase with ⟨_, rfl⟩ | ⟨hbad, _⟩
  rotate_left
  · exact absurd hbad.1 (by decide)
  have HS2 := Lib.hid (And.intro (H1.out.1.later hb2) (H1.out.2.trans (hb2.mono H1.out.2.size)))
  clear hb2 H1
  go_wp2_with fail
  refine (straight_any 60 _).mono ?_
  rintro e w3 ⟨rfl, hb3⟩
  have HS3 := Lib.hid (And.intro (HS2.out.1.later hb3) (HS2.out.2.trans (hb3.mono HS2.out.2.size)))
  clear hb3 HS2
  have hp := putS_any 1 60 w.heap.size g m 100 [] [(1, stC 60)] [] _ w3 0 (by first | exact HQ.out.1) ⟨by decide, by decide⟩ (by decide) HS3.out.1 (by decide)
  go_wp2_with fail
  refine hp.mono ?_
  clear hp
  rintro e w4 ⟨rfl, hbo, hb4⟩
  have HS4 := Lib.hid (And.intro hbo (HS3.out.2.trans hb4))
  clear hbo hb4 HS3
  go_wp2_with fail
  refine (straight_any 40 _).mono ?_
  rintro e w5 ⟨rfl, hb5⟩
  have HS5 := Lib.hid (And.intro (HS4.out.1.later hb5) (HS4.out.2.trans (hb5.mono HS4.out.2.size)))
  clear hb5 HS4
  have hp := putS_any 2 40 w.heap.size g m 100 [(1, stC 60)] [(1, stC 60), (2, stC 40)] [] _ w5 0 (by first | exact HQ.out.2.1) ⟨by decide, by decide⟩ (by decide) HS5.out.1 (by decide)
  go_wp2_with fail
  refine hp.mono ?_
  clear hp
  rintro e w6 ⟨rfl, hbo, hb6⟩
  have HS6 := Lib.hid (And.intro hbo (HS5.out.2.trans hb6))
  clear hbo hb6 HS5
  go_wp2_with fail
  refine (straight_any 1 _).mono ?_
  rintro e w7 ⟨rfl, hb7⟩
  have HS7 := Lib.hid (And.intro (HS6.out.1.later hb7) (HS6.out.2.trans (hb7.mono HS6.out.2.size)))
  clear hb7 HS6
  have hp := putS_any 3 1 w.heap.size g m 100 [(1, stC 60), (2, stC 40)] [(1, stC 60), (2, stC 40)] [] _ w7 170 (by first | exact HQ.out.2.2.1) ⟨by decide, by decide⟩ (by decide) HS7.out.1 (by decide)
  go_wp2_with fail
  refine hp.mono ?_
  clear hp
  rintro e w8 ⟨rfl, hbo, hb8⟩
  have HS8 := Lib.hid (And.intro hbo (HS7.out.2.trans hb8))
  clear hbo hb8 HS7
  have hd := drop_any 2 true w.heap.size g m 100 [(1, stC 60), (2, stC 40)] [] _ w8 (by decide) HS8.out.1 (by decide)
  go_wp2_with fail
  refine hd.mono ?_
  clear hd
  rintro e w9 ⟨rfl, ⟨vg, hbo⟩, hb9, _⟩
  have hbo : BkO w9 w.heap.size g m 100 [(1, stC 60)] [stC 40] vg := hbo
  have HS9 := Lib.hid (And.intro hbo (HS8.out.2.trans hb9))
  clear hbo hb9 HS8
  have hlk : (lookM [(1, stC 60), (2, stC 40)] 2).isSome = true := by decide
  rw [hlk]
  clear hlk
  go_wp2_with fail
  refine (straight_any 1 _).mono ?_
  rintro e w10 ⟨rfl, hb10⟩
  have HS10 := Lib.hid (And.intro (HS9.out.1.later hb10) (HS9.out.2.trans (hb10.mono HS9.out.2.size)))
  clear hb10 HS9
  have hp := putS_any 3 1 w.heap.size g m 100 [(1, stC 60)] [(1, stC 60)] [stC 40] _ w10 170 (by first | exact HQ.out.2.2.2.1) ⟨by decide, by decide⟩ (by decide) HS10.out.1 (by decide)
  go_wp2_with fail
  refine hp.mono ?_
  clear hp
  rintro e w11 ⟨rfl, hbo, hb11⟩
  have HS11 := Lib.hid (And.intro hbo (HS10.out.2.trans hb11))
  clear hbo hb11 HS10
  have hd := settleO_any w.heap.size g m 100 [(1, stC 60)] [stC 40] _ w11 HS11.out.1
  go_wp2_with fail
  refine hd.mono ?_
  clear hd
  rintro e w12 ⟨rfl, hbo, hb12, _⟩
  have HS12 := Lib.hid (And.intro hbo (HS11.out.2.trans hb12))
  clear hbo hb12 HS11
  simp only [List.length_cons, List.length_nil]
  go_wp2_with fail
  refine (straight_any 40 _).mono ?_
  rintro e w13 ⟨rfl, hb13⟩
  have HS13 := Lib.hid (And.intro (HS12.out.1.later hb13) (HS12.out.2.trans (hb13.mono HS12.out.2.size)))
  clear hb13 HS12
  have hp := putS_any 3 40 w.heap.size g m 100 [(1, stC 60)] [(1, stC 60), (3, stC 40)] [] _ w13 0 (by first | exact HQ.out.2.2.2.2.1) ⟨by decide, by decide⟩ (by decide) HS13.out.1 (by decide)
  go_wp2_with fail
  refine hp.mono ?_
  clear hp
  rintro e w14 ⟨rfl, hbo, hb14⟩
  have HS14 := Lib.hid (And.intro hbo (HS13.out.2.trans hb14))
  clear hbo hb14 HS13
  go_wp2_with fail
  refine (straight_any 0 _).mono ?_
  rintro e w15 ⟨rfl, hb15⟩
  have HS15 := Lib.hid (And.intro (HS14.out.1.later hb15) (HS14.out.2.trans (hb15.mono HS14.out.2.size)))
  clear hb15 HS14
  have hp := putS_any 3 0 w.heap.size g m 100 [(1, stC 60), (3, stC 40)] [(1, stC 60), (3, stC 40)] [] _ w15 80 (by first | exact HQ.out.2.2.2.2.2.1) ⟨by decide, by decide⟩ (by decide) HS15.out.1 (by decide)
  go_wp2_with fail
  refine hp.mono ?_
  clear hp
  rintro e w16 ⟨rfl, hbo, hb16⟩
  have HS16 := Lib.hid (And.intro hbo (HS15.out.2.trans hb16))
  clear hbo hb16 HS15
  go_wp2_with fail
  refine (straight_any 1 _).mono ?_
  rintro e w17 ⟨rfl, hb17⟩
  have HS17 := Lib.hid (And.intro (HS16.out.1.later hb17) (HS16.out.2.trans (hb17.mono HS16.out.2.size)))
  clear hb17 HS16
  have hf := fits_any 0 0 1 g m 100 [(1, stC 60), (3, stC 40)] [] _ w17 ⟨⟨by decide, by decide⟩, ⟨by decide, by decide⟩, ⟨by decide, by decide⟩⟩ HS17.out.1.bk
  go_wp2_with fail
  refine hf.mono ?_
  clear hf
  rintro e w18 ⟨rfl, hb18⟩
  have hq7 : fitsB ([] ++ List.map (·.2) ([(1, stC 60), (3, stC 40)] : List (Int × Cv))) (0, 0, 1) 100 = false := HQ.out.2.2.2.2.2.2
  rw [hq7]
  clear hq7
  have HF := Lib.hid (HS17.out.2.trans (hb18.mono HS17.out.2.size))
  clear hb18 HS17
  go_wp2_with fail
  go_ret
  exact ⟨rfl, HF.out⟩
end Go.Proofs.Ythmhboagbeibdaa
