/-
  The document's book of curves: New, at, Put, Fits.
-/
import Derived.Test.YthmhboagbeibdaaRbWith
namespace Go.Proofs.Ythmhboagbeibdaa
set_option linter.unusedVariables false
open Go.RowKit

theorem keep_congr {l k : List Cv} {r : Int} (e : ∀ t, vS l t = vS k t) : Keep l r ↔ Keep k r := by
  unfold Keep Lt; simp only [e]
theorem keep_ins {G A B : List Cv} {c : Cv} {r : Int} : Keep ((A ++ [c] ++ B) ++ G) r ↔ Keep ((G ++ (A ++ B)) ++ [c]) r :=
  keep_congr fun t => by simp only [vS_append]; omega

theorem look_iff {α : Type} {k : Int} {L : List (Int × α)} : (lookM L k).isSome = true ↔ k ∈ L.map (·.1) := by
  constructor
  · intro h
    apply Classical.byContradiction
    intro hn
    rw [look_none.2 fun p hp e => hn (List.mem_map.2 ⟨p, hp, e⟩)] at h
    cases h
  · intro h
    cases hl : lookM L k with
    | some v => rfl
    | none =>
      obtain ⟨p, hp, e⟩ := List.mem_map.1 h
      exact absurd e (look_none.1 hl p hp)
theorem putM_split {α : Type} {id : Int} {c : α} : ∀ {L : List (Int × α)} {k : Nat}, id ∉ L.map (·.1) → k ≤ L.length → (∀ x ∈ (L.map (·.1)).take k, x < id) → (∀ x, (L.map (·.1))[k]? = some x → id ≤ x) → putM L id c = L.take k ++ [(id, c)] ++ L.drop k
  | [], k, _, hk, _, _ => by simp at hk; subst hk; rfl
  | p :: r, k, hn, hk, h1, h2 => by
    have hne : p.1 ≠ id := fun e => hn (by simp [e])
    cases k with
    | zero =>
      have := h2 p.1 (by simp)
      unfold putM
      rw [if_pos (by omega)]
      rfl
    | succ k =>
      have hlt := h1 p.1 (by simp)
      have ih := putM_split (c := c) (L := r) (k := k) (fun h => hn (by simp at h ⊢; exact .inr h)) (by simpa using hk) (fun x hx => h1 x (by rw [List.map_cons, List.take_succ_cons]; exact List.mem_cons_of_mem _ hx)) (fun x hx => h2 x (by simpa using hx))
      unfold putM
      rw [if_neg (by omega), if_neg (by omega), ih]
      rfl

set_option maxRecDepth 100000 in
theorem rat_any (id : Int) (p : Nat) (r : Int) (I : List Int) (V G : List Cv) (vi vl vg : Value) (w : World) (h : RbAt w p r I V G vi vl vg) :
    Calls Try.prog 26 #[.pointer (some ⟨p, 0, none⟩), .int .i64 id] w fun e w' => (∃ n : Int, e = .returned (.int .i64 n) ∧ (0 ≤ n ↔ id ∈ I)) ∧ Below w.heap.size w w' := by
  obtain ⟨ai, ci, rfl⟩ : ∃ a cap, vi = .slice a I.length cap := by obtain ⟨_, a, cap, e, _⟩ := h.ids; exact ⟨a, cap, e⟩
  have hIl : I.length ≤ 100000 := by have h1 := h.same; have h2 := h.few; omega
  have y1 := h.blk.cell 1
  simp only [List.getElem?_toArray, List.getElem?_cons_zero, List.getElem?_cons_succ] at y1
  have H := Lib.hid h
  clear h
  go_enter Try.func26, Try.ntmps26
  go_wp2_with fail
  go_loopw [5] (fun v5 W => ∃ k : Nat, v5 = .int .i64 k ∧ k ≤ I.length ∧ W = w ∧ id ∉ I.take k) (fun v5 _ => (I.length - Go.RowKit.intOf v5).toNat)
  case atStart => exact ⟨0, rfl, Nat.zero_le _, rfl, by simp⟩
  case round =>
    obtain ⟨k, rfl, hk, rfl, hno⟩ := hrel
    have HNO := Lib.hid hno
    clear hno
    by_cases hlt : k < I.length
    · obtain ⟨x, hx⟩ : ∃ x, I[k]? = some x := ⟨_, List.getElem?_eq_getElem hlt⟩
      obtain ⟨b, off, hab, hcx⟩ : ∃ b off, ai = some ⟨b, off, none⟩ ∧ wr.cell? ⟨b, off + k, none⟩ = some (.int .i64 x) := by
        obtain ⟨_, a', cap', e, h3⟩ := H.out.ids
        cases e
        rcases h3 with h3 | ⟨b, off, rfl, _, _, hcc⟩
        · rw [h3] at hlt; simp at hlt
        · exact ⟨b, off, rfl, hcc k x hx⟩
      subst hab
      have hT : I.take (k + 1) = I.take k ++ [x] := by rw [List.take_add_one, hx]; rfl
      have HT := Lib.hid hT; have HX := Lib.hid hx
      clear hT hx
      by_cases hxi : x = id
      · subst hxi
        go_wp2_with fail
        go_ret
        exact ⟨⟨k, rfl, ⟨fun _ => List.mem_of_getElem? HX.out, fun _ => by omega⟩⟩, Below.refl _ _⟩
      · have hxb : (x == id) = false := by simpa using hxi
        go_wp2_with fail
        go_roundw
        case measure => (simp [Go.RowKit.intOf]; try omega)
        case rel =>
          refine ⟨k + 1, by go_num, by omega, by first | rfl | trivial, fun hm => ?_⟩
          rw [HT.out] at hm
          rcases List.mem_append.1 hm with hm | hm
          · exact HNO.out hm
          · simp at hm; exact hxi hm.symm
    · obtain rfl : k = I.length := by omega
      go_wp2_with fail
      go_ret
      refine ⟨⟨-1, rfl, ⟨fun h => by omega, fun h => absurd h (by have := HNO.out; rwa [List.take_length] at this)⟩⟩, Below.refl _ _⟩

def RputW (w : World) (r : Int) (L : List (Int × Cv)) (G : List Cv) (id : Int) (c : Cv) (e : Ending) (w' : World) : Prop :=
  ∃ p' vi vl vg, e = .returned (.tuple #[.pointer (some ⟨p', 0, none⟩), .int .i64 (putC L G id c r)]) ∧ RbAt w' p' r ((putBk L G id c r).map (·.1)) ((putBk L G id c r).map (·.2)) G vi vl vg ∧ Below w.heap.size w w'

set_option maxRecDepth 100000 in
set_option maxHeartbeats 4000000 in
theorem rput_any (F0 L0 R0 id : Int) (p : Nat) (r : Int) (L : List (Int × Cv)) (G : List Cv) (vi vl vg : Value) (w : World) (hc : U F0 ∧ U L0 ∧ U R0) (hr : U r) (h : RbAt w p r (L.map (·.1)) (L.map (·.2)) G vi vl vg) (hfl : L.length + G.length < 100000) :
    Calls Try.prog 9 #[.pointer (some ⟨p, 0, none⟩), .int .i64 id, .agg #[.int .u64 F0, .int .u64 L0, .int .u64 R0]] w (RputW w r L G id (F0, L0, R0)) := by
  have hmay := fun W => rmay_any F0 L0 R0 W hc.2.1.1
  rw [show mayB F0 L0 R0 = okC (F0, L0, R0) from rfl] at hmay
  have hb0 := (Below.refl w.heap.size w).alloc (Nat.le_refl _) (.cells #[.int .u64 F0, .int .u64 L0, .int .u64 R0] 25)
  have hB0 := Blk.new w 25 #[.int .u64 F0, .int .u64 L0, .int .u64 R0]
  have H := Lib.hid h; have HB := Lib.hid (And.intro hb0 hB0); have HM := Lib.hid hmay
  clear h hmay
  go_enter Try.func9, Try.ntmps9
  clear hb0 hB0
  go_wp2_with fail
  refine (HM.out _).mono ?_
  rintro e w2 ⟨rfl, hb2⟩
  have hbw2 := HB.out.1.trans (hb2.mono HB.out.1.size)
  have hB2 := HB.out.2.below hb2 HB.out.2.lt
  have HB2 := Lib.hid (And.intro hbw2 hB2)
  clear hb2 hbw2 hB2 HB
  cases ok : okC (F0, L0, R0)
  · have HOK := Lib.hid ok
    clear ok
    go_wp2_with fail
    go_ret2
    have e1 : putC L G id (F0, L0, R0) r = 30 := by unfold putC; rw [if_pos HOK.out]
    refine ⟨p, vi, vl, vg, by rw [e1]; rfl, ?_, HB2.out.1⟩
    unfold putBk
    rw [e1, if_neg (by simp)]
    exact H.out.later HB2.out.1
  · have HOK := Lib.hid ok
    clear ok
    have hat := rat_any id p r _ _ _ _ _ _ w2 (H.out.later HB2.out.1)
    go_wp2_with fail
    refine hat.mono ?_
    clear hat
    rintro e w3 ⟨⟨n, rfl, hn⟩, hb3⟩
    have hbw3 := HB2.out.1.trans (hb3.mono HB2.out.1.size)
    have hB3 := HB2.out.2.below hb3 HB2.out.2.lt
    by_cases hn0 : 0 ≤ n
    · have hs : (lookM L id).isSome = true := look_iff.2 (hn.1 hn0)
      have HS := Lib.hid hs; have HB3 := Lib.hid hbw3
      clear hs hb3 hbw3 hB3 hn
      go_wp2_with fail
      go_ret2
      have e1 : putC L G id (F0, L0, R0) r = 80 := by unfold putC; rw [if_neg (by rw [HOK.out]; simp), if_pos HS.out]
      refine ⟨p, vi, vl, vg, by rw [e1]; rfl, ?_, HB3.out⟩
      unfold putBk
      rw [e1, if_neg (by simp)]
      exact H.out.later HB3.out
    · have hmem : id ∉ L.map (·.1) := fun h => hn0 (hn.2 h)
      have hs : ¬ (lookM L id).isSome = true := fun h => hmem (look_iff.1 h)
      have hwi := rwith_any F0 L0 R0 id p r _ _ _ _ _ _ w3 hc (H.out.later hbw3) (by simpa using hfl)
      have c0 := hB3.cell 0; have c1 := hB3.cell 1; have c2 := hB3.cell 2
      simp only [List.getElem?_toArray, List.getElem?_cons_zero, List.getElem?_cons_succ] at c0 c1 c2
      have HS := Lib.hid hs; have HME := Lib.hid hmem; have HB3 := Lib.hid (And.intro hbw3 hB3)
      clear hs hb3 hbw3 hB3 hn hmem
      go_wp2_with fail
      clear c0 c1 c2
      refine hwi.mono ?_
      clear hwi
      rintro e w4 hw4
      by_cases hz : (F0, L0, R0) = ((0, 0, 0) : Cv)
      · rcases hw4 with ⟨_, q, vi1, vl1, vg1, rfl, hq, hqs, hb4, hvg⟩ | ⟨hne, _⟩
        · have hbw4 := HB3.out.1.trans (hb4.mono HB3.out.1.size)
          have hB4 := HB3.out.2.below hb4 HB3.out.2.lt
          have c0 := hB4.cell 0; have c1 := hB4.cell 1; have c2 := hB4.cell 2
          simp only [List.getElem?_toArray, List.getElem?_cons_zero, List.getElem?_cons_succ] at c0 c1 c2
          have HQ := Lib.hid hq; have HB4 := Lib.hid hbw4
          clear hq hqs hb4 hvg hbw4 hB4
          have hz2 := hz
          simp only [Prod.mk.injEq] at hz2
          obtain ⟨rfl, rfl, rfl⟩ := hz2
          go_wp2_with fail
          go_ret2
          have e1 : putC L G id (0, 0, 0) r = 0 := by unfold putC; rw [if_neg (by rw [HOK.out]; simp), if_neg HS.out, if_neg (by unfold askB; simp)]
          refine ⟨q, vi1, vl1, vg1, by rw [e1]; rfl, ?_, HB4.out⟩
          unfold putBk
          rw [if_neg (by simp)]
          exact HQ.out
        · exact absurd hz hne
      · rcases hw4 with ⟨h0, _⟩ | ⟨_, k, hk, hlo, hhi, q, vi1, vl1, vg1, rfl, hq, hqs, hb4, hvg⟩
        · exact absurd h0 hz
        · have hbw4 := HB3.out.1.trans (hb4.mono HB3.out.1.size)
          have hB4 := HB3.out.2.below hb4 HB3.out.2.lt
          have c0 := hB4.cell 0; have c1 := hB4.cell 1; have c2 := hB4.cell 2
          simp only [List.getElem?_toArray, List.getElem?_cons_zero, List.getElem?_cons_succ] at c0 c1 c2
          have hsp := putM_split (c := (F0, L0, R0)) HME.out (by simpa using hk) hlo hhi
          have hi : (L.map (·.1)).take k ++ [id] ++ (L.map (·.1)).drop k = (putM L id (F0, L0, R0)).map (·.1) := by rw [hsp]; simp [List.map_take, List.map_drop]
          have hv : (L.map (·.2)).take k ++ [(F0, L0, R0)] ++ (L.map (·.2)).drop k = (putM L id (F0, L0, R0)).map (·.2) := by rw [hsp]; simp [List.map_take, List.map_drop]
          have hkeep : decide (Keep ((putM L id (F0, L0, R0)).map (·.2) ++ G) r) = askB (G ++ L.map (·.2)) (F0, L0, R0) r := by
            unfold askB
            rw [decide_eq_false hz, Bool.false_or, ← hv]
            have hcat : (L.map (·.2)).take k ++ (L.map (·.2)).drop k = L.map (·.2) := List.take_append_drop _ _
            rw [Bool.eq_iff_iff, decide_eq_true_eq, decide_eq_true_eq, keep_ins, hcat]
          rw [hi, hv] at hq
          have hkp := rkept_any q r _ _ _ _ _ _ w4 hq hr
          rw [hkeep] at hkp
          have HQ := Lib.hid hq; have HB4 := Lib.hid hbw4; have HZ := Lib.hid hz
          clear hq hqs hb4 hvg hbw4 hB4 hsp hi hv hkeep hlo hhi hk
          have E1 := Lib.hid (show putC L G id (F0, L0, R0) r = if askB (G ++ L.map (·.2)) (F0, L0, R0) r = false then 170 else 0 by unfold putC; rw [if_neg (by rw [HOK.out]; simp), if_neg HS.out])
          obtain ⟨kb, hkb⟩ : ∃ kb, askB (G ++ L.map (·.2)) (F0, L0, R0) r = kb := ⟨_, rfl⟩
          rw [hkb] at hkp
          have HKB := Lib.hid hkb
          clear hkb
          go_upto_region 6 with fail
          go_cut [2, 9, 20, 29] from 22 to 28 (fun _ _ _ v wx => v = .bool (!kb) ∧ Below w4.heap.size w4 wx)
          case first =>
            go_wp2_with fail
            all_goals first
              | (refine absurd ?_ hz; simp only [Prod.mk.injEq]; refine ⟨?_, ?_, ?_⟩ <;> assumption)
              | (refine hkp.mono ?_; rintro e w5 ⟨rfl, hb5⟩; have HB5 := Lib.hid hb5; clear hb5; go_wp2_with fail; go_meet; exact ⟨by cases kb <;> rfl, HB5.out⟩)
          case rest =>
            obtain ⟨rfl, hb5⟩ := hcut
            have HB5 := Lib.hid (HB4.out.trans (hb5.mono HB4.out.size)); have HQ5 := Lib.hid (HQ.out.later hb5)
            clear hb5 c0 c1 c2 hkp
            cases kb
            · go_wp2_with fail
              go_ret2
              have e1 : putC L G id (F0, L0, R0) r = 170 := by rw [E1.out, HKB.out]; rfl
              refine ⟨p, vi, vl, vg, by rw [e1]; rfl, ?_, HB5.out⟩
              unfold putBk
              rw [e1, if_neg (by simp)]
              exact H.out.later HB5.out
            · go_wp2_with fail
              go_ret2
              have e1 : putC L G id (F0, L0, R0) r = 0 := by rw [E1.out, HKB.out]; rfl
              refine ⟨q, vi1, vl1, vg1, by rw [e1]; rfl, ?_, HB5.out⟩
              unfold putBk
              rw [if_pos ⟨e1, HZ.out⟩]
              exact HQ5.out

set_option maxRecDepth 100000 in
set_option maxHeartbeats 4000000 in
theorem rfits_any (F0 L0 R0 : Int) (p : Nat) (r : Int) (I : List Int) (V G : List Cv) (vi vl vg : Value) (w : World) (hc : U F0 ∧ U L0 ∧ U R0) (hr : U r) (h : RbAt w p r I V G vi vl vg) (hfl : V.length + G.length < 100000) :
    Calls Try.prog 12 #[.pointer (some ⟨p, 0, none⟩), .agg #[.int .u64 F0, .int .u64 L0, .int .u64 R0]] w (FitsW w (G ++ V) (F0, L0, R0) r) := by
  have hmay := fun W => rmay_any F0 L0 R0 W hc.2.1.1
  rw [show mayB F0 L0 R0 = okC (F0, L0, R0) from rfl] at hmay
  have hb0 := (Below.refl w.heap.size w).alloc (Nat.le_refl _) (.cells #[.int .u64 F0, .int .u64 L0, .int .u64 R0] 25)
  have hB0 := Blk.new w 25 #[.int .u64 F0, .int .u64 L0, .int .u64 R0]
  have H := Lib.hid h; have HB := Lib.hid (And.intro hb0 hB0); have HM := Lib.hid hmay
  clear h hmay hb0 hB0
  go_enter Try.func12, Try.ntmps12
  go_wp2_with fail
  refine (HM.out _).mono ?_
  rintro e w2 ⟨rfl, hb2⟩
  have hbw2 := HB.out.1.trans (hb2.mono HB.out.1.size)
  have hB2 := HB.out.2.below hb2 HB.out.2.lt
  have HB2 := Lib.hid hbw2
  cases ok : okC (F0, L0, R0)
  · have HOK := Lib.hid ok
    clear ok hb2 hbw2 hB2 HB
    go_wp2_with fail
    go_ret
    exact ⟨by unfold fitsB; rw [HOK.out]; rfl, HB2.out⟩
  · have HOK := Lib.hid ok
    have c0 := hB2.cell 0; have c1 := hB2.cell 1; have c2 := hB2.cell 2
    simp only [List.getElem?_toArray, List.getElem?_cons_zero, List.getElem?_cons_succ] at c0 c1 c2
    have hwi := rwith_any F0 L0 R0 (-1) p r _ _ _ _ _ _ w2 hc (H.out.later hbw2) hfl
    by_cases hz : (F0, L0, R0) = ((0, 0, 0) : Cv)
    · simp only [Prod.mk.injEq] at hz
      obtain ⟨rfl, rfl, rfl⟩ := hz
      clear ok hb2 hbw2 hB2 HB hwi
      go_wp2_with fail
      go_ret
      exact ⟨by unfold fitsB askB; rw [HOK.out]; rfl, HB2.out⟩
    · have HZ := Lib.hid hz
      clear ok hb2 hbw2 hB2 HB
      obtain ⟨kb, hkb⟩ : ∃ kb, askB (G ++ V) (F0, L0, R0) r = kb := ⟨_, rfl⟩
      have HKB := Lib.hid hkb
      clear hkb
      have hw : Calls Try.prog 27 #[.pointer (some ⟨p, 0, none⟩), .int .i64 (-1), .agg #[.int .u64 F0, .int .u64 L0, .int .u64 R0]] w2 (fun e w4 => ∃ q, e = .returned (.pointer (some ⟨q, 0, none⟩)) ∧ Calls Try.prog 28 #[.pointer (some ⟨q, 0, none⟩)] w4 (fun e w' => e = .returned (.bool kb) ∧ Below w4.heap.size w4 w') ∧ Below w.heap.size w w4) := hwi.mono fun e w4 hw4 => by
        rcases hw4 with ⟨h0, _⟩ | ⟨_, k, hk, hlo, hhi, q, vi1, vl1, vg1, he, hq, hqs, hb4, hvg⟩
        · exact absurd h0 hz
        · have hkp := rkept_any q r _ _ _ _ _ _ w4 hq hr
          have hkeep : decide (Keep ((V.take k ++ [(F0, L0, R0)] ++ V.drop k) ++ G) r) = kb := by
            rw [← HKB.out]
            unfold askB
            rw [decide_eq_false hz, Bool.false_or]
            have hcat : V.take k ++ V.drop k = V := List.take_append_drop _ _
            rw [Bool.eq_iff_iff, decide_eq_true_eq, decide_eq_true_eq, keep_ins, hcat]
          rw [hkeep] at hkp
          exact ⟨q, he, hkp, HB2.out.trans (hb4.mono HB2.out.size)⟩
      have hres : ∀ w', Below w.heap.size w w' → FitsW w (G ++ V) (F0, L0, R0) r (.returned (.bool kb)) w' := fun w' hb => ⟨by unfold fitsB; rw [HOK.out, HKB.out]; rfl, hb⟩
      have HRES := Lib.hid hres
      clear hwi hres
      go_wp2_with fail
      all_goals first
        | (refine absurd ?_ hz; simp only [Prod.mk.injEq]; refine ⟨?_, ?_, ?_⟩ <;> assumption)
        | (simp only [‹F0 = 0›, ‹L0 = 0›] at hw
           refine hw.mono ?_
           clear hw
           rintro e w4 ⟨q, rfl, hkp, hb4⟩
           have HB4 := Lib.hid hb4
           clear hb4 c0 c1 c2
           go_wp2_with fail
           refine hkp.mono ?_
           clear hkp
           rintro e w5 ⟨rfl, hb5⟩
           have HB5 := Lib.hid (HB4.out.trans (hb5.mono HB4.out.size))
           clear hb5
           go_wp2_with fail
           go_ret
           exact HRES.out _ HB5.out)
        | (simp only [‹F0 = 0›] at hw
           refine hw.mono ?_
           clear hw
           rintro e w4 ⟨q, rfl, hkp, hb4⟩
           have HB4 := Lib.hid hb4
           clear hb4 c0 c1 c2
           go_wp2_with fail
           refine hkp.mono ?_
           clear hkp
           rintro e w5 ⟨rfl, hb5⟩
           have HB5 := Lib.hid (HB4.out.trans (hb5.mono HB4.out.size))
           clear hb5
           go_wp2_with fail
           go_ret
           exact HRES.out _ HB5.out)
        | (refine hw.mono ?_
           clear hw
           rintro e w4 ⟨q, rfl, hkp, hb4⟩
           have HB4 := Lib.hid hb4
           clear hb4 c0 c1 c2
           go_wp2_with fail
           refine hkp.mono ?_
           clear hkp
           rintro e w5 ⟨rfl, hb5⟩
           have HB5 := Lib.hid (HB4.out.trans (hb5.mono HB4.out.size))
           clear hb5
           go_wp2_with fail
           go_ret
           exact HRES.out _ HB5.out)
end Go.Proofs.Ythmhboagbeibdaa
