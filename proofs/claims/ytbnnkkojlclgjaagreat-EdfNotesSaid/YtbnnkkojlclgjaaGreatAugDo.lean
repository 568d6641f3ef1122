/-
  The tree of ids by keys: what is noted of an id; an id is dropped, put.
-/
import Derived.Test.YtbnnkkojlclgjaaGreatAug
namespace Go.Proofs.YtbnnkkojlclgjaaGreat
set_option linter.unusedVariables false
open Go.RowKit Go.Maps
attribute [local go_sem ↓] Go.wp_at_zero Go.wp_at_succ
attribute [local go_sem] quietR quietAtR quietUponR midAt midUpon plain plainUpon

def GetAW (w : World) (o : Option En) (e : Ending) (w' : World) : Prop := e = .returned (.tuple #[.int .u64 (o.map (·.1.1)|>.getD 0), .int .u64 (o.map (·.2)|>.getD 0), .bool o.isSome]) ∧ Below w.heap.size w w'
theorem kyV_zero : kyV (0, 0) = .agg #[.int .u64 0, .int .i64 0] := rfl
theorem AugAt.look_ok {w : World} {q g m : Nat} {t : RB} {M : List (Int × Ky)} (h : AugAt w q g m t M) {i : Int} (hi : (Lit.int .i64 i).wf = true) :
    (Instr.lookup 84 (.map (some m)) (.int .i64 i) true).run Tryz.prog w = .ok (.tuple #[((getE (listT t) i).map fun e => kyV e.1).getD (kyV (0, 0)), .bool (getE (listT t) i).isSome]) w := by
  have := h.map.look_ok (k := i) (E := 131) (T := 84) (z := kyV (0, 0)) Tryz.underlying3 Tryz.underlying84 (by exact Tryz.zeroValue131 _) hi
  rw [look_map, h.look i] at this
  rw [this]
  cases getE (listT t) i <;> rfl
theorem rbget_over (g : Nat) (x : Ky) (v : Int) (t : RB) (w : World) (h : RbT w g t) (hx : (x, v) ∈ listT t) :
    Calls Tryz.prog 82 #[.pointer (some ⟨g, 0, none⟩), .agg #[.int .u64 x.1, .int .i64 x.2]] w fun e w' => e = .returned (.tuple #[.int .u64 v, .bool true]) ∧ Below w.heap.size w w' := rbget_any g x v t w h hx
set_option maxRecDepth 100000 in
set_option maxHeartbeats 4000000 in
theorem aget_any (q g m : Nat) (i : Int) (t : RB) (M : List (Int × Ky)) (w : World) (h : AugAt w q g m t M) (hi : (Lit.int .i64 i).wf = true) :
    Calls Tryz.prog 67 #[.pointer (some ⟨q, 0, none⟩), .int .i64 i] w (GetAW w (getE (listT t) i)) := by
  have h1 := of_any q g _ w h.aug
  have hl := h.look_ok hi
  have c1 := h.aug.cell 1
  simp only [List.getElem?_toArray, List.getElem?_cons_zero, List.getElem?_cons_succ] at c1
  have H := Lib.hid h
  clear h
  cases he : getE (listT t) i with
  | none =>
    rw [he] at hl
    simp only [Option.map_none, Option.getD_none, Option.isSome_none, kyV_zero] at hl
    clear he
    go_enter Tryz.func67, Tryz.ntmps67
    go_wp2_with fail
    refine h1.mono ?_
    clear h1
    rintro e w1 ⟨rfl, rfl⟩
    go_wp2_with fail
    go_ret3
    refine ⟨rfl, ?_⟩
    go_grown
  | some e =>
    obtain ⟨⟨a, i2⟩, b⟩ := e
    have hs := getE_some he
    rw [he] at hl
    simp only [Option.map_some, Option.getD_some, Option.isSome_some, kyV] at hl
    have HS := Lib.hid hs
    clear he hs
    go_enter Tryz.func67, Tryz.ntmps67
    go_wp2_with fail
    refine h1.mono ?_
    clear h1
    rintro e w1 ⟨rfl, rfl⟩
    go_upto_region 6 with fail
    clear hl c1
    have hb0 := (Below.refl w.heap.size w).alloc (Nat.le_refl _) (.cells #[.int .u64 a, .int .i64 i2] 131)
    have hk0 := Blk.new w 131 #[.int .u64 a, .int .i64 i2]
    obtain ⟨kb, hkb⟩ : ∃ q, q = w.heap.size := ⟨_, rfl⟩
    rw [← hkb] at hk0 ⊢
    have H1 := Lib.hid (And.intro (H.out.later hb0) (And.intro hk0 hb0))
    clear hkb hb0 hk0 H
    generalize w.alloc (.cells #[.int .u64 a, .int .i64 i2] 131) = W1 at H1 ⊢
    have oq := fun e => (over_cell (w := W1) (e := e) (o := 0) H1.out.1.aug.lt).trans (H1.out.1.aug.cell 0)
    have ok0 := fun e => (over_cell (w := W1) (e := e) (o := 0) H1.out.2.1.lt).trans (H1.out.2.1.cell 0)
    have ok1 := fun e => (over_cell (w := W1) (e := e) (o := 1) H1.out.2.1.lt).trans (H1.out.2.1.cell 1)
    simp only [List.getElem?_toArray, List.getElem?_cons_zero, List.getElem?_cons_succ] at oq ok0 ok1
    refine wp_region_over (by kernel_rfl) (by kernel_rfl) ?_
    repeat (first | go_big_quiet_skip | (go_big_quiet_want; go_big_quiet_op; first | go_big_quiet_on | (apply Exists.intro; refine ⟨fun e => ?_, ?_⟩; (focus (go_at_call 82; with_reducible exact calls_over (rbget_over g (a, i2) b t _ (H1.out.1.tr.later (over_below W1 e)) HS.out.1))); go_big_quiet_on)))
    refine wpQuiet_nil ?_
    rintro W2 ⟨e, he⟩
    have hb2 := over_below W1 e
    rw [← he] at hb2
    have k0 : W2.cell? ⟨kb, 0, none⟩ = _ := he ▸ ok0 e
    have HB := Lib.hid (H1.out.2.2.trans (hb2.mono H1.out.2.2.size))
    clear oq ok0 ok1 he hb2 H1
    go_wp2_with fail
    go_ret3
    exact ⟨rfl, HB.out⟩
theorem fr_grown {w w' : World} {m : Nat} (h : w.grownBy w' (some m)) : Fr (fun b => b = m) w w' := ⟨h.os, h.tape, h.output, h.size, fun b hb hn => h.block b hb fun e => hn (Option.some.inj e)⟩
theorem Fr.trans2 {S T : Nat → Prop} {w w1 w' : World} (h : Fr S w w1) (k : Fr T w1 w') (hs : ∀ b, b < w.heap.size → T b → S b) : Fr S w w' :=
  ⟨k.os.trans h.os, k.tape.trans h.tape, k.output.trans h.output, Nat.le_trans h.size k.size, fun b hb hn => (k.block b (Nat.lt_of_lt_of_le hb h.size) fun ht => hn (hs b hb ht)).trans (h.block b hb hn)⟩
/-- the map turned: the tree and the rest are as they were -/
theorem AugAt.turn {w w' : World} {q g m : Nat} {t : RB} {M M' : List (Int × Ky)} (h : AugAt w q g m t M) (hg : w.grownBy w' (some m)) : Blk w' q 86 #[.pointer (some ⟨g, 0, none⟩), .map (some m)] ∧ RbT w' g t :=
  ⟨h.aug.fr (fr_grown hg) (blk_mapA h.aug h.map), h.tr.fr (fr_grown hg) (blk_mapA h.tr.tree h.map) fun a ha e => node_mapA h.map h.tr.rb (e ▸ ha)⟩
def ADropW (w : World) (q g m : Nat) (t : RB) (i : Int) (e : Ending) (w' : World) : Prop :=
  ∃ t' M', e = .returned (.bool (getE (listT t) i).isSome) ∧ AugAt w' q g m t' M' ∧ listT t' = dropI (listT t) i ∧ (∀ b ∈ addrs t', b ∈ addrs t ∨ w.heap.size ≤ b) ∧ Fr (ownA q g m t) w w'
set_option maxRecDepth 100000 in
set_option maxHeartbeats 4000000 in
theorem adrop_any (q g m : Nat) (i : Int) (t : RB) (M : List (Int × Ky)) (w : World) (h : AugAt w q g m t M) (hi : (Lit.int .i64 i).wf = true) (hfew : (listT t).length < 1000000) :
    Calls Tryz.prog 59 #[.pointer (some ⟨q, 0, none⟩), .int .i64 i] w (ADropW w q g m t i) := by
  have h1 := of_any q g _ w h.aug
  have hl := h.look_ok hi
  have c1 := h.aug.cell 1
  simp only [List.getElem?_toArray, List.getElem?_cons_zero, List.getElem?_cons_succ] at c1
  have H := Lib.hid h
  clear h
  cases he : getE (listT t) i with
  | none =>
    rw [he] at hl
    simp only [Option.map_none, Option.getD_none, Option.isSome_none, kyV_zero] at hl
    have HE := Lib.hid he
    clear he
    go_enter Tryz.func59, Tryz.ntmps59
    go_wp2_with fail
    refine h1.mono ?_
    clear h1
    rintro e w1 ⟨rfl, rfl⟩
    go_wp2_with fail
    go_ret
    have hb : Below w.heap.size w (w.alloc (.cells #[.int .u64 0, .int .i64 0] 131)) := (Below.refl _ _).alloc (Nat.le_refl _) _
    exact ⟨t, M, by rw [HE.out]; rfl, H.out.later hb, (dropI_not (getE_none.1 HE.out)).symm, fun b hb => .inl hb, Fr.of_below hb⟩
  | some e =>
    obtain ⟨⟨a, i2⟩, b⟩ := e
    have hs := getE_some he
    obtain rfl : i2 = i := hs.2
    rw [he] at hl
    simp only [Option.map_some, Option.getD_some, Option.isSome_some, kyV] at hl
    have HS := Lib.hid (And.intro hs.1 he)
    have hfew2 := Lib.hid hfew
    clear he hs hfew
    go_enter Tryz.func59, Tryz.ntmps59
    go_wp2_with fail
    refine h1.mono ?_
    clear h1
    rintro e w1 ⟨rfl, rfl⟩
    go_upto_region 6 with fail
    clear hl c1
    have hb0 := (Below.refl w.heap.size w).alloc (Nat.le_refl _) (.cells #[.int .u64 a, .int .i64 i2] 131)
    have hk0 := Blk.new w 131 #[.int .u64 a, .int .i64 i2]
    obtain ⟨kb, hkb⟩ : ∃ q, q = w.heap.size := ⟨_, rfl⟩
    rw [← hkb] at hk0 ⊢
    have H1 := Lib.hid (And.intro (H.out.later hb0) (And.intro hk0 hb0))
    clear hkb hb0 hk0
    generalize w.alloc (.cells #[.int .u64 a, .int .i64 i2] 131) = W1 at H1 ⊢
    have c1 := H1.out.1.aug.cell 1
    simp only [List.getElem?_toArray, List.getElem?_cons_zero, List.getElem?_cons_succ] at c1
    have hdel := fun ty => H1.out.1.map.drop (k := i2) (E := 131) (T := 84) Tryz.underlying3 Tryz.underlying84 hi ty
    obtain ⟨W2, hr, hm2, htn⟩ := hdel 0
    rw [del_map] at hm2
    obtain ⟨hq2, ht2⟩ := H1.out.1.turn (M' := M) htn.grown
    have hf2 : Fr (ownA q g m t) w W2 := (Fr.of_below H1.out.2.2).trans ((fr_grown htn.grown).weak fun b _ hb => .inr (.inr (.inl hb)))
    have hk2 := H1.out.2.1.grown htn.grown (fun e => by have := blk_mapA H1.out.2.1 H1.out.1.map; exact this (Option.some.inj e))
    have H2 := Lib.hid (And.intro hq2 (And.intro ht2 (And.intro hm2 (And.intro hk2 hf2))))
    clear hdel htn hm2 hq2 ht2 hf2 hk2
    go_upto_region 7 with fail
    clear hr c1
    have oq := fun e => (over_cell (w := W2) (e := e) (o := 0) H2.out.1.lt).trans (H2.out.1.cell 0)
    have ok0 := fun e => (over_cell (w := W2) (e := e) (o := 0) H2.out.2.2.2.1.lt).trans (H2.out.2.2.2.1.cell 0)
    have ok1 := fun e => (over_cell (w := W2) (e := e) (o := 1) H2.out.2.2.2.1.lt).trans (H2.out.2.2.2.1.cell 1)
    simp only [List.getElem?_toArray, List.getElem?_cons_zero, List.getElem?_cons_succ] at oq ok0 ok1
    refine wp_region_over_tail 5 (by kernel_rfl) (by kernel_rfl) ?_
    simp only [List.take_succ_cons, List.take_zero, List.drop_succ_cons, List.drop_zero]
    repeat (first | go_big_quiet_skip | (go_big_quiet_want; go_big_quiet_op; go_big_quiet_on))
    refine wpQuiet_nil ?_
    rintro W3 ⟨e, he⟩
    have hb3 := over_below W2 e
    rw [← he] at hb3
    have H3 := Lib.hid (And.intro (H2.out.1.below hb3 H2.out.1.lt) (And.intro (H2.out.2.1.later hb3) (And.intro (H2.out.2.2.1.heap (hb3.block m H2.out.2.2.1.lt)) (H2.out.2.2.2.2.trans (Fr.of_below hb3)))))
    clear oq ok0 ok1 he hb3 H2
    have hdr := rbdrop_any g t (a, i2) b W3 H3.out.2.1 HS.out.1 hfew2.out
    go_wp2_with fail
    refine hdr.mono ?_
    clear hdr
    rintro e W4 ⟨t', rfl, hT, hlist, hsub, hf4⟩
    have hgm := blk_mapA H3.out.2.1.tree H3.out.2.2.1
    have hmt := node_mapA H3.out.2.2.1 H3.out.2.1.rb
    have hnot : ∀ x, ownR g t x → x ≠ q ∧ x ≠ m := by
      rintro x (rfl | hx)
      · refine ⟨fun e => ?_, hgm⟩
        have h1 := H3.out.1
        rw [← e] at h1
        have := h1.symm.trans H3.out.2.1.tree
        simp only [Option.some.injEq, Obj.cells.injEq] at this
        exact absurd this.2.1 (by decide)
      · exact ⟨fun e => RBAt.typed H3.out.1 (by decide) H3.out.2.1.rb (e ▸ hx), fun e => hmt (e ▸ hx)⟩
    have hlist' := hlist.trans (del_drop H.out.inv HS.out.1)
    have hlk : lookM M i2 = some (a, i2) := by rw [H.out.look i2, HS.out.2]; rfl
    have hA : AugAt W4 q g m t' (delM M i2) := by
      refine ⟨H3.out.1.fr hf4 fun hs => (hnot q hs).1 rfl, hT, H3.out.2.2.1.heap (hf4.block m H3.out.2.2.1.lt fun hs => (hnot m hs).2 rfl), by rw [hlist']; exact H.out.inv.drop i2, fun j => ?_, ?_⟩
      · rw [hlist', get_drop H.out.inv]
        by_cases hj : j = i2
        · subst hj
          rw [look_del_same, if_pos rfl]; rfl
        · rw [look_del_other hj, if_neg hj]
          exact H.out.look j
      · have e1 : (delM M i2).length + 1 = M.length := del_len (k := i2) (v := (a, i2)) (M := M) (by
          have := H.out.map.rising (int_keyed Tryz.underlying3)
          have h2 : Rising (mapV kyV M) := this
          unfold Rising mapV at h2
          rw [List.pairwise_map] at h2
          exact h2) hlk
        have e2 : (dropI (listT t) i2).length + 1 = (listT t).length := drop_length H.out.inv.ids HS.out.1
        rw [show listT t' = dropI (listT t) i2 from hlist']
        have e3 := H.out.len
        omega
    have HF := Lib.hid (And.intro hA (And.intro hlist' (And.intro hsub (H3.out.2.2.2.trans (hf4.weak fun x _ hx => hx.elim (fun e => .inr (.inl e)) fun hx => .inr (.inr (.inr hx)))))))
    clear hT hlist hsub hf4 hgm hmt hnot hlist' hlk hA H3
    go_wp2_with fail
    go_ret
    exact ⟨t', _, by rw [HS.out.2]; rfl, HF.out.1, HF.out.2.1, fun x hx => .inl (HF.out.2.2.1 x hx), HF.out.2.2.2⟩
def APutW (w : World) (q g m : Nat) (t : RB) (i a b : Int) (e : Ending) (w' : World) : Prop :=
  ∃ t' M', e = .returned (.tuple #[]) ∧ AugAt w' q g m t' M' ∧ listT t' = putI (listT t) i a b ∧ (∀ x ∈ addrs t', x ∈ addrs t ∨ w.heap.size ≤ x) ∧ Fr (ownA q g m t) w w'
set_option maxRecDepth 100000 in
set_option maxHeartbeats 4000000 in
theorem aput_any (q g m : Nat) (i a b : Int) (t : RB) (M : List (Int × Ky)) (w : World) (h : AugAt w q g m t M) (hi : (Lit.int .i64 i).wf = true) (hfew : (listT t).length < 900000) :
    Calls Tryz.prog 61 #[.pointer (some ⟨q, 0, none⟩), .int .i64 i, .int .u64 a, .int .u64 b] w (APutW w q g m t i a b) := by
  have h1 := of_any q g _ w h.aug
  have hdr := adrop_any q g m i t M w h hi (by omega)
  have HFEW := Lib.hid hfew
  have HI := Lib.hid h.inv
  clear h hfew
  go_enter Tryz.func61, Tryz.ntmps61
  go_wp2_with fail
  refine h1.mono ?_
  clear h1
  rintro e w1 ⟨rfl, rfl⟩
  go_wp2_with fail
  refine hdr.mono ?_
  clear hdr
  rintro e W1 ⟨t1, M1, rfl, hA, hlist, hsub, hf⟩
  have H1 := Lib.hid (And.intro hA (And.intro hlist (And.intro hsub hf)))
  clear hA hlist hsub hf
  go_upto_region 3 with fail
  have hb0 := (Below.refl W1.heap.size W1).alloc (Nat.le_refl _) (.cells #[.int .u64 a, .int .i64 i] 131)
  have hk0 := Blk.new W1 131 #[.int .u64 a, .int .i64 i]
  obtain ⟨kb, hkb⟩ : ∃ q, q = W1.heap.size := ⟨_, rfl⟩
  have hlo : w.heap.size ≤ kb := by rw [hkb]; exact H1.out.2.2.2.size
  have hko : ∀ x, ownA q g m t1 x → x ≠ kb := fun x hx e => by have := H1.out.1.lt x hx; omega
  rw [← hkb] at hk0 ⊢
  have H2 := Lib.hid (And.intro (H1.out.1.later hb0) (And.intro hk0 (H1.out.2.2.2.trans (Fr.of_below hb0))))
  have HK := Lib.hid (And.intro hlo hko)
  clear hkb hb0 hk0 hlo hko
  generalize W1.alloc (.cells #[.int .u64 a, .int .i64 i] 131) = W2 at H2 ⊢
  have oq := fun e => (over_cell (w := W2) (e := e) (o := 0) H2.out.1.aug.lt).trans (H2.out.1.aug.cell 0)
  have ok0 := fun e => (over_cell (w := W2) (e := e) (o := 0) H2.out.2.1.lt).trans (H2.out.2.1.cell 0)
  have ok1 := fun e => (over_cell (w := W2) (e := e) (o := 1) H2.out.2.1.lt).trans (H2.out.2.1.cell 1)
  simp only [List.getElem?_toArray, List.getElem?_cons_zero, List.getElem?_cons_succ] at oq ok0 ok1
  refine wp_region_over_tail 6 (by kernel_rfl) (by kernel_rfl) ?_
  simp only [List.take_succ_cons, List.take_zero, List.drop_succ_cons, List.drop_zero]
  repeat (first | go_big_quiet_skip | (go_big_quiet_want; go_big_quiet_op; go_big_quiet_on))
  refine wpQuiet_nil ?_
  rintro W3 ⟨e, he⟩
  have hb3 := over_below W2 e
  rw [← he] at hb3
  have H3 := Lib.hid (And.intro (H2.out.1.later hb3) (And.intro (H2.out.2.1.below hb3 H2.out.2.1.lt) (H2.out.2.2.trans (Fr.of_below hb3))))
  clear oq ok0 ok1 he hb3 H2
  have hle : (listT t1).length ≤ (listT t).length := by rw [H1.out.2.1]; exact drop_le _ _
  have hpt := rbput_any g t1 (a, i) b W3 H3.out.1.tr (fun z hz e => by
    rw [H1.out.2.1] at hz
    exact (mem_drop.1 hz).2 (by rw [e])) (by have := HFEW.out; omega)
  clear hle
  go_wp2_with fail
  refine hpt.mono ?_
  clear hpt
  rintro e W4 ⟨t', rfl, hT, hlist, hsub, hf4⟩
  have hnot : ∀ x, ownR g t1 x → x ≠ q ∧ x ≠ m ∧ x ≠ kb := by
    rintro x (rfl | hx)
    · refine ⟨fun e => ?_, blk_mapA H3.out.1.tr.tree H3.out.1.map, HK.out.2 _ (.inr (.inl rfl))⟩
      have h1 := H3.out.1.aug
      rw [← e] at h1
      have := h1.symm.trans H3.out.1.tr.tree
      simp only [Option.some.injEq, Obj.cells.injEq] at this
      exact absurd this.2.1 (by decide)
    · exact ⟨fun e => RBAt.typed H3.out.1.aug (by decide) H3.out.1.tr.rb (e ▸ hx), fun e => node_mapA H3.out.1.map H3.out.1.tr.rb (e ▸ hx), HK.out.2 x (.inr (.inr (.inr hx)))⟩
  have hq4 := H3.out.1.aug.fr hf4 fun hs => (hnot q hs).1 rfl
  have hm4 := H3.out.1.map.heap (hf4.block m H3.out.1.map.lt fun hs => (hnot m hs).2.1 rfl)
  have hk4 := H3.out.2.1.fr hf4 fun hs => (hnot kb hs).2.2 rfl
  have hlist' : listT t' = putI (listT t) i a b := by rw [hlist, H1.out.2.1]; rfl
  have hnew : lookM M1 i = none := by
    rw [H1.out.1.look i, H1.out.2.1, get_drop HI.out, if_pos rfl]; rfl
  have hln := H1.out.1.len
  have hlt1 : M1.length < 1000000 := by
    have : (listT t1).length ≤ (listT t).length := by rw [H1.out.2.1]; exact drop_le _ _
    have := HFEW.out
    omega
  have hsub' : ∀ x ∈ addrs t', x ∈ addrs t ∨ w.heap.size ≤ x := fun x hx => by
    rcases hsub x hx with hx | hx
    · exact H1.out.2.2.1 x hx
    · exact .inr (by have := H3.out.2.2.size; omega)
  have hfr : Fr (ownA q g m t) w W4 := by
    refine H3.out.2.2.trans2 hf4 fun x hlt hx => ?_
    rcases hx with rfl | hx
    · exact .inr (.inl rfl)
    · rcases H1.out.2.2.1 x hx with hx | hx
      · exact .inr (.inr (.inr hx))
      · exact absurd hlt (by omega)
  have H4 := Lib.hid (And.intro hq4 (And.intro hT (And.intro hm4 (And.intro hk4 hfr))))
  have HL := Lib.hid (And.intro hlist' (And.intro hnew (And.intro hlt1 (And.intro hsub' hln))))
  have hlist1 : listT t' = insE (listT t1) ((a, i), b) := hlist
  have HL1 := Lib.hid hlist1
  clear hT hlist hsub hf4 hnot hq4 hm4 hk4 hlist' hnew hln hlt1 hsub' hfr H3 hlist1
  go_upto_region 4 with fail
  have oq := fun e => (over_cell (w := W4) (e := e) (o := 1) H4.out.1.lt).trans (H4.out.1.cell 1)
  have ok0 := fun e => (over_cell (w := W4) (e := e) (o := 0) H4.out.2.2.2.1.lt).trans (H4.out.2.2.2.1.cell 0)
  have ok1 := fun e => (over_cell (w := W4) (e := e) (o := 1) H4.out.2.2.2.1.lt).trans (H4.out.2.2.2.1.cell 1)
  simp only [List.getElem?_toArray, List.getElem?_cons_zero, List.getElem?_cons_succ] at oq ok0 ok1
  refine wp_region_over_tail 6 (by kernel_rfl) (by kernel_rfl) ?_
  simp only [List.take_succ_cons, List.take_zero, List.drop_succ_cons, List.drop_zero]
  repeat (first | go_big_quiet_skip | (go_big_quiet_want; go_big_quiet_op; go_big_quiet_on))
  refine wpQuiet_nil ?_
  rintro W5 ⟨e, he⟩
  have hb5 := over_below W4 e
  rw [← he] at hb5
  have hm5 := H4.out.2.2.1.heap (hb5.block m H4.out.2.2.1.lt)
  obtain ⟨W6, hr, hm6, htn⟩ := hm5.store (k := i) (E := 131) (T := 84) Tryz.underlying3 Tryz.underlying84 hi (by rw [mapV_length]; have := HL.out.2.2.1; unfold maxLen; omega) (kyV (a, i))
  rw [put_map] at hm6
  have hq5 := H4.out.1.below hb5 H4.out.1.lt
  have hT5 := H4.out.2.1.later hb5
  have hq6 := hq5.fr (fr_grown htn.grown) (blk_mapA hq5 hm5)
  have hT6 := hT5.fr (fr_grown htn.grown) (blk_mapA hT5.tree hm5) fun x hx e => node_mapA hm5 hT5.rb (e ▸ hx)
  have hf6 : Fr (ownA q g m t) w W6 := (H4.out.2.2.2.2.trans (Fr.of_below hb5)).trans2 (fr_grown htn.grown) fun x _ hx => .inr (.inr (.inl hx))
  have hA6 : AugAt W6 q g m t' (putM M1 i (a, i)) := by
    refine ⟨hq6, hT6, hm6, by rw [HL.out.1]; exact HI.out.put i a b, fun j => ?_, ?_⟩
    · rw [HL.out.1, get_put HI.out]
      by_cases hj : j = i
      · subst hj
        rw [look_put_same, if_pos rfl]; rfl
      · rw [look_put_other _ hj, if_neg hj, H1.out.1.look j, H1.out.2.1, get_drop HI.out, if_neg hj]
    · rw [put_len_new _ HL.out.2.1, HL1.out, ins_length, HL.out.2.2.2.2]
  have HF := Lib.hid (And.intro hA6 hf6)
  unfold kyV at hr
  clear oq ok0 ok1 he hb5 hm5 hm6 htn hq5 hT5 hq6 hT6 hf6 hA6 H4
  go_wp2_with fail
  go_returns
  exact ⟨t', _, rfl, HF.out.1, HL.out.1, HL.out.2.2.2.1, HF.out.2⟩
end Go.Proofs.YtbnnkkojlclgjaaGreat
