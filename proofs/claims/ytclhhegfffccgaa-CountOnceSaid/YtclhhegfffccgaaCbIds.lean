/-
  The document's book of counters: Ids.
-/
import Derived.Test.YtclhhegfffccgaaCbWhere
namespace Go.Proofs.Ytclhhegfffccgaa
set_option linter.unusedVariables false
open Go.RowKit Go.Maps

theorem info_intC : (Try.prog.info? 3).map (fun i => (i.zero, i.size, i.bytes)) = some (some (.int .i64 0), 1, 8) := by kernel_rfl
theorem app_one (ty : TypeId) {A : List Int} {x : Int} {w : World} {v : Value} {base b : Nat} (hc : w.cell? ⟨b, 0, none⟩ = some (.int .i64 x)) (hown : w.ownsRow base 3 1 v A.length (A.map (Value.int .i64))) (hb : base ≤ w.heap.size) (hl : A.length ≤ 3000000) :
    ∃ v' w', (Builtin.append_ #[40, 40] ty #[v, .slice (some ⟨b, 0, none⟩) 1 1]).run Try.prog w = .ok v' w' ∧ w'.ownsRow base 3 1 v' (A ++ [x]).length ((A ++ [x]).map (Value.int .i64)) ∧ w.grownBy w' v.ownBlock := by
  obtain ⟨i0, hi0, hz0, hz1, hz2⟩ := info_parts info_intC
  obtain ⟨v', w', hr, ho, hg, _⟩ := run_append_own (P := Try.prog) (w := w) base 40 ty 3 i0 _ 1 8 Try.underlying40 hi0 hz0 hz1 hz2 rfl (by decide) v A.length _ hown ⟨b, 0, none⟩ 1 1 ([x].map (Value.int .i64)) (by simp) (fun j u hj => by
        match j with
        | 0 => simp at hj; subst hj; simpa [Addr.add_lit] using hc
        | j + 1 => simp at hj) (by intro u hu; obtain ⟨x, _, rfl⟩ := List.mem_map.1 hu; rfl) (by unfold maxLen; omega) (by omega) hb
  exact ⟨v', w', hr, by simpa using ho, hg⟩

set_option maxRecDepth 100000 in
set_option maxHeartbeats 4000000 in
theorem rids_any (base p : Nat) (B : Bk) (W : World) (h : CbAt W base p B) (hne : B ≠ []) (hn : B.length < 1000) :
    Calls Try.prog 41 #[.pointer (some ⟨p, 0, none⟩)] W fun e W' => ∃ v, e = .returned v ∧ W'.ownsRow W.heap.size 3 1 v (((B.drop 1).map (·.1))).length (((B.drop 1).map (·.1)).map (Value.int .i64)) ∧ Below W.heap.size W W' := by
  obtain ⟨⟨g, cap, cur, h1, h2, h3, h4, h5, h6, h7⟩, hpb, hok⟩ := h
  obtain ⟨n, hn0⟩ : ∃ n, B.length = n := ⟨_, rfl⟩
  rw [hn0] at h1 hn
  have hn1 : 1 ≤ n := by rw [← hn0]; exact List.length_pos_iff.2 hne
  have hcn : n ≤ cap := by omega
  have H := Lib.hid (And.intro h1 (And.intro h2 (And.intro h3 hn0)))
  clear h1 h2 h3 h4 h5 h6 h7 hok
  go_enter Try.func41, Try.ntmps41
  clear hn0
  go_wp2_with fail
  go_loopw [3, 4] (fun v3 v4 W' => ∃ k : Nat, v4 = .int .i64 k ∧ 1 ≤ k ∧ k ≤ n ∧ W'.ownsRow W.heap.size 3 1 v3 (((B.take k).drop 1).map (·.1)).length ((((B.take k).drop 1).map (·.1)).map (Value.int .i64)) ∧ Below W.heap.size W W') (fun _ v4 _ => (n - Go.RowKit.intOf v4).toNat)
  case atStart => exact ⟨1, rfl, Nat.le_refl _, hn1, by simp [World.ownsRow], Below.refl _ _⟩
  case round =>
    obtain ⟨k, rfl, hk1, hk, ho, hb⟩ := hrel
    have y0 := (H.out.1.below hb H.out.1.lt).cell 0
    simp only [List.getElem?_toArray, List.getElem?_cons_zero] at y0
    by_cases hlt : k < n
    · obtain ⟨⟨q, s⟩, hq⟩ : ∃ q, B[k]? = some q := ⟨_, List.getElem?_eq_getElem (by have := H.out.2.2.2; omega)⟩
      have hcq := ((H.out.2.1.below hb H.out.2.1.lt).cell (k * 9)).trans (H.out.2.2.1.2 k _ hq).1
      dsimp only at hcq
      have hlen : (((B.take k).drop 1).map (·.1)).length ≤ 1000 := by simp; omega
      have hb2 := (Below.refl wr.heap.size wr).alloc (Nat.le_refl _) (.cells #[.int .i64 q] 3)
      have k2 := Blk.new wr 3 #[.int .i64 q]
      have ho'1 := owns_laterC ho hb2
      obtain ⟨v', w', hr, ho', hg⟩ := app_one 40 (k2.cell 0) (owns_laterC ho hb2) (Nat.le_trans hb.size hb2.size) (by omega)
      have hbw : Below W.heap.size W w' := (hb.trans (hb2.mono hb.size)).grown hg (Nat.le_trans hb.size hb2.size) fun j hj => (ho'1.lt j hj).1
      have hstep : (((B.take (k + 1)).drop 1).map (·.1)) = (((B.take k).drop 1).map (·.1)) ++ [q] := by
        rw [List.take_add_one, hq]
        show ((B.take k ++ [(q, s)]).drop 1).map (·.1) = _
        rw [List.drop_append_of_le_length (by simp; have := H.out.2.2.2; omega)]
        simp
      have HW := Lib.hid (And.intro ho' (And.intro hbw hstep))
      clear ho' hbw hstep ho hb hb2 k2 hg ho'1 hq hlen
      go_wp2_with (at_builtin; refine wpList_append_runC rfl _ _ _ rfl _ _ _ rfl rfl hr ?_)
      go_roundw
      case measure => (simp [Go.RowKit.intOf]; try omega)
      case rel => exact ⟨k + 1, by go_num, by omega, by omega, by rw [HW.out.2.2]; exact HW.out.1, HW.out.2.1⟩
    · obtain rfl : k = n := by omega
      rw [List.take_of_length_le (by rw [H.out.2.2.2]; exact Nat.le_refl _)] at ho
      have HF := Lib.hid (And.intro ho hb)
      clear ho hb
      go_wp2_with fail
      go_ret
      exact ⟨_, rfl, by simpa using HF.out.1, HF.out.2⟩
end Go.Proofs.Ytclhhegfffccgaa
