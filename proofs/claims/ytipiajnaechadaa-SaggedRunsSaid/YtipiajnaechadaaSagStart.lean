/-
  sagged.Start: one more copy starts.
-/
import Derived.Test.YtipiajnaechadaaSagLeast
import Derived.Test.YtipiajnaechadaaRegM
import Derived.Deep.AppendLies
import Derived.Deep.RegionHeld3
import Derived.Deep.DrawnRows
import Derived.Deep.RegionWith
import Derived.Deep.DeepCutAuto
namespace Go.Proofs.Ytipiajnaechadaa
set_option linter.unusedVariables false
open Go.RowKit
attribute [local go_sem ↓] Go.wp_at_zero Go.wp_at_succ
attribute [local go_sem] quietR quietAtR quietUponR midAt midUpon

/-- ahead of the loop: n + 1 copies started, the last one at x -/
def S0 (w W : World) (g : Nat) (F L R n X : Int) (v : Value) (K : List (Int × Int)) : Prop :=
  Blk W g 91 #[.int .u64 F, .int .u64 L, .int .u64 R, .bool true, .int .i64 (n + 1), .int .u64 X, v] ∧ RowK W (g + 1) v K ∧ w.grownBy W (some g)

/-- behind the copies' list was made -/
def S1 (W W' : World) (X Y : Int) (K : List (Int × Int)) (s50 s51 s52 : Value) : Prop :=
  ∃ b cp, s50 = .slice (some ⟨b, 0, none⟩) (K.length + 1) cp ∧ s51 = .int .i64 ((K.length + 1 : Nat) : Int) ∧ s52 = .int .i64 0 ∧ RowK W' W.heap.size s50 (K ++ [(X, Y)]) ∧ Below W.heap.size W W'

theorem RowK.low {w : World} {b b' : Nat} {v : Value} {K : List (Int × Int)} (h : RowK w b v K) (hb : b' ≤ b) : RowK w b' v K := by
  obtain ⟨h1, h2 | ⟨g, cp, cur, h2, h3, h4⟩⟩ := h
  · exact ⟨h1, .inl h2⟩
  · exact ⟨h1, .inr ⟨g, cp, cur, h2, by omega, h4⟩⟩

theorem RowK.shape {w : World} {base : Nat} {v : Value} {K : List (Int × Int)} (h : RowK w base v K) : ∃ a c, v = .slice a K.length c := by
  obtain ⟨h1, ⟨h2, h0⟩ | ⟨g, cp, cur, h2, h3, h4⟩⟩ := h
  · exact ⟨none, 0, by rw [h2, h0]⟩
  · exact ⟨_, _, h2⟩
theorem fold_mem {F L R s : Int} : ∀ (l out : List (Int × Int)), ∀ q ∈ l.foldl (push1 F L R s) out, q ∈ out ∨ q ∈ l
  | [], out, q, h => .inl h
  | k :: l, out, q, h => by
    rcases fold_mem l _ q h with h | h
    · rcases push1_mem h with h | rfl
      · exact .inl h
      · exact .inr (by simp)
    · exact .inr (by simp [h])
theorem push1_len {F L R s : Int} (out : List (Int × Int)) (k : Int × Int) : (push1 F L R s out k).length ≤ out.length + 1 := by
  obtain ⟨m, hm, he, _, _⟩ := popN_spec (fun o => decide (hasK F L R k s ≤ hasK F L R o s)) out out.length
  have hl : (out.take m).length ≤ out.length := by simp; omega
  unfold push1
  simp only [he]
  split
  · split
    · omega
    · rw [List.length_append]; simp only [List.length_singleton]; omega
  · rw [List.length_append]; simp only [List.length_singleton]; omega
theorem fold_len {F L R s : Int} : ∀ (l out : List (Int × Int)), (l.foldl (push1 F L R s) out).length ≤ out.length + l.length
  | [], out => by simp
  | k :: l, out => by
    have h1 := fold_len (F := F) (L := L) (R := R) (s := s) l (push1 F L R s out k)
    have h2 := push1_len (F := F) (L := L) (R := R) (s := s) out k
    simp only [List.foldl_cons, List.length_cons]; omega
theorem fold_next {F L R s : Int} {M : List (Int × Int)} {j : Nat} {p : Int × Int} (h : M[j]? = some p) : (M.take (j + 1)).foldl (push1 F L R s) [] = push1 F L R s ((M.take j).foldl (push1 F L R s) []) p := by
  rw [List.take_add_one, h]
  simp [List.foldl_append]

theorem hask_any (g : Nat) (F L R x y s : Int) (w : World) (h : MayC F L R) (hx : 0 ≤ x) (hxs : x ≤ s) (hs : U s) (hy : U y) (hg : g < w.heap.size)
    (c0 : w.cell? ⟨g, 0, none⟩ = some (.int .u64 F)) (c1 : w.cell? ⟨g, 1, none⟩ = some (.int .u64 L)) (c2 : w.cell? ⟨g, 2, none⟩ = some (.int .u64 R)) :
    Calls Try.prog 64 #[.pointer (some ⟨g, 0, none⟩), .agg #[.int .u64 x, .int .u64 y], .int .u64 s] w fun e w' =>
      e = .returned (.agg #[.int .u64 (hiW (hasK F L R (x, y) s)), .int .u64 (loW (hasK F L R (x, y) s))]) ∧ Below w.heap.size w w' := by
  have hf : U F := ⟨h.f0, by have := h.f1; omega⟩
  have hr : U R := ⟨h.r0, by have := h.r1; omega⟩
  have hl : U L := ⟨h.l0, by have := h.l1; omega⟩
  have e : hasK F L R (x, y) s = F * min (s - x) L + R * (s - x - min (s - x) L) + y := by unfold hasK W; simp only; omega
  rw [e]
  exact has_any g F L R x y s _ w hf h.f1 hr h.r1 hl hx hxs hs hy rfl hg c0 c1 c2
theorem linek_any (g : Nat) (F L R x y s : Int) (w : World) (h : MayC F L R) (hx : 0 ≤ x) (hxs : x ≤ s) (hs : U s) (hy : U y) (hg : g < w.heap.size)
    (c2 : w.cell? ⟨g, 2, none⟩ = some (.int .u64 R)) :
    Calls Try.prog 66 #[.pointer (some ⟨g, 0, none⟩), .agg #[.int .u64 x, .int .u64 y], .int .u64 s] w fun e w' =>
      e = .returned (.agg #[.int .u64 (hiW (lineK R (x, y) s)), .int .u64 (loW (lineK R (x, y) s))]) ∧ Below w.heap.size w w' := by
  have hr : U R := ⟨h.r0, by have := h.r1; omega⟩
  have e : lineK R (x, y) s = R * (s - x) + y := by unfold lineK; simp only; omega
  rw [e]
  exact line_any g F L R x y s w hr h.r1 hx hxs hs hy hg c2
theorem cmpk_any (x y c : Int) (w : World) (h : cmpI x y = c) :
    Calls Try.prog 65 #[.agg #[.int .u64 (hiW x), .int .u64 (loW x)], .agg #[.int .u64 (hiW y), .int .u64 (loW y)]] w fun e w' => e = .returned (.int .i64 c) ∧ Below w.heap.size w w' := by
  have := cmp_any (hiW x) (loW x) (hiW y) (loW y) w (U_lo x) (U_lo y)
  rw [num_words, num_words, h] at this
  exact this

theorem World.grownBy_setCell (w : World) (p : Addr) (u : Value) : w.grownBy (w.setCell p u) (some p.block) :=
  ⟨rfl, rfl, rfl, by simp [World.setCell], fun k hk hne => Below.heap_setCell w p u k (by simpa using hne)⟩
theorem popN_pop {v : Int × Int → Bool} {l : List (Int × Int)} {m : Nat} {q : Int × Int} (hq : l[m]? = some q) (hv : v q = true) : popN v l (m + 1) = popN v l m := by
  rw [popN, hq]; simp [hv]
theorem popN_stay {v : Int × Int → Bool} {l : List (Int × Int)} {m : Nat} {q : Int × Int} (hq : l[m]? = some q) (hv : v q = false) : popN v l (m + 1) = l.take (m + 1) := by
  rw [popN, hq]; simp [hv]
theorem last_take {l : List (Int × Int)} {m : Nat} {q : Int × Int} (hq : l[m]? = some q) : (l.take (m + 1)).getLast? = some q := by
  rw [List.take_add_one, hq]; simp
theorem push1_none {F L R s : Int} {out : List (Int × Int)} {k : Int × Int} (hp : popN (fun o => decide (hasK F L R k s ≤ hasK F L R o s)) out 0 = popN (fun o => decide (hasK F L R k s ≤ hasK F L R o s)) out out.length) : push1 F L R s out k = [k] := by
  unfold push1
  rw [← hp]
  simp [popN]
theorem push1_top {F L R s : Int} {out : List (Int × Int)} {k q : Int × Int} {m : Nat} (hq : out[m]? = some q) (hp : popN (fun o => decide (hasK F L R k s ≤ hasK F L R o s)) out (m + 1) = popN (fun o => decide (hasK F L R k s ≤ hasK F L R o s)) out out.length)
    (hv : hasK F L R q s < hasK F L R k s) : push1 F L R s out k = if lineK R q s ≤ lineK R k s then out.take (m + 1) else out.take (m + 1) ++ [k] := by
  unfold push1
  rw [← hp, popN_stay hq (by simp; omega)]
  simp only [last_take hq]
theorem RowK.append {w2 : World} {base b c : Nat} {K : List (Int × Int)} {x y : Int} (h : w2.ownsRow base 94 2 (.slice (some ⟨b, 0, none⟩) (K.length + 1) c) (K.length + 1) (cellsOf K ++ [.int .u64 x, .int .u64 y])) :
    RowK w2 base (.slice (some ⟨b, 0, none⟩) (K.length + 1) c) (K ++ [(x, y)]) := by
  rw [RowK, cellsOf_append, List.length_append]
  exact h

set_option maxRecDepth 100000 in
set_option maxHeartbeats 2000000 in
theorem sstart_any (g : Nat) (F L R n x y t X Y : Int) (K : List (Int × Int)) (w : World) (hX : X = max (min t 9223372036854775808) x) (hY : Y = min y 4611686018427387904) (hx : U x) (ht : U t) (hy : U y) (hn0 : 0 ≤ n) (hn : n ≤ 1000000) (hbig : K.length ≤ 900000)
    (hC : SagC F L R) (hK : ∀ k ∈ K, 0 ≤ k.1 ∧ k.1 ≤ x ∧ U k.2) (hs : SagAt w g F L R n x K) :
    Calls Try.prog 26 #[.pointer (some ⟨g, 0, none⟩), .int .u64 t, .int .u64 y] w fun e w' =>
      e = .returned (.tuple #[]) ∧ SagAt w' g F L R (n + 1) X (startK F L R X K (X, Y)) ∧ w.grownBy w' (some g) := by
  obtain ⟨v, hb, hrow⟩ := hs
  have hg := hb.lt
  have c3 := hb.cell 3; have c4 := hb.cell 4; have c5 := hb.cell 5
  have z5 := hb.frozen 5; have z4 := hb.frozen 4
  have hUX : U X := by unfold U at *; omega
  have hUY : U Y := by unfold U at *; omega
  have H0 : Hid (∀ W, W = (w.setCell ⟨g, 5, none⟩ (.int .u64 X)).setCell ⟨g, 4, none⟩ (.int .i64 (n + 1)) → S0 w W g F L R n X v K) := by
    refine Lib.hid fun W hW => ?_
    subst hW
    have h1 := World.grownBy_setCell w ⟨g, 5, none⟩ (.int .u64 X)
    have h2 := World.grownBy_setCell (w.setCell ⟨g, 5, none⟩ (.int .u64 X)) ⟨g, 4, none⟩ (.int .i64 (n + 1))
    have hne : v.ownBlock = none ∨ v.ownBlock ≠ some g := by
      rcases hv : v.ownBlock with _ | k
      · exact .inl rfl
      · refine .inr fun he => ?_
        have := (hrow.lt k hv).1
        injection he with he
        omega
    refine ⟨?_, (hrow.kept h1 hne).kept h2 hne, ⟨h2.os.trans h1.os, h2.tape.trans h1.tape, h2.output.trans h1.output, Nat.le_trans h1.size h2.size, fun k hk hk2 => (h2.block k (Nat.lt_of_lt_of_le hk h1.size) hk2).trans (h1.block k hk hk2)⟩⟩
    have h3 := (hb.set_ 5 (.int .u64 X)).set_ 4 (.int .i64 (n + 1))
    simpa using h3
  have HM := Lib.hid (show ∀ k ∈ K ++ [(X, Y)], 0 ≤ k.1 ∧ k.1 ≤ X ∧ U k.2 from fun k hk => by
    rcases List.mem_append.1 hk with h | h
    · have := hK k h; exact ⟨this.1, by omega, this.2.2⟩
    · obtain rfl : k = (X, Y) := by simpa using h
      exact ⟨hUX.1, Int.le_refl _, hUY⟩)
  clear hK
  have HX := Lib.hid hX; have HY := Lib.hid hY
  clear hb hrow hX hY
  simp only [List.getElem?_toArray, List.getElem?_cons_zero, List.getElem?_cons_succ] at c3 c4 c5
  go_enter Try.func26, Try.ntmps26
  go_step3
  go_upto_region 1 with fail
  go_cut [20] (fun _ wx => wx = w.setCell ⟨g, 5, none⟩ (.int .u64 X))
  case first =>
    go_wp2
    all_goals (go_meet; have h := HX.out; congr 1; exact val_int (by omega))
  case rest =>
    subst hcut
    go_upto_region 4 with fail
    refine wp_gen (fun W => S0 w W g F L R n X v K) (H0.out _ rfl) ?_
    clear H0
    intro W hS
    obtain ⟨hB, hR, hgr⟩ := hS
    have hgW := hB.lt
    have d4 := hB.cell 6; have d3 := hB.cell 5
    simp only [List.getElem?_toArray, List.getElem?_cons_zero, List.getElem?_cons_succ] at d4 d3
    have HB := Lib.hid hB; have HR := Lib.hid hR; have HG := Lib.hid hgr
    clear hB hR hgr c3 c4 c5 z4 z5
    go_step3
    go_upto_region 4 with fail
    go_cut [50, 51, 52] (fun s50 s51 s52 wx => S1 W wx X Y K s50 s51 s52)
    case first =>
      have hRW := HR.out
      have dd4 := fun e => (over_cell (w := W) (e := e) (o := 6) hgW).trans d4
      have dd3 := fun e => (over_cell (w := W) (e := e) (o := 5) hgW).trans d3
      refine wp_region_mid (w := W) 13 2 [4, 12] [(52, .int .i64 0)] [(4, fun u W' => RowK W' W.heap.size u K), (12, fun u W' => ∃ b, u = .slice (some ⟨b, 0, none⟩) 1 1 ∧ W.heap.size ≤ b ∧ Blk W' b 94 #[.int .u64 X, .int .u64 Y])] rfl (by kernel_rfl) (by kernel_rfl) (by kernel_rfl) (by kernel_rfl) (fun _ _ _ _ _ h => h) ⟨?st1, ?st2, trivial⟩ ?_
      case st1 => exact fun v W1 W2 h hb => h.below hb
      case st2 => exact fun v W1 W2 ⟨b, h1, h2, h3⟩ hb => ⟨b, h1, h2, h3.below hb h3.lt⟩
      intro L hL
      have HL := Lib.hid hL
      clear hL
      simp only [List.take_succ_cons, List.take_zero, putL]
      repeat (first | refine wpHead_skip (by decide) ?_ | (refine wpHead_step (by decide) (fun K hK => ?_); go_simp; first | (refine hK _ ?_; clear hK K) | (apply Exists.intro; refine ⟨fun _ => ?_, hK _ ?_⟩; (fail); clear hK K)))
      refine wpHead_nil (HL.out _ ⟨?_, ?_, trivial⟩ ?_)
      · intro vs W1 hb1 hf
        clear hf HL
        change midAt _ _ (Act.put (Act.put _ (some 41) (vs 4)) (some 49) (vs 12)) _ _
        go_simp
        exact (clone_starts v (g + 1) K W1 (hRW.below hb1) (by omega)).mono fun e W2 ⟨v', he, hr, hb⟩ => ⟨v', he, hb, hr.low hb1.size⟩
      · intro vs W1 hb1 hf
        clear hf HL
        change midAt _ _ (Act.put (Act.put _ (some 41) (vs 4)) (some 49) (vs 12)) _ _
        go_simp
        refine ⟨(Below.refl _ _).alloc (Nat.le_refl _) _, hb1.size, ?_⟩
        have hYv := HY.out
        rw [show (if 4611686018427387904 < y then (4611686018427387904 : Int) else y) = Y by omega]
        exact Blk.new _ _ _
      · intro vs W1 hb1 hf
        obtain ⟨hf1, ⟨b1, hf2, hbb, hf3⟩, hff⟩ := hf
        clear hff
        clear HL
        change wpList _ _ _ _ (Act.put (Act.put _ (some 41) (vs 4)) (some 49) (vs 12)) _
        generalize vs 4 = v1 at *
        rw [hf2]
        clear hf2
        simp only [List.drop_succ_cons, List.drop_zero, List.take_succ_cons, List.take_zero]
        obtain ⟨i0, hi0, hz0, hz1, hz2⟩ := info_parts info_start
        have H3 := Lib.hid hf3
        clear hf3
        go_wp2_with (at_builtin; refine wpList_append_lies _ rfl _ _ 89 rfl W.heap.size 94 i0 (.agg #[.int .u64 0, .int .u64 0]) 2 16 Try.underlying89 hi0 hz0 hz1 hz2 rfl (by decide) v1 K.length (cellsOf K) rfl hf1 ⟨b1, 0, none⟩ 1 1 [.int .u64 X, .int .u64 Y] rfl rfl (World.news_of_block H3.out) (by simp [Value.oneCell']) (by decide) (by unfold maxLen; omega) (by omega) hb1.size _ rfl ?_; intro b2 cp2 W2 hown2 hgr2 hat2 hlt2)
        all_goals
          go_meet
          refine ⟨b2, cp2, rfl, by go_num, rfl, ?_, hb1.grown hgr2 hb1.size fun k hk => (hf1.lt k hk).1⟩
          rw [RowK, cellsOf_append, List.length_append]
          exact hown2
    case rest =>
      obtain ⟨b, cp, rfl, rfl, rfl, hL, hbL⟩ := hcut
      obtain ⟨b', cp', hv', hbb, hbw, hcap, hcells⟩ := hL.open_ (by simp)
      obtain ⟨rfl, rfl⟩ : b = b' ∧ cp = cp' := by injection hv' with h1 h2 h3; injection h1 with h1; injection h1 with h1; exact ⟨h1, h3⟩
      clear hv' d3 d4
      have HL := Lib.hid hL; have HC := Lib.hid hcells
      clear hL hcells
      go_wp2
      go_loopw [6, 52] (fun o i Wr => ∃ j : Nat, j ≤ K.length + 1 ∧ i = .int .i64 j ∧ RowK Wr wc.heap.size o (((K ++ [(X, Y)]).take j).foldl (push1 F L R X) []) ∧ Below wc.heap.size wc Wr) (fun _ i _ => K.length + 1 - (intOf i).toNat)
      case atStart => exact ⟨0, by omega, rfl, World.ownsRow_nil _ _ _ _, Below.refl _ _⟩
      case round =>
        obtain ⟨j, hj, rfl, hrow, hbr⟩ := hrel
        obtain ⟨wo, hwo⟩ : ∃ wo : World, wo = wr := ⟨_, rfl⟩
        subst hwo
        by_cases hlt : j < K.length + 1
        · obtain ⟨⟨px, py⟩, hp⟩ : ∃ p, (K ++ [(X, Y)])[j]? = some p := ⟨_, List.getElem?_eq_getElem (by simp; omega)⟩
          have hpm := HM.out _ (List.mem_of_getElem? hp)
          have hout := fold_mem (F := F) (L := L) (R := R) (s := X) ((K ++ [(X, Y)]).take j) []
          have hlen := fold_len (F := F) (L := L) (R := R) (s := X) ((K ++ [(X, Y)]).take j) []
          have hnext := fold_next (F := F) (L := L) (R := R) (s := X) hp
          generalize ((K ++ [(X, Y)]).take j).foldl (push1 F L R X) [] = out at hrow hout hlen hnext
          have hlen2 : out.length ≤ 1000000 := by simp at hlen; omega
          have hom : ∀ q ∈ out, 0 ≤ q.1 ∧ q.1 ≤ X ∧ U q.2 := fun q hq => HM.out q (by rcases hout q hq with h | h; simp at h; exact List.mem_of_mem_take h)
          obtain ⟨e0, e1⟩ := HC.out j _ hp
          have f0 := (hbr.cell (p := ⟨b, j * 2, none⟩) hbw).trans e0
          have f1 := (hbr.cell (p := ⟨b, j * 2 + 1, none⟩) hbw).trans e1
          clear e0 e1
          obtain ⟨oa, oc, rfl⟩ := hrow.shape
          have HW := Lib.hid hrow
          have HN := Lib.hid hnext; have HO := Lib.hid hom
          clear hrow hnext hom hout hlen hp
          go_wp2
          have nb := Blk.new wo 94 #[.int .u64 px, .int .u64 py]
          have hal := (Below.refl wo.heap.size wo).alloc (Nat.le_refl _) (.cells #[.int .u64 px, .int .u64 py] 94)
          generalize hW1 : wo.alloc (.cells #[.int .u64 px, .int .u64 py] 94) = W1 at *
          have NB := Lib.hid nb
          clear hW1 nb f0 f1
          go_loopw [6, 9] (fun o nn Wr => ∃ (m : Nat) (a : Option Addr) (c : Nat), m ≤ out.length ∧ nn = .int .i64 m ∧ o = .slice a m c ∧ RowK Wr wc.heap.size o (out.take m) ∧ popN (fun o => decide (hasK F L R (px, py) X ≤ hasK F L R o X)) out m = popN (fun o => decide (hasK F L R (px, py) X ≤ hasK F L R o X)) out out.length ∧ Below W1.heap.size W1 Wr) (fun _ nn _ => (intOf nn).toNat)
          case atStart => exact ⟨out.length, oa, oc, Nat.le_refl _, rfl, rfl, by rw [List.take_length]; exact HW.out.below hal, rfl, Below.refl _ _⟩
          case round =>
            obtain ⟨m, a, c, hm, rfl, rfl, hrow2, hpop, hb2⟩ := hrel
            have hB2 := (((HB.out.below hbL hgW).below hbr (HB.out.below hbL hgW).lt).below hal ((HB.out.below hbL hgW).below hbr (HB.out.below hbL hgW).lt).lt)
            have hB3 := hB2.below hb2 hB2.lt
            have hP := NB.out.below hb2 NB.out.lt
            have og0 := fun e => (over_cell (w := wr) (e := e) (o := 0) hB3.lt).trans (hB3.cell 0)
            have og1 := fun e => (over_cell (w := wr) (e := e) (o := 1) hB3.lt).trans (hB3.cell 1)
            have og2 := fun e => (over_cell (w := wr) (e := e) (o := 2) hB3.lt).trans (hB3.cell 2)
            have og5 := fun e => (over_cell (w := wr) (e := e) (o := 5) hB3.lt).trans (hB3.cell 5)
            have op0 := fun e => (over_cell (w := wr) (e := e) (o := 0) hP.lt).trans (hP.cell 0)
            have op1 := fun e => (over_cell (w := wr) (e := e) (o := 1) hP.lt).trans (hP.cell 1)
            have ogl := fun e => Nat.lt_of_lt_of_le hB3.lt (over_below wr e).size
            simp only [List.getElem?_toArray, List.getElem?_cons_zero, List.getElem?_cons_succ] at og0 og1 og2 og5 op0 op1
            have OG := Lib.hid (fun e => And.intro (og0 e) (And.intro (og1 e) (And.intro (og2 e) (ogl e))))
            clear og0 og1 og2 ogl
            have HP := Lib.hid hpop; have HR2 := Lib.hid hrow2; have HB3 := Lib.hid hB3; have HPB := Lib.hid hP
            clear hpop hrow2 hB2 hB3 hP
            by_cases h0 : m = 0
            · subst h0
              have hg0 : decide ((0 : Int) > 0) = false := by decide
              go_wp2
              refine wp_region_over (by kernel_rfl) (by kernel_rfl) ?_
              repeat (first | go_big_quiet_skip | (go_big_quiet_want; go_big_quiet_op; go_big_quiet_on))
              refine wpQuiet_nil ?_
              rintro W2 ⟨e, he⟩
              have hb22 := over_below wr e
              rw [← he] at hb22
              clear he og5 op0 op1
              go_wp2
              refine wp_region_over (by kernel_rfl) (by kernel_rfl) ?_
              repeat (first | go_big_quiet_skip | (go_big_quiet_want; go_big_quiet_op; go_big_quiet_on))
              refine wpQuiet_nil ?_
              rintro W3 ⟨e, he⟩
              have hb33 := over_below W2 e
              rw [← he] at hb33
              clear he
              have hP5 := (HPB.out.below hb22 HPB.out.lt).below hb33 (HPB.out.below hb22 HPB.out.lt).lt
              have p0 := hP5.cell 0; have p1 := hP5.cell 1
              have hlW : wo.heap.size < W3.heap.size := hP5.lt
              simp only [List.getElem?_toArray, List.getElem?_cons_zero, List.getElem?_cons_succ] at p0 p1
              have hnew := HN.out
              rw [push1_none HP.out] at hnew
              have HNew := Lib.hid hnew
              have hr6 : W3.ownsRow wc.heap.size 94 2 (.slice a 0 c) 0 (cellsOf []) := (HR2.out.below hb22).below hb33
              have hbW2 : Below wc.heap.size wc W2 := ((hbr.trans (hal.mono hbr.size)).trans (hb2.mono (Nat.le_trans hbr.size hal.size))).trans (hb22.mono (Nat.le_trans hbr.size (Nat.le_trans hal.size hb2.size)))
              have hbW3 : Below wc.heap.size wc W3 := hbW2.trans (hb33.mono hbW2.size)
              have HR6 := Lib.hid hr6
              clear hnew hP5 hr6
              obtain ⟨i0, hi0, hz0, hz1, hz2⟩ := info_parts info_start
              go_wp2_with (at_builtin; refine wpList_append_lies _ rfl _ _ 89 rfl wc.heap.size 94 i0 (.agg #[.int .u64 0, .int .u64 0]) 2 16 Try.underlying89 hi0 hz0 hz1 hz2 rfl (by decide) _ 0 (cellsOf ([])) rfl (HR6.out.alloc _) ⟨W3.heap.size, 0, none⟩ 1 1 [.int .u64 px, .int .u64 py] rfl rfl (World.news_of_block (heap_alloc_new W3 _)) (by simp [Value.oneCell']) (by decide) (by unfold maxLen; omega) (by omega) (Nat.le_trans hbW3.size (by simp)) _ rfl ?_; intro b4 cp4 W4 hown4 hgr4 hat4 hlt4)
              have hlast : RowK W4 wc.heap.size (.slice (some ⟨b4, 0, none⟩) (0 + 1) cp4) [(px, py)] := hown4
              have hbW4 : Below wc.heap.size wc W4 := (hbW3.alloc hbW3.size _).grown hgr4 (by simp; have := hbW3.size; omega) (fun k hk => (HR6.out.lt k hk).1)
              go_roundw
              case rel => (repeat apply Exists.intro); exact ⟨⟨j + 1, by omega, by go_num, by rw [HNew.out]; exact hlast, hbW4⟩, rfl⟩
              case measure => simp [intOf]; omega
            · obtain ⟨m, rfl⟩ : ∃ m', m = m' + 1 := ⟨m - 1, by omega⟩
              clear h0
              obtain ⟨⟨qx, qy⟩, hq⟩ : ∃ q, out[m]? = some q := ⟨_, List.getElem?_eq_getElem (by omega)⟩
              have hqm := HO.out _ (List.mem_of_getElem? hq)
              have hqt : (out.take (m + 1))[m]? = some (qx, qy) := by rw [List.getElem?_take_of_lt (by omega)]; exact hq
              obtain ⟨b3, cp3, hv3, hbb3, hbw3, hcap3, hcells3⟩ := HR2.out.open_ (by intro h; rw [h] at hqt; simp at hqt)
              obtain ⟨rfl, rfl⟩ : a = some ⟨b3, 0, none⟩ ∧ c = cp3 := by injection hv3 with h1 h2 h3; exact ⟨h1, h3⟩
              obtain ⟨e0, e1⟩ := hcells3 m _ hqt
              have oq0 := fun e => (over_cell (w := wr) (e := e) (o := m * 2) hbw3).trans e0
              have oq1 := fun e => (over_cell (w := wr) (e := e) (o := m * 2 + 1) hbw3).trans e1
              have HQ := Lib.hid hq
              have hmc : (m : Int) ≤ (c : Int) := by have := hcap3; rw [List.length_take] at this; omega
              have hne : out.take (m + 1) ≠ [] := by intro h; rw [h] at hqt; simp at hqt
              have HNE := Lib.hid hne
              clear hne
              clear hv3 hcells3 hq hqt e0 e1
              rw [Int.natCast_succ]
              have hm0 : (0 : Int) ≤ (m : Int) := Int.natCast_nonneg _
              have hm1 : (m : Int) < (m : Int) + 1 := by omega
              have hm2 : (0 : Int) < (m : Int) + 1 := by omega
              have tst : ∃ c1, cmpI (hasK F L R (qx, qy) X) (hasK F L R (px, py) X) = c1 ∧ ((hasK F L R (px, py) X ≤ hasK F L R (qx, qy) X ∧ 0 ≤ c1) ∨ (hasK F L R (qx, qy) X < hasK F L R (px, py) X ∧ decide (0 ≤ c1) = false)) := by
                refine ⟨_, rfl, ?_⟩
                by_cases h : hasK F L R (qx, qy) X < hasK F L R (px, py) X
                · exact .inr ⟨h, by rw [cmpI_lt h]; decide⟩
                · exact .inl ⟨by omega, by unfold cmpI; rw [if_neg h]; split <;> omega⟩
              obtain ⟨c1, hc1, htst⟩ := tst
              have HC1 := Lib.hid hc1
              clear hc1
              rcases htst with ⟨hle, hcc⟩ | ⟨hle, hcc⟩
              · go_wp2
                refine wp_region_over (by kernel_rfl) (by kernel_rfl) ?_
                repeat (first | go_big_quiet_skip | (go_big_quiet_want; go_big_quiet_op; first | go_big_quiet_on | (apply Exists.intro; refine ⟨fun e => ?_, ?_⟩; (focus (first | (go_at_call_of 64 (Value.agg #[.int .u64 qx, .int .u64 qy]); exact calls_over (hask_any g F L R qx qy X _ hC.may hqm.1 hqm.2.1 hUX hqm.2.2 (OG.out e).2.2.2 (OG.out e).1 (OG.out e).2.1 (OG.out e).2.2.1)) | (go_at_call_of 64 (Value.agg #[.int .u64 px, .int .u64 py]); exact calls_over (hask_any g F L R px py X _ hC.may hpm.1 hpm.2.1 hUX hpm.2.2 (OG.out e).2.2.2 (OG.out e).1 (OG.out e).2.1 (OG.out e).2.2.1)) | (go_at_call 65; exact calls_over (cmpk_any _ _ c1 _ HC1.out)))); go_big_quiet_on)))
                refine wpQuiet_nil ?_
                rintro W2 ⟨e, he⟩
                have hb22 := over_below wr e
                rw [← he] at hb22
                clear he og5 op0 op1 oq0 oq1
                have hpop2 := (popN_pop (v := fun o => decide (hasK F L R (px, py) X ≤ hasK F L R o X)) HQ.out (decide_eq_true hle)).symm.trans HP.out
                have HP2 := Lib.hid hpop2
                have hr3 := (HR2.out.below hb22).take m (by rw [List.length_take]; omega)
                rw [List.take_take, Nat.min_eq_left (Nat.le_succ m)] at hr3
                have HR3 := Lib.hid hr3
                clear hpop2 hr3 hle
                go_wp2
                go_roundw
                case rel => exact ⟨m, some ⟨b3, 0, none⟩, c, by omega, by go_num, rfl, HR3.out, HP2.out, hb2.trans (hb22.mono hb2.size)⟩
                case measure => (simp [intOf]; try omega)
              · go_wp2
                refine wp_region_over (by kernel_rfl) (by kernel_rfl) ?_
                repeat (first | go_big_quiet_skip | (go_big_quiet_want; go_big_quiet_op; first | go_big_quiet_on | (apply Exists.intro; refine ⟨fun e => ?_, ?_⟩; (focus (first | (go_at_call_of 64 (Value.agg #[.int .u64 qx, .int .u64 qy]); exact calls_over (hask_any g F L R qx qy X _ hC.may hqm.1 hqm.2.1 hUX hqm.2.2 (OG.out e).2.2.2 (OG.out e).1 (OG.out e).2.1 (OG.out e).2.2.1)) | (go_at_call_of 64 (Value.agg #[.int .u64 px, .int .u64 py]); exact calls_over (hask_any g F L R px py X _ hC.may hpm.1 hpm.2.1 hUX hpm.2.2 (OG.out e).2.2.2 (OG.out e).1 (OG.out e).2.1 (OG.out e).2.2.1)) | (go_at_call 65; exact calls_over (cmpk_any _ _ c1 _ HC1.out)))); go_big_quiet_on)))
                refine wpQuiet_nil ?_
                rintro W2 ⟨e, he⟩
                have hb22 := over_below wr e
                rw [← he] at hb22
                clear he og5 op0 op1 oq0 oq1
                have hB4 := HB3.out.below hb22 HB3.out.lt
                have hP4 := HPB.out.below hb22 HPB.out.lt
                have og0 := fun e => (over_cell (w := W2) (e := e) (o := 0) hB4.lt).trans (hB4.cell 0)
                have og1 := fun e => (over_cell (w := W2) (e := e) (o := 1) hB4.lt).trans (hB4.cell 1)
                have og2 := fun e => (over_cell (w := W2) (e := e) (o := 2) hB4.lt).trans (hB4.cell 2)
                have og5 := fun e => (over_cell (w := W2) (e := e) (o := 5) hB4.lt).trans (hB4.cell 5)
                have op0 := fun e => (over_cell (w := W2) (e := e) (o := 0) hP4.lt).trans (hP4.cell 0)
                have op1 := fun e => (over_cell (w := W2) (e := e) (o := 1) hP4.lt).trans (hP4.cell 1)
                have ogl := fun e => Nat.lt_of_lt_of_le hB4.lt (over_below W2 e).size
                simp only [List.getElem?_toArray, List.getElem?_cons_zero, List.getElem?_cons_succ] at og0 og1 og2 og5 op0 op1
                have OG4 := Lib.hid (fun e => And.intro (og0 e) (And.intro (og1 e) (And.intro (og2 e) (ogl e))))
                clear og0 og1 og2 ogl
                have hrow4 := HR2.out.below hb22
                obtain ⟨b5, cp5, hv5, hbb5, hbw5, hcap5, hcells5⟩ := hrow4.open_ HNE.out
                obtain ⟨h51, h52⟩ : b3 = b5 ∧ c = cp5 := by injection hv5 with h1 h2 h3; injection h1 with h1; injection h1 with h1; exact ⟨h1, h3⟩
                subst h51; subst h52
                obtain ⟨e0, e1⟩ := hcells5 m (qx, qy) (by rw [List.getElem?_take_of_lt (by omega)]; exact HQ.out)
                have oq0 := fun e => (over_cell (w := W2) (e := e) (o := m * 2) hbw5).trans e0
                have oq1 := fun e => (over_cell (w := W2) (e := e) (o := m * 2 + 1) hbw5).trans e1
                have HP4 := Lib.hid hP4; have HR4 := Lib.hid hrow4
                have hlW : wo.heap.size < W2.heap.size := hP4.lt
                clear hv5 hcells5 e0 e1 hB4 hP4 hrow4
                have htop := push1_top HQ.out HP.out hle
                have tst2 : ∃ c2, cmpI (lineK R (qx, qy) X) (lineK R (px, py) X) = c2 ∧ ((lineK R (qx, qy) X ≤ lineK R (px, py) X ∧ c2 ≤ 0) ∨ (lineK R (px, py) X < lineK R (qx, qy) X ∧ decide (c2 ≤ 0) = false)) := by
                  refine ⟨_, rfl, ?_⟩
                  by_cases h : lineK R (px, py) X < lineK R (qx, qy) X
                  · exact .inr ⟨h, by rw [cmpI_gt h]; decide⟩
                  · exact .inl ⟨by omega, by unfold cmpI; split <;> (try split) <;> omega⟩
                obtain ⟨c2, hc2, htst2⟩ := tst2
                have HC2 := Lib.hid hc2; have HT := Lib.hid htop
                clear hc2 htop hle
                have hbW2 : Below wc.heap.size wc W2 := ((hbr.trans (hal.mono hbr.size)).trans (hb2.mono (Nat.le_trans hbr.size hal.size))).trans (hb22.mono (Nat.le_trans hbr.size (Nat.le_trans hal.size hb2.size)))
                rcases htst2 with ⟨hle, hcc2⟩ | ⟨hle, hcc2⟩
                · go_wp2
                  refine wp_region_over (by kernel_rfl) (by kernel_rfl) ?_
                  repeat (first | go_big_quiet_skip | (go_big_quiet_want; go_big_quiet_op; first | go_big_quiet_on | (apply Exists.intro; refine ⟨fun e => ?_, ?_⟩; (focus (first | (go_at_call_of 66 (Value.agg #[.int .u64 qx, .int .u64 qy]); exact calls_over (linek_any g F L R qx qy X _ hC.may hqm.1 hqm.2.1 hUX hqm.2.2 (OG4.out e).2.2.2 (OG4.out e).2.2.1)) | (go_at_call_of 66 (Value.agg #[.int .u64 px, .int .u64 py]); exact calls_over (linek_any g F L R px py X _ hC.may hpm.1 hpm.2.1 hUX hpm.2.2 (OG4.out e).2.2.2 (OG4.out e).2.2.1)) | (go_at_call 65; exact calls_over (cmpk_any _ _ c2 _ HC2.out)))); go_big_quiet_on)))
                  refine wpQuiet_nil ?_
                  rintro W3 ⟨e, he⟩
                  have hb33 := over_below W2 e
                  rw [← he] at hb33
                  clear he og5 op0 op1 oq0 oq1
                  have hnew := HN.out
                  rw [HT.out, if_pos hle] at hnew
                  have hr5 := HR4.out.below hb33
                  have HNew := Lib.hid hnew; have HR5 := Lib.hid hr5
                  clear hnew hr5 hle
                  go_wp2
                  go_roundw
                  case rel => (repeat apply Exists.intro); exact ⟨⟨j + 1, by omega, by go_num, by rw [HNew.out]; exact HR5.out, hbW2.trans (hb33.mono hbW2.size)⟩, rfl⟩
                  case measure => simp [intOf]; omega
                · go_wp2
                  refine wp_region_over (by kernel_rfl) (by kernel_rfl) ?_
                  repeat (first | go_big_quiet_skip | (go_big_quiet_want; go_big_quiet_op; first | go_big_quiet_on | (apply Exists.intro; refine ⟨fun e => ?_, ?_⟩; (focus (first | (go_at_call_of 66 (Value.agg #[.int .u64 qx, .int .u64 qy]); exact calls_over (linek_any g F L R qx qy X _ hC.may hqm.1 hqm.2.1 hUX hqm.2.2 (OG4.out e).2.2.2 (OG4.out e).2.2.1)) | (go_at_call_of 66 (Value.agg #[.int .u64 px, .int .u64 py]); exact calls_over (linek_any g F L R px py X _ hC.may hpm.1 hpm.2.1 hUX hpm.2.2 (OG4.out e).2.2.2 (OG4.out e).2.2.1)) | (go_at_call 65; exact calls_over (cmpk_any _ _ c2 _ HC2.out)))); go_big_quiet_on)))
                  refine wpQuiet_nil ?_
                  rintro W3 ⟨e, he⟩
                  have hb33 := over_below W2 e
                  rw [← he] at hb33
                  clear he og5 op0 op1 oq0 oq1
                  have hnew := HN.out
                  rw [HT.out, if_neg (by omega)] at hnew
                  have hr5 := HR4.out.below hb33
                  have hP5 := HP4.out.below hb33 HP4.out.lt
                  have p0 := hP5.cell 0; have p1 := hP5.cell 1
                  simp only [List.getElem?_toArray, List.getElem?_cons_zero, List.getElem?_cons_succ] at p0 p1
                  have HNew := Lib.hid hnew; have HR5 := Lib.hid hr5
                  have htl : (out.take (m + 1)).length = m + 1 := by rw [List.length_take]; omega
                  have hr6 : W3.ownsRow wc.heap.size 94 2 (.slice (some ⟨b3, 0, none⟩) (m + 1) c) (m + 1) (cellsOf (out.take (m + 1))) := by have := HR5.out; unfold RowK at this; rw [htl] at this; exact this
                  have hbW3 : Below wc.heap.size wc W3 := hbW2.trans (hb33.mono hbW2.size)
                  have HR6 := Lib.hid hr6; have HTL := Lib.hid htl
                  clear hnew hr5 hle hP5 hr6 htl
                  obtain ⟨i0, hi0, hz0, hz1, hz2⟩ := info_parts info_start
                  go_wp2_with (at_builtin; refine wpList_append_lies _ rfl _ _ 89 rfl wc.heap.size 94 i0 (.agg #[.int .u64 0, .int .u64 0]) 2 16 Try.underlying89 hi0 hz0 hz1 hz2 rfl (by decide) _ (m + 1) (cellsOf (out.take (m + 1))) rfl (HR6.out.alloc _) ⟨W3.heap.size, 0, none⟩ 1 1 [.int .u64 px, .int .u64 py] rfl rfl (World.news_of_block (heap_alloc_new W3 _)) (by simp [Value.oneCell']) (by decide) (by unfold maxLen; omega) (by omega) (Nat.le_trans hbW3.size (by simp)) _ rfl ?_; intro b4 cp4 W4 hown4 hgr4 hat4 hlt4)
                  have hlast : RowK W4 wc.heap.size (.slice (some ⟨b4, 0, none⟩) (m + 1 + 1) cp4) (out.take (m + 1) ++ [(px, py)]) := by
                    have := HTL.out
                    rw [RowK, cellsOf_append, List.length_append, this]
                    exact hown4
                  have hbW4 : Below wc.heap.size wc W4 := (hbW3.alloc hbW3.size _).grown hgr4 (by simp; have := hbW3.size; omega) (fun k hk => (HR6.out.lt k hk).1)
                  go_roundw
                  case rel => (repeat apply Exists.intro); exact ⟨⟨j + 1, by omega, by go_num, by rw [HNew.out]; exact hlast, hbW4⟩, rfl⟩
                  case measure => simp [intOf]; omega
        · obtain rfl : j = K.length + 1 := by omega
          obtain ⟨oa, oc, rfl⟩ := hrow.shape
          have hBw := (HB.out.below hbL hgW).below hbr (HB.out.below hbL hgW).lt
          have g6 := hBw.cell 6; have z6 := hBw.frozen 6
          simp only [List.getElem?_toArray, List.getElem?_cons_zero, List.getElem?_cons_succ] at g6
          have HBw := Lib.hid hBw; have HW := Lib.hid hrow
          clear hBw hrow
          go_wp2
          rw [Exit.noGoto_normal]
          go_returns
          refine ⟨rfl, ⟨_, HBw.out.set_ 6 _, ?_⟩, ?_⟩
          · have h1 := HW.out
            rw [List.take_of_length_le (by simp)] at h1 ⊢
            have h3 : (Value.slice oa (List.foldl (push1 F L R X) [] (K ++ [(X, Y)])).length oc).ownBlock = none ∨ (Value.slice oa (List.foldl (push1 F L R X) [] (K ++ [(X, Y)])).length oc).ownBlock ≠ some g := by
              rcases hv : Value.ownBlock _ with _ | k
              · exact .inl rfl
              · refine .inr fun he => ?_
                have h4 := (h1.lt k hv).1
                have h5 := hbL.size
                injection he with he
                omega
            have h2 : RowK (wo.setCell ⟨g, 6, none⟩ (Value.slice oa (List.foldl (push1 F L R X) [] (K ++ [(X, Y)])).length oc)) wc.heap.size (Value.slice oa (List.foldl (push1 F L R X) [] (K ++ [(X, Y)])).length oc) (List.foldl (push1 F L R X) [] (K ++ [(X, Y)])) := h1.kept (World.grownBy_setCell _ _ _) h3
            have h5 : g + 1 ≤ wc.heap.size := Nat.le_trans hgW hbL.size
            exact h2.low h5
          · have h1 := HG.out
            have h2 : Below W.heap.size W wo := hbL.trans (hbr.mono hbL.size)
            exact ⟨h2.os.trans h1.os, h2.tape.trans h1.tape, h2.output.trans h1.output, by simp [World.setCell]; exact Nat.le_trans h1.size h2.size, fun k hk hne => (Below.heap_setCell _ _ _ k (by simpa using hne)).trans ((h2.block k (Nat.lt_of_lt_of_le hk h1.size)).trans (h1.block k hk hne))⟩

end Go.Proofs.Ytipiajnaechadaa
