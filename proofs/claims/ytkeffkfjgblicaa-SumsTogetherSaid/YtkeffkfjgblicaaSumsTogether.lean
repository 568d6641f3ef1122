/-
  Law 4: of what can be kept each part can be; the order doesn't matter: the walk of SumsTogether.
-/
import Derived.Test.YtkeffkfjgblicaaSumsRoom
import Derived.Test.YtkeffkfjgblicaaRegL
namespace Go.Proofs.Ytkeffkfjgblicaa
set_option linter.unusedVariables false
open Go.RowKit
attribute [local go_sem ↓] Go.wp_at_zero Go.wp_at_succ
attribute [local go_sem] quietR quietAtR quietUponR midAt midUpon

theorem keep_part {a b : List Cv} {r : Int} (hn : NN (a ++ b)) (h : Keep (a ++ b) r) : Keep a r ∧ Keep b r := by
  constructor <;> intro t t0 t1 <;> have h1 := h t t0 t1 <;> have ha := vS_nonneg (l := a) (fun c hc => hn c (by simp [hc])) t0 <;> have hb := vS_nonneg (l := b) (fun c hc => hn c (by simp [hc])) t0 <;> unfold Lt at * <;> rw [vS_append] at h1 <;> omega
theorem keep_more {l : List Cv} {r m : Int} (hm : 0 ≤ m) (h : Keep l r) : Keep l (r + m) := by
  intro t t0 t1
  have h1 := h t t0 t1
  have := Int.mul_nonneg hm t0
  unfold Lt at *
  rw [Int.add_mul]
  omega

theorem first_late {l : List Cv} {r : Int} : ∀ n : Nat, Lt l r n → ∃ m : Nat, m ≤ n ∧ Lt l r m ∧ ∀ k : Nat, k < m → ¬ Lt l r k := fun n => by
  induction n using Nat.strongRecOn with
  | _ n ih =>
    intro h
    by_cases hc : ∃ k : Nat, k < n ∧ Lt l r k
    · obtain ⟨k, hk, hl⟩ := hc
      obtain ⟨m, h1, h2, h3⟩ := ih k hk hl
      exact ⟨m, by omega, h2, h3⟩
    · exact ⟨n, Nat.le_refl _, h, fun k hk hl => hc ⟨k, hk, hl⟩⟩
theorem late_exists {l : List Cv} (r : Int) (hn : NN l) : ∃ n, IsLate l r n := by
  by_cases h : ∃ t : Nat, (t : Int) < 9223372036854775808 ∧ Lt l r t
  · obtain ⟨t, ht, hl⟩ := h
    obtain ⟨m, h1, h2, h3⟩ := first_late t hl
    refine ⟨m, .inr ⟨?_, by omega, h2, fun k k0 k1 hk => h3 k.toNat (by omega) (by rwa [Int.toNat_of_nonneg k0])⟩⟩
    rcases Nat.eq_zero_or_pos m with rfl | hp
    · exact absurd h2 (late_zero hn)
    · omega
  · exact ⟨_, .inl ⟨rfl, fun t t0 t1 hl => h ⟨t.toNat, by omega, by rwa [Int.toNat_of_nonneg t0]⟩⟩⟩
/-- a slice's two parts -/
theorem cv_take {w : World} {a : Option Addr} {cap k : Nat} {l : List Cv} (h : CvAt w (.slice a l.length cap) l) (hk : k ≤ l.length) : CvAt w (.slice a k cap) (l.take k) := by
  obtain ⟨h1, h2, a', cap', e, h3⟩ := h
  cases e
  refine ⟨fun c hc => h1 c (List.mem_of_mem_take hc), by rw [List.length_take]; omega, _, _, by rw [List.length_take, Nat.min_eq_left hk], ?_⟩
  rcases h3 with h3 | ⟨b, off, rfl, hl, hcap, hc⟩
  · subst h3; exact .inl (by simp)
  · refine .inr ⟨b, off, rfl, hl, by rw [List.length_take]; omega, fun i c hi => ?_⟩
    rw [List.getElem?_take] at hi
    split at hi
    · exact hc i c hi
    · cases hi
theorem cv_drop {w : World} {a : Option Addr} {cap k : Nat} {l : List Cv} (h : CvAt w (.slice a l.length cap) l) (hk : k ≤ l.length) : CvAt w (.slice (if cap = k then a else Option.map (fun x => x.add (k * 3)) a) (l.length - k) (cap - k)) (l.drop k) := by
  obtain ⟨h1, h2, a', cap', e, h3⟩ := h
  cases e
  refine ⟨fun c hc => h1 c (List.mem_of_mem_drop hc), by rw [List.length_drop]; omega, _, _, by rw [List.length_drop], ?_⟩
  rcases h3 with h3 | ⟨b, off, rfl, hl, hcap, hc⟩
  · subst h3; exact .inl (by simp)
  · by_cases hc0 : k = l.length
    · subst hc0; exact .inl (by simp)
    · refine .inr ⟨b, off + k * 3, ?_, hl, by rw [List.length_drop]; omega, fun i c hi => ?_⟩
      · rw [if_neg (by omega)]; simp [Addr.add_lit]
      · rw [List.getElem?_drop] at hi
        have := hc (k + i) c hi
        rw [Nat.add_mul, ← Nat.add_assoc] at this
        exact this

/-- one more behind a row, still owned -/
theorem app_own (ty : TypeId) {l : List Cv} {w : World} {v : Value} {base B : Nat} {c : Cv} (hu : UU (l ++ [c])) (hown : w.ownsRow base 31 3 v l.length (cvCells l)) (hb : base ≤ w.heap.size) (hl : l.length < 1000000)
    (hB : Blk w B 31 #[.int .u64 c.1, .int .u64 c.2.1, .int .u64 c.2.2]) :
    ∃ v' w', (Builtin.append_ #[22, 22] ty #[v, .slice (some ⟨B, 0, none⟩) 1 1]).run Try.prog w = .ok v' w' ∧ w'.ownsRow base 31 3 v' (l.length + 1) (cvCells (l ++ [c])) ∧ Below base w w' := by
  obtain ⟨i0, hi0, hz0, hz1, hz2⟩ := info_parts info_curve
  obtain ⟨g, cap, w', hr, ho, hg, _, hlt⟩ := run_append_lies (P := Try.prog) w 22 ty base 31 i0 _ 3 24 Try.underlying22 hi0 hz0 hz1 hz2 rfl (by decide) v l.length _ hown ⟨B, 0, none⟩ 1 1 [.int .u64 c.1, .int .u64 c.2.1, .int .u64 c.2.2] rfl (World.news_of_block hB) (by simp [Value.oneCell']) (by decide) (by unfold maxLen; omega) (by omega) hb _ rfl
  refine ⟨_, w', hr, by simpa [cvCells_append, cvCells, cvC] using ho, ?_⟩
  exact (Below.refl base w).grown hg hb fun k hk => (hown.lt k hk).1

attribute [local irreducible] TStep
set_option maxRecDepth 100000 in
set_option maxHeartbeats 4000000 in
theorem together_walk (a : Option Addr) (len cap : Nat) (zs : List (List Value)) (r m t z : Int) (w : World) (hz : IsRows [some .u64, some .u64, some .u64] w a len cap zs) (hr : U r) (hm : U m) (ht : U t) :
    Calls Try.prog 7 #[.slice a len cap, .int .u64 r, .int .u64 m, .int .u64 t, .int .i64 z] w fun e w' => e = .returned (.bool true) ∧ Below w.heap.size w w' := by
  have hlm : len ≤ 9223372036854775807 := by have := hz.1; have := hz.2.1; unfold maxLen at this; omega
  have hcl := hz.1
  by_cases h40 : len ≤ 40
  · obtain ⟨l, rfl, hcv⟩ := cvs_of hz (by omega)
    obtain ⟨kk, hkk, hkl⟩ : ∃ kk : Nat, (IntKind.u64.wrap z).tmod ((l.length : Int) + 1) = kk ∧ kk ≤ l.length := by
      have h0 := (U_wrap z).1
      rw [Int.tmod_eq_emod_of_nonneg h0]
      have h1 := Int.emod_nonneg (IntKind.u64.wrap z) (show ((l.length : Int) + 1) ≠ 0 by omega)
      have h2 := Int.emod_lt_of_pos (IntKind.u64.wrap z) (show (0 : Int) < (l.length : Int) + 1 by omega)
      exact ⟨((IntKind.u64.wrap z) % ((l.length : Int) + 1)).toNat, by omega, by omega⟩
    have wn : IntKind.u64.wrap ((l.length : Int) + 1) = (l.length : Int) + 1 := IntWalk.u64_in _ (by omega)
    have wk : IntKind.i64.wrap (kk : Int) = (kk : Int) := IntWalk.i64_in _ (by omega)
    have H := Lib.hid hcv; have HT := Lib.hid ht; have HR := Lib.hid hr; have HM := Lib.hid hm
    clear hcv hz hlm ht hr hm
    go_enter Try.func7, Try.ntmps7
    go_wp2_with fail
    refine (awake_any w).mono ?_
    rintro e w1 ⟨rfl, hb1⟩
    have HB1 := Lib.hid hb1
    clear hb1
    go_wp2_with fail
    go_loopw [12, 13] (fun v12 v13 W => ∃ (ve : Value) (j : Nat), ve = v12 ∧ v13 = .int .i64 ((j : Int) - 1) ∧ j ≤ l.length ∧ W.ownsRow w1.heap.size 31 3 ve (l.length - j) (cvCells (l.drop j).reverse) ∧ Below w1.heap.size w1 W) (fun _ v13 _ => (Go.RowKit.intOf v13 + 1).toNat)
    case atStart => exact ⟨_, l.length, rfl, rfl, Nat.le_refl _, by rw [List.drop_of_length_le (Nat.le_refl _), Nat.sub_self]; exact World.ownsRow_nil _ _ _ _, Below.refl _ _⟩
    case round =>
      obtain ⟨ve, j, rfl, rfl, hj, hown, hbW⟩ := hrel
      by_cases hlt : 0 < j
      · obtain ⟨i, rfl⟩ : ∃ i, j = i + 1 := ⟨j - 1, by omega⟩
        rw [show (((i + 1 : Nat) : Int) - 1) = (i : Int) by omega]
        obtain ⟨c, hc⟩ : ∃ c, l[i]? = some c := ⟨_, List.getElem?_eq_getElem (by omega)⟩
        obtain ⟨hu, _, a', cap', e', h0 | ⟨b, off, e2, hbl, _, hcells⟩⟩ := H.out.later (HB1.out.trans (hbW.mono HB1.out.size))
        · rw [h0] at hj; simp at hj
        · simp only [Value.slice.injEq, true_and] at e'
          obtain ⟨rfl, rfl⟩ := e'
          subst e2
          obtain ⟨c0, c1, c2⟩ := hcells i c hc
          have hcu := hu c (List.mem_of_getElem? hc)
          have huu : UU ((l.drop (i + 1)).reverse ++ [c]) := fun d hd => by
            rcases List.mem_append.1 hd with hd | hd
            · exact hu d (List.mem_of_mem_drop (List.mem_reverse.1 hd))
            · simp at hd; subst hd; exact hcu
          have hD : (l.drop i).reverse = (l.drop (i + 1)).reverse ++ [c] := by
            have hi : i < l.length := by omega
            rw [List.drop_eq_getElem_cons hi, List.reverse_cons]
            congr 2
            simpa [List.getElem?_eq_getElem hi] using hc
          have hown' : wr.ownsRow w1.heap.size 31 3 ve (l.drop (i + 1)).reverse.length (cvCells (l.drop (i + 1)).reverse) := by simpa using hown
          obtain ⟨v', w', hr1, ho1, hb1⟩ := app_own 22 (c := c) huu (hown'.alloc (.cells #[.int .u64 c.1, .int .u64 c.2.1, .int .u64 c.2.2] 31)) (hbW.alloc hbW.size _).size (by simp; omega) (Blk.new wr _ _)
          have HBW := Lib.hid ((hbW.alloc hbW.size (.cells #[.int .u64 c.1, .int .u64 c.2.1, .int .u64 c.2.2] 31)).trans hb1)
          have HO := Lib.hid ho1; have HD := Lib.hid hD
          clear hu hcells hbl hc hcu huu hD hown hown' hb1 ho1 hbW
          go_wp2_with (at_builtin; refine wpList_append_runW rfl _ _ _ rfl _ _ _ rfl rfl hr1 ?_)
          clear hr1
          go_roundw
          case measure => (simp [Go.RowKit.intOf]; try omega)
          case rel => exact ⟨_, i, rfl, rfl, by omega, by rw [HD.out]; simpa [show l.length - (i + 1) + 1 = l.length - i by omega] using HO.out, HBW.out⟩
      · obtain rfl : j = 0 := by omega
        rw [show (((0 : Nat) : Int) - 1) = -1 from rfl]
        have hback : CvAt wr ve l.reverse := CvAt.of_owns (base := w1.heap.size) (by simpa using hown) (fun c hc => H.out.1 c (List.mem_reverse.1 hc)) (by simp; omega)
        have hbw := HB1.out.trans (hbW.mono HB1.out.size)
        obtain ⟨w2, rfl⟩ : ∃ w' : World, w' = wr := ⟨_, rfl⟩
        have HBK := Lib.hid hback; have HB2 := Lib.hid hbw
        clear hback hown hbW hbw HB1
        have hkc : kk ≤ cap := by omega
        obtain ⟨a2, hif⟩ : ∃ a2, (if cap = kk then a else Option.map (fun x => x.add (kk * 3)) a) = a2 := ⟨_, rfl⟩
        have hdr := cv_drop H.out hkl
        rw [hif] at hdr
        have HDR := Lib.hid hdr
        clear hdr
        have hnn := H.out.1.nn
        have hcat : l.take kk ++ l.drop kk = l := List.take_append_drop kk l
        have hsum : vS (l.take kk) t + vS (l.drop kk) t = vS l t := by rw [← vS_append, hcat]
        have bx := vS_bd (l := l.take kk) (t := t) (fun c hc => hnn c (List.mem_of_mem_take hc)) HT.out.1 HT.out.2
        have by_ := vS_bd (l := l.drop kk) (t := t) (fun c hc => hnn c (List.mem_of_mem_drop hc)) HT.out.1 HT.out.2
        have bz := vS_bd (l := l) (t := t) hnn HT.out.1 HT.out.2
        have hfix1 := fun W (hW : Below w2.heap.size w2 W) => sat_any _ _ t W (cv_take (H.out.later (HB2.out.trans (hW.mono HB2.out.size))) hkl) HT.out
        have hfix2 := fun W (hW : Below w2.heap.size w2 W) => sat_any _ _ t W (HDR.out.later (HB2.out.trans (hW.mono HB2.out.size))) HT.out
        have hfix4 := fun W (hW : Below w2.heap.size w2 W) => sat_any _ _ t W (H.out.later (HB2.out.trans (hW.mono HB2.out.size))) HT.out
        have hfix5 := fun W (hW : Below w2.heap.size w2 W) => sat_any _ _ t W (HBK.out.later hW) HT.out
        rw [vS_reverse] at hfix5
        have hlen1 : ((l.take kk).length : Int) ≤ 40 := by rw [List.length_take]; omega
        have hlen2 : ((l.drop kk).length : Int) ≤ 40 := by rw [List.length_drop]; omega
        have hfix3 := fun W => plus_any (hiW (vS (l.take kk) t)) (loW (vS (l.take kk) t)) (hiW (vS (l.drop kk) t)) (loW (vS (l.drop kk) t)) W (U_hi bx.1 (by omega)) (U_lo _) (U_hi by_.1 (by omega)) (U_lo _) (by rw [num_words, num_words]; omega)
        simp only [num_words, hsum] at hfix3
        obtain ⟨n, hn⟩ := late_exists (l := l) r hnn
        have hfix6 := fun W (hW : Below w2.heap.size w2 W) => (late_any _ _ r W (H.out.later (HB2.out.trans (hW.mono HB2.out.size))) HR.out).mono (fun e w2 ⟨n', he, hI, hb⟩ => (⟨by rw [hI.unique hn] at he; exact he, hb⟩ : e = Ending.returned (.int .u64 n) ∧ Below W.heap.size W w2))
        have hfix7 := fun W (hW : Below w2.heap.size w2 W) => (late_any _ _ r W (HBK.out.later hW) HR.out).mono (fun e w2 ⟨n', he, hI, hb⟩ => (⟨by rw [(hI.congr fun t => vS_reverse l t).unique hn] at he; exact he, hb⟩ : e = Ending.returned (.int .u64 n) ∧ Below W.heap.size W w2))
        generalize hiW (vS (l.take kk) t) = x1 at hfix1 hfix3
        generalize loW (vS (l.take kk) t) = x0 at hfix1 hfix3
        generalize hiW (vS (l.drop kk) t) = y1 at hfix2 hfix3
        generalize loW (vS (l.drop kk) t) = y0 at hfix2 hfix3
        generalize hiW (vS l t) = z1 at hfix3 hfix4 hfix5
        generalize loW (vS l t) = z0 at hfix3 hfix4 hfix5
        have H1 := Lib.hid hfix1; have H2 := Lib.hid hfix2; have H3 := Lib.hid hfix3; have H4 := Lib.hid hfix4; have H5 := Lib.hid hfix5; have H6 := Lib.hid hfix6; have H7 := Lib.hid hfix7
        clear hfix1 hfix2 hfix3 hfix4 hfix5 hfix6 hfix7 hn hlen1 hlen2 bx by_ bz hsum hcat hnn
        go_upto_region 11 with fail
        refine wp_region_late (w := w2) 15 2 13 [14] [] [(14, fun u W' => ∃ B, u = .pointer (some ⟨B, 0, none⟩) ∧ w2.heap.size ≤ B ∧ Blk W' B 25 #[.int .u64 0, .int .u64 0])] rfl (by kernel_rfl) (by kernel_rfl) (by kernel_rfl) (by kernel_rfl) (fun _ _ _ _ _ h => h) ⟨?st1, trivial⟩ ?_
        case st1 => exact fun v W1 W2 ⟨b, h1, h2, h3⟩ hb => ⟨b, h1, h2, h3.below hb h3.lt⟩
        intro LL hL
        have HL := Lib.hid hL
        clear hL
        simp only [List.take_succ_cons, List.take_zero, putL]
        iterate 15 (first | refine wpHead_skip (by decide) ?_ | (refine wpHead_step (by decide) (fun K hK => ?_); go_simp; first | (refine hK _ ?_; clear hK K) | (apply Exists.intro; refine ⟨fun e => ?_, hK _ ?_⟩; (focus (first | (go_at_call 12; with_reducible exact H1.out _ (over_below _ _)) | (go_at_call 12; with_reducible exact H2.out _ (over_below _ _)) | (go_at_call 28; with_reducible exact H3.out _))); clear hK K)))
        refine wpHead_nil (HL.out _ ⟨?_, trivial⟩ ?_)
        · intro vs W1 hb1 hf
          clear hf HL
          change TStep _ _ _ (Act.put _ (some 14) (vs 14)) _ _
          refine tstep_yes (by kernel_rfl) ?_
          go_simp
          exact ⟨(Below.refl _ _).alloc (Nat.le_refl _) _, hb1.size, Blk.new _ _ _⟩
        · intro vs W1 hb1 hf
          obtain ⟨⟨B, hf1, hBw, hBB⟩, hff⟩ := hf
          clear hff HL
          change wpList _ _ _ _ (Act.put _ (some 14) (vs 14)) _
          rw [hf1]
          clear hf1
          simp only [List.drop_succ_cons, List.drop_zero, List.take_succ_cons, List.take_zero]
          have c0 := hBB.cell 0; have c1 := hBB.cell 1; have f0 := hBB.frozen 0; have f1 := hBB.frozen 1
          have HX := Lib.hid (And.intro hb1 (And.intro hBw hBB))
          clear hb1 hBB hBw
          go_upto_region 12 with fail
          clear c0 c1 f0 f1
          obtain ⟨W3, hW3⟩ : ∃ W3, (W1.setCell ⟨B, 0, none⟩ (.int .u64 z1)).setCell ⟨B, 1, none⟩ (.int .u64 z0) = W3 := ⟨_, rfl⟩
          rw [hW3]
          have h3 : Below w2.heap.size w2 W3 := by rw [← hW3]; exact (HX.out.1.setCell HX.out.2.1 _).setCell HX.out.2.1 _
          have hB3 : Blk W3 B 25 #[.int .u64 z1, .int .u64 z0] := by rw [← hW3]; simpa using (HX.out.2.2.set_ 0 (.int .u64 z1)).set_ 1 (.int .u64 z0)
          have o0 := fun e => (over_cell (e := e) (o := 0) hB3.lt).trans (hB3.cell 0)
          have o1 := fun e => (over_cell (e := e) (o := 1) hB3.lt).trans (hB3.cell 1)
          simp only [List.getElem?_toArray, List.getElem?_cons_zero, List.getElem?_cons_succ] at o0 o1
          have H4' := Lib.hid (fun e => H4.out (over W3 e) (h3.trans ((over_below W3 e).mono h3.size)))
          have H5' := Lib.hid (fun e => H5.out (over W3 e) (h3.trans ((over_below W3 e).mono h3.size)))
          have H6' := Lib.hid (fun e => H6.out (over W3 e) (h3.trans ((over_below W3 e).mono h3.size)))
          have H7' := Lib.hid (fun e => H7.out (over W3 e) (h3.trans ((over_below W3 e).mono h3.size)))
          have HB3 := Lib.hid (HB2.out.trans (h3.mono HB2.out.size))
          clear hB3 h3 hW3 HX
          refine wp_region_mid (w := W3) 24 1 [] [] [] rfl (by kernel_rfl) (by kernel_rfl) (by kernel_rfl) (by kernel_rfl) (fun _ _ _ _ _ h => h) trivial ?_
          intro LL hL
          have HL := Lib.hid hL
          clear hL
          simp only [List.take_succ_cons, List.take_zero, putL]
          iterate 24 (first | refine wpHead_skip (by decide) ?_ | (refine wpHead_step (by decide) (fun K hK => ?_); go_simp; first | (refine hK _ ?_; clear hK K) | (apply Exists.intro; refine ⟨fun e => ?_, hK _ ?_⟩; (focus (first | (go_at_call 12; with_reducible exact H4'.out _) | (go_at_call 12; with_reducible exact H5'.out _) | (go_at_call 17; with_reducible exact H6'.out _) | (go_at_call 17; with_reducible exact H7'.out _))); clear hK K)))
          refine wpHead_nil (HL.out _ trivial ?_)
          intro vs W4 hb4 _
          clear HL o0 o1
          simp only [putHd, List.drop_succ_cons, List.drop_zero, List.take_succ_cons, List.take_zero]
          have HB4 := Lib.hid (HB3.out.trans (hb4.mono HB3.out.size))
          clear hb4
          have hk := kept_any _ l r W4 (H.out.later HB4.out) HR.out
          by_cases hK : Keep l r
          · rw [decide_eq_true hK] at hk
            go_wp2_with fail
            refine hk.mono ?_
            clear hk
            rintro e W5 ⟨rfl, hb5⟩
            have HB5 := Lib.hid (HB4.out.trans (hb5.mono HB4.out.size))
            have hcat : l.take kk ++ l.drop kk = l := List.take_append_drop kk l
            have hpart := keep_part (a := l.take kk) (b := l.drop kk) (r := r) (by rw [hcat]; exact H.out.1.nn) (by rw [hcat]; exact hK)
            have hk1 := kept_any _ (l.take kk) r W5 (cv_take (H.out.later HB5.out) hkl) HR.out
            rw [decide_eq_true hpart.1] at hk1
            have HP := Lib.hid hpart.2; have HK := Lib.hid hK
            clear hb5 hcat hpart hK
            go_wp2_with fail
            refine hk1.mono ?_
            clear hk1
            rintro e W6 ⟨rfl, hb6⟩
            have HB6 := Lib.hid (HB5.out.trans (hb6.mono HB5.out.size))
            have hk2 := kept_any _ (l.drop kk) r W6 (HDR.out.later HB6.out) HR.out
            rw [decide_eq_true HP.out] at hk2
            clear hb6
            go_wp2_with fail
            refine hk2.mono ?_
            clear hk2
            rintro e W7 ⟨rfl, hb7⟩
            have HB7 := Lib.hid (HB6.out.trans (hb7.mono HB6.out.size))
            clear hb7
            have r0 := HR.out.1; have r1 := HR.out.2; have m0 := HM.out.1; have m1 := HM.out.2
            by_cases hov : r + m < 18446744073709551616
            · have ws : IntKind.u64.wrap (r + m) = r + m := IntWalk.u64_in _ (by omega)
              have hk3 := kept_any _ l (r + m) W7 (H.out.later HB7.out) ⟨by omega, by omega⟩
              rw [decide_eq_true (keep_more m0 HK.out)] at hk3
              have hnl : ¬ r + m < r := by omega
              go_wp2_with fail
              refine hk3.mono ?_
              clear hk3
              rintro e W8 ⟨rfl, hb8⟩
              have HB8 := Lib.hid (HB7.out.trans (hb8.mono HB7.out.size))
              clear hb8
              go_wp2_with fail
              go_ret
              exact ⟨rfl, HB8.out⟩
            · have ws : IntKind.u64.wrap (r + m) = r + m - 18446744073709551616 := by rw [IntKind.wrap_u64]; omega
              have hnl : r + m - 18446744073709551616 < r := by omega
              go_wp2_with fail
              go_ret
              exact ⟨rfl, HB7.out⟩
          · rw [decide_eq_false hK] at hk
            clear hK
            go_wp2_with fail
            refine hk.mono ?_
            clear hk
            rintro e W5 ⟨rfl, hb5⟩
            have HB5 := Lib.hid (HB4.out.trans (hb5.mono HB4.out.size))
            clear hb5
            go_wp2_with fail
            go_ret
            exact ⟨rfl, HB5.out⟩
  · clear hz
    go_enter Try.func7, Try.ntmps7
    go_wp2_with fail
    refine (awake_any w).mono ?_
    rintro e w1 ⟨rfl, hb1⟩
    have HB1 := Lib.hid hb1
    clear hb1
    go_wp2_with fail
    go_ret
    exact ⟨rfl, HB1.out⟩
end Go.Proofs.Ytkeffkfjgblicaa
