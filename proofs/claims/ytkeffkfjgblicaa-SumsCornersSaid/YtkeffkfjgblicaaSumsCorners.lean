/-
  Law 4: curves can be kept just if they are late at no corner: the walk of SumsCorners.
-/
import Derived.Test.YtkeffkfjgblicaaSumsRoom
namespace Go.Proofs.Ytkeffkfjgblicaa
set_option linter.unusedVariables false
open Go.RowKit

/-- the law's own question: late at a tick? -/
theorem latef_any (v : Value) (l : List Cv) (r t : Int) (w : World) (h : CvAt w v l) (hr : U r) (ht : U t) :
    Calls Try.prog 26 #[v, .int .u64 r, .int .u64 t] w fun e w' => e = .returned (.bool (decide (Lt l r t))) ∧ Below w.heap.size w w' := by
  have hb := vS_bd h.1.nn ht.1 ht.2
  have hl := h.2.1
  have hU := U_hi (n := vS l t) hb.1 (by omega)
  have hat := fun W (hW : Below w.heap.size w W) => sat_any v l t W (h.later hW) ht
  have hmul := fun W => mul_any r t W hr ht
  have hp0 := Int.mul_nonneg hr.1 ht.1
  have hcmp := fun W => cmp_any (hiW (vS l t)) (loW (vS l t)) (hiW (r * t)) (loW (r * t)) W (U_lo _) (U_lo _)
  simp only [num_words] at hcmp
  have hres : (decide (0 < cmpI (vS l t) (r * t))) = decide (Lt l r t) := by
    unfold Lt cmpI
    by_cases c : r * t < vS l t
    · rw [if_neg (by omega), if_neg (by omega)]; simp [c]
    · by_cases c2 : vS l t < r * t
      · rw [if_pos c2]; simp [c]
      · rw [if_neg c2, if_pos (by omega)]; simp [c]
  rw [← hres]
  generalize cmpI (vS l t) (r * t) = z at hcmp ⊢
  generalize hiW (vS l t) = x0 at hat hcmp
  generalize loW (vS l t) = y0 at hat hcmp
  generalize hiW (r * t) = x1 at hmul hcmp
  generalize loW (r * t) = y1 at hmul hcmp
  have HAT := Lib.hid hat; have HM := Lib.hid hmul; have HC := Lib.hid hcmp
  clear hat hmul hcmp hres hb hU hp0 h
  go_enter Try.func26, Try.ntmps26
  go_wp2_with fail
  refine (HAT.out _ (Below.refl _ w)).mono ?_
  rintro e w1 ⟨rfl, hb1⟩
  have H1 := Lib.hid hb1
  clear hb1
  go_wp2_with fail
  refine (HM.out _).mono ?_
  rintro e w2 ⟨rfl, hb2⟩
  have H2 := Lib.hid (H1.out.trans (hb2.mono H1.out.size))
  clear hb2
  go_wp2_with fail
  refine (HC.out _).mono ?_
  rintro e w3 ⟨rfl, hb3⟩
  have H3 := Lib.hid (H2.out.trans (hb3.mono H2.out.size))
  clear hb3
  go_wp2_with fail
  go_ret
  exact ⟨rfl, H3.out⟩

theorem restS_append (a b : List Cv) : restS (a ++ b) = restS a + restS b := by
  induction a with
  | nil => simp [restS]
  | cons c a ih => simp only [List.cons_append, restS, ih]; omega
theorem restS_bd {l : List Cv} (h : NN l) : 0 ≤ restS l ∧ restS l ≤ l.length * 1048576 := by
  induction l with
  | nil => simp [restS]
  | cons c l ih =>
    have h0 := h c (.head _)
    have h1 := ih fun d hd => h d (.tail _ hd)
    simp only [restS, List.length_cons]
    by_cases ho : okC c = true
    · have := (okC_may ho).2
      rw [if_pos ho]; omega
    · rw [if_neg ho]; omega

/-- late at none of these -/
def noneL (l : List Cv) (r : Int) (ks : List Int) : Bool := ks.all fun x => !decide (Lt l r x)
theorem noneL_iff {l : List Cv} {r : Int} {ks : List Int} : noneL l r ks = true ↔ ∀ x ∈ ks, ¬ Lt l r x := by simp [noneL]

set_option maxRecDepth 100000 in
set_option maxHeartbeats 4000000 in
theorem corners_walk (a : Option Addr) (len cap : Nat) (zs : List (List Value)) (r t : Int) (w : World) (hz : IsRows [some .u64, some .u64, some .u64] w a len cap zs) (hr : U r) (ht : U t) :
    Calls Try.prog 6 #[.slice a len cap, .int .u64 r, .int .u64 t] w fun e w' => e = .returned (.bool true) ∧ Below w.heap.size w w' := by
  have hlm : len ≤ 9223372036854775807 := by have := hz.1; have := hz.2.1; unfold maxLen at this; omega
  by_cases h40 : len ≤ 40
  · by_cases htN : t < 9223372036854775808
    · obtain ⟨l, rfl, hcv⟩ := cvs_of hz (by omega)
      have H := Lib.hid hcv; have HT := Lib.hid (And.intro ht htN); have HR := Lib.hid hr
      clear hcv hz hlm ht hr
      go_enter Try.func6, Try.ntmps6
      go_wp2_with fail
      refine (awake_any w).mono ?_
      rintro e w1 ⟨rfl, hb1⟩
      have hl := late_any _ l r w1 (H.out.later hb1) HR.out
      have HB1 := Lib.hid hb1
      clear hb1
      go_wp2_with fail
      refine hl.mono ?_
      clear hl
      rintro e w2 ⟨n, rfl, hI, hb2⟩
      have HB2 := Lib.hid (HB1.out.trans (hb2.mono HB1.out.size)); have HI := Lib.hid hI
      clear hb2 HB1 hI
      go_upto_region 6 with fail
      go_cut [45] from 22 to 45 (fun v wx => v = .bool false ∧ Below w.heap.size w wx)
      case first =>
        have hk := kept_any _ l r w2 (H.out.later HB2.out) HR.out
        rcases HI.out with ⟨rfl, hK⟩ | ⟨n0, n1, hL, hno⟩
        · have hkt : decide (Keep l r) = true := decide_eq_true hK
          rw [hkt] at hk
          clear hkt
          have HD := Lib.hid (decide_eq_false (hK t HT.out.1.1 HT.out.2))
          clear hK
          go_wp2_with fail
          refine hk.mono ?_
          clear hk
          rintro e w3 ⟨rfl, hb3⟩
          have HB3 := Lib.hid (HB2.out.trans (hb3.mono HB2.out.size))
          have hl := latef_any _ l r t w3 (H.out.later HB3.out) HR.out HT.out.1
          rw [HD.out] at hl
          clear hb3
          go_wp2_with fail
          refine hl.mono ?_
          clear hl
          rintro e w4 ⟨rfl, hb4⟩
          have HB4 := Lib.hid (HB3.out.trans (hb4.mono HB3.out.size))
          clear hb4
          go_wp2_with fail
          go_meet
          exact ⟨rfl, HB4.out⟩
        · have hkf : decide (Keep l r) = false := decide_eq_false fun h => h n (by omega) n1 hL
          rw [hkf] at hk
          clear hkf
          have hne : (n == 9223372036854775808) = false := by simp; omega
          have HL := Lib.hid hno
          clear hno hL
          go_wp2_with fail
          refine hk.mono ?_
          clear hk
          rintro e w3 ⟨rfl, hb3⟩
          have HB3 := Lib.hid (HB2.out.trans (hb3.mono HB2.out.size))
          have hl := latef_any _ l r t w3 (H.out.later HB3.out) HR.out HT.out.1
          clear hb3
          by_cases hc : Lt l r t
          · have hnt : n ≤ t := by
              by_cases h : t < n
              · exact absurd hc (HL.out t HT.out.1.1 h)
              · omega
            rw [decide_eq_true hc] at hl
            clear hc
            go_wp2_with fail
            refine hl.mono ?_
            clear hl
            rintro e w4 ⟨rfl, hb4⟩
            have HB4 := Lib.hid (HB3.out.trans (hb4.mono HB3.out.size))
            clear hb4
            go_wp2_with fail
            go_meet
            exact ⟨by rw [decide_eq_false (by omega), decide_eq_false (by omega)]; rfl, HB4.out⟩
          · rw [decide_eq_false hc] at hl
            clear hc
            go_wp2_with fail
            refine hl.mono ?_
            clear hl
            rintro e w4 ⟨rfl, hb4⟩
            have HB4 := Lib.hid (HB3.out.trans (hb4.mono HB3.out.size))
            clear hb4
            go_wp2_with fail
            go_meet
            exact ⟨by rw [decide_eq_false (by omega)], HB4.out⟩
      obtain ⟨rfl, hbc⟩ := hcut
      obtain ⟨w4, rfl⟩ : ∃ w' : World, w' = wc := ⟨_, rfl⟩
      clear HB2
      have HB4 := Lib.hid hbc
      clear hbc
      go_upto_region 8 with fail
      go_cut [65] from 46 to 65 (fun v wx => v = .bool false ∧ Below w.heap.size w wx)
      case first =>
        rcases HI.out with ⟨rfl, hK⟩ | ⟨n0, n1, hL, hno⟩
        · clear hK
          go_wp2_with fail
          go_meet
          exact ⟨rfl, HB4.out⟩
        · have hl := latef_any _ l r n w4 (H.out.later HB4.out) HR.out ⟨by omega, by omega⟩
          rw [decide_eq_true hL] at hl
          have HD := Lib.hid (decide_eq_false (hno (n - 1) (by omega) (by omega)))
          have hne : (n == 0) = false := by simp; omega
          have wn : IntKind.u64.wrap (n - 1) = n - 1 := IntWalk.u64_in _ (by omega)
          clear hL hno
          go_wp2_with fail
          refine hl.mono ?_
          clear hl
          rintro e w5 ⟨rfl, hb5⟩
          have HB5 := Lib.hid (HB4.out.trans (hb5.mono HB4.out.size))
          have hl := latef_any _ l r (n - 1) w5 (H.out.later HB5.out) HR.out ⟨by omega, by omega⟩
          rw [HD.out] at hl
          clear hb5
          go_wp2_with fail
          refine hl.mono ?_
          clear hl
          rintro e w6 ⟨rfl, hb6⟩
          have HB6 := Lib.hid (HB5.out.trans (hb6.mono HB5.out.size))
          clear hb6
          go_wp2_with fail
          go_meet
          exact ⟨rfl, HB6.out⟩
      obtain ⟨rfl, hbc⟩ := hcut
      obtain ⟨w5, rfl⟩ : ∃ w' : World, w' = wc := ⟨_, rfl⟩
      have hcor := corners_any _ l w5 (H.out.later hbc)
      clear HB4
      have HB5 := Lib.hid hbc
      clear hbc HI
      go_wp2_with fail
      refine hcor.mono ?_
      clear hcor
      rintro e w6 ⟨ve, ks, rfl, hIC, hrow, hb6⟩
      obtain ⟨g, gc, rfl, hg1, hg2⟩ := hrow.form (by omega)
      have hce : ∀ W, Below w6.heap.size w6 W → ∀ (j : Nat) (x : Int), (0 :: ks)[j]? = some x → W.cell? ⟨g, j, none⟩ = some (.int .u64 x) := fun W hW j x hj => by
        rw [hW.cell (p := ⟨g, j, none⟩) hg2, hrow.cellAt j (by have := (List.getElem?_eq_some_iff.1 hj).1; simp at this; omega), List.getElem?_map, hj]; rfl
      have hkl : ks.length ≤ l.length := by
        have hn : ks.Nodup := (List.pairwise_cons.1 hIC.up).2.imp fun {a b} h => by omega
        have hsub : ∀ x ∈ ks, x ∈ l.map fun c => c.2.1 := fun x hx => by
          obtain ⟨c, hc, _, _, rfl⟩ := (hIC.mem x).1 hx
          exact List.mem_map.2 ⟨c, hc, rfl⟩
        have := List.Nodup.length_le_of_subset hn hsub
        simpa using this
      have HB6 := Lib.hid (HB5.out.trans (hb6.mono HB5.out.size)); have HCE := Lib.hid hce; have HIC := Lib.hid hIC
      clear hb6 hce hIC hrow HB5
      go_wp2_with fail
      go_loopw [9, 11] (fun v9 v11 W => ∃ k : Nat, v11 = .int .i64 k ∧ k ≤ ks.length + 1 ∧ v9 = .bool (noneL l r ((0 :: ks).take k)) ∧ Below w6.heap.size w6 W) (fun _ v11 _ => (ks.length + 1 - Go.RowKit.intOf v11).toNat)
      case atStart => exact ⟨0, rfl, by omega, rfl, Below.refl _ _⟩
      case round =>
        obtain ⟨k, rfl, hk, rfl, hbW⟩ := hrel
        by_cases hlt : k < ks.length + 1
        · obtain ⟨x, hx⟩ : ∃ x, (0 :: ks)[k]? = some x := ⟨_, List.getElem?_eq_getElem (by simpa using hlt)⟩
          have cx := HCE.out _ hbW k x hx
          have hxl := HIC.out.le x (List.mem_of_getElem? hx)
          have hT : noneL l r ((0 :: ks).take (k + 1)) = (noneL l r ((0 :: ks).take k) && !decide (Lt l r x)) := by
            rw [List.take_add_one, hx]; simp [noneL]
          have HT2 := Lib.hid hT; have HBW := Lib.hid hbW
          have hl := latef_any _ l r x wr (H.out.later (HB6.out.trans (hbW.mono HB6.out.size))) HR.out ⟨by omega, by omega⟩
          clear hx hT hbW
          cases hb : noneL l r ((0 :: ks).take k)
          · clear hl
            go_wp2_with fail
            go_roundw
            case measure => (simp [Go.RowKit.intOf]; try omega)
            case rel => exact ⟨k + 1, by go_num, by omega, by rw [HT2.out, hb]; rfl, HBW.out⟩
          · go_wp2_with fail
            refine hl.mono ?_
            clear hl
            rintro e w7 ⟨rfl, hb7⟩
            have HB7 := Lib.hid (HBW.out.trans (hb7.mono HBW.out.size))
            clear hb7
            go_wp2_with fail
            go_roundw
            case measure => (simp [Go.RowKit.intOf]; try omega)
            case rel => exact ⟨k + 1, by go_num, by omega, by rw [HT2.out, hb]; rfl, HB7.out⟩
        · rw [List.take_of_length_le (by simp; omega)]
          obtain ⟨w8, rfl⟩ : ∃ w' : World, w' = wr := ⟨_, rfl⟩
          have HB8 := Lib.hid (HB6.out.trans (hbW.mono HB6.out.size))
          clear hbW
          go_wp2_with fail
          go_loopw [10, 12] (fun v10 v12 W => ∃ j : Nat, v12 = .int .i64 j ∧ j ≤ l.length ∧ v10 = .int .u64 (restS (l.take j)) ∧ Below w8.heap.size w8 W) (fun _ v12 _ => (l.length - Go.RowKit.intOf v12).toNat)
          case atStart => exact ⟨0, rfl, by omega, rfl, Below.refl _ _⟩
          case round =>
            obtain ⟨j, rfl, hj, rfl, hbW⟩ := hrel
            have hRb := restS_bd (l := l.take j) fun c hc => H.out.1.nn c (List.mem_of_mem_take hc)
            rw [List.length_take, Nat.min_eq_left hj] at hRb
            by_cases hlt2 : j < l.length
            · obtain ⟨c, hc⟩ : ∃ c, l[j]? = some c := ⟨_, List.getElem?_eq_getElem hlt2⟩
              obtain ⟨hu, _, a', cap', e', h0 | ⟨b, off, e2, hbl, _, hcells⟩⟩ := H.out.later (HB8.out.trans (hbW.mono HB8.out.size))
              · rw [h0] at hlt2; simp at hlt2
              · simp only [Value.slice.injEq, true_and] at e'
                obtain ⟨rfl, rfl⟩ := e'
                subst e2
                obtain ⟨c0, c1, c2⟩ := hcells j c hc
                have hcu := hu c (List.mem_of_getElem? hc)
                have hT : restS (l.take (j + 1)) = restS (l.take j) + (if okC c then c.2.2 else 0) := by
                  rw [List.take_add_one, hc, Option.toList_some, restS_append]
                  simp [restS]
                have HT2 := Lib.hid hT; have HBW := Lib.hid hbW
                obtain ⟨F, L, R⟩ := c
                have hmay := may_any F L R wr hcu.2.1.1
                rw [show mayB F L R = okC (F, L, R) from rfl] at hmay
                dsimp only at c0 c1 c2 hcu
                have hm2 := okC_may (c := (F, L, R))
                dsimp only at hm2
                have hR0 := hcu.2.2.1
                clear hT hcells hu hc hbW hcu
                generalize restS (l.take j) = s at hRb HT2 ⊢
                cases ho : okC (F, L, R)
                · rw [ho] at hmay
                  clear hm2
                  go_wp2_with fail
                  refine hmay.mono ?_
                  clear hmay
                  rintro e w9 ⟨rfl, hb9⟩
                  have HB9 := Lib.hid (HBW.out.trans (hb9.mono HBW.out.size))
                  clear hb9 c0 c1 c2
                  go_wp2_with fail
                  go_roundw
                  case measure => (simp [Go.RowKit.intOf]; try omega)
                  case rel => exact ⟨j + 1, by go_num, by omega, by rw [HT2.out, ho]; simp, HB9.out⟩
                · rw [ho] at hmay
                  have hR1 := (hm2 ho).2
                  have ws : IntKind.u64.wrap (s + R) = s + R := IntWalk.u64_in _ (by omega)
                  clear hm2
                  go_wp2_with fail
                  refine hmay.mono ?_
                  clear hmay
                  rintro e w9 ⟨rfl, hb9⟩
                  have d0 := (hb9.cell (p := ⟨b, off + j * 3, none⟩) hbl).trans c0
                  have d1 := (hb9.cell (p := ⟨b, off + j * 3 + 1, none⟩) hbl).trans c1
                  have d2 := (hb9.cell (p := ⟨b, off + j * 3 + 2, none⟩) hbl).trans c2
                  have HB9 := Lib.hid (HBW.out.trans (hb9.mono HBW.out.size))
                  clear hb9 c0 c1 c2
                  go_wp2_with fail
                  go_roundw
                  case measure => (simp [Go.RowKit.intOf]; try omega)
                  case rel => exact ⟨j + 1, by go_num, by omega, by rw [HT2.out, ho]; simp, HB9.out⟩
            · obtain rfl : j = l.length := by omega
              rw [List.take_length] at hRb ⊢
              have hkeep := fun h => keep_corners (l := l) (k := ks) (r := r) H.out.1.nn HIC.out HR.out.1 h
              rw [← noneL_iff] at hkeep
              have HB9 := Lib.hid (HB8.out.trans (hbW.mono HB8.out.size)); have HK := Lib.hid hkeep
              have hk := kept_any _ l r wr (H.out.later HB9.out) HR.out
              clear hbW hkeep
              by_cases hrM : r ≤ 1048576
              · have hK2 := HK.out hrM
                generalize noneL l r (0 :: ks) = b at hK2 ⊢
                generalize restS l = s at hK2 hRb ⊢
                have hKb : decide (Keep l r) = (b && decide (s ≤ r)) := by
                  rw [Bool.eq_iff_iff, decide_eq_true_eq, hK2]; simp
                rw [hKb] at hk
                clear hKb hK2
                cases b
                · rw [Bool.false_and] at hk
                  go_wp2_with fail
                  refine hk.mono ?_
                  clear hk
                  rintro e w10 ⟨rfl, hb10⟩
                  have HB10 := Lib.hid (HB9.out.trans (hb10.mono HB9.out.size))
                  clear hb10
                  go_wp2_with fail
                  go_ret
                  exact ⟨rfl, HB10.out⟩
                · rw [Bool.true_and] at hk
                  by_cases hsr : s ≤ r
                  · rw [decide_eq_true hsr] at hk
                    go_wp2_with fail
                    refine hk.mono ?_
                    clear hk
                    rintro e w10 ⟨rfl, hb10⟩
                    have HB10 := Lib.hid (HB9.out.trans (hb10.mono HB9.out.size))
                    clear hb10
                    go_wp2_with fail
                    go_ret
                    exact ⟨rfl, HB10.out⟩
                  · rw [decide_eq_false hsr] at hk
                    go_wp2_with fail
                    refine hk.mono ?_
                    clear hk
                    rintro e w10 ⟨rfl, hb10⟩
                    have HB10 := Lib.hid (HB9.out.trans (hb10.mono HB9.out.size))
                    clear hb10
                    go_wp2_with fail
                    go_ret
                    exact ⟨by show Ending.returned (.bool (decide (1048576 < r) || !decide (s ≤ r))) = _; rw [decide_eq_false (show ¬ s ≤ r by omega)]; simp, HB10.out⟩
              · clear hk
                go_wp2_with fail
                go_ret
                exact ⟨rfl, HB9.out⟩
    · clear hz
      go_enter Try.func6, Try.ntmps6
      go_wp2_with fail
      refine (awake_any w).mono ?_
      rintro e w1 ⟨rfl, hb1⟩
      have HB1 := Lib.hid hb1
      clear hb1
      go_wp2_with fail
      go_ret
      exact ⟨rfl, HB1.out⟩
  · clear hz
    go_enter Try.func6, Try.ntmps6
    go_wp2_with fail
    refine (awake_any w).mono ?_
    rintro e w1 ⟨rfl, hb1⟩
    have HB1 := Lib.hid hb1
    clear hb1
    go_wp2_with fail
    go_ret
    exact ⟨rfl, HB1.out⟩
end Go.Proofs.Ytkeffkfjgblicaa
