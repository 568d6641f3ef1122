/-
  CountTurned: the law's walk.
-/
import Derived.Test.YtfnocnknmpmaaaaCountPlain
namespace Go.Proofs.Ytfnocnknmpmaaaa
set_option linter.unusedVariables false
open Go.RowKit

theorem BookAt.kept {w w' : World} {g m k : Nat} {B : Bk} (h : BookAt w g m B) (hg : w.grownBy w' (some k)) (h1 : g ≠ k) (h2 : m ≠ k) : BookAt w' g m B :=
  ⟨h.blk.grown hg (by simp [h1]), h.map.kept hg (by simp [h2]), h.ok⟩
/-- two books side by side -/
structure TwoB (w W : World) (g1 m1 g2 m2 : Nat) (A B : Bk) : Prop where
  fst : BookAt W g1 m1 A
  snd : BookAt W g2 m2 B
  below : Below w.heap.size w W
  hi1 : w.heap.size ≤ m1
  hi2 : w.heap.size ≤ m2
  n1 : g1 ≠ m2
  n2 : g2 ≠ m1
  n3 : m1 ≠ m2
theorem TwoB.step1 {w W W' : World} {g1 m1 g2 m2 : Nat} {A B A' : Bk} (h : TwoB w W g1 m1 g2 m2 A B) (hT : TellAt W g1 m1 A' W') : TwoB w W' g1 m1 g2 m2 A' B :=
  ⟨hT.book, h.snd.kept hT.grown h.n2 (Ne.symm h.n3), h.below.grown hT.grown h.below.size (fun k e => by cases e; exact h.hi1), h.hi1, h.hi2, h.n1, h.n2, h.n3⟩
theorem TwoB.step2 {w W W' : World} {g1 m1 g2 m2 : Nat} {A B B' : Bk} (h : TwoB w W g1 m1 g2 m2 A B) (hT : TellAt W g2 m2 B' W') : TwoB w W' g1 m1 g2 m2 A B' :=
  ⟨h.fst.kept hT.grown h.n1 h.n3, hT.book, h.below.grown hT.grown h.below.size (fun k e => by cases e; exact h.hi2), h.hi1, h.hi2, h.n1, h.n2, h.n3⟩
theorem TwoB.later {w W W' : World} {g1 m1 g2 m2 : Nat} {A B : Bk} (h : TwoB w W g1 m1 g2 m2 A B) (hb : Below W.heap.size W W') : TwoB w W' g1 m1 g2 m2 A B :=
  ⟨h.fst.grown (grown_none hb), h.snd.grown (grown_none hb), h.below.trans (hb.mono h.below.size), h.hi1, h.hi2, h.n1, h.n2, h.n3⟩
theorem TwoB.of {w w1 W : World} {g1 m1 g2 m2 : Nat} {A B : Bk} (h : TwoB w1 W g1 m1 g2 m2 A B) (hb : Below w.heap.size w w1) : TwoB w W g1 m1 g2 m2 A B :=
  ⟨h.fst, h.snd, hb.trans (h.below.mono hb.size), Nat.le_trans hb.size h.hi1, Nat.le_trans hb.size h.hi2, h.n1, h.n2, h.n3⟩
theorem take_fold {l : List CAct} {k : Nat} {q : CAct} (h : l[k]? = some q) (B : Bk) : (l.take (k + 1)).foldl tellA B = tellA ((l.take k).foldl tellA B) q := by
  rw [List.take_add_one, h]; simp
theorem take_filter {l : List CAct} {k : Nat} {q : CAct} (h : l[k]? = some q) (p : CAct → Bool) (B : Bk) : ((l.take (k + 1)).filter p).foldl tellA B = if p q then tellA (((l.take k).filter p).foldl tellA B) q else ((l.take k).filter p).foldl tellA B := by
  rw [List.take_add_one, h, List.filter_append]
  by_cases hp : p q <;> simp [hp]

theorem tellA_ne (B : Bk) (a : CAct) (h : B ≠ []) : tellA B a ≠ [] := by
  have hp : ∀ (B : Bk) k s, putM B k s ≠ [] := by
    intro B k s
    cases B with
    | nil => simp [putM]
    | cons p r => rw [putM]; repeat' split
                  all_goals simp
  rw [tellA_eq]
  split
  · unfold tellB tell0
    split <;> exact hp _ _ _
  · exact h
theorem fold_ne : ∀ (l : List CAct) (B : Bk), B ≠ [] → l.foldl tellA B ≠ []
  | [], B, h => h
  | a :: l, B, h => fold_ne l _ (tellA_ne B a h)
theorem slice_form {w : World} {base : Nat} {e : TypeId} {v : Value} {n : Nat} {xs : List Value} (h : w.ownsRow base e 1 v n xs) : ∃ p c, v = .slice p n c := by
  rcases h.2 with ⟨h1, h2⟩ | ⟨g, cap, cur, h1, _⟩
  · exact ⟨none, 0, by rw [h1, h2]⟩
  · exact ⟨_, _, h1⟩
set_option maxRecDepth 100000 in
set_option maxHeartbeats 4000000 in
theorem countTurned_any (a : Option Addr) (len cap : Nat) (l : List CAct) (w : World) (hl : len ≤ 9223372036854775807) (hz : CActsAt w a len l) :
    Calls Try.prog 6 #[.slice a len cap] w fun e w' => e = .returned (.bool true) ∧ Below w.heap.size w w' := by
  go_enter Try.func6, Try.ntmps6
  go_wp2_with fail
  refine (awake_any _).mono ?_
  rintro e w1 ⟨rfl, hb1⟩
  go_wp2_with fail
  refine (long_any a len cap _ hl).mono ?_
  rintro e w' ⟨rfl, rfl⟩
  by_cases hlong : 200 < len
  · have hd : decide (200 < len) = true := decide_eq_true hlong
    rw [hd]
    go_wp2_with fail
    go_ret
    exact ⟨rfl, hb1⟩
  · have hd : decide (200 < len) = false := decide_eq_false hlong
    rw [hd]
    clear hd
    go_wp2_with fail
    refine (new_any _).mono ?_
    rintro e w2 ⟨g1, m1, rfl, hB1, hb2, hg1, hm1⟩
    go_wp2_with fail
    refine (new_any _).mono ?_
    rintro e w3 ⟨g2, m2, rfl, hB2, hb3, hg2, hm2⟩
    have h3 : TwoB w w3 g1 m1 g2 m2 [(0, st0)] [(0, st0)] := by
      have hl1 := hB1.map.lt; have hl2 := hB1.blk.lt
      exact ⟨hB1.grown (grown_none hb3), hB2, hb1.trans ((hb2.trans (hb3.mono hb2.size)).mono hb1.size), Nat.le_trans hb1.size hm1, by have := hb1.size; have := hb2.size; omega, by omega, by omega, by omega⟩
    have H3 := Lib.hid h3
    clear hB1 hb2 hg1 hm1 hB2 hb3 hg2 hm2 h3 hb1
    go_wp2_with fail
    have hlen := hz.1
    have hzl : ∀ k q, l[k]? = some q → CFit q := fun k q hq => hz.2.1 q (List.mem_of_getElem? hq)
    go_loopw [5] (fun iv W => ∃ k : Nat, k ≤ len ∧ iv = .int .i64 k ∧ TwoB w W g1 m1 g2 m2 ((l.take k).foldl tellA [(0, st0)]) [(0, st0)] ∧ ∀ q ∈ l.take k, fitB q = true) (fun iv _ => len - (intOf iv).toNat)
    case atStart => exact ⟨0, by omega, rfl, H3.out, by simp⟩
    case round =>
      obtain ⟨k, hk, rfl, hT, hfit⟩ := hrel
      have HF := Lib.hid hfit
      clear hfit
      by_cases hlt : k < len
      · obtain ⟨q, hq⟩ : ∃ q, l[k]? = some q := ⟨_, List.getElem?_eq_getElem (by omega)⟩
        have hcells := (hz.below hT.below).2.2
        rcases hcells with h0 | ⟨b, off, rfl, hbl, hcells⟩
        · omega
        · obtain ⟨c0, c1, c2, c3, c4, c5⟩ := hcells k q hq
          clear hcells
          have HT := Lib.hid hT
          clear hT
          go_wp2_with fail
          refine (fits_any q _).mono ?_
          rintro e w5 ⟨rfl, hb5⟩
          have HT5 := Lib.hid (HT.out.later hb5)
          have d0 := (bcell hb5).1 b (off + k * 6) hbl; have d1 := (bcell hb5).1 b (off + k * 6 + 1) hbl; have d2 := (bcell hb5).1 b (off + k * 6 + 2) hbl
          have d3 := (bcell hb5).1 b (off + k * 6 + 3) hbl; have d4 := (bcell hb5).1 b (off + k * 6 + 4) hbl; have d5 := (bcell hb5).1 b (off + k * 6 + 5) hbl
          rw [c0] at d0; rw [c1] at d1; rw [c2] at d2; rw [c3] at d3; rw [c4] at d4; rw [c5] at d5
          clear c0 c1 c2 c3 c4 c5
          cases hf : fitB q
          · go_wp2_with fail
            go_ret
            exact ⟨rfl, HT5.out.below⟩
          · go_wp2_with fail
            refine (ltell_any g1 m1 _ q _ HT5.out.fst (hzl k q hq) (by
              have := len_fold (l.take k) [(0, st0)]
              have := List.length_take_le k l
              simp at *; omega)).mono ?_
            rintro e w6 ⟨rfl, hT6⟩
            have HT6 := Lib.hid (HT5.out.step1 hT6)
            clear hT6 d0 d1 d2 d3 d4 d5
            go_wp2_with fail
            go_roundw
            case rel =>
              refine ⟨k + 1, by omega, by go_num, by rw [take_fold hq]; exact HT6.out, fun x hx => ?_⟩
              rw [List.take_add_one, hq] at hx
              rcases List.mem_append.1 hx with hx | hx
              · exact HF.out x hx
              · simp at hx; rw [hx]; exact hf
            case measure => simp [intOf]; omega
      · obtain rfl : k = len := by omega
        rw [List.take_of_length_le (by omega)] at hT HF
        have HT := Lib.hid hT
        clear hT
        go_wp2_with fail
        obtain ⟨wo, rfl⟩ : ∃ wo : World, wo = wr := ⟨_, rfl⟩
        go_loopw [6, 7] (fun cv iv W => ∃ j : Nat, j ≤ 60 ∧ cv = .int .i64 (60 - (j : Int)) ∧ TwoB w W g1 m1 g2 m2 (l.foldl tellA [(0, st0)]) (descB l j)) (fun cv _ _ => (intOf cv).toNat)
        case atStart => exact ⟨0, by omega, rfl, HT.out⟩
        case round =>
          obtain ⟨j, hj, rfl, hD⟩ := hrel
          have HD := Lib.hid hD
          clear hD
          by_cases hj2 : j < 60
          · have hge : decide ((1 : Int) ≤ 60 - (j : Int)) = true := decide_eq_true (by omega)
            go_wp2_with fail
            obtain ⟨wi, rfl⟩ : ∃ wi : World, wi = wr := ⟨_, rfl⟩
            go_loopw [7] (fun iv W => ∃ i : Nat, i ≤ l.length ∧ iv = .int .i64 i ∧ TwoB w W g1 m1 g2 m2 (l.foldl tellA [(0, st0)]) (((l.take i).filter fun a => decide (a.c = 60 - (j : Int))).foldl tellA (descB l j))) (fun iv _ => l.length - (intOf iv).toNat)
            case atStart => exact ⟨0, by omega, rfl, HD.out⟩
            case round =>
              obtain ⟨i, hi, rfl, hT⟩ := hrel
              by_cases hlt : i < l.length
              · obtain ⟨q, hq⟩ : ∃ q, l[i]? = some q := ⟨_, List.getElem?_eq_getElem (by omega)⟩
                have hcells := (hz.below hT.below).2.2
                rcases hcells with h0 | ⟨b, off, rfl, hbl, hcells⟩
                · omega
                · obtain ⟨c0, c1, c2, c3, c4, c5⟩ := hcells i q hq
                  clear hcells
                  have HT := Lib.hid hT
                  clear hT
                  by_cases hc : q.c = 60 - (j : Int)
                  · have hfd : decide (q.c = 60 - (j : Int)) = true := decide_eq_true hc
                    have Hfd := Lib.hid hfd
                    have Hc := Lib.hid hc
                    have hcb : (q.c == 60 - (j : Int)) = true := by simp [hc]
                    clear hfd hc
                    go_wp2_with fail
                    refine (ltell_any g2 m2 _ q _ HT.out.snd (hzl i q hq) (by
                      have h1 := len_fold ((l.take i).filter fun a => decide (a.c = 60 - (j : Int))) (descB l j)
                      have h2 := List.length_filter_le (fun a : CAct => decide (a.c = 60 - (j : Int))) (l.take i)
                      have h3 := List.length_take_le i l
                      have h4 := len_fold (L2 l j) [(0, st0)]
                      rw [← descB_eq] at h4
                      have h5 := L2_len l j
                      have h6 : j * l.length ≤ 60 * 200 := Nat.mul_le_mul (by omega) (by omega)
                      simp at h4
                      omega)).mono ?_
                    rintro e w6 ⟨rfl, hT6⟩
                    have HT6 := Lib.hid (HT.out.step2 hT6)
                    clear hT6 c0 c1 c2 c3 c4 c5
                    go_wp2_with fail
                    go_roundw
                    case rel =>
                      refine ⟨i + 1, by omega, by go_num, ?_⟩
                      rw [take_filter hq, if_pos Hfd.out]; exact HT6.out
                    case measure => simp [intOf]; omega
                  · have hfd : decide (q.c = 60 - (j : Int)) = false := decide_eq_false hc
                    have Hfd := Lib.hid hfd
                    have hcb : (q.c == 60 - (j : Int)) = false := by simp [hc]
                    clear hfd hc
                    go_wp2_with fail
                    go_roundw
                    case rel =>
                      refine ⟨i + 1, by omega, by go_num, ?_⟩
                      rw [take_filter hq, Hfd.out]; exact HT.out
                    case measure => simp [intOf]; omega
              · obtain rfl : i = l.length := by omega
                rw [List.take_length] at hT
                have HT := Lib.hid hT
                clear hT
                go_wp2_with fail
                go_roundw
                case rel => exact ⟨j + 1, by omega, val_int (by omega), HT.out⟩
                case measure => simp [intOf]; omega
          · obtain rfl : j = 60 := by omega
            rw [show (60 : Int) - ((60 : Nat) : Int) = 0 by simp]
            go_wp2_with fail
            go_loopw [8] (fun cv W => ∃ n : Nat, 1 ≤ n ∧ n ≤ 61 ∧ cv = .int .i64 n ∧ TwoB w W g1 m1 g2 m2 (l.foldl tellA [(0, st0)]) (descB l 60)) (fun cv _ => 61 - (intOf cv).toNat)
            case atStart => exact ⟨1, by omega, by omega, rfl, HD.out⟩
            case round =>
              obtain ⟨n, hn1, hn, rfl, hT⟩ := hrel
              have HT := Lib.hid hT
              clear hT
              by_cases hn2 : n ≤ 60
              · have hwf : (Lit.int .i64 (n : Int)).wf = true := wf_i64 (by omega) (by omega)
                have HWF := Lib.hid hwf
                clear hwf
                have hsame : getB (descB l 60) (n : Int) = getB (l.foldl tellA [(0, st0)]) (n : Int) := (turned_get l HF.out _ (by omega)).symm
                have HS := Lib.hid hsame
                clear hsame
                go_wp2_with fail
                refine (get_any g1 m1 _ _ _ HT.out.fst HWF.out).mono ?_
                rintro e w7 ⟨rfl, hb7⟩
                have HT7 := Lib.hid (HT.out.later hb7)
                clear hb7
                go_wp2_with fail
                refine (get_any g2 m2 _ _ _ HT7.out.snd HWF.out).mono ?_
                rintro e w8 ⟨rfl, hb8⟩
                have HT8 := Lib.hid (HT7.out.later hb8)
                clear hb8
                rw [HS.out]
                unfold stV stC
                go_wp2_with fail
                go_roundw
                case rel => exact ⟨n + 1, by omega, by omega, by go_num, HT8.out⟩
                case measure => simp [intOf]; omega
              · obtain rfl : n = 61 := by omega
                have hx : ∀ f, f < 6 → getB (descB l 60) 0 f = getB (l.foldl tellA [(0, st0)]) 0 f := fun f hf => (turned_all l HF.out (by omega) f hf).symm
                have hids := turned_ids l HF.out
                have HI := Lib.hid hids
                clear hids
                obtain ⟨A, hA⟩ : ∃ A, A = l.foldl tellA [(0, st0)] := ⟨_, rfl⟩
                obtain ⟨D, hD⟩ : ∃ D, D = descB l 60 := ⟨_, rfl⟩
                have HA := Lib.hid hA; have HDD := Lib.hid hD
                rw [← hA, ← hD] at HT HI hx
                clear hA hD
                have x0 := hx 0 (by omega); have x1 := hx 1 (by omega); have x2 := hx 2 (by omega); have x3 := hx 3 (by omega); have x4 := hx 4 (by omega); have x5 := hx 5 (by omega)
                have X0 := Lib.hid x0; have X1 := Lib.hid x1; have X2 := Lib.hid x2; have X3 := Lib.hid x3; have X4 := Lib.hid x4; have X5 := Lib.hid x5
                clear hx x0 x1 x2 x3 x4 x5
                go_wp2_with fail
                refine (get_any g1 m1 _ _ _ HT.out.fst (by decide)).mono ?_
                rintro e w7 ⟨rfl, hb7⟩
                have HT7 := Lib.hid (HT.out.later hb7)
                clear hb7
                go_wp2_with fail
                refine (get_any g2 m2 _ _ _ HT7.out.snd (by decide)).mono ?_
                rintro e w8 ⟨rfl, hb8⟩
                have HT8 := Lib.hid (HT7.out.later hb8)
                clear hb8
                unfold stV stC
                rw [X0.out, X1.out, X2.out, X3.out, X4.out, X5.out]
                have h9 := (HT8.out.later ((Below.refl _ w8).alloc (Nat.le_refl _) (.cells #[.int .u64 (getB A 0 0), .int .u64 (getB A 0 1), .int .u64 (getB A 0 2), .int .u64 (getB A 0 3), .int .u64 (getB A 0 4), .int .u64 (getB A 0 5), .int .u64 (getB A 0 6), .int .u64 (getB A 0 7)] 44)))
                have h9 := h9.later ((Below.refl _ _).alloc (Nat.le_refl _) (.cells #[.int .u64 (getB A 0 0), .int .u64 (getB A 0 1), .int .u64 (getB A 0 2), .int .u64 (getB A 0 3), .int .u64 (getB A 0 4), .int .u64 (getB A 0 5), .int .u64 (getB D 0 6), .int .u64 (getB D 0 7)] 44))
                have H9 := Lib.hid h9
                clear h9
                have hA0 : A ≠ [] ∧ A.length < 1000000 := by
                  rw [HA.out]
                  have h1 := len_fold l [(0, st0)]
                  refine ⟨fun e => ?_, by simp at h1; omega⟩
                  have := fold_ne l [(0, st0)] (by simp)
                  exact this e
                have hD0 : D ≠ [] ∧ D.length < 1000000 := by
                  rw [HDD.out, descB_eq]
                  have h1 := len_fold (L2 l 60) [(0, st0)]
                  have h2 := L2_len l 60
                  refine ⟨fun e => ?_, by simp at h1; omega⟩
                  have := fold_ne (L2 l 60) [(0, st0)] (by simp)
                  exact this e
                have HA0 := Lib.hid hA0; have HD0 := Lib.hid hD0
                clear hA0 hD0
                go_wp2_with fail
                generalize (w8.alloc _).alloc _ = w9 at *
                refine (ids_any g1 m1 A _ H9.out.fst HA0.out.2 HA0.out.1).mono ?_
                rintro e wa ⟨va, rfl, hra, hba⟩
                obtain ⟨pa, ca, rfl⟩ : ∃ p c, va = .slice p (idsB A).length c := slice_form hra
                have HTa := Lib.hid (H9.out.later hba)
                clear hra hba
                go_wp2_with fail
                refine (ids_any g2 m2 D _ HTa.out.snd HD0.out.2 HD0.out.1).mono ?_
                rintro e wb ⟨vb, rfl, hrb, hbb⟩
                obtain ⟨pb, cb, rfl⟩ : ∃ p c, vb = .slice p (idsB D).length c := slice_form hrb
                have HTb := Lib.hid (HTa.out.later hbb)
                clear hrb hbb
                rw [← HI.out]
                go_wp2_with fail
                go_ret
                exact ⟨rfl, HTb.out.below⟩
end Go.Proofs.Ytfnocnknmpmaaaa
