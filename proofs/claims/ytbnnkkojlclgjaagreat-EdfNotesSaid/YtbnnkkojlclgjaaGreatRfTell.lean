/-
  The document's row of leaves: how it lies in memory; what is noted, the next tick, who is next.
-/
import Derived.Test.YtbnnkkojlclgjaaGreatLf
import Derived.Test.YtbnnkkojlclgjaaGreatEdfTwo
import Derived.Deep.CutRange
import Derived.Deep.DeepCutAuto
namespace Go.Proofs.YtbnnkkojlclgjaaGreat
set_option linter.unusedVariables false
open Go.RowKit Go.Maps
attribute [local go_sem ↓] Go.wp_at_zero Go.wp_at_succ
attribute [local go_sem] quietR quietAtR quietUponR midAt midUpon plain plainUpon

structure RfAt (w : World) (p : Nat) (v : Value) (L : List En) : Prop where
  blk : Blk w p 29 #[v]
  lf : LfAt w v L
  shp : v = .slice none 0 0 ∨ ∃ g n c, v = .slice (some ⟨g, 0, none⟩) n c ∧ g < w.heap.size
theorem RfAt.later {w w' : World} {p : Nat} {v : Value} {L : List En} (h : RfAt w p v L) (hb : Below w.heap.size w w') : RfAt w' p v L := ⟨h.blk.below hb h.blk.lt, h.lf.later hb, h.shp.imp id fun ⟨g, n, c, e, l⟩ => ⟨g, n, c, e, Nat.lt_of_lt_of_le l hb.size⟩⟩
theorem RfAt.lt {w : World} {p : Nat} {v : Value} {L : List En} (h : RfAt w p v L) : ∀ b, v.ownBlock = some b → b < w.heap.size := by
  intro b hb
  rcases h.shp with rfl | ⟨g, n, c, rfl, hl⟩
  · cases hb
  · cases hb; exact hl
theorem get_none {L : List En} {i : Int} (h : ∀ e ∈ L, e.1.2 ≠ i) : getA L i = 0 ∧ getB L i = 0 ∧ getIs L i = false := by
  have := getE_none.2 h
  unfold getA getB getIs
  rw [this]
  exact ⟨rfl, rfl, rfl⟩
set_option maxRecDepth 100000 in
set_option maxHeartbeats 4000000 in
theorem rfget_any (p : Nat) (v : Value) (L : List En) (id : Int) (w : World) (h : RfAt w p v L) (hinv : InvE L) :
    Calls Tryz.prog 36 #[.pointer (some ⟨p, 0, none⟩), .int .i64 id] w fun e w' => e = .returned (.tuple #[.int .u64 (getA L id), .int .u64 (getB L id), .bool (getIs L id)]) ∧ Below w.heap.size w w' := by
  obtain ⟨hl, a, cap, rfl, h3⟩ := h.lf
  have c0 := h.blk.cell 0
  simp only [List.getElem?_toArray, List.getElem?_cons_zero, List.getElem?_cons_succ] at c0
  have H := Lib.hid h
  have HINV := Lib.hid hinv
  have H3 := Lib.hid h3
  clear h hinv h3
  go_enter Tryz.func36, Tryz.ntmps36
  go_wp2_with fail
  go_loopw [7] (fun v7 wr => ∃ i : Nat, v7 = .int .i64 i ∧ i ≤ L.length ∧ wr = w ∧ ∀ (j : Nat) x, j < i → L[j]? = some x → x.1.2 ≠ id) (fun v7 _ => (L.length - Go.RowKit.intOf v7).toNat)
  case atStart => exact ⟨0, rfl, Nat.zero_le _, rfl, fun j x hj => by omega⟩
  case round =>
    obtain ⟨i, rfl, hi, hwr, hno⟩ := hrel
    rw [hwr]
    clear hwr
    have HNO := Lib.hid hno
    clear hno
    by_cases hlt : i < L.length
    · obtain ⟨e, he⟩ : ∃ e, L[i]? = some e := ⟨_, List.getElem?_eq_getElem hlt⟩
      obtain ⟨b, off, rfl, hbl, hcap, hc⟩ := H3.out.resolve_left (fun h => by rw [h] at hlt; cases hlt)
      obtain ⟨k0, k1, k2⟩ := hc i e he
      have hg := get_at HINV.out he
      by_cases hid : e.1.2 = id
      · have heq : (e.1.2 == id) = true := by simpa using hid
        have HG := Lib.hid (show getA L id = e.1.1 ∧ getB L id = e.2 ∧ getIs L id = true by rw [← hid]; exact hg)
        have o0 := fun e9 => (over_cell (w := w) (e := e9) (o := 0) H.out.blk.lt).trans c0
        have o1 := fun e9 => (over_cell (w := w) (e := e9) (o := off + i * 3 + 1) hbl).trans k1
        have o2 := fun e9 => (over_cell (w := w) (e := e9) (o := off + i * 3 + 2) hbl).trans k2
        clear hg hid he hc
        go_upto_region 5 with fail
        refine wp_region_over (by kernel_rfl) (by kernel_rfl) ?_
        repeat (first | go_big_quiet_skip | (go_big_quiet_want; go_big_quiet_op; go_big_quiet_on))
        refine wpQuiet_nil ?_
        rintro W2 ⟨e9, he9⟩
        have hb2 := over_below w e9
        rw [← he9] at hb2
        have HB := Lib.hid hb2
        clear he9 hb2 o0 o1 o2
        go_wp2_with fail
        go_ret3
        exact ⟨by rw [HG.out.1, HG.out.2.1, HG.out.2.2]; rfl, HB.out⟩
      · have heq : (e.1.2 == id) = false := by simpa using hid
        have HID := Lib.hid (And.intro hid he)
        clear hg hid hc
        go_wp2_with fail
        go_roundw
        case measure => (simp [Go.RowKit.intOf]; try omega)
        case rel => exact ⟨i + 1, by go_num, by omega, (by first | rfl | trivial), fun j x hj hx => by
          by_cases hji : j = i
          · subst hji
            rw [HID.out.2] at hx
            cases hx
            exact HID.out.1
          · exact HNO.out j x (by omega) hx⟩
    · have hgn := get_none (L := L) (i := id) fun e he => by
        obtain ⟨j, hj, hej⟩ := List.mem_iff_getElem.1 he
        exact HNO.out j e (by omega) (by rw [List.getElem?_eq_getElem hj, hej])
      have HG := Lib.hid hgn
      clear hgn
      go_wp2_with fail
      go_ret3
      exact ⟨by rw [HG.out.1, HG.out.2.1, HG.out.2.2]; rfl, Below.refl _ _⟩
theorem rftick_any (p : Nat) (v : Value) (L : List En) (w : World) (h : RfAt w p v L) :
    Calls Tryz.prog 39 #[.pointer (some ⟨p, 0, none⟩)] w fun e w' => e = .returned (.int .u64 (tickL L)) ∧ Below w.heap.size w w' := by
  obtain ⟨hl, a, cap, rfl, h3⟩ := h.lf
  have c0 := h.blk.cell 0
  simp only [List.getElem?_toArray, List.getElem?_cons_zero, List.getElem?_cons_succ] at c0
  clear h
  cases L with
  | nil =>
    go_enter Tryz.func39, Tryz.ntmps39
    go_wp2_with fail
    go_ret
    exact ⟨rfl, Below.refl _ _⟩
  | cons e L =>
    obtain ⟨b, off, rfl, hbl, hcap, hc⟩ := h3.resolve_left (by simp)
    obtain ⟨k0, k1, k2⟩ := hc 0 e rfl
    simp only [Nat.zero_mul, Nat.add_zero] at k0 k1 k2
    have hn1 : ¬ (((e :: L).length : Nat) : Int) = 0 := by simp only [List.length_cons]; omega
    have hne : ((((e :: L).length : Nat) : Int) == 0) = false := by simpa using hn1
    have hpos : 0 < (e :: L).length := by simp
    generalize (e :: L).length = n at *
    show Calls _ _ _ _ fun e9 w' => e9 = .returned (.int .u64 e.1.1) ∧ _
    clear hc
    go_enter Tryz.func39, Tryz.ntmps39
    go_wp2_with fail
    go_ret
    exact ⟨rfl, Below.refl _ _⟩
theorem next_step {L : List En} {now : Int} {i : Nat} {e : En} (he : L[i]? = some e) : nextL now (L.take (i + 1)) = if e.1.1 ≤ now then takeS (nextL now (L.take i)) (ownE e) else nextL now (L.take i) := by
  unfold nextL uptoL
  rw [List.take_add_one, he, List.filter_append, List.foldl_append]
  by_cases h : e.1.1 ≤ now
  · rw [if_pos h]
    simp [h]
  · rw [if_neg h]
    simp [h]
theorem takeS_some {s a : Ky} : takeS (some s) a = if lessK a s = true then some a else some s := by
  show some (lessH s a) = _
  rcases lessH_le (a := s) (b := a) with ⟨h1, h2⟩ | ⟨h1, h2⟩
  · rw [h1, if_neg (by rw [h2]; simp)]
  · rw [h1, if_pos h2]
/-- the best one so far, by its place -/
def Best (L : List En) (now : Int) (i : Nat) (v : Value) : Prop := (v = .int .i64 (-1) ∧ nextL now (L.take i) = none) ∨ ∃ (k : Nat) (x : En), v = .int .i64 k ∧ k < i ∧ L[k]? = some x ∧ nextL now (L.take i) = some (ownE x)
set_option maxRecDepth 100000 in
set_option maxHeartbeats 8000000 in
theorem rfnext_any (p : Nat) (v : Value) (L : List En) (now : Int) (w : World) (h : RfAt w p v L) :
    Calls Tryz.prog 34 #[.pointer (some ⟨p, 0, none⟩), .int .u64 now] w fun e w' => e = .returned (.tuple #[.int .i64 (nextId now L), .bool (nextIs now L)]) ∧ Below w.heap.size w w' := by
  obtain ⟨hl, a, cap, rfl, h3⟩ := h.lf
  have H := Lib.hid h
  clear h h3
  go_enter Tryz.func34, Tryz.ntmps34
  go_wp2_with fail
  go_loopw [6, 7] (fun v6 v7 wr => ∃ i : Nat, v7 = .int .i64 i ∧ i ≤ L.length ∧ Below w.heap.size w wr ∧ Best L now i v6) (fun _ v7 _ => (L.length - Go.RowKit.intOf v7).toNat)
  case atStart => exact ⟨0, rfl, Nat.zero_le _, Below.refl _ _, .inl ⟨rfl, rfl⟩⟩
  case round =>
    obtain ⟨i, rfl, hi, hbr, hbest⟩ := hrel
    have HR := Lib.hid (H.out.later hbr)
    have HB := Lib.hid hbr
    have c0 := HR.out.blk.cell 0
    simp only [List.getElem?_toArray, List.getElem?_cons_zero, List.getElem?_cons_succ] at c0
    clear hbr
    by_cases hlt : i < L.length
    · obtain ⟨e, he⟩ : ∃ e, L[i]? = some e := ⟨_, List.getElem?_eq_getElem hlt⟩
      obtain ⟨_, a', cap', e1, h3⟩ := HR.out.lf
      cases e1
      obtain ⟨b, off, rfl, hbl, hcap, hc⟩ := h3.resolve_left (fun h => by rw [h] at hlt; cases hlt)
      obtain ⟨k0, k1, k2⟩ := hc i e he
      have hst := next_step (now := now) he
      have HE := Lib.hid (And.intro he hst)
      have HC := Lib.hid (And.intro hbl (And.intro hcap hc))
      have HBE := Lib.hid hbest
      clear h3 he hst hc hbl hcap
      have hb2 : Below w.heap.size w (wr.alloc (.cells #[.int .i64 e.1.2, .int .u64 e.1.1, .int .u64 e.2] 68)) := HB.out.alloc HB.out.size _
      have hx2 := Blk.new wr 68 #[.int .i64 e.1.2, .int .u64 e.1.1, .int .u64 e.2]
      have hr2 := HR.out.later ((Below.refl wr.heap.size wr).alloc (Nat.le_refl _) (.cells #[.int .i64 e.1.2, .int .u64 e.1.1, .int .u64 e.2] 68))
      obtain ⟨X, hX⟩ : ∃ X, X = wr.heap.size := ⟨_, rfl⟩
      rw [← hX] at hx2
      have HX := Lib.hid hX
      go_upto_region 6 with fail
      rw [← HX.out]
      generalize wr.alloc (.cells #[.int .i64 e.1.2, .int .u64 e.1.1, .int .u64 e.2] 68) = W2 at hb2 hx2 hr2 ⊢
      have H2 := Lib.hid (And.intro hb2 (And.intro hx2 hr2))
      clear hb2 hX c0 k0 k1 k2 HR HB hr2
      have x1 := hx2.cell 1
      simp only [List.getElem?_toArray, List.getElem?_cons_zero, List.getElem?_cons_succ] at x1
      clear hx2
      by_cases hnow : now < e.1.1
      · have hst2 : nextL now (L.take (i + 1)) = nextL now (L.take i) := by rw [HE.out.2, if_neg (by omega)]
        have hbn : ∀ u, Best L now i u → Best L now (i + 1) u := fun u hu => by
          rcases hu with ⟨h1, h2⟩ | ⟨k, x, h1, h2, h3, h4⟩
          · exact .inl ⟨h1, by rw [hst2]; exact h2⟩
          · exact .inr ⟨k, x, h1, by omega, h3, by rw [hst2]; exact h4⟩
        have HBN := Lib.hid (hbn _ HBE.out)
        clear hst2 hbn
        go_wp2_with fail
        go_roundw
        case measure => (simp [Go.RowKit.intOf]; try omega)
        case rel => exact ⟨i + 1, by go_num, by omega, H2.out.1, HBN.out⟩
      · have hst2 : nextL now (L.take (i + 1)) = takeS (nextL now (L.take i)) (ownE e) := by rw [HE.out.2, if_pos (by omega)]
        have HST := Lib.hid hst2
        clear hst2
        go_upto_region 7 with fail
        clear x1
        have o0 := fun e9 => (over_cell (w := W2) (e := e9) (o := 0) H2.out.2.2.blk.lt).trans (H2.out.2.2.blk.cell 0)
        have ox0 := fun e9 => (over_cell (w := W2) (e := e9) (o := 0) H2.out.2.1.lt).trans (H2.out.2.1.cell 0)
        have ox2 := fun e9 => (over_cell (w := W2) (e := e9) (o := 2) H2.out.2.1.lt).trans (H2.out.2.1.cell 2)
        simp only [List.getElem?_toArray, List.getElem?_cons_zero, List.getElem?_cons_succ] at o0 ox0 ox2
        rcases HBE.out with ⟨rfl, hn⟩ | ⟨k, x, rfl, hk, hx, hn⟩
        · have HN := Lib.hid hn
          clear hn
          go_cut [69] from 29 to 69 (fun vc wx => vc = .bool true ∧ Below W2.heap.size W2 wx)
          case first =>
            refine wp_region_over (by kernel_rfl) (by kernel_rfl) ?_
            repeat (first | go_big_quiet_skip | (go_big_quiet_want; go_big_quiet_op; go_big_quiet_on))
            refine wpQuiet_nil ?_
            rintro W4 ⟨e4, he4⟩
            have hb4 := over_below W2 e4
            rw [← he4] at hb4
            clear he4
            go_wp2_with fail
            go_meet
            exact ⟨rfl, hb4⟩
          case rest =>
            obtain ⟨hvc, hbc⟩ := hcut
            rw [hvc]
            have HF := Lib.hid (H2.out.1.trans (hbc.mono H2.out.1.size))
            have HBN := Lib.hid (show Best L now (i + 1) (.int .i64 i) from .inr ⟨i, e, rfl, by omega, HE.out.1, by rw [HST.out, HN.out]; rfl⟩)
            clear hvc hbc
            go_wp2_with fail
            go_roundw
            case measure => (simp [Go.RowKit.intOf]; try omega)
            case rel => exact ⟨i + 1, by go_num, by omega, HF.out, HBN.out⟩
        · obtain ⟨_, a9, c9, e9, h9⟩ := H2.out.2.2.lf
          cases e9
          obtain ⟨b9, off9, e9, hbl9, hcap9, hc9⟩ := h9.resolve_left (fun h => by rw [h] at hx; cases hx)
          cases e9
          obtain ⟨q0, q1, q2⟩ := hc9 k x hx
          have o1 := fun e9 => (over_cell (w := W2) (e := e9) (o := off + k * 3) hbl9).trans q0
          have o2 := fun e9 => (over_cell (w := W2) (e := e9) (o := off + k * 3 + 2) hbl9).trans q2
          have hkn : ¬ (k : Int) < 0 := by omega
          have HN := Lib.hid (And.intro hn (And.intro hk hx))
          clear hn hx h9 hc9 q0 q1 q2
          obtain ⟨tst, htst⟩ : ∃ b, lessK (ownE e) (ownE x) = b := ⟨_, rfl⟩
          have HT := Lib.hid htst
          clear htst
          go_cut [69] from 29 to 69 (fun vc wx => vc = .bool tst ∧ Below W2.heap.size W2 wx)
          case first =>
            obtain ⟨⟨ea, ei⟩, eb⟩ := e
            obtain ⟨⟨xa, xi⟩, xb⟩ := x
            (try dsimp only at o1); (try dsimp only at o2); (try dsimp only at ox0); (try dsimp only at ox2)
            by_cases h1 : eb < xb
            · have ht : tst = true := by rw [← HT.out]; exact lessK_iff.2 (.inl h1)
              subst ht
              refine wp_region_over (by kernel_rfl) (by kernel_rfl) ?_
              repeat (first | go_big_quiet_skip | (go_big_quiet_want; go_big_quiet_op; go_big_quiet_on))
              refine wpQuiet_nil ?_
              rintro W4 ⟨e4, he4⟩
              have hb4 := over_below W2 e4
              rw [← he4] at hb4
              clear he4
              go_wp2_with fail
              go_meet
              exact ⟨rfl, hb4⟩
            · by_cases h2 : eb = xb
              · have h3 : (eb == xb) = true := by simpa using h2
                by_cases h4 : ei < xi
                · have ht : tst = true := by rw [← HT.out]; exact lessK_iff.2 (.inr ⟨h2, h4⟩)
                  subst ht
                  clear h2
                  refine wp_region_over (by kernel_rfl) (by kernel_rfl) ?_
                  repeat (first | go_big_quiet_skip | (go_big_quiet_want; go_big_quiet_op; go_big_quiet_on))
                  refine wpQuiet_nil ?_
                  rintro W4 ⟨e4, he4⟩
                  have hb4 := over_below W2 e4
                  rw [← he4] at hb4
                  clear he4
                  go_wp2_with fail
                  go_meet
                  exact ⟨rfl, hb4⟩
                · have ht : tst = false := by
                    rw [← HT.out]
                    cases e9 : lessK (ownE ((ea, ei), eb)) (ownE ((xa, xi), xb))
                    · rfl
                    · have := lessK_iff.1 e9
                      dsimp only [ownE, ownK] at this
                      omega
                  subst ht
                  clear h2
                  refine wp_region_over (by kernel_rfl) (by kernel_rfl) ?_
                  repeat (first | go_big_quiet_skip | (go_big_quiet_want; go_big_quiet_op; go_big_quiet_on))
                  refine wpQuiet_nil ?_
                  rintro W4 ⟨e4, he4⟩
                  have hb4 := over_below W2 e4
                  rw [← he4] at hb4
                  clear he4
                  go_wp2_with fail
                  go_meet
                  exact ⟨rfl, hb4⟩
              · have h3 : (eb == xb) = false := by simpa using h2
                have ht : tst = false := by
                  rw [← HT.out]
                  cases e9 : lessK (ownE ((ea, ei), eb)) (ownE ((xa, xi), xb))
                  · rfl
                  · have := lessK_iff.1 e9
                    dsimp only [ownE, ownK] at this
                    omega
                subst ht
                clear h2
                refine wp_region_over (by kernel_rfl) (by kernel_rfl) ?_
                repeat (first | go_big_quiet_skip | (go_big_quiet_want; go_big_quiet_op; go_big_quiet_on))
                refine wpQuiet_nil ?_
                rintro W4 ⟨e4, he4⟩
                have hb4 := over_below W2 e4
                rw [← he4] at hb4
                clear he4
                go_wp2_with fail
                go_meet
                exact ⟨rfl, hb4⟩
          case rest =>
            obtain ⟨hvc, hbc⟩ := hcut
            rw [hvc]
            have HF := Lib.hid (H2.out.1.trans (hbc.mono H2.out.1.size))
            clear hvc hbc
            have hts := HT.out
            cases tst with
            | true =>
              have HBN := Lib.hid (show Best L now (i + 1) (.int .i64 i) from .inr ⟨i, e, rfl, by omega, HE.out.1, by rw [HST.out, HN.out.1, takeS_some, if_pos hts]⟩)
              clear hts
              go_wp2_with fail
              go_roundw
              case measure => (simp [Go.RowKit.intOf]; try omega)
              case rel => exact ⟨i + 1, by go_num, by omega, HF.out, HBN.out⟩
            | false =>
              have HBN := Lib.hid (show Best L now (i + 1) (.int .i64 k) from .inr ⟨k, x, rfl, by have := HN.out.2.1; omega, HN.out.2.2, by rw [HST.out, HN.out.1, takeS_some, if_neg (by rw [hts]; simp)]⟩)
              clear hts
              go_wp2_with fail
              go_roundw
              case measure => (simp [Go.RowKit.intOf]; try omega)
              case rel => exact ⟨i + 1, by go_num, by omega, HF.out, HBN.out⟩
    · have hie : i = L.length := by omega
      subst hie
      unfold Best at hbest
      rw [List.take_length] at hbest
      rcases hbest with ⟨rfl, hn⟩ | ⟨k, x, rfl, hk, hx, hn⟩
      · have e1 : nextId now L = 0 := by unfold nextId; rw [hn]
        have e2 : nextIs now L = false := by unfold nextIs; rw [hn]; rfl
        have HN := Lib.hid (And.intro e1 e2)
        clear hn e1 e2
        go_wp2_with fail
        go_ret2
        exact ⟨by rw [HN.out.1, HN.out.2]; rfl, HB.out⟩
      · have e1 : nextId now L = x.1.2 := by unfold nextId; rw [hn]; rfl
        have e2 : nextIs now L = true := by unfold nextIs; rw [hn]; rfl
        have HN := Lib.hid (And.intro e1 e2)
        obtain ⟨_, a', cap', e3, h3⟩ := HR.out.lf
        cases e3
        obtain ⟨b, off, rfl, hbl, hcap, hc⟩ := h3.resolve_left (fun h => by rw [h] at hk; cases hk)
        obtain ⟨k0, k1, k2⟩ := hc k x hx
        have hkn : ¬ (k : Int) < 0 := by omega
        clear hn e1 e2 h3 hc hx
        go_wp2_with fail
        go_ret2
        exact ⟨by rw [HN.out.1, HN.out.2]; rfl, HB.out⟩
end Go.Proofs.YtbnnkkojlclgjaaGreat
