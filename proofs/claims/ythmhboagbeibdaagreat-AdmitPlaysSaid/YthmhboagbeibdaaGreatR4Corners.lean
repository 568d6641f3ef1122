/-
  The document's corners: each put in where it belongs: ref04.Corners.
-/
import Derived.Test.YthmhboagbeibdaaGreatR4At
import Derived.Test.YthmhboagbeibdaaGreatR4CornPlain
namespace Go.Proofs.YthmhboagbeibdaaGreat
set_option linter.unusedVariables false
open Go.RowKit

theorem info_word : (Tryz.prog.info? 22).map (fun i => (i.zero, i.size, i.bytes)) = some (some (.int .u64 0), 1, 8) := by kernel_rfl
/-- a row's beginning is a row -/
theorem owns_take {w : World} {base g cap m at_ : Nat} {e : TypeId} {xs : List Value} (h : w.ownsRow base e 1 (.slice (some ⟨g, 0, none⟩) m cap) m xs) (ha : at_ ≤ m) :
    w.ownsRow base e 1 (.slice (some ⟨g, 0, none⟩) at_ cap) at_ (xs.take at_) := by
  obtain ⟨h1, h2⟩ := h
  refine ⟨by rw [List.length_take]; omega, ?_⟩
  rcases h2 with ⟨h2, _⟩ | ⟨g', c', cur, e', h3, h4, h5, h6, h7, h8⟩
  · cases h2
  · simp only [Value.slice.injEq, Option.some.injEq, Addr.mk.injEq, and_true, true_and] at e'
    obtain ⟨rfl, rfl⟩ := e'
    exact .inr ⟨_, _, cur, rfl, h3, h4, by omega, h6, h7, by rw [← h8, List.take_take]; congr 1; omega⟩

/-- all of words, laid behind a row -/
theorem app_words (ty : TypeId) {w : World} {base : Nat} {v : Value} {n : Nat} {xs : List Value} (hown : w.ownsRow base 22 1 v n xs) (hb : base ≤ w.heap.size) (ad : Option Addr) (m c : Nat) (ks : List Int) (hm : ks.length = m) (hc : m = 0 ∨ ∃ b o, ad = some ⟨b, o, none⟩ ∧ ∀ j x, ks[j]? = some x → w.cell? ⟨b, o + j, none⟩ = some (.int .u64 x))
    (hn : n + m ≤ 3000000) (hv : ∃ g cap, v = .slice (some ⟨g, 0, none⟩) n cap ∧ n ≤ cap ∧ g < w.heap.size) :
    ∃ g cap w', (Builtin.append_ #[82, 82] ty #[v, .slice ad m c]).run Tryz.prog w = .ok (.slice (some ⟨g, 0, none⟩) (n + m) cap) w' ∧ w'.ownsRow base 22 1 (.slice (some ⟨g, 0, none⟩) (n + m) cap) (n + m) (xs ++ ks.map (Value.int .u64)) ∧ Below base w w' ∧ n + m ≤ cap ∧ w.grownBy w' v.ownBlock ∧ g < w'.heap.size ∧ (v.ownBlock = some g ∨ g = w.heap.size) := by
  obtain ⟨i0, hi0, hz0, hz1, hz2⟩ := info_parts info_word
  by_cases h0 : m = 0
  · subst h0
    obtain rfl : ks = [] := List.eq_nil_of_length_eq_zero hm
    obtain ⟨g, cap, rfl, hcap, hgl⟩ := hv
    refine ⟨g, cap, w, run_append_nothing w _ _ ty _ i0 Tryz.underlying82 hi0 _ _ _ hcap _ ?_, by simpa using hown, Below.refl _ _, by omega, ⟨rfl, rfl, rfl, Nat.le_refl _, fun _ _ _ => rfl⟩, hgl, .inl rfl⟩
    cases ad with
    | none => exact Src.ofNil w Tryz.underlying82 c
    | some ad => exact Src.ofSlice w Tryz.underlying82 ad 0 c [] (by simp) (fun j u hj => by simp at hj) (fun u hu => by simp at hu)
  · rcases hc with hc | ⟨b, o, rfl, hc⟩
    · exact absurd hc h0
    · obtain ⟨g, cap, w', hr, ho, hg, hat, hlt⟩ := run_append_lies (P := Tryz.prog) w 82 ty base 22 i0 _ 1 8 Tryz.underlying82 hi0 hz0 hz1 hz2 rfl (by decide) v n xs hown ⟨b, o, none⟩ m c (ks.map (Value.int .u64)) (by simp [hm]) (fun j u hj => by
        rw [List.getElem?_map] at hj
        cases hk : ks[j]? with
        | none => rw [hk] at hj; cases hj
        | some x => rw [hk] at hj; cases hj; simpa [Addr.add_lit] using hc j x hk) (by intro u hu; obtain ⟨x, _, rfl⟩ := List.mem_map.1 hu; rfl) (by omega) (by unfold maxLen; omega) (by omega) hb _ rfl
      refine ⟨g, cap, w', hr, ho, (Below.refl base w).grown hg hb fun k hk => (hown.lt k hk).1, ?_, hg, hlt, hat⟩
      rcases ho.2 with ⟨h2, _⟩ | ⟨g', c', cur, e', _, _, h5, _⟩
      · cases h2
      · simp only [Value.slice.injEq, Option.some.injEq, Addr.mk.injEq, and_true, true_and] at e'
        obtain ⟨rfl, rfl⟩ := e'
        exact h5

/-- the row so far -/
structure R4C (w W : World) (g cap : Nat) (f : List Cv) (ks : List Int) : Prop where
  corn : IsCorn f ks
  own : W.ownsRow w.heap.size 22 1 (.slice (some ⟨g, 0, none⟩) (ks.length + 1) cap) (ks.length + 1) ((0 :: ks).map (Value.int .u64))
  kept : Below w.heap.size w W
  fits : ks.length + 1 ≤ cap
  few : ks.length ≤ f.length
theorem R4C.below {w W W' : World} {g cap : Nat} {f : List Cv} {ks : List Int} (h : R4C w W g cap f ks) (hb : Below W.heap.size W W') : R4C w W' g cap f ks :=
  ⟨h.corn, h.own.kept (grown_none hb) (.inr (by simp [Value.ownBlock])), h.kept.trans (hb.mono h.kept.size), h.fits, h.few⟩

set_option maxRecDepth 100000 in
set_option maxHeartbeats 4000000 in
theorem r4corners_any (v : Value) (l : List Cv) (w : World) (h : CvAt w v l) :
    Calls Tryz.prog 57 #[v] w (CornersW w l) := by
  obtain ⟨a, cap0, rfl⟩ : ∃ a cap, v = .slice a l.length cap := by obtain ⟨_, _, a, cap, e, _⟩ := h; exact ⟨a, cap, e⟩
  have hlen := h.2.1
  have h0 : R4C w (w.alloc (.cells #[.int .u64 0] 22)) w.heap.size 1 (l.take 0) [] :=
    ⟨IsCorn.nil, World.ownsRow_lit (base := w.heap.size) w #[.int .u64 0] 1 (Nat.le_refl _) (by decide) rfl, (Below.refl _ w).alloc (Nat.le_refl _) _, Nat.le_refl _, Nat.zero_le _⟩
  have H := Lib.hid h; have H0 := Lib.hid h0
  clear h h0
  go_enter Tryz.func57, Tryz.ntmps57
  go_wp2_with fail
  go_loopw [3, 4, 5, 6, 7] (fun v3 v4 v5 v6 v7 W => ∃ (k g cap : Nat) (ks : List Int), v4 = .int .i64 k ∧ k ≤ l.length ∧ v3 = .slice (some ⟨g, 0, none⟩) (ks.length + 1) cap ∧ R4C w W g cap (l.take k) ks) (fun _ v4 _ _ _ _ => (l.length - Go.RowKit.intOf v4).toNat)
  case atStart => exact ⟨0, _, 1, [], rfl, by omega, rfl, H0.out⟩
  case round =>
    obtain ⟨k, g, cap, ks, rfl, hk, rfl, hR⟩ := hrel
    by_cases hlt : k < l.length
    · obtain ⟨c, hc⟩ : ∃ c, l[k]? = some c := ⟨_, List.getElem?_eq_getElem hlt⟩
      obtain ⟨hu, _, a', cap', e', h1 | ⟨b, off, e2, hbl, _, hcells⟩⟩ := H.out.later hR.kept
      · rw [h1] at hlt; simp at hlt
      · simp only [Value.slice.injEq, true_and] at e'
        obtain ⟨rfl, rfl⟩ := e'
        subst e2
        obtain ⟨c0, c1, c2⟩ := hcells k c hc
        have hcu := hu c (List.mem_of_getElem? hc)
        have hT : l.take (k + 1) = l.take k ++ [c] := by rw [List.take_add_one, hc]; rfl
        have hf := hR.few; have hfit := hR.fits
        rw [List.length_take, Nat.min_eq_left hk] at hf
        have hmay := rmay_any c.1 c.2.1 c.2.2 wr hcu.2.1.1
        rw [show mayB c.1 c.2.1 c.2.2 = okC c from rfl] at hmay
        have hL0 := hcu.2.1.1
        obtain ⟨L, hL⟩ : ∃ L, c.2.1 = L := ⟨_, rfl⟩
        rw [hL] at hL0 c1 hmay
        have HR := Lib.hid hR; have HT := Lib.hid hT; have HL := Lib.hid hL
        clear hu hcells hc hcu hT hR hL hbl
        cases ho : okC c
        · rw [ho] at hmay
          go_wp2_with fail
          refine hmay.mono ?_
          clear hmay
          rintro e w1 ⟨rfl, hb1⟩
          have hn := HR.out.below hb1
          have HN := Lib.hid (show R4C w w1 g cap (l.take (k + 1)) ks from ⟨by rw [HT.out]; exact hn.corn.skip (.inl ho), hn.own, hn.kept, hn.fits, by rw [List.length_take]; omega⟩)
          clear hb1 hn c0 c1 c2
          go_wp2_with fail
          go_roundw
          case measure => (simp [Go.RowKit.intOf]; try omega)
          case rel => exact ⟨k + 1, g, cap, ks, by go_num, by omega, rfl, HN.out⟩
        · rw [ho] at hmay
          by_cases hL1 : L = 0
          · subst hL1
            go_wp2_with fail
            refine hmay.mono ?_
            clear hmay
            rintro e w1 ⟨rfl, hb1⟩
            have hn := HR.out.below hb1
            have HN := Lib.hid (show R4C w w1 g cap (l.take (k + 1)) ks from ⟨by rw [HT.out]; exact hn.corn.skip (.inr HL.out), hn.own, hn.kept, hn.fits, by rw [List.length_take]; omega⟩)
            clear hb1 hn c0 c1 c2
            go_wp2_with fail
            go_roundw
            case measure => (simp [Go.RowKit.intOf]; try omega)
            case rel => exact ⟨k + 1, g, cap, ks, by go_num, by omega, rfl, HN.out⟩
          · have hL1b : (L == 0) = false := by simpa using hL1
            go_wp2_with fail
            refine hmay.mono ?_
            clear hmay
            rintro e w1 ⟨rfl, hb1⟩
            have HN := Lib.hid (HR.out.below hb1)
            clear hb1 c0 c1 c2 HR
            go_wp2_with fail
            go_loopw [6] (fun v6 W => ∃ p : Nat, v6 = .int .i64 p ∧ p ≤ ks.length + 1 ∧ W = w1 ∧ ∀ x ∈ (0 :: ks).drop p, L < x) (fun v6 _ => (Go.RowKit.intOf v6).toNat)
            case atStart => exact ⟨ks.length + 1, by go_num, Nat.le_refl _, rfl, fun x hx => by rw [List.drop_of_length_le (by simp)] at hx; cases hx⟩
            case round =>
              obtain ⟨p, rfl, hp, hW, hhi⟩ := hrel
              subst hW
              obtain ⟨q, rfl⟩ : ∃ q, p = q + 1 := by
                cases p with
                | zero => exact absurd (hhi 0 (by simp)) (by omega)
                | succ q => exact ⟨q, rfl⟩
              obtain ⟨x, hx⟩ : ∃ x, (0 :: ks)[q]? = some x := ⟨_, List.getElem?_eq_getElem (by simp; omega)⟩
              have cx : wr.cell? ⟨g, q, none⟩ = some (.int .u64 x) := by rw [HN.out.own.cellAt q (by omega), List.getElem?_map, hx]; rfl
              have hdrop : (0 :: ks).drop q = x :: (0 :: ks).drop (q + 1) := by
                obtain ⟨hq, hqe⟩ := List.getElem?_eq_some_iff.1 hx
                rw [List.drop_eq_getElem_cons hq, hqe]
              have hxm := List.mem_of_getElem? hx
              have HD := Lib.hid hdrop; have HH := Lib.hid hhi; have HX := Lib.hid hx; have HXM := Lib.hid hxm
              clear hdrop hhi hx hxm
              by_cases hgt : L < x
              · go_wp2_with fail
                go_roundw
                case measure => (simp [Go.RowKit.intOf]; try omega)
                case rel =>
                  refine ⟨q, by go_num, by omega, by first | rfl | trivial, fun y hy => ?_⟩
                  rw [HD.out] at hy
                  rcases List.mem_cons.1 hy with rfl | hy
                  · exact hgt
                  · exact HH.out y hy
              · by_cases heq : x = L
                · subst heq
                  have hn := HN.out
                  have hmem : x ∈ ks := by
                    rcases List.mem_cons.1 HXM.out with h | h
                    · exact absurd h hL1
                    · exact h
                  have HN2 := Lib.hid (show R4C w wr g cap (l.take (k + 1)) ks from ⟨by rw [HT.out]; exact hn.corn.again (by rw [HL.out]; exact hmem), hn.own, hn.kept, hn.fits, by rw [List.length_take]; omega⟩)
                  clear hn hmem
                  go_wp2_with fail
                  go_roundw
                  case measure => (simp [Go.RowKit.intOf]; try omega)
                  case rel => exact ⟨k + 1, g, cap, ks, by go_num, by omega, rfl, HN2.out⟩
                · have hne : (x == L) = false := by simpa using heq
                  obtain ⟨ad, hif⟩ : ∃ ad, (if cap = q + 1 then some (⟨g, 0, none⟩ : Addr) else some ⟨g, q + 1, none⟩) = ad := ⟨_, rfl⟩
                  have hn := HN.out
                  have hgl : g < wr.heap.size := (hn.own.lt g rfl).2
                  have hfit := hn.fits
                  have hxs : ∀ j y, ((0 :: ks).drop (q + 1))[j]? = some y → ((0 :: ks).map (Value.int .u64))[q + 1 + j]? = some (.int .u64 y) := fun j y hj => by
                    rw [List.getElem?_drop] at hj
                    rw [List.getElem?_map, hj]; rfl
                  have hk1 := (Below.refl w.heap.size wr).alloc hn.kept.size (.cells #[] 22)
                  obtain ⟨g1, p1, w2, r1, own1, b1, hp1, gr1, lt1, at1⟩ := app_words 82 (w := wr.alloc (.cells #[] 22)) (base := w.heap.size) (World.ownsRow_made (e := 22) (size := 1) wr #[] 0 hn.kept.size (by decide) rfl) (Nat.le_trans hn.kept.size hk1.size) ad (ks.length - q) (cap - (q + 1)) ((0 :: ks).drop (q + 1)) (by simp) (by
                    by_cases h0 : ks.length - q = 0
                    · exact .inl h0
                    · refine .inr ⟨g, q + 1, by rw [← hif, if_neg (by omega)], fun j y hj => ?_⟩
                      have hjl := (List.getElem?_eq_some_iff.1 hj).1
                      simp at hjl
                      rw [(hn.own.alloc _).cellAt (q + 1 + j) (by omega)]
                      exact hxs j y hj) (by omega) ⟨_, 0, rfl, Nat.le_refl _, by simp⟩
                  rw [Nat.zero_add] at r1 own1
                  rw [List.nil_append] at own1
                  have hg1 : g1 ≠ g := by
                    rcases at1 with h | h
                    · simp [Value.ownBlock] at h; omega
                    · simp at h; omega
                  have own2 := (hn.own.alloc (.cells #[] 22)).kept gr1 (.inr (by simp [Value.ownBlock]; omega))
                  have b2 := hk1.trans b1
                  have h2s := b2.size
                  obtain ⟨g2, p2, w4, r2, own3, b3, hp2, gr2, lt2, at2⟩ := app_words 82 (w := w2.alloc (.cells #[.int .u64 L] 22)) (base := w.heap.size) ((owns_take own2 (show q + 1 ≤ ks.length + 1 by omega)).alloc _) (by have := hn.kept.size; simp; omega) (some ⟨w2.heap.size, 0, none⟩) 1 1 [L] rfl (.inr ⟨_, 0, rfl, fun j y hj => by
                    cases j with
                    | zero => cases hj; exact (Blk.new w2 22 #[.int .u64 L]).cell 0
                    | succ j => cases hj⟩) (by omega) ⟨_, cap, rfl, by omega, by simp; omega⟩
                  have own1' := (own1.alloc (.cells #[.int .u64 L] 22)).kept gr2 (.inr (by simp [Value.ownBlock]; omega))
                  obtain ⟨g3, p3, w5, r3, own4, b4, hp3, gr3, lt3, at3⟩ := app_words 82 (w := w4) (base := w.heap.size) own3 (by have := hn.kept.size; have := b3.size; simp at this; omega) (some ⟨g1, 0, none⟩) (ks.length - q) p1 ((0 :: ks).drop (q + 1)) (by simp) (.inr ⟨_, 0, rfl, fun j y hj => by
                    have hjl := (List.getElem?_eq_some_iff.1 hj).1
                    simp at hjl
                    rw [Nat.zero_add, own1'.cellAt j (by omega), List.getElem?_map, hj]; rfl⟩) (by omega) ⟨_, p2, rfl, hp2, lt2⟩
                  have hrow : ((0 :: ks).map (Value.int .u64)).take (q + 1) ++ [L].map (Value.int .u64) ++ ((0 :: ks).drop (q + 1)).map (Value.int .u64) = (0 :: (ks.take q ++ L :: ks.drop q)).map (Value.int .u64) := by simp [List.map_take]
                  have hlk : (ks.take q ++ L :: ks.drop q).length = ks.length + 1 := by simp; omega
                  have hxL : x < L := by omega
                  have hlo : ∀ y ∈ (0 :: ks).take (q + 1), y < L := fun y hy => by
                    have ht : (0 :: ks).take (q + 1) = (0 :: ks).take q ++ [x] := by rw [List.take_add_one, HX.out]; rfl
                    have hs := hn.corn.up.sublist (List.take_sublist (q + 1) (0 :: ks))
                    rw [ht] at hs hy
                    rcases List.mem_append.1 hy with hy | hy
                    · have := (List.pairwise_append.1 hs).2.2 y hy x (by simp); omega
                    · simp at hy; omega
                  have hcorn := hn.corn.put (c := c) ho (by rw [HL.out]; exact hL1) q (by omega) (by rw [HL.out]; exact hlo) (by rw [HL.out]; exact HH.out)
                  rw [HL.out] at hcorn
                  rw [hrow, show q + 1 + 1 + (ks.length - q) = ks.length + 1 + 1 by omega] at own4
                  rw [show q + 1 + 1 + (ks.length - q) = ks.length + 1 + 1 by omega] at r3 hp3
                  have HN2 := Lib.hid (show R4C w w5 g3 p3 (l.take (k + 1)) (ks.take q ++ L :: ks.drop q) from ⟨by rw [HT.out]; exact hcorn, by rw [hlk]; exact own4, hn.kept.trans ((b2.trans ((Below.refl _ _).alloc (by have := hn.kept.size; omega) _)).trans (b3.trans b4)), by rw [hlk]; exact hp3, by rw [hlk, List.length_take]; omega⟩)
                  have HLK := Lib.hid hlk
                  clear hn hgl hxs hk1 own1 b1 hp1 gr1 lt1 at1 own2 b2 h2s own3 b3 hp2 gr2 lt2 at2 own1' own4 b4 hp3 gr3 lt3 at3 hrow hlk hlo hcorn hg1
                  go_wp2_with (at_builtin; first | (refine wpList_append_runW rfl _ _ _ rfl _ _ _ rfl rfl r1 ?_; clear r1) | (refine wpList_append_runW rfl _ _ _ rfl _ _ _ rfl rfl r2 ?_; clear r2) | (refine wpList_append_runW rfl _ _ _ rfl _ _ _ rfl rfl r3 ?_; clear r3))
                  go_roundw
                  case measure => (simp [Go.RowKit.intOf]; try omega)
                  case rel => exact ⟨k + 1, g3, p3, ks.take q ++ L :: ks.drop q, by go_num, by omega, by rw [HLK.out], HN2.out⟩
    · obtain rfl : k = l.length := by omega
      rw [List.take_length] at hR
      have HR := Lib.hid hR
      clear hR
      go_wp2_with fail
      go_ret
      exact ⟨_, ks, rfl, HR.out.corn, HR.out.own, HR.out.kept⟩
end Go.Proofs.YthmhboagbeibdaaGreat
