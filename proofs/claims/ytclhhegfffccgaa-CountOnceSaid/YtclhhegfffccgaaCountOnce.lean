/-
  The counters: of any packet all that may be told of it is counted as the document counts it. (Printed by wip/mkcountonce.py.)
-/
import Derived.Test.YtclhhegfffccgaaCbShow
import Derived.Test.YtclhhegfffccgaaCbNew
import Derived.Test.YtclhhegfffccgaaCbCame
import Derived.Test.YtclhhegfffccgaaCbThrough
import Derived.Test.YtclhhegfffccgaaCbReal
import Derived.Test.YtclhhegfffccgaaCbShare
import Derived.Test.YtclhhegfffccgaaCbRefused
import Derived.Test.YtclhhegfffccgaaCbDrop
namespace Go.Proofs.Ytclhhegfffccgaa
set_option linter.unusedVariables false
open Go.RowKit Go.Maps
attribute [local go_sem ↓] Go.wp_at_zero Go.wp_at_succ
attribute [local go_sem] quietR quietAtR quietUponR midAt midUpon

theorem len_tellC (B : Bk) (c : Int) (L : List Stp) : (tellB B c L).length ≤ B.length + 2 := by
  unfold tellB
  split
  · have := put_length 0 (stepsS (getB B 0) L) B
    unfold tell0; omega
  · have h1 := put_length 0 (stepsS (getB B 0) L) B
    have h2 := put_length c (stepsS (getB (tell0 B 0 L) c) L) (tell0 B 0 L)
    unfold tell0 at h2 ⊢
    omega
theorem len_dropC (B : Bk) (c : Int) : (dropB B c).length ≤ B.length + 2 := by
  unfold dropB
  split
  · omega
  · exact Nat.le_trans (del_length c _) (len_tellC B 0 _)
theorem rising_tellC {B : Bk} (h : Rising B) (c : Int) (L : List Stp) : Rising (tellB B c L) := by
  unfold tellB
  split
  · exact rising_put _ _ h
  · exact rising_put _ _ (rising_put _ _ h)
theorem rising_dropC {B : Bk} (h : Rising B) (c : Int) : Rising (dropB B c) := by
  unfold dropB
  split
  · exact h
  · exact rising_del (rising_tellC h 0 _) c
theorem head_tell0 {B : Bk} (h : Head0 B) (L : List Stp) : Head0 (tell0 B 0 L) := by
  obtain ⟨s0, R, rfl, hp⟩ := h
  exact ⟨stepsS s0 L, R, by simp [tell0, getB, lookM, putM], hp⟩
theorem head_put {B : Bk} (h : Head0 B) {c : Int} (hc : 0 < c) (s : St) : Head0 (putM B c s) := by
  obtain ⟨s0, R, rfl, hp⟩ := h
  refine ⟨s0, putM R c s, ?_, fun q hq => ?_⟩
  · conv => lhs; unfold putM
    rw [if_neg (by dsimp only; omega), if_neg (by dsimp only; omega)]
  · rcases putM_mem hq with rfl | hq
    · exact hc
    · exact hp q hq
theorem head_tellC {B : Bk} (h : Head0 B) (c : Int) (L : List Stp) : Head0 (tellB B c L) := by
  unfold tellB
  split
  · exact head_tell0 h L
  · exact head_put (head_tell0 h L) (by omega) _
theorem head_dropC {B : Bk} (h : Head0 B) (c : Int) : Head0 (dropB B c) := by
  unfold dropB
  split
  · exact h
  · obtain ⟨s0, R, e, hp⟩ := head_tellC h 0 [(6, getB B c 6, true), (7, getB B c 7, true)]
    refine ⟨s0, delM R c, ?_, fun q hq => hp q (List.mem_filter.1 hq).1⟩
    rw [e]
    unfold delM
    rw [List.filter_cons_of_pos (by simp; omega)]
theorem MapI.belowC {P : Program} {K : TypeId} {w w' : World} {b n : Nat} {M : List (Int × Value)} (h : MapI P K w b M) (hb : Below n w w') (hl : b < n) : MapI P K w' b M := by
  obtain ⟨es, clock, hm, F, hs, e⟩ := h
  exact ⟨es, clock, (hb.block b hl).trans hm, F, hs, e⟩

/-- both books -/
structure Two (w W : World) (g m base p pk : Nat) (cs : Array Value) (N : Nat) (B : Bk) : Prop where
  book : BookAt W g m B
  doc : CbAt W base p B
  pkt : Blk W pk 24 cs
  gb : g < base
  mb : m < base
  kb : pk < base
  ne : pk ≠ m
  hi : w.heap.size ≤ m
  lo : w.heap.size ≤ base
  below : Below w.heap.size w W
  rise : Rising B
  head : Head0 B
  wf : WfB B
  len : B.length ≤ N
section
variable {w W W' : World} {g m base p pk N : Nat} {cs : Array Value} {B B' : Bk}
theorem Two.mine (h : Two w W g m base p pk cs N B) (hT : TellAt W g m B' W') : BookAt W' g m B' ∧ CbAt W' base p B ∧ Blk W' pk 24 cs ∧ Below w.heap.size w W' :=
  ⟨hT.book, h.doc.told h.book.map hT.grown, h.pkt.grown hT.grown (by simp [h.ne]), h.below.grown hT.grown h.below.size (fun k e => by cases e; exact h.hi)⟩
theorem Two.later (h : Two w W g m base p pk cs N B) (hb : Below W.heap.size W W') : Two w W' g m base p pk cs N B :=
  { h with book := h.book.grown (grown_none hb), doc := h.doc.later hb, pkt := h.pkt.below hb h.pkt.lt, below := h.below.trans (hb.mono h.below.size) }
theorem Two.step (h : Two w W g m base p pk cs N B) {W1 : World} (h1 : BookAt W1 g m B' ∧ CbAt W1 base p B ∧ Blk W1 pk 24 cs ∧ Below w.heap.size w W1) (hd : CbAt W' base p B') (hb : Below base W1 W') (hr : Rising B') (hh : Head0 B') (hw : WfB B') (hl : B'.length ≤ N + 2) : Two w W' g m base p pk cs (N + 2) B' :=
  ⟨⟨h1.1.blk.below hb h.gb, h1.1.map.belowC hb h.mb, h1.1.ok⟩, hd, h1.2.2.1.below hb h.kb, h.gb, h.mb, h.kb, h.ne, h.hi, h.lo, h1.2.2.2.trans (hb.mono h.lo), hr, hh, hw, hl⟩
theorem Two.tell (h : Two w W g m base p pk cs N B) {c : Int} {L : List Stp} {W1 : World} (h1 : BookAt W1 g m (tellB B c L) ∧ CbAt W1 base p B ∧ Blk W1 pk 24 cs ∧ Below w.heap.size w W1) (hd : CbAt W' base p (tellB B c L)) (hb : Below base W1 W') (hc : (Lit.int .i64 c).wf = true) : Two w W' g m base p pk cs (N + 2) (tellB B c L) :=
  h.step h1 hd hb (rising_tellC h.rise c L) (head_tellC h.head c L) (h.wf.tell hc L) (by have := len_tellC B c L; have := h.len; omega)
theorem Two.drop (h : Two w W g m base p pk cs N B) {c : Int} {W1 : World} (h1 : BookAt W1 g m (dropB B c) ∧ CbAt W1 base p B ∧ Blk W1 pk 24 cs ∧ Below w.heap.size w W1) (hd : CbAt W' base p (dropB B c)) (hb : Below base W1 W') : Two w W' g m base p pk cs (N + 2) (dropB B c) :=
  h.step h1 hd hb (rising_dropC h.rise c) (head_dropC h.head c) (h.wf.drop c) (by have := len_dropC B c; have := h.len; omega)
end
theorem rchosen_any (i c n t r : Int) (base p : Nat) (B : Bk) (W : World) (h : CbAt W base p B) (hr : Rising B) (hh : Head0 B) (hn : B.length < 1000) (hc : (Lit.int .i64 c).wf = true) (hw : (Lit.int .i64 n).wf = true) :
    Calls Try.prog 14 #[.pointer (some ⟨p, 0, none⟩), pktV i c n t, .int .u8 r] W (fun e W' => e = .returned (.tuple #[]) ∧ CbAt W' base p (tellB B c (chosenL n r)) ∧ Below base W W') := by
  by_cases h1 : r = 1
  · subst h1
    exact rchosen_real i c n t base p B W h hr hh hn hc hw
  · exact rchosen_share i c n t r base p B W h hr hh hn hc hw h1

set_option maxRecDepth 100000 in
set_option maxHeartbeats 8000000 in
/-- the law -/
theorem countOnce_any (i c n t r id : Int) (w : World) (hw : (Lit.int .i64 n).wf = true) (hc : (Lit.int .i64 c).wf = true) (hid : (Lit.int .i64 id).wf = true) :
    Calls Try.prog 3 #[pktV i c n t, .int .u8 r, .int .i64 id] w fun e w' => e = .returned (.bool true) ∧ Below w.heap.size w w' := by
  have hb0 := (Below.refl w.heap.size w).alloc (Nat.le_refl _) (.cells #[.int .u64 i, .int .i64 c, .int .i64 n, .int .u64 t] 24)
  have hB0 := Blk.new w 24 #[.int .u64 i, .int .i64 c, .int .i64 n, .int .u64 t]
  have hn0 := new_any (w.alloc (.cells #[.int .u64 i, .int .i64 c, .int .i64 n, .int .u64 t] 24))
  have HB := Lib.hid (And.intro hb0 hB0)
  clear hb0 hB0
  go_enter Try.func3, Try.ntmps3
  go_wp2_with fail
  refine hn0.mono ?_
  clear hn0
  rintro e w1 ⟨g, m, rfl, hbk, hb1, hg0, hm0⟩
  have hn1 := rnew_any w1
  have hw1 := HB.out.1.trans (hb1.mono HB.out.1.size)
  have hp1 := HB.out.2.below hb1 HB.out.2.lt
  have hs0 : (w.alloc (.cells #[.int .u64 i, .int .i64 c, .int .i64 n, .int .u64 t] 24)).heap.size = w.heap.size + 1 := Array.size_push _
  have hm1 : w.heap.size < m := by omega
  have HB1 := Lib.hid (And.intro hbk (And.intro hw1 (And.intro hp1 hm1)))
  clear hbk hb1 hg0 hm0 hw1 hp1 HB hs0 hm1
  go_wp2_with fail
  refine hn1.mono ?_
  clear hn1
  rintro e w2 ⟨p, rfl, hcb, hb2⟩
  have h0 : Two w w2 g m w1.heap.size p w.heap.size #[.int .u64 i, .int .i64 c, .int .i64 n, .int .u64 t] 1 [(0, st0)] := ⟨HB1.out.1.grown (grown_none hb2), hcb, HB1.out.2.2.1.below hb2 HB1.out.2.2.1.lt, HB1.out.1.blk.lt, HB1.out.1.map.lt, HB1.out.2.2.1.lt, Nat.ne_of_lt HB1.out.2.2.2, Nat.le_of_lt HB1.out.2.2.2, HB1.out.2.1.size, HB1.out.2.1.trans (hb2.mono HB1.out.2.1.size), by simp [Rising], ⟨st0, [], rfl, by simp⟩, wfB_new, Nat.le_refl _⟩
  have HT := Lib.hid h0
  clear h0 hcb hb2 HB1
  generalize w1.heap.size = base at HT
  have k0 := HT.out.pkt.cell 0; have k1 := HT.out.pkt.cell 1; have k2 := HT.out.pkt.cell 2; have k3 := HT.out.pkt.cell 3
  simp only [List.getElem?_toArray, List.getElem?_cons_zero, List.getElem?_cons_succ] at k0 k1 k2 k3
  have ha := came_any g m [(0, st0)] i c n t _ HT.out.book hc hw (by have := HT.out.len; first | omega | (simp only [List.length_cons, List.length_nil]; omega))
  go_wp2_with fail
  refine ha.mono ?_
  clear ha k0 k1 k2 k3
  rintro e W1 ⟨rfl, hT⟩
  have h1 := HT.out.mine hT
  have H1 := Lib.hid h1
  clear h1 hT
  have k0 := H1.out.2.2.1.cell 0; have k1 := H1.out.2.2.1.cell 1; have k2 := H1.out.2.2.1.cell 2; have k3 := H1.out.2.2.1.cell 3
  simp only [List.getElem?_toArray, List.getElem?_cons_zero, List.getElem?_cons_succ] at k0 k1 k2 k3
  have ha := rcame_any i c n t base p [(0, st0)] _ H1.out.2.1 HT.out.rise HT.out.head (by have := HT.out.len; first | omega | (simp only [List.length_cons, List.length_nil]; omega)) hc hw
  go_wp2_with fail
  refine ha.mono ?_
  clear ha k0 k1 k2 k3
  rintro e W2 ⟨rfl, hd, hb⟩
  have h2 := HT.out.tell H1.out hd hb hc
  have HT2 := Lib.hid h2
  clear h2 hd hb HT H1
  generalize tellB [(0, st0)] c (cameL n) = B1 at HT2
  have HT := Lib.hid HT2.out
  clear HT2
  have ha := refused_any g m B1 id _ HT.out.book hid (by have := HT.out.len; first | omega | (simp only [List.length_cons, List.length_nil]; omega))
  go_wp2_with fail
  refine ha.mono ?_
  clear ha
  rintro e W1 ⟨rfl, hT⟩
  have h1 := HT.out.mine hT
  have H1 := Lib.hid h1
  clear h1 hT
  have ha := rrefused_any id base p B1 _ H1.out.2.1 HT.out.rise HT.out.head (by have := HT.out.len; first | omega | (simp only [List.length_cons, List.length_nil]; omega)) hid
  go_wp2_with fail
  refine ha.mono ?_
  clear ha
  rintro e W2 ⟨rfl, hd, hb⟩
  have h2 := HT.out.tell H1.out hd hb hid
  have HT2 := Lib.hid h2
  clear h2 hd hb HT H1
  generalize tellB B1 id refusedL = B2 at HT2
  have HT := Lib.hid HT2.out
  clear HT2
  have hs := show_any g m base p id B2 _ HT.out.book HT.out.doc HT.out.rise HT.out.head HT.out.wf (by have := HT.out.len; omega) hid
  go_wp2_with fail
  refine hs.mono ?_
  clear hs
  rintro e W3 ⟨rfl, hb⟩
  have h2 := HT.out.later hb
  have HT2 := Lib.hid h2
  clear h2 hb HT
  have HT := HT2
  clear HT2
  have k0 := HT.out.pkt.cell 0; have k1 := HT.out.pkt.cell 1; have k2 := HT.out.pkt.cell 2; have k3 := HT.out.pkt.cell 3
  simp only [List.getElem?_toArray, List.getElem?_cons_zero, List.getElem?_cons_succ] at k0 k1 k2 k3
  have hs := show_any g m base p c B2 _ HT.out.book HT.out.doc HT.out.rise HT.out.head HT.out.wf (by have := HT.out.len; omega) hc
  go_wp2_with fail
  refine hs.mono ?_
  clear hs k0 k1 k2 k3
  rintro e W3 ⟨rfl, hb⟩
  have h2 := HT.out.later hb
  have HT2 := Lib.hid h2
  clear h2 hb HT
  have HT := HT2
  clear HT2
  have k0 := HT.out.pkt.cell 0; have k1 := HT.out.pkt.cell 1; have k2 := HT.out.pkt.cell 2; have k3 := HT.out.pkt.cell 3
  simp only [List.getElem?_toArray, List.getElem?_cons_zero, List.getElem?_cons_succ] at k0 k1 k2 k3
  have ha := chosen_any g m B2 i c n t r _ HT.out.book hc hw (by have := HT.out.len; first | omega | (simp only [List.length_cons, List.length_nil]; omega))
  go_wp2_with fail
  refine ha.mono ?_
  clear ha k0 k1 k2 k3
  rintro e W1 ⟨rfl, hT⟩
  have h1 := HT.out.mine hT
  have H1 := Lib.hid h1
  clear h1 hT
  have k0 := H1.out.2.2.1.cell 0; have k1 := H1.out.2.2.1.cell 1; have k2 := H1.out.2.2.1.cell 2; have k3 := H1.out.2.2.1.cell 3
  simp only [List.getElem?_toArray, List.getElem?_cons_zero, List.getElem?_cons_succ] at k0 k1 k2 k3
  have ha := rchosen_any i c n t r base p B2 _ H1.out.2.1 HT.out.rise HT.out.head (by have := HT.out.len; first | omega | (simp only [List.length_cons, List.length_nil]; omega)) hc hw
  go_wp2_with fail
  refine ha.mono ?_
  clear ha k0 k1 k2 k3
  rintro e W2 ⟨rfl, hd, hb⟩
  have h2 := HT.out.tell H1.out hd hb hc
  have HT2 := Lib.hid h2
  clear h2 hd hb HT H1
  generalize tellB B2 c (chosenL n r) = B3 at HT2
  have HT := Lib.hid HT2.out
  clear HT2
  have k0 := HT.out.pkt.cell 0; have k1 := HT.out.pkt.cell 1; have k2 := HT.out.pkt.cell 2; have k3 := HT.out.pkt.cell 3
  simp only [List.getElem?_toArray, List.getElem?_cons_zero, List.getElem?_cons_succ] at k0 k1 k2 k3
  have ha := through_any g m B3 i c n t _ HT.out.book hc hw (by have := HT.out.len; first | omega | (simp only [List.length_cons, List.length_nil]; omega))
  go_wp2_with fail
  refine ha.mono ?_
  clear ha k0 k1 k2 k3
  rintro e W1 ⟨rfl, hT⟩
  have h1 := HT.out.mine hT
  have H1 := Lib.hid h1
  clear h1 hT
  have k0 := H1.out.2.2.1.cell 0; have k1 := H1.out.2.2.1.cell 1; have k2 := H1.out.2.2.1.cell 2; have k3 := H1.out.2.2.1.cell 3
  simp only [List.getElem?_toArray, List.getElem?_cons_zero, List.getElem?_cons_succ] at k0 k1 k2 k3
  have ha := rthrough_any i c n t base p B3 _ H1.out.2.1 HT.out.rise HT.out.head (by have := HT.out.len; first | omega | (simp only [List.length_cons, List.length_nil]; omega)) hc hw
  go_wp2_with fail
  refine ha.mono ?_
  clear ha k0 k1 k2 k3
  rintro e W2 ⟨rfl, hd, hb⟩
  have h2 := HT.out.tell H1.out hd hb hc
  have HT2 := Lib.hid h2
  clear h2 hd hb HT H1
  generalize tellB B3 c (throughL n) = B4 at HT2
  have HT := Lib.hid HT2.out
  clear HT2
  have hs := show_any g m base p id B4 _ HT.out.book HT.out.doc HT.out.rise HT.out.head HT.out.wf (by have := HT.out.len; omega) hid
  go_wp2_with fail
  refine hs.mono ?_
  clear hs
  rintro e W3 ⟨rfl, hb⟩
  have h2 := HT.out.later hb
  have HT2 := Lib.hid h2
  clear h2 hb HT
  have HT := HT2
  clear HT2
  have ha := drop_any g m B4 id _ HT.out.book hid (by have := HT.out.len; first | omega | (simp only [List.length_cons, List.length_nil]; omega))
  go_wp2_with fail
  refine ha.mono ?_
  clear ha
  rintro e W1 ⟨rfl, hT⟩
  have h1 := HT.out.mine hT
  have H1 := Lib.hid h1
  clear h1 hT
  have ha := rdrop_any id base p B4 _ H1.out.2.1 HT.out.rise HT.out.head (by have := HT.out.len; first | omega | (simp only [List.length_cons, List.length_nil]; omega)) hid
  go_wp2_with fail
  refine ha.mono ?_
  clear ha
  rintro e W2 ⟨rfl, hd, hb⟩
  have h2 := HT.out.drop H1.out hd hb
  have HT2 := Lib.hid h2
  clear h2 hd hb HT H1
  generalize dropB B4 id = B5 at HT2
  have HT := Lib.hid HT2.out
  clear HT2
  have k0 := HT.out.pkt.cell 0; have k1 := HT.out.pkt.cell 1; have k2 := HT.out.pkt.cell 2; have k3 := HT.out.pkt.cell 3
  simp only [List.getElem?_toArray, List.getElem?_cons_zero, List.getElem?_cons_succ] at k0 k1 k2 k3
  have hs := show_any g m base p c B5 _ HT.out.book HT.out.doc HT.out.rise HT.out.head HT.out.wf (by have := HT.out.len; omega) hc
  go_wp2_with fail
  refine hs.mono ?_
  clear hs k0 k1 k2 k3
  rintro e W3 ⟨rfl, hb⟩
  have h2 := HT.out.later hb
  have HT2 := Lib.hid h2
  clear h2 hb HT
  have HT := HT2
  clear HT2
  go_wp2_with fail
  go_ret
  exact ⟨rfl, HT.out.below⟩
end Go.Proofs.Ytclhhegfffccgaa
