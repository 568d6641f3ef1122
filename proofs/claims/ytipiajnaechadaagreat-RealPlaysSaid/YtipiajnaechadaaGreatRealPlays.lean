/-
  The law RealPlays: whatever is woken and served, a debt tells what the document's tells; a copy goes on alone; its walk.
-/
import Derived.Test.YtipiajnaechadaaGreatRealPair
import Derived.Test.YtipiajnaechadaaGreatActs
namespace Go.Proofs.YtipiajnaechadaaGreat
set_option linter.unusedVariables false
open Go.RowKit
attribute [local go_sem] quietR quietAtR quietUponR midAt midUpon

/-- an act: kind, rule, ticks, length, next -/
abbrev RAct := Int × Int × Int × Int × Int
def RFit (q : RAct) : Prop := (0 ≤ q.1 ∧ q.1 ≤ 255) ∧ (0 ≤ q.2.1 ∧ q.2.1 ≤ 255) ∧ U q.2.2.1 ∧ (-9223372036854775808 ≤ q.2.2.2.1 ∧ q.2.2.2.1 ≤ 9223372036854775807) ∧ (-9223372036854775808 ≤ q.2.2.2.2 ∧ q.2.2.2.2 ≤ 9223372036854775807)

def RActsAt (w : World) (a : Option Addr) (len : Nat) (z : List RAct) : Prop :=
  z.length = len ∧ (∀ q ∈ z, RFit q) ∧
  (len = 0 ∨ ∃ b off, a = some ⟨b, off, none⟩ ∧ b < w.heap.size ∧ ∀ i q, z[i]? = some q →
    w.cell? ⟨b, off + i * 5, none⟩ = some (.int .u8 q.1) ∧ w.cell? ⟨b, off + i * 5 + 1, none⟩ = some (.int .u8 q.2.1) ∧ w.cell? ⟨b, off + i * 5 + 2, none⟩ = some (.int .u64 q.2.2.1) ∧ w.cell? ⟨b, off + i * 5 + 3, none⟩ = some (.int .i64 q.2.2.2.1) ∧ w.cell? ⟨b, off + i * 5 + 4, none⟩ = some (.int .i64 q.2.2.2.2))

theorem RActsAt.below {w w' : World} {a : Option Addr} {len : Nat} {z : List RAct} (h : RActsAt w a len z) (hb : Below w.heap.size w w') : RActsAt w' a len z := by
  obtain ⟨h1, h2, h3⟩ := h
  refine ⟨h1, h2, ?_⟩
  rcases h3 with h3 | ⟨b, off, e, hl, hc⟩
  · exact .inl h3
  · refine .inr ⟨b, off, e, Nat.lt_of_lt_of_le hl hb.size, fun i q hq => ?_⟩
    obtain ⟨c0, c1, c2, c3, c4⟩ := hc i q hq
    exact ⟨(hb.cell (p := ⟨b, _, none⟩) hl).trans c0, (hb.cell (p := ⟨b, _, none⟩) hl).trans c1, (hb.cell (p := ⟨b, _, none⟩) hl).trans c2, (hb.cell (p := ⟨b, _, none⟩) hl).trans c3, (hb.cell (p := ⟨b, _, none⟩) hl).trans c4⟩

theorem u8_wf {n : Int} (h : (Lit.int .u8 n).wf = true) : 0 ≤ n ∧ n ≤ 255 := by
  simp [Lit.wf, IntKind.min, IntKind.max, IntKind.signed, IntKind.bits] at h
  exact ⟨h.1, by omega⟩
theorem i64_wf {n : Int} (h : (Lit.int .i64 n).wf = true) : -9223372036854775808 ≤ n ∧ n ≤ 9223372036854775807 := by
  simp [Lit.wf, IntKind.min, IntKind.max, IntKind.signed, IntKind.bits] at h
  exact ⟨by omega, by omega⟩

set_option maxRecDepth 20000 in
theorem racts_of {w : World} {a : Option Addr} {len cap : Nat} {z : List (List Value)} (h : IsRows [some .u8, some .u8, some .u64, some .i64, some .i64] w a len cap z) :
    len ≤ 9223372036854775807 ∧ ∃ l : List RAct, RActsAt w a len l := by
  obtain ⟨h1, h2, h3, h4, h5⟩ := h
  have h2' : cap ≤ 9223372036854775807 := by unfold maxLen at h2; exact h2
  refine ⟨Nat.le_trans h1 h2', ?_⟩
  obtain ⟨l, hl, hr⟩ := list_of (fun i (q : RAct) => z[i]? = some [.int .u8 q.1, .int .u8 q.2.1, .int .u64 q.2.2.1, .int .i64 q.2.2.2.1, .int .i64 q.2.2.2.2] ∧ RFit q) len (fun i hi => by
    have hz : z[i]? = some (z[i]'(by omega)) := List.getElem?_eq_getElem (by omega)
    have hk := h4 _ (List.getElem_mem (l := z) (n := i) (by omega))
    generalize z[i]'(by omega) = row at hz hk
    rcases row with _ | ⟨v0, _ | ⟨v1, _ | ⟨v2, _ | ⟨v3, _ | ⟨v4, _ | ⟨v5, row⟩⟩⟩⟩⟩⟩
    · exact hk.elim
    · exact hk.2.elim
    · exact hk.2.2.elim
    · exact hk.2.2.2.elim
    · exact hk.2.2.2.2.elim
    · obtain ⟨⟨n0, e0, w0⟩, ⟨n1, e1, w1⟩, ⟨n2, e2, w2⟩, ⟨n3, e3, w3⟩, ⟨n4, e4, w4⟩, _⟩ := hk
      subst e0; subst e1; subst e2; subst e3; subst e4
      exact ⟨(n0, n1, n2, n3, n4), hz, u8_wf w0, u8_wf w1, u64_wf w2, i64_wf w3, i64_wf w4⟩
    · exact hk.2.2.2.2.2.elim)
  refine ⟨l, hl, fun q hq => ?_, ?_⟩
  · obtain ⟨i, hi, rfl⟩ := List.mem_iff_getElem.1 hq
    exact (hr i _ (List.getElem?_eq_getElem hi)).2
  · rcases h5 with h5 | ⟨b, off, e, hb, hc⟩
    · exact .inl h5
    · refine .inr ⟨b, off, e, hb, fun i q hq => ?_⟩
      have hz := (hr i q hq).1
      exact ⟨hc i _ hz 0 _ rfl, hc i _ hz 1 _ rfl, hc i _ hz 2 _ rfl, hc i _ hz 3 _ rfl, hc i _ hz 4 _ rfl⟩


theorem rlong (a : Option Addr) (len cap : Nat) (w : World) (h : len ≤ 9223372036854775807) :
    Calls Tryz.prog 12 #[.slice a len cap] w fun e w' => e = .returned (.bool (decide (80 < len))) ∧ w = w' := by
  by_cases h1 : 80 < len
  · have hd : decide (80 < len) = true := by simpa using h1
    rw [hd]
    clear hd
    go_enter Tryz.func12, Tryz.ntmps12
    go_wp2
    go_ret
    exact ⟨by simp; omega, rfl⟩
  · have hd : decide (80 < len) = false := by simpa using h1
    rw [hd]
    clear hd
    go_enter Tryz.func12, Tryz.ntmps12
    go_wp2
    go_ret
    exact ⟨by simp; omega, rfl⟩
theorem rplays_long (F L R t : Int) (a : Option Addr) (len cap : Nat) (w : World) (h : 80 < len) (hlen : len ≤ 9223372036854775807) :
    Calls Tryz.prog 4 #[.agg #[.int .u64 F, .int .u64 L, .int .u64 R], .slice a len cap, .int .u64 t] w fun e' w' => e' = .returned (.bool true) ∧ Below w.heap.size w w' := by
  have hd : decide (80 < len) = true := by simpa using h
  have HD := Lib.hid hd; clear hd
  go_enter Tryz.func4, Tryz.ntmps4
  go_wp2_with (go_at_call 12; refine (rlong _ _ _ _ hlen).mono ?_; rintro e' w' ⟨rfl, rfl⟩; rw [HD.out])
  go_ret
  exact ⟨rfl, by go_grown⟩
set_option maxHeartbeats 1000000 in
theorem rplays_nil (F L R t : Int) (a : Option Addr) (len cap : Nat) (w : World) (hL : 0 ≤ L) (hlen : len ≤ 80) (h1 : mayB F L R = false) :
    Calls Tryz.prog 4 #[.agg #[.int .u64 F, .int .u64 L, .int .u64 R], .slice a len cap, .int .u64 t] w fun e' w' => e' = .returned (.bool true) ∧ Below w.heap.size w w' := by
  have nb := Blk.new w 24 #[.int .u64 F, .int .u64 L, .int .u64 R]
  have hal := (Below.refl w.heap.size w).alloc (Nat.le_refl _) (.cells #[.int .u64 F, .int .u64 L, .int .u64 R] 24)
  have H := Lib.hid h1
  obtain ⟨Wa, hWa⟩ : ∃ Wa, w.alloc (.cells #[.int .u64 F, .int .u64 L, .int .u64 R] 24) = Wa := ⟨_, rfl⟩
  rw [hWa] at nb hal
  have o0 := fun e => (over_cell (e := e) (o := 0) nb.lt).trans (nb.cell 0)
  have o1 := fun e => (over_cell (e := e) (o := 1) nb.lt).trans (nb.cell 1)
  have o2 := fun e => (over_cell (e := e) (o := 2) nb.lt).trans (nb.cell 2)
  simp only [List.getElem?_toArray, List.getElem?_cons_zero, List.getElem?_cons_succ] at o0 o1 o2
  have hd : decide (80 < len) = false := by simp; omega
  have HD := Lib.hid hd; clear hd
  clear nb h1
  go_enter Tryz.func4, Tryz.ntmps4
  go_wp2_with (go_at_call 12; refine (rlong _ _ _ _ (by omega)).mono ?_; rintro e' w' ⟨rfl, rfl⟩; rw [HD.out])
  refine wp_region_over (by kernel_rfl) (by kernel_rfl) ?_
  repeat (first | go_big_quiet_skip | (go_big_quiet_want; go_big_quiet_op; first | go_big_quiet_on | (apply Exists.intro; refine ⟨fun e => ?_, ?_⟩; (focus (first | (go_at_call 5; exact calls_over (real_no F L R _ hL H.out)) | (go_at_call 6; exact calls_over (rdebt_no F L R _ hL H.out)))); go_big_quiet_on)))
  refine wpQuiet_nil ?_
  rintro W2 ⟨e, he⟩
  have hb2 := over_below Wa e
  rw [← he] at hb2
  clear he o0 o1 o2
  go_wp2
  go_ret
  exact ⟨rfl, hal.trans (hb2.mono hal.size)⟩


set_option maxRecDepth 100000 in
set_option maxHeartbeats 8000000 in
theorem rplays_some (F L R t : Int) (a : Option Addr) (len cap : Nat) (z : List RAct) (w : World) (hF0 : 0 ≤ F) (hL0 : 0 ≤ L) (hR0 : 0 ≤ R) (ut : U t) (hz : RActsAt w a len z) (hlen : len ≤ 80) (h1 : mayB F L R = true) :
    Calls Tryz.prog 4 #[.agg #[.int .u64 F, .int .u64 L, .int .u64 R], .slice a len cap, .int .u64 t] w fun e' w' => e' = .returned (.bool true) ∧ Below w.heap.size w w' := by
  have nb := Blk.new w 24 #[.int .u64 F, .int .u64 L, .int .u64 R]
  have hal := (Below.refl w.heap.size w).alloc (Nat.le_refl _) (.cells #[.int .u64 F, .int .u64 L, .int .u64 R] 24)
  have H := Lib.hid h1
  obtain ⟨Wa, hWa⟩ : ∃ Wa, w.alloc (.cells #[.int .u64 F, .int .u64 L, .int .u64 R] 24) = Wa := ⟨_, rfl⟩
  rw [hWa] at nb hal
  have o0 := fun e => (over_cell (e := e) (o := 0) nb.lt).trans (nb.cell 0)
  have o1 := fun e => (over_cell (e := e) (o := 1) nb.lt).trans (nb.cell 1)
  have o2 := fun e => (over_cell (e := e) (o := 2) nb.lt).trans (nb.cell 2)
  simp only [List.getElem?_toArray, List.getElem?_cons_zero, List.getElem?_cons_succ] at o0 o1 o2
  have hd : decide (80 < len) = false := by simp; omega
  have HD := Lib.hid hd; clear hd
  have HZ := Lib.hid hz
  obtain ⟨th, hth⟩ : ∃ th, t.tmod 100 = th := ⟨_, rfl⟩
  have hthb : 0 ≤ th ∧ th ≤ 99 := by rw [← hth, Int.tmod_eq_emod_of_nonneg ut.1]; omega
  clear nb h1 hz
  go_enter Tryz.func4, Tryz.ntmps4
  go_wp2_with (go_at_call 12; refine (rlong _ _ _ _ (by omega)).mono ?_; rintro e' w' ⟨rfl, rfl⟩; rw [HD.out])
  refine wp_region_mid (w := Wa) 4 2 [1, 3] [] [(1, fun u W' => NewDeb w.heap.size F L R u W'), (3, fun u W' => NewRDebt w.heap.size F L R u W')] rfl (by kernel_rfl) (by kernel_rfl) (by kernel_rfl) (by kernel_rfl) (fun _ _ _ _ _ h => h) ⟨?st1, ?st2, trivial⟩ ?_
  case st1 => exact fun v W1 W2 ⟨d, r, g, h1, h2, h3, h4⟩ hb => ⟨d, r, g, h1, h2, h3, h4.below hb⟩
  case st2 => exact fun v W1 W2 ⟨q, p, h1, h3⟩ hb => ⟨q, p, h1, h3.below hb⟩
  intro LL hL
  have HL := Lib.hid hL
  clear hL
  simp only [List.take_succ_cons, List.take_zero, putL]
  repeat (first | refine wpHead_skip (by decide) ?_ | (refine wpHead_step (by decide) (fun K hK => ?_); go_simp; first | (refine hK _ ?_; clear hK K) | (apply Exists.intro; refine ⟨fun _ => ?_, hK _ ?_⟩; (fail); clear hK K)))
  refine wpHead_nil (HL.out _ ⟨?_, ?_, trivial⟩ ?_)
  · intro vs W1 hb1 hf
    clear hf HL
    change midAt _ _ (Act.put (Act.put _ (some 16) (vs 1)) (some 18) (vs 3)) _ _
    go_simp
    exact deb_new F L R W1 w.heap.size hF0 hL0 hR0 (Nat.le_trans hal.size hb1.size) H.out
  · intro vs W1 hb1 hf
    clear hf HL
    change midAt _ _ (Act.put (Act.put _ (some 16) (vs 1)) (some 18) (vs 3)) _ _
    go_simp
    exact rdebt_new F L R W1 w.heap.size hF0 hL0 hR0 (Nat.le_trans hal.size hb1.size) H.out
  · intro vs W1 hb1 hf
    obtain ⟨⟨d, r, g, hf1, hgw, hdw, hdeb⟩, ⟨v, p, hf2, href⟩, hff⟩ := hf
    clear hff
    clear HL o0 o1 o2
    change wpList _ _ _ _ (Act.put (Act.put _ (some 16) (vs 1)) (some 18) (vs 3)) _
    rw [hf1, hf2]
    clear hf1 hf2
    simp only [List.drop_succ_cons, List.drop_zero, List.take_succ_cons, List.take_zero]
    have hpair : PairD w W1 d r g v p 0 F L R 0 [] 0 false 9223372036854775808 0 := ⟨by simp, hgw, hdw, by decide, hdeb, href, hal.trans (hb1.mono hal.size)⟩
    have HP := Lib.hid hpair
    clear hdeb href hpair hb1 hal hWa
    go_wp2_with fail
    refine (same18 HP.out.2.2.2.2.1 HP.out.2.2.2.2.2.1 (by decide) (by decide) t ut).mono ?_
    rintro e' w0 ⟨rfl, hb0⟩
    have HP0 := Lib.hid (HP.out.below hb0)
    clear hb0 HP
    go_wp2
    go_loopw [7, 9, 10] (fun dv nv i W => ∃ (k d r g : Nat) (now x : Int) (A : List (Int × Int)) (got : Int) (aw : Bool) (el n : Int), k ≤ len ∧ i = .int .i64 k ∧ dv = .pointer (some ⟨d, 0, none⟩) ∧ nv = .int .u64 now ∧ 0 ≤ now ∧ now ≤ 1099511627776 ∧ PairD w W d r g v p k F L R x A got aw el n) (fun _ _ i _ => len - (intOf i).toNat)
    case atStart => exact ⟨0, d, r, g, 0, _, _, _, _, _, _, by omega, rfl, rfl, rfl, by omega, by omega, HP0.out⟩
    case round =>
      clear HP0 hgw hdw
      obtain ⟨wo, rfl⟩ : ∃ wo : World, wo = wr := ⟨_, rfl⟩
      obtain ⟨k, d, r, g, now, x, A, got, aw, el, n, hk, rfl, rfl, rfl, hn0, hn1, hbo⟩ := hrel
      have HBO := Lib.hid hbo; clear hbo
      by_cases hlt : k < len
      · obtain ⟨⟨K, q, X, ln, nx⟩, hq0⟩ : ∃ q, z[k]? = some q := ⟨_, List.getElem?_eq_getElem (by have := HZ.out.1; omega)⟩
        obtain ⟨hK, hQ, hu, hl1, hl2⟩ := HZ.out.2.1 _ (List.mem_of_getElem? hq0)
        obtain ⟨b, off, hab, hbl, hcl⟩ := HZ.out.2.2.resolve_left (by omega)
        subst hab
        obtain ⟨e0, e1, e2, e3, e4⟩ := hcl k _ hq0
        have hbw := HBO.out.2.2.2.2.2.2
        have c0 := (hbw.cell (p := ⟨b, off + k * 5, none⟩) hbl).trans e0
        have c1 := (hbw.cell (p := ⟨b, off + k * 5 + 1, none⟩) hbl).trans e1
        have c2 := (hbw.cell (p := ⟨b, off + k * 5 + 2, none⟩) hbl).trans e2
        have c3 := (hbw.cell (p := ⟨b, off + k * 5 + 3, none⟩) hbl).trans e3
        have c4 := (hbw.cell (p := ⟨b, off + k * 5 + 4, none⟩) hbl).trans e4
        simp only at c0 c1 c2 c3 c4 hK hQ hu hl1 hl2
        clear hcl hq0 e0 e1 e2 e3 e4 hbw
        have hX0 := hu.1; have hX1 := hu.2
        obtain ⟨dd, hd⟩ : ∃ dd, X.tmod 1073741824 = dd := ⟨_, rfl⟩
        have hd2 : 0 ≤ dd ∧ dd < 1073741824 := by rw [← hd, Int.tmod_eq_emod_of_nonneg hX0]; omega
        obtain ⟨m, hm⟩ : ∃ m, K.tmod 3 = m := ⟨_, rfl⟩
        have hm2 : m = 0 ∨ m = 1 ∨ m = 2 := by rw [← hm, Int.tmod_eq_emod_of_nonneg hK.1]; omega
        obtain ⟨nd, hnd⟩ : ∃ nd, now + dd = nd := ⟨_, rfl⟩
        obtain ⟨nw, hnw⟩ : ∃ nw, (if 1099511627776 < nd then (1099511627776 : Int) else nd) = nw := ⟨_, rfl⟩
        have hnw2 : 0 ≤ nw ∧ nw ≤ 1099511627776 := by split at hnw <;> omega
        have hnd2 : 0 ≤ nd ∧ nd ≤ 1100585369600 := by omega
        obtain ⟨nt, hnt⟩ : ∃ nt, nw + th = nt := ⟨_, rfl⟩
        have hnt2 : 0 ≤ nt ∧ nt ≤ 1099511627875 := by omega
        have unw : U nw := ⟨by omega, by omega⟩
        have unt : U nt := ⟨by omega, by omega⟩
        have hal2 := (Below.refl wo.heap.size wo).alloc (Nat.le_refl _) (.cells #[.int .u8 K, .int .u8 q, .int .u64 X, .int .i64 ln, .int .i64 nx] 36)
        have na := Blk.new wo 36 #[.int .u8 K, .int .u8 q, .int .u64 X, .int .i64 ln, .int .i64 nx]
        have hb2 := HBO.out.below hal2
        have HP := Lib.hid hb2; have NA := Lib.hid na
        have y0 := na.cell 0; have y1 := na.cell 1; have y2 := na.cell 2; have y3 := na.cell 3; have y4 := na.cell 4
        simp only [List.getElem?_toArray, List.getElem?_cons_zero, List.getElem?_cons_succ] at y0 y1 y2 y3 y4
        clear hb2 na HBO hal2
        obtain ⟨wa, hwa⟩ : ∃ wa, wo.alloc (.cells #[.int .u8 K, .int .u8 q, .int .u64 X, .int .i64 ln, .int .i64 nx] 36) = wa := ⟨_, rfl⟩
        rw [hwa] at HP NA y0 y1 y2 y3 y4
        go_upto_region 13 with fail
        clear hwa c0 c1 c2 c3 c4
        rcases hm2 with rfl | rfl | rfl
        · rcases aw with _ | _
          · skip
            have hfew : A.length < 900000 := by have := HP.out.1; omega
            go_wp2_with fail
            refine (deb_wake HP.out.2.2.2.2.1 nw ln _ unw HP.out.2.2.2.1.1 HP.out.2.2.2.1.2 rfl hfew).mono ?_
            rintro e' w1 ⟨rfl, hd1, hk1⟩
            obtain ⟨hr1, hb1⟩ := HP.out.after hk1
            have na1 := NA.out.keepsD HP.out.2.2.2.2.1 hk1 (by decide) (by decide) (by decide)
            have z3 := na1.cell 3
            simp only [List.getElem?_toArray, List.getElem?_cons_zero, List.getElem?_cons_succ] at z3
            have HD1 := Lib.hid hd1; have HR1 := Lib.hid hr1; have HB1 := Lib.hid hb1
            clear hd1 hr1 hb1 na1
            go_wp2_with fail
            refine (rdebt_wake HR1.out HB1.out.size nw ln _ unw HP.out.2.2.2.1.1 HP.out.2.2.2.1.2 rfl hfew).mono ?_
            rintro e' w2 ⟨rfl, hr2, hg2⟩
            have HP2 := Lib.hid (pair_done (k' := k + 1) (by have := HP.out.1; simp; omega) HP.out.2.1 HP.out.2.2.1 HP.out.2.2.2.1 HD1.out HR1.out HB1.out hr2 hg2)
            clear hr2 hg2 z3
            go_wp2_with fail
            refine (same18 HP2.out.2.2.2.2.1 HP2.out.2.2.2.2.2.1 HP2.out.2.2.2.1.1 HP2.out.2.2.2.1.2 t ut).mono ?_
            rintro e' s1 ⟨rfl, hbs1⟩
            have HS1 := Lib.hid (HP2.out.below hbs1)
            clear hbs1
            go_wp2_with fail
            refine (same18 HS1.out.2.2.2.2.1 HS1.out.2.2.2.2.2.1 HS1.out.2.2.2.1.1 HS1.out.2.2.2.1.2 nt unt).mono ?_
            rintro e' s2 ⟨rfl, hbs2⟩
            have HS2 := Lib.hid (HS1.out.below hbs2)
            clear hbs2
            go_wp2
            go_roundw
            case rel => exact ⟨k + 1, d, r, g, nw, _, _, _, _, _, _, by omega, by go_num, rfl, rfl, hnw2.1, hnw2.2, HS2.out⟩
            case measure => simp [intOf]; omega
          · skip
            go_wp2_with fail
            refine (deb_wake_on HP.out.2.2.2.2.1 nw ln).mono ?_
            rintro e' w' ⟨rfl, rfl⟩
            go_wp2_with fail
            refine (rdebt_wake_on HP.out.2.2.2.2.2.1 nw ln).mono ?_
            rintro e' w' ⟨rfl, rfl⟩
            have HP2 := Lib.hid (show PairD w wa d r g v p (k + 1) F L R x A got true el n from ⟨Nat.le_succ_of_le HP.out.1, HP.out.2⟩)
            go_wp2_with fail
            refine (same18 HP2.out.2.2.2.2.1 HP2.out.2.2.2.2.2.1 HP2.out.2.2.2.1.1 HP2.out.2.2.2.1.2 t ut).mono ?_
            rintro e' s1 ⟨rfl, hbs1⟩
            have HS1 := Lib.hid (HP2.out.below hbs1)
            clear hbs1
            go_wp2_with fail
            refine (same18 HS1.out.2.2.2.2.1 HS1.out.2.2.2.2.2.1 HS1.out.2.2.2.1.1 HS1.out.2.2.2.1.2 nt unt).mono ?_
            rintro e' s2 ⟨rfl, hbs2⟩
            have HS2 := Lib.hid (HS1.out.below hbs2)
            clear hbs2
            go_wp2
            go_roundw
            case rel => exact ⟨k + 1, d, r, g, nw, _, _, _, _, _, _, by omega, by go_num, rfl, rfl, hnw2.1, hnw2.2, HS2.out⟩
            case measure => simp [intOf]; omega
        · rcases aw with _ | _
          · skip
            go_wp2_with fail
            refine (deb_serve_off HP.out.2.2.2.2.1 q ln nx).mono ?_
            rintro e' w' ⟨rfl, rfl⟩
            go_wp2_with fail
            refine (rdebt_serve_off HP.out.2.2.2.2.2.1 q ln nx).mono ?_
            rintro e' w' ⟨rfl, rfl⟩
            have HP2 := Lib.hid (show PairD w wa d r g v p (k + 1) F L R x A got false el n from ⟨Nat.le_succ_of_le HP.out.1, HP.out.2⟩)
            go_wp2_with fail
            refine (same18 HP2.out.2.2.2.2.1 HP2.out.2.2.2.2.2.1 HP2.out.2.2.2.1.1 HP2.out.2.2.2.1.2 t ut).mono ?_
            rintro e' s1 ⟨rfl, hbs1⟩
            have HS1 := Lib.hid (HP2.out.below hbs1)
            clear hbs1
            go_wp2_with fail
            refine (same18 HS1.out.2.2.2.2.1 HS1.out.2.2.2.2.2.1 HS1.out.2.2.2.1.1 HS1.out.2.2.2.1.2 nt unt).mono ?_
            rintro e' s2 ⟨rfl, hbs2⟩
            have HS2 := Lib.hid (HS1.out.below hbs2)
            clear hbs2
            go_wp2
            go_roundw
            case rel => exact ⟨k + 1, d, r, g, nw, _, _, _, _, _, _, by omega, by go_num, rfl, rfl, hnw2.1, hnw2.2, HS2.out⟩
            case measure => simp [intOf]; omega
          · by_cases hq : q = 1
            · subst hq
              go_wp2_with fail
              refine (deb_real HP.out.2.2.2.2.1 HP.out.2.2.2.1.1 HP.out.2.2.2.1.2 ln nx).mono ?_
              rintro e' w1 ⟨rfl, hd1, hk1⟩
              obtain ⟨hr1, hb1⟩ := HP.out.after hk1
              have na1 := NA.out.keepsD HP.out.2.2.2.2.1 hk1 (by decide) (by decide) (by decide)
              have z1 := na1.cell 1; have z3 := na1.cell 3; have z4 := na1.cell 4
              simp only [List.getElem?_toArray, List.getElem?_cons_zero, List.getElem?_cons_succ] at z1 z3 z4
              have HD1 := Lib.hid hd1; have HR1 := Lib.hid hr1; have HB1 := Lib.hid hb1
              clear hd1 hr1 hb1 na1
              go_wp2_with fail
              refine (rdebt_real HR1.out ln nx HP.out.2.2.2.1.1 HP.out.2.2.2.1.2).mono ?_
              rintro e' w2 ⟨rfl, hr2, hg2⟩
              have HP2 := Lib.hid (pair_done (k' := k + 1) (Nat.le_succ_of_le HP.out.1) HP.out.2.1 HP.out.2.2.1 (dueY_bd HP.out.2.2.2.1.1) HD1.out HR1.out HB1.out hr2 hg2)
              clear hr2 hg2 z1 z3 z4
              go_wp2_with fail
              refine (same18 HP2.out.2.2.2.2.1 HP2.out.2.2.2.2.2.1 HP2.out.2.2.2.1.1 HP2.out.2.2.2.1.2 t ut).mono ?_
              rintro e' s1 ⟨rfl, hbs1⟩
              have HS1 := Lib.hid (HP2.out.below hbs1)
              clear hbs1
              go_wp2_with fail
              refine (same18 HS1.out.2.2.2.2.1 HS1.out.2.2.2.2.2.1 HS1.out.2.2.2.1.1 HS1.out.2.2.2.1.2 nt unt).mono ?_
              rintro e' s2 ⟨rfl, hbs2⟩
              have HS2 := Lib.hid (HS1.out.below hbs2)
              clear hbs2
              go_wp2
              go_roundw
              case rel => exact ⟨k + 1, d, r, g, nw, _, _, _, _, _, _, by omega, by go_num, rfl, rfl, hnw2.1, hnw2.2, HS2.out⟩
              case measure => simp [intOf]; omega
            · skip
              go_wp2_with fail
              refine (deb_share HP.out.2.2.2.2.1 HP.out.2.2.2.1.1 HP.out.2.2.2.1.2 q ln nx hq).mono ?_
              rintro e' w1 ⟨rfl, hd1, hk1⟩
              obtain ⟨hr1, hb1⟩ := HP.out.after hk1
              have na1 := NA.out.keepsD HP.out.2.2.2.2.1 hk1 (by decide) (by decide) (by decide)
              have z1 := na1.cell 1; have z3 := na1.cell 3; have z4 := na1.cell 4
              simp only [List.getElem?_toArray, List.getElem?_cons_zero, List.getElem?_cons_succ] at z1 z3 z4
              have HD1 := Lib.hid hd1; have HR1 := Lib.hid hr1; have HB1 := Lib.hid hb1
              clear hd1 hr1 hb1 na1
              go_wp2_with fail
              refine (rdebt_share HR1.out q ln nx hq).mono ?_
              rintro e' w2 ⟨rfl, hr2, hg2⟩
              have HP2 := Lib.hid (pair_done (k' := k + 1) (Nat.le_succ_of_le HP.out.1) HP.out.2.1 HP.out.2.2.1 HP.out.2.2.2.1 HD1.out HR1.out HB1.out hr2 hg2)
              clear hr2 hg2 z1 z3 z4
              go_wp2_with fail
              refine (same18 HP2.out.2.2.2.2.1 HP2.out.2.2.2.2.2.1 HP2.out.2.2.2.1.1 HP2.out.2.2.2.1.2 t ut).mono ?_
              rintro e' s1 ⟨rfl, hbs1⟩
              have HS1 := Lib.hid (HP2.out.below hbs1)
              clear hbs1
              go_wp2_with fail
              refine (same18 HS1.out.2.2.2.2.1 HS1.out.2.2.2.2.2.1 HS1.out.2.2.2.1.1 HS1.out.2.2.2.1.2 nt unt).mono ?_
              rintro e' s2 ⟨rfl, hbs2⟩
              have HS2 := Lib.hid (HS1.out.below hbs2)
              clear hbs2
              go_wp2
              go_roundw
              case rel => exact ⟨k + 1, d, r, g, nw, _, _, _, _, _, _, by omega, by go_num, rfl, rfl, hnw2.1, hnw2.2, HS2.out⟩
              case measure => simp [intOf]; omega
        · rcases aw with _ | _
          · skip
            go_wp2_with fail
            refine (deb_copy HP.out.2.2.2.2.1).mono ?_
            rintro e' w1 ⟨d2, r2, g2, rfl, hd2, hg2, hn, hb1⟩
            have hlt := HP.out.2.2.2.2.1.glt
            have hdd : d2 ≠ d := by omega
            have hgg : g2 ≠ g := by omega
            have hws := HP.out.2.2.2.2.2.2.size
            have HN1 := Lib.hid hn
            have HO1 := Lib.hid (HP.out.below hb1)
            clear hn
            have hfew : A.length + 2 < 900000 := by have := HP.out.1; omega
            have hgot := HP.out.2.2.2.1
            have unw1 : U (nw + 1) := ⟨by omega, by omega⟩
            have unw2 : U (nw + 2) := ⟨by omega, by omega⟩
            have O1 := Lib.hid HO1.out.2.2.2.2.1; have R1 := Lib.hid HO1.out.2.2.2.2.2.1; have B1 := Lib.hid HO1.out.2.2.2.2.2.2
            have HGW := Lib.hid HP.out.2.1; have HDW := Lib.hid HP.out.2.2.1
            have N1 := Lib.hid HN1.out
            go_wp2_with fail
            refine (deb_wake O1.out (nw + 1) 9 _ unw1 hgot.1 hgot.2 rfl (by omega)).mono ?_
            rintro e' v2 ⟨rfl, ho, hk⟩
            have N2 := Lib.hid (N1.out.keeps O1.out hk hdd hgg); have R2 := Lib.hid (R1.out.keeps O1.out hk); have B2 := Lib.hid (B1.out.trans (hk.low _ HGW.out HDW.out)); have O2 := Lib.hid ho
            clear ho hk
            go_wp2_with fail
            refine (deb_real O2.out hgot.1 hgot.2 5 0).mono ?_
            rintro e' v3 ⟨rfl, ho, hk⟩
            have N3 := Lib.hid (N2.out.keeps O2.out hk hdd hgg); have R3 := Lib.hid (R2.out.keeps O2.out hk); have B3 := Lib.hid (B2.out.trans (hk.low _ HGW.out HDW.out)); have O3 := Lib.hid ho
            clear ho hk
            have hgot2 := dueY_bd (n := 5) hgot.1
            go_wp2_with fail
            refine (deb_wake O3.out (nw + 2) 9 _ unw2 hgot2.1 hgot2.2 rfl (by simp; omega)).mono ?_
            rintro e' v4 ⟨rfl, ho, hk⟩
            have N4 := Lib.hid (N3.out.keeps O3.out hk hdd hgg); have R4 := Lib.hid (R3.out.keeps O3.out hk); have B4 := Lib.hid (B3.out.trans (hk.low _ HGW.out HDW.out)); have O4 := Lib.hid ho
            clear ho hk
            have HP2 := Lib.hid (show PairD w v4 d2 r2 g2 v p (k + 1) F L R x A got false el n from ⟨Nat.le_succ_of_le HP.out.1, Nat.le_trans hws hg2, Nat.le_trans hws hd2, hgot, N4.out, R4.out, B4.out⟩)
            go_wp2_with fail
            refine (same18 HP2.out.2.2.2.2.1 HP2.out.2.2.2.2.2.1 HP2.out.2.2.2.1.1 HP2.out.2.2.2.1.2 t ut).mono ?_
            rintro e' s1 ⟨rfl, hbs1⟩
            have HS1 := Lib.hid (HP2.out.below hbs1)
            clear hbs1
            go_wp2_with fail
            refine (same18 HS1.out.2.2.2.2.1 HS1.out.2.2.2.2.2.1 HS1.out.2.2.2.1.1 HS1.out.2.2.2.1.2 nt unt).mono ?_
            rintro e' s2 ⟨rfl, hbs2⟩
            have HS2 := Lib.hid (HS1.out.below hbs2)
            clear hbs2
            go_wp2
            go_roundw
            case rel => exact ⟨k + 1, d2, r2, g2, nw, _, _, _, _, _, _, by omega, by go_num, rfl, rfl, hnw2.1, hnw2.2, HS2.out⟩
            case measure => simp [intOf]; omega
          · skip
            go_wp2_with fail
            refine (deb_copy HP.out.2.2.2.2.1).mono ?_
            rintro e' w1 ⟨d2, r2, g2, rfl, hd2, hg2, hn, hb1⟩
            have hlt := HP.out.2.2.2.2.1.glt
            have hdd : d2 ≠ d := by omega
            have hgg : g2 ≠ g := by omega
            have hws := HP.out.2.2.2.2.2.2.size
            have HN1 := Lib.hid hn
            have HO1 := Lib.hid (HP.out.below hb1)
            clear hn
            have hfew : A.length + 2 < 900000 := by have := HP.out.1; omega
            have hgot := HP.out.2.2.2.1
            have unw1 : U (nw + 1) := ⟨by omega, by omega⟩
            have unw2 : U (nw + 2) := ⟨by omega, by omega⟩
            have O1 := Lib.hid HO1.out.2.2.2.2.1; have R1 := Lib.hid HO1.out.2.2.2.2.2.1; have B1 := Lib.hid HO1.out.2.2.2.2.2.2
            have HGW := Lib.hid HP.out.2.1; have HDW := Lib.hid HP.out.2.2.1
            have N1 := Lib.hid HN1.out
            go_wp2_with fail
            refine (deb_wake_on O1.out (nw + 1) 9).mono ?_
            rintro e' w' ⟨rfl, rfl⟩
            go_wp2_with fail
            refine (deb_real O1.out hgot.1 hgot.2 5 0).mono ?_
            rintro e' v2 ⟨rfl, ho, hk⟩
            have N2 := Lib.hid (N1.out.keeps O1.out hk hdd hgg); have R2 := Lib.hid (R1.out.keeps O1.out hk); have B2 := Lib.hid (B1.out.trans (hk.low _ HGW.out HDW.out)); have O2 := Lib.hid ho
            clear ho hk
            have hgot2 := dueY_bd (n := 5) hgot.1
            go_wp2_with fail
            refine (deb_wake O2.out (nw + 2) 9 _ unw2 hgot2.1 hgot2.2 rfl (by omega)).mono ?_
            rintro e' v3 ⟨rfl, ho, hk⟩
            have N3 := Lib.hid (N2.out.keeps O2.out hk hdd hgg); have R3 := Lib.hid (R2.out.keeps O2.out hk); have B3 := Lib.hid (B2.out.trans (hk.low _ HGW.out HDW.out)); have O3 := Lib.hid ho
            clear ho hk
            have HP2 := Lib.hid (show PairD w v3 d2 r2 g2 v p (k + 1) F L R x A got true el n from ⟨Nat.le_succ_of_le HP.out.1, Nat.le_trans hws hg2, Nat.le_trans hws hd2, hgot, N3.out, R3.out, B3.out⟩)
            go_wp2_with fail
            refine (same18 HP2.out.2.2.2.2.1 HP2.out.2.2.2.2.2.1 HP2.out.2.2.2.1.1 HP2.out.2.2.2.1.2 t ut).mono ?_
            rintro e' s1 ⟨rfl, hbs1⟩
            have HS1 := Lib.hid (HP2.out.below hbs1)
            clear hbs1
            go_wp2_with fail
            refine (same18 HS1.out.2.2.2.2.1 HS1.out.2.2.2.2.2.1 HS1.out.2.2.2.1.1 HS1.out.2.2.2.1.2 nt unt).mono ?_
            rintro e' s2 ⟨rfl, hbs2⟩
            have HS2 := Lib.hid (HS1.out.below hbs2)
            clear hbs2
            go_wp2
            go_roundw
            case rel => exact ⟨k + 1, d2, r2, g2, nw, _, _, _, _, _, _, by omega, by go_num, rfl, rfl, hnw2.1, hnw2.2, HS2.out⟩
            case measure => simp [intOf]; omega
      · obtain rfl : k = len := by omega
        go_wp2
        go_ret
        exact ⟨rfl, HBO.out.2.2.2.2.2.2⟩

theorem rplays_walk (F L R t : Int) (a : Option Addr) (len cap : Nat) (zs : List (List Value)) (w : World) (hF : U F) (hL : U L) (hR : U R) (ht : U t) (hz : IsRows [some .u8, some .u8, some .u64, some .i64, some .i64] w a len cap zs) :
    Calls Tryz.prog 4 #[.agg #[.int .u64 F, .int .u64 L, .int .u64 R], .slice a len cap, .int .u64 t] w fun e' w' => e' = .returned (.bool true) ∧ Below w.heap.size w w' := by
  obtain ⟨hlen, l, hl⟩ := racts_of hz
  by_cases h80 : 80 < len
  · exact rplays_long F L R t a len cap w h80 hlen
  · cases h1 : mayB F L R with
    | false => exact rplays_nil F L R t a len cap w hL.1 (by omega) h1
    | true => exact rplays_some F L R t a len cap l w hF.1 hL.1 hR.1 ht hl (by omega) h1

end Go.Proofs.YtipiajnaechadaaGreat
