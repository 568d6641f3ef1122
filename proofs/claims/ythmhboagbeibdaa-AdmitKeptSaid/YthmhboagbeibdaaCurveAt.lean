/-
  The contract of curve.At.
-/
import Derived.Test.YthmhboagbeibdaaRegIn
import Derived.Test.YthmhboagbeibdaaWide
import Derived.Test.YthmhboagbeibdaaMath
namespace Go.Proofs.Ythmhboagbeibdaa
set_option linter.unusedVariables false
open Go.RowKit Go.Shelf

theorem stopped_yes (n : Int) (w : World) :
    Calls Try.prog 55 #[.int .u64 n, .bool true] w fun e w' => e = .returned (.int .u64 4611686018427387904) ∧ w = w' := by
  go_enter Try.func55, Try.ntmps55
  go_wp2
  go_ret
  exact ⟨rfl, rfl⟩

theorem stopped_no (n : Int) (w : World) :
    Calls Try.prog 55 #[.int .u64 n, .bool false] w fun e w' => e = .returned (.int .u64 (cap n)) ∧ w = w' := by
  by_cases h : 4611686018427387904 < n
  · have E := cap_of_ge (n := n) (by omega)
    have H := Lib.hid E; clear E
    go_enter Try.func55, Try.ntmps55
    go_wp2
    go_ret
    exact ⟨ret_int H.out.symm, rfl⟩
  · have E := cap_of_le (n := n) (by omega)
    have H := Lib.hid E; clear E
    go_enter Try.func55, Try.ntmps55
    go_wp2
    go_ret
    exact ⟨ret_int H.out.symm, rfl⟩

/-- with the test as it stands -/
theorem stopped_any (n : Int) (b : Bool) (w : World) :
    Calls Try.prog 55 #[.int .u64 n, .bool b] w fun e w' => e = .returned (.int .u64 (if b = true then 4611686018427387904 else cap n)) ∧ w = w' := by
  cases b
  · exact stopped_no n w
  · exact stopped_yes n w

theorem rplus_any (a b : Int) (w : World) (ha : U a) (hb : U b) :
    Calls Try.prog 41 #[.int .u64 a, .int .u64 b] w fun e w' => e = .returned (.int .u64 (cap (a + b))) ∧ w = w' := by
  have hw : IntKind.u64.wrap (a + b) = if a + b ≤ 18446744073709551615 then a + b else a + b - 18446744073709551616 := by
    unfold U at ha hb; rw [IntKind.wrap_u64]; omega
  by_cases h : a + b ≤ 18446744073709551615
  · rw [if_pos h] at hw
    have hlt : decide (a + b < a) = false := by unfold U at ha hb; simp; omega
    clear h
    go_enter Try.func41, Try.ntmps41
    go_wp2_with (go_at_call 55; refine (stopped_no _ _).mono ?_; rintro e w' ⟨rfl, rfl⟩)
    go_ret
    exact ⟨rfl, rfl⟩
  · rw [if_neg h] at hw
    have hlt : decide (a + b - 18446744073709551616 < a) = true := by unfold U at ha hb; simp; omega
    have hc := cap_of_ge (n := a + b) (by omega)
    rw [hc]
    clear h hc
    generalize a + b - 18446744073709551616 = x at *
    go_enter Try.func41, Try.ntmps41
    go_wp2_with (go_at_call 55; refine (stopped_yes _ _).mono ?_; rintro e w' ⟨rfl, rfl⟩)
    go_ret
    exact ⟨rfl, rfl⟩

theorem times_any (a b : Int) (w : World) (ha : U a) (hb : U b) :
    Calls Try.prog 42 #[.int .u64 a, .int .u64 b] w fun e w' => e = .returned (.int .u64 (cap (a * b))) ∧ Below w.heap.size w w' := by
  by_cases h : U (a * b)
  · have h1 := hi_small h
    have h2 := lo_small h
    clear h
    go_enter Try.func42, Try.ntmps42
    go_wp2_with (first
      | (go_at_call 56; refine (mul_any _ _ _ ha hb).mono ?_; rintro e w1 ⟨rfl, hb1⟩)
      | (go_at_call 55; refine (stopped_no _ _).mono ?_; rintro e w' ⟨rfl, rfl⟩))
    go_ret
    exact ⟨rfl, hb1.alloc hb1.size _⟩
  · have h1 : 0 < hiW (a * b) := by
      have := Int.mul_nonneg ha.1 hb.1
      unfold U at h; unfold hiW; omega
    have h2 := cap_of_ge (n := a * b) (by have := Int.mul_nonneg ha.1 hb.1; unfold U at h; omega)
    rw [h2]
    clear h h2
    go_enter Try.func42, Try.ntmps42
    go_wp2_with (first
      | (go_at_call 56; refine (mul_any _ _ _ ha hb).mono ?_; rintro e w1 ⟨rfl, hb1⟩)
      | (go_at_call 55; refine (stopped_yes _ _).mono ?_; rintro e w' ⟨rfl, rfl⟩))
    go_ret
    exact ⟨rfl, hb1.alloc hb1.size _⟩

section
attribute [local go_sem] Oper.semAt_some

theorem wide_depth {p : Prop} : Fence.wide.depth.isSome = true → p := fun h => by simp [Fence.wide] at h

theorem pieces_any (F L R : Int) (w : World) :
    Calls Try.prog 40 #[.agg #[.int .u64 F, .int .u64 L, .int .u64 R]] w fun e w' => e = .returned (.func (.func 54) #[] #[.pointer (some ⟨w.heap.size, 0, none⟩)]) ∧ w.alloc (.cells #[.int .u64 F, .int .u64 L, .int .u64 R] 25) = w' := by
  go_enter Try.func40, Try.ntmps40
  go_wp2
  go_ret
  exact ⟨rfl, rfl⟩

/-- a piece: two words -/
abbrev Pc := { x : Int × Int // U x.1 ∧ U x.2 }
theorem U_most : U 18446744073709551615 := ⟨by decide, by decide⟩
def piecesOf (F L R : Int) (hF : U F) (hL : U L) (hR : U R) : List Pc :=
  if 0 < L then [⟨(F, L), hF, hL⟩, ⟨(R, 18446744073709551615), hR, U_most⟩] else [⟨(R, 18446744073709551615), hR, U_most⟩]
/-- a block stays whole -/
def Stays (B : Nat) (W W' : World) : Prop := W'.heap[B]? = W.heap[B]?

theorem pieces_stops (n : Nat) (F L R : Int) (hF : U F) (hL' : U L) (hR : U R) (B : Nat) (w : World) (hB : B < w.heap.size)
    (c0 : w.cell? ⟨B, 0, none⟩ = some (.int .u64 F)) (c1 : w.cell? ⟨B, 1, none⟩ = some (.int .u64 L)) (c2 : w.cell? ⟨B, 2, none⟩ = some (.int .u64 R)) :
    SeqStopsK Fence.wide n Try.prog 54 #[.pointer (some ⟨B, 0, none⟩)] (fun x : Pc => #[.agg #[.int .u64 x.1.1, .int .u64 x.1.2]]) (Stays B)
      (fun xs => xs = piecesOf F L R hF hL' hR) (fun pre => pre = [⟨(F, L), hF, hL'⟩] ∧ 0 < L ∨ pre = piecesOf F L R hF hL' hR) 2 w := fun l J Jx W hW _ _ hY h0 => by
  have d0 : W.cell? ⟨B, 0, none⟩ = some (.int .u64 F) := (hW.cell (p := ⟨B, 0, none⟩) (by exact hB)).trans c0
  have d1 : W.cell? ⟨B, 1, none⟩ = some (.int .u64 L) := (hW.cell (p := ⟨B, 1, none⟩) (by exact hB)).trans c1
  have d2 : W.cell? ⟨B, 2, none⟩ = some (.int .u64 R) := (hW.cell (p := ⟨B, 2, none⟩) (by exact hB)).trans c2
  clear c0 c1 c2
  refine callsIn_of_wp Try.func54 rfl trivial ?_ rfl
  simp only [Try.ntmps54, List.size_toArray, List.length_cons, List.length_nil, Nat.reduceAdd, Nat.reduceSub, Array.replicate_succ, Array.replicate_zero, List.push_toArray, List.append_toArray, List.nil_append, List.cons_append]
  by_cases hL : 0 < L
  · have hp : piecesOf F L R hF hL' hR = [⟨(F, L), hF, hL'⟩, ⟨(R, 18446744073709551615), hR, U_most⟩] := by simp [piecesOf, hL]
    have HP := Lib.hid hp; clear hp
    obtain ⟨f1, t1, a1, b1, hy1, hR1⟩ := hY [] ⟨(F, L), hF, hL'⟩ W h0 (by simp)
    dsimp only at hy1
    gi_wp2
    refine ⟨wide_depth, hR1.mono ?_⟩
    rintro e W1 (⟨rfl, hJ1, hk1⟩ | ⟨rfl, hx1⟩)
    · have k2 : W1.cell? ⟨B, 2, none⟩ = some (.int .u64 R) := (World.cell?_of_block (w := W) (w' := W1) (a := ⟨B, 2, none⟩) hk1).trans d2
      obtain ⟨f2, t2, a2, b2, hy2, hR2⟩ := hY [⟨(F, L), hF, hL'⟩] ⟨(R, 18446744073709551615), hR, U_most⟩ W1 hJ1 (by simp)
      dsimp only at hy2
      gi_wp2
      refine ⟨wide_depth, hR2.mono ?_⟩
      rintro e W2 (⟨rfl, hJ2, _⟩ | ⟨rfl, hx2⟩)
      · gi_wp2
        go_end0
        exact ⟨⟨_, rfl⟩, .inl ⟨_, HP.out.symm, hJ2⟩⟩
      · gi_wp2
        go_end0
        exact ⟨⟨_, rfl⟩, .inr ⟨_, .inr HP.out.symm, hx2⟩⟩
    · gi_wp2
      refine bodyPost_ret (results_none rfl _ _ _) rfl ?_
      exact ⟨⟨_, rfl⟩, .inr ⟨_, .inl ⟨rfl, hL⟩, hx1⟩⟩
  · have hp : piecesOf F L R hF hL' hR = [⟨(R, 18446744073709551615), hR, U_most⟩] := by simp [piecesOf, hL]
    have HP := Lib.hid hp; clear hp
    obtain ⟨f2, t2, a2, b2, hy2, hR2⟩ := hY [] ⟨(R, 18446744073709551615), hR, U_most⟩ W h0 (by simp)
    dsimp only at hy2
    gi_wp2
    refine ⟨fun _ h => (by cases h), ?_⟩
    gi_wp2
    refine ⟨wide_depth, hR2.mono ?_⟩
    rintro e W2 (⟨rfl, hJ2, _⟩ | ⟨rfl, hx2⟩)
    · gi_wp2
      go_end0
      exact ⟨⟨_, rfl⟩, .inl ⟨_, HP.out.symm, hJ2⟩⟩
    · gi_wp2
      go_end0
      exact ⟨⟨_, rfl⟩, .inr ⟨_, .inr HP.out.symm, hx2⟩⟩

/-- what curve.At's loop has behind some pieces: the sum, and the ticks that are left -/
def stepC (p : Int × Int) (x : Pc) : Int × Int := (cap (p.1 + cap (x.1.1 * min p.2 x.1.2)), p.2 - min p.2 x.1.2)
def acc (t : Int) (l : List Pc) : Int × Int := l.foldl stepC (0, t)
theorem acc_snoc (t : Int) (l : List Pc) (x : Pc) : acc t (l ++ [x]) = stepC (acc t l) x := by simp [acc]
theorem U_min {a b : Int} (ha : U a) (hb : U b) : U (min a b) := by unfold U at *; omega
theorem U_step {p : Int × Int} {x : Pc} (h1 : U p.1) (h2 : U p.2) : U (stepC p x).1 ∧ U (stepC p x).2 := by
  have h3 := U_min h2 x.2.2
  have h4 := Int.mul_nonneg x.2.1.1 h3.1
  have h5 := cap_nonneg h4
  refine ⟨U_cap ?_, ?_⟩
  · have := h1.1; omega
  · have := h2.1; have := h2.2; have := x.2.2.1; unfold U stepC; simp only; omega
theorem U_acc {t : Int} (ht : U t) (l : List Pc) : U (acc t l).1 ∧ U (acc t l).2 := by
  unfold acc
  suffices h : ∀ (l : List Pc) (p : Int × Int), U p.1 → U p.2 → U (l.foldl stepC p).1 ∧ U (l.foldl stepC p).2 from h l _ (show U 0 from ⟨by decide, by decide⟩) ht
  intro l
  induction l with
  | nil => intro p h1 h2; exact ⟨h1, h2⟩
  | cons x l ih => intro p h1 h2; exact ih _ (U_step h1 h2).1 (U_step h1 h2).2

theorem keeps_of_below {W W' : World} (h : Below W.heap.size W W') : KeepsOthers W W' :=
  ⟨h.size, fun k _ hk _ => (h.block k (Array.getElem?_eq_some_iff.1 hk).1).trans hk⟩
theorem stays_own {β : Type} {B n₀ : Nat} {w₀ : World} (hB : B < n₀) : OwnFrom n₀ (fun (_ : β) W => Stays B w₀ W ∧ n₀ ≤ W.heap.size) :=
  fun _ _ _ _ hs hg hr => ⟨(hg.block B (by omega) (fun e => by have := (hr B e.symm).1; omega)).trans hs.1, Nat.le_trans hs.2 hg.size⟩

theorem at_loop (F L R t : Int) (w : World) (hF : U F) (hL : U L) (hR : U R) (ht : U t) :
    Calls Try.prog 24 #[.agg #[.int .u64 F, .int .u64 L, .int .u64 R], .int .u64 t] w fun e w' => e = .returned (.int .u64 (acc t (piecesOf F L R hF hL hR)).1) ∧ Below w.heap.size w w' := by
  refine (callsIn_wide (n := 9)).1 ?_
  refine callsIn_of_wp_marks Try.func24 rfl trivial ?_ rfl
  simp only [Try.ntmps24, List.size_toArray, List.length_cons, List.length_nil, Nat.reduceAdd, Nat.reduceSub, Array.replicate_succ, Array.replicate_zero, List.push_toArray, List.append_toArray, List.nil_append, List.cons_append]
  gi_wp2_with (refine ⟨trivial, ?_⟩; gi_at_call 40; refine (callsIn_wide.2 (pieces_any F L R _)).mono ?_; rintro e w' ⟨rfl, rfl⟩)
  have bT := ((Boxed.new (w.alloc (.cells #[.int .u64 F, .int .u64 L, .int .u64 R] 25)) 22 (.int .u64 t)).alloc (.cells #[.int .u64 0] 22)).alloc (.cells #[.int .u64 F, .int .u64 L, .int .u64 R] 25)
  have bS := (Boxed.new ((w.alloc (.cells #[.int .u64 F, .int .u64 L, .int .u64 R] 25)).alloc (.cells #[.int .u64 t] 22)) 22 (.int .u64 0)).alloc (.cells #[.int .u64 F, .int .u64 L, .int .u64 R] 25)
  have bC := Blk.new (((w.alloc (.cells #[.int .u64 F, .int .u64 L, .int .u64 R] 25)).alloc (.cells #[.int .u64 t] 22)).alloc (.cells #[.int .u64 0] 22)) 25 #[.int .u64 F, .int .u64 L, .int .u64 R]
  have hB0 : Below w.heap.size w ((((w.alloc (.cells #[.int .u64 F, .int .u64 L, .int .u64 R] 25)).alloc (.cells #[.int .u64 t] 22)).alloc (.cells #[.int .u64 0] 22)).alloc (.cells #[.int .u64 F, .int .u64 L, .int .u64 R] 25)) := by go_grown
  have hsz : ((((w.alloc (.cells #[.int .u64 F, .int .u64 L, .int .u64 R] 25)).alloc (.cells #[.int .u64 t] 22)).alloc (.cells #[.int .u64 0] 22)).alloc (.cells #[.int .u64 F, .int .u64 L, .int .u64 R] 25)).heap.size = w.heap.size + 4 := by simp
  simp only [World.size_alloc] at bT bS bC
  obtain ⟨W0, hW0⟩ : ∃ W0, (((w.alloc (.cells #[.int .u64 F, .int .u64 L, .int .u64 R] 25)).alloc (.cells #[.int .u64 t] 22)).alloc (.cells #[.int .u64 0] 22)).alloc (.cells #[.int .u64 F, .int .u64 L, .int .u64 R] 25) = W0 := ⟨_, rfl⟩
  rw [hW0] at bT bS bC hB0 hsz ⊢
  clear hW0
  refine wpIn_rangeFunc_ownH rfl (by omega) (gf := 54) (lb := #[.pointer (some ⟨w.heap.size + 1 + 1 + 1, 0, none⟩)]) rfl trivial (enters_of Try.func54 (by kernel_rfl) rfl)
    (pieces_stops _ F L R hF hL hR (w.heap.size + 1 + 1 + 1) W0 (by omega) (bC.cell 0) (bC.cell 1) (bC.cell 2)) (fun h k => k.trans h)
    (fun W l o o' hl h _ _ => World.putObj_heap_other (by omega)) (Below.refl _ _) (fun _ => rfl)
    (fun pre W => (Boxed W (w.heap.size + 1) 22 (.int .u64 (acc t pre).2) ∧ Boxed W (w.heap.size + 1 + 1) 22 (.int .u64 (acc t pre).1)) ∧ Below w.heap.size w W ∧ w.heap.size + 4 ≤ W.heap.size)
    (fun _ _ _ => False)
    (OwnFrom.and (OwnFrom.and (Own.from (boxed_own _ _ _) _) (Own.from (boxed_own _ _ _) _)) (OwnFrom.and (ownFrom_below (Nat.le_refl _) (by omega)) (fun _ _ _ _ hs hg _ => Nat.le_trans hs hg.size)))
    (fun _ _ _ _ _ hs _ _ => hs)
    ⟨⟨bT, bS⟩, hB0, by omega⟩
    (fun x a' W => ∃ Bx, w.heap.size + 1 + 1 + 1 < Bx ∧ Blk W Bx 78 #[.int .u64 x.1.1, .int .u64 x.1.2] ∧ a' = { tmps := #[.agg #[.int .u64 F, .int .u64 L, .int .u64 R], .int .u64 t, .pointer (some ⟨w.heap.size, 0, none⟩),
      .pointer (some ⟨w.heap.size + 1, 0, none⟩), .int .u64 0, .pointer (some ⟨w.heap.size + 1 + 1, 0, none⟩), .pointer (some ⟨Bx, 0, none⟩), undef, .agg #[.int .u64 F, .int .u64 L, .int .u64 R],
      .func (.func 54) #[] #[.pointer (some ⟨w.heap.size + 1 + 1 + 1, 0, none⟩)], .agg #[.int .u64 x.1.1, .int .u64 x.1.2], undef, undef, undef, undef, undef, undef, undef, undef, undef, undef, undef, undef, undef, undef], defers := [] })
    (fun x a' _ X Y row hs hg hr => by obtain ⟨Bx, h1, h2, h3⟩ := hs; exact ⟨Bx, h1, h2.grown hg (fun e => by obtain ⟨o, ho, hc⟩ := (hr _ e.symm).2; rw [show X.heap[Bx]? = _ from h2] at ho; cases ho; cases hc), h3⟩)
    ?assign ?body ?done ?stop
  case assign =>
    rintro l pre x W K ⟨⟨bT1, bS1⟩, hB1, hW4⟩ hK
    gi_wp2
    exact hK _ _ ((KeepsOthers.alloc _ _).from _) (Below.heap_alloc _ _ _ (by omega)) ⟨⟨bT1.alloc _, bS1.alloc _⟩, hB1.alloc hB1.size _, by simp; omega⟩ ⟨W.heap.size, by omega, Blk.new W _ _, rfl⟩
  case body =>
    rintro l pre x a' W hl ⟨r, hr⟩ ⟨⟨bT1, bS1⟩, hB1, hW4⟩ ⟨Bx, hBx, bX, rfl⟩ hlt
    have hp := U_acc ht pre
    have hsn := Lib.hid (acc_snoc t pre x)
    obtain ⟨s, hs⟩ : ∃ s, (acc t pre).1 = s := ⟨_, rfl⟩
    obtain ⟨q, hq⟩ : ∃ q, (acc t pre).2 = q := ⟨_, rfl⟩
    rw [hs, hq] at hp
    rw [hs] at bS1
    rw [hq] at bT1
    obtain ⟨us, uq⟩ := hp
    have HS := Lib.hid hs; have HQ := Lib.hid hq; clear hs hq
    have cT := bT1.cell; have fT := bT1.frozen
    have cS := bS1.cell; have fS := bS1.frozen
    have c0 : W.cell? ⟨Bx, 0, none⟩ = some (.int .u64 x.1.1) := bX.cell 0
    have c1 : W.cell? ⟨Bx, 1, none⟩ = some (.int .u64 x.1.2) := bX.cell 1
    obtain ⟨⟨a, b⟩, ua, ub⟩ := x
    simp only at c0 c1 ua ub
    have oT := fun e => (over_cell (w := W) (e := e) (o := 0) bT1.lt).trans cT
    have oS := fun e => (over_cell (w := W) (e := e) (o := 0) bS1.lt).trans cS
    have gT := fun e => (over_frozen (w := W) (e := e) (o := 0) bT1.lt).trans fT
    have gS := fun e => (over_frozen (w := W) (e := e) (o := 0) bS1.lt).trans fS
    have o0 := fun e => (over_cell (w := W) (e := e) (o := 0) bX.lt).trans c0
    have wq : IntKind.u64.wrap (q - b) = q - b ∨ q ≤ b := by
      by_cases h : q ≤ b
      · exact .inr h
      · exact .inl (wrap_u (by unfold U at *; omega))
    by_cases hm : b < q
    · have wr : IntKind.u64.wrap (q - b) = q - b := wq.resolve_right (by omega)
      clear wq
      gi_wp2
      refine wpIn_region_over_tail 6 (by kernel_rfl) (by kernel_rfl) (by kernel_rfl) ?_
      simp only [List.take_succ_cons, List.take_zero, List.drop_succ_cons, List.drop_zero]
      repeat (first | go_big_quiet_skip | (go_big_quiet_want; go_big_quiet_op; first | go_big_quiet_on | (apply Exists.intro; refine ⟨fun _ => ?_, ?_⟩; (focus (first | (go_at_call 42; exact calls_over (times_any _ _ _ ua ub)) | (go_at_call 41; exact calls_over_same (rplus_any _ _ _ us (U_cap (Int.mul_nonneg ua.1 (And.left ub)))))));  go_big_quiet_on)))
      refine wpQuiet_nil ?_
      rintro _ ⟨e, rfl⟩
      gi_wp2
      have k1 := keeps_of_below (over_below W e)
      have m1 : min q b = b := by omega
      refine ⟨((k1.trans (KeepsOthers.setCell _ _ _)).trans (KeepsOthers.setCell _ _ _)).from _, ?_, ⟨?_, ?_⟩, ?_, ?_⟩
      · exact (Below.heap_setCell _ _ _ _ (by simp; omega)).trans ((Below.heap_setCell _ _ _ _ (by simp)).trans (over_heap W e _ (by omega)))
      · rw [hsn.out]
        have h1 : Boxed (over W e) (w.heap.size + 1) 22 (.int .u64 q) := (over_heap W e _ bT1.lt).trans bT1
        have h2 := (h1.other (B' := w.heap.size + 1 + 1) (by omega) (.int .u64 (cap (s + cap (a * b))))).set (.int .u64 (q - b))
        simp only [stepC, HQ.out, m1]
        first | exact h2 | (rw [Int.sub_self]; exact h2)
      · rw [hsn.out]
        have h1 : Boxed (over W e) (w.heap.size + 1 + 1) 22 (.int .u64 s) := (over_heap W e _ bS1.lt).trans bS1
        have h2 := (h1.set (.int .u64 (cap (s + cap (a * b))))).other (B' := w.heap.size + 1) (by omega) (.int .u64 (q - b))
        simp only [stepC, HQ.out, HS.out, m1]
        exact h2
      · exact ((hB1.trans ((over_below W e).mono hB1.size)).setCell (by simp; omega) _).setCell (by simp) _
      · have := (over_below W e).size
        simp only [World.size_setCell]
        omega
    · have wr : IntKind.u64.wrap (q - q) = q - q := by rw [Int.sub_self]; rfl
      clear wq
      have hm' : q ≤ b := by omega
      gi_wp2
      refine wpIn_region_over_tail 6 (by kernel_rfl) (by kernel_rfl) (by kernel_rfl) ?_
      simp only [List.take_succ_cons, List.take_zero, List.drop_succ_cons, List.drop_zero]
      repeat (first | go_big_quiet_skip | (go_big_quiet_want; go_big_quiet_op; first | go_big_quiet_on | (apply Exists.intro; refine ⟨fun _ => ?_, ?_⟩; (focus (first | (go_at_call 42; exact calls_over (times_any _ _ _ ua uq)) | (go_at_call 41; exact calls_over_same (rplus_any _ _ _ us (U_cap (Int.mul_nonneg ua.1 (And.left uq)))))));  go_big_quiet_on)))
      refine wpQuiet_nil ?_
      rintro _ ⟨e, rfl⟩
      gi_wp2
      have k1 := keeps_of_below (over_below W e)
      have m1 : min q b = q := by omega
      refine ⟨((k1.trans (KeepsOthers.setCell _ _ _)).trans (KeepsOthers.setCell _ _ _)).from _, ?_, ⟨?_, ?_⟩, ?_, ?_⟩
      · exact (Below.heap_setCell _ _ _ _ (by simp; omega)).trans ((Below.heap_setCell _ _ _ _ (by simp)).trans (over_heap W e _ (by omega)))
      · rw [hsn.out]
        have h1 : Boxed (over W e) (w.heap.size + 1) 22 (.int .u64 q) := (over_heap W e _ bT1.lt).trans bT1
        have h2 := (h1.other (B' := w.heap.size + 1 + 1) (by omega) (.int .u64 (cap (s + cap (a * q))))).set (.int .u64 (0))
        simp only [stepC, HQ.out, m1]
        first | exact h2 | (rw [Int.sub_self]; exact h2)
      · rw [hsn.out]
        have h1 : Boxed (over W e) (w.heap.size + 1 + 1) 22 (.int .u64 s) := (over_heap W e _ bS1.lt).trans bS1
        have h2 := (h1.set (.int .u64 (cap (s + cap (a * q))))).other (B' := w.heap.size + 1) (by omega) (.int .u64 (0))
        simp only [stepC, HQ.out, HS.out, m1]
        exact h2
      · exact ((hB1.trans ((over_below W e).mono hB1.size)).setCell (by simp; omega) _).setCell (by simp) _
      · have := (over_below W e).size
        simp only [World.size_setCell]
        omega
  case done =>
    rintro D xs W hD rfl ⟨⟨bT1, bS1⟩, hB1, _⟩ hK
    have cS := bS1.cell
    gi_wp2
    refine ⟨by simp, .inl ⟨_, _, rfl, run_takeDeferred hK, ?_⟩⟩
    exact ⟨_, results_tmp rfl _ _ _, rfl, hB1.trans (belowK_b (w := w) (Nat.le_refl _) W D _ _ (by omega) hK rfl rfl)⟩
  case stop =>
    rintro D c pre W _ _ h _
    exact h.elim

end

theorem cap_cap {x y : Int} (hx : 0 ≤ x) (hy : 0 ≤ y) : cap (cap x + cap y) = cap (x + y) := by unfold cap; omega
theorem acc_W {F L R t : Int} (hF : U F) (hL : U L) (hR : U R) (ht : U t) : (acc t (piecesOf F L R hF hL hR)).1 = cap (W F L R t) := by
  have h1 := ht.1; have h2 := ht.2; have h3 := hL.1
  unfold acc piecesOf
  by_cases h : 0 < L
  · rw [if_pos h]
    simp only [List.foldl_cons, List.foldl_nil, stepC, Int.zero_add]
    rw [show min (t - min t L) 18446744073709551615 = t - min t L by omega]
    have a1 := Int.mul_nonneg hF.1 (show 0 ≤ min t L by omega)
    have a2 := Int.mul_nonneg hR.1 (show 0 ≤ t - min t L by omega)
    unfold W cap
    omega
  · rw [if_neg h]
    have hL0 : L = 0 := by omega
    subst hL0
    simp only [List.foldl_cons, List.foldl_nil, stepC, Int.zero_add]
    rw [show min t 18446744073709551615 = t by omega]
    have e : W F 0 R t = R * t := by unfold W; rw [Int.min_eq_right h1, Int.mul_zero, Int.zero_add, Int.sub_zero]
    rw [e]
    unfold cap
    omega

theorem at_any (F L R t : Int) (w : World) (hF : U F) (hL : U L) (hR : U R) (ht : U t) :
    Calls Try.prog 24 #[.agg #[.int .u64 F, .int .u64 L, .int .u64 R], .int .u64 t] w fun e w' => e = .returned (.int .u64 (cap (W F L R t))) ∧ Below w.heap.size w w' := by
  have h := at_loop F L R t w hF hL hR ht
  rw [acc_W hF hL hR ht] at h
  exact h

end Go.Proofs.Ythmhboagbeibdaa
