/-
  The law UpperBelow: an inner class fits at a tick just if it does itself, and somebody below it does; its walk.
-/
import Derived.Test.YtflnlapfomjggaaUpAwake
import Derived.Test.YtflnlapfomjggaaSagMem
import Derived.Deep.AppendLies
import Derived.Laws.AppendOwnNone
import Derived.WalkSmall
namespace Go.Proofs.Ytflnlapfomjggaa
set_option linter.unusedVariables false
open Go.RowKit

theorem u64_info : (Try.prog.info? 22).map (fun i => (i.zero, i.size, i.bytes)) = some (some (.int .u64 0), 1, 8) := by kernel_rfl

def IsRow (k : IntKind) (w : World) (a : Option Addr) (len cap : Nat) (zs : List Int) : Prop :=
  (a = none ∧ len = 0 ∧ cap = 0 ∧ zs = []) ∨
  ∃ x, a = some x ∧ len ≤ cap ∧ cap ≤ maxLen ∧ zs.length = cap ∧ (∀ i, i < zs.length → w.cell? (x.add i) = some (.int k (zs.getD i 0))) ∧ ∀ n ∈ zs, (Lit.int k n).wf = true

theorem own_some {w : World} {base : Nat} {e : TypeId} {size : Nat} {v : Value} {n : Nat} {xs : List Value} (h : w.ownsRow base e size v n xs) (hn : 1 ≤ n) :
    ∃ g c, v = .slice (some ⟨g, 0, none⟩) n c ∧ base ≤ g := by
  rcases h.2 with ⟨_, rfl⟩ | ⟨g, cap, cur, rfl, hb, _⟩
  · omega
  · exact ⟨g, cap, rfl, hb⟩
theorem ints_one (k : IntKind) (l : List Int) : ∀ u ∈ l.map (Value.int k), u.oneCell' = true := by
  intro u hu
  obtain ⟨_, _, rfl⟩ := List.mem_map.1 hu
  rfl
theorem cells_add {w : World} {b off : Nat} {k : IntKind} {zs : List Int} {m : Nat} (hm : m ≤ zs.length)
    (hc : ∀ j, j < zs.length → w.cell? ⟨b, off + j, none⟩ = some (.int k (zs.getD j 0))) :
    ∀ j u, ((zs.take m).map (Value.int k))[j]? = some u → w.cell? ((⟨b, off, none⟩ : Addr).add j) = some u := by
  intro j u h
  rw [List.getElem?_map, List.getElem?_take] at h
  split at h
  · rename_i hj
    rw [List.getElem?_eq_getElem (by omega)] at h
    simp at h
    subst h
    have := hc j (by omega)
    rw [Go.WideShapes.add_plain]
    simpa [List.getD, List.getElem?_eq_getElem (show j < zs.length by omega)] using this
  · simp at h
theorem own_cells {w : World} {base g : Nat} {e : TypeId} {k : IntKind} {n c : Nat} {zs : List Int} (h : w.ownsRow base e 1 (.slice (some ⟨g, 0, none⟩) n c) n (zs.map (Value.int k))) (hz : n = zs.length) :
    ∀ j, j < n → w.cell? ⟨g, 0 + j, none⟩ = some (.int k (zs.getD j 0)) := by
  intro j hj
  rw [Nat.zero_add, h.cellAt j (by omega), List.getElem?_map, List.getElem?_eq_getElem (by omega)]
  simp [List.getD, List.getElem?_eq_getElem (show j < zs.length by omega)]

/-- is one of the first k at most t? -/
def anyLE (zs : List Int) (t : Int) : Nat → Bool
  | 0 => false
  | k + 1 => anyLE zs t k || decide (zs.getD k 0 ≤ t)
theorem min_any_le (p q t : Int) : decide (min p q ≤ t) = (decide (p ≤ t) || decide (q ≤ t)) := by
  by_cases h1 : p ≤ t
  · by_cases h2 : q ≤ t <;> simp [h1, h2] <;> omega
  · by_cases h2 : q ≤ t <;> simp [h1, h2] <;> omega
theorem least_any (zs : List Int) (t : Int) : ∀ k, decide (leastTo zs k ≤ t) = anyLE zs t (k + 1)
  | 0 => by
    rw [anyLE, anyLE, Bool.false_or, leastTo, List.getD]
  | k + 1 => by
    rw [anyLE, ← least_any zs t k, leastTo, min_any_le, List.getD]
theorem leastTo_congr {zs ys : List Int} : ∀ n, (∀ j, j ≤ n → zs[j]?.getD 0 = ys[j]?.getD 0) → leastTo zs n = leastTo ys n
  | 0, h => h 0 (Nat.le_refl _)
  | n + 1, h => by rw [leastTo, leastTo, leastTo_congr n (fun j hj => h j (by omega)), h (n + 1) (Nat.le_refl _)]
theorem fits_law {zs : List Int} {o t ft : Int} {len : Nat} (h1 : 1 ≤ len) (hft : max o (leastTo zs (len - 1)) = ft) : decide (ft ≤ t) = (decide (o ≤ t) && anyLE zs t len) := by
  have h := least_any zs t (len - 1)
  rw [show len - 1 + 1 = len by omega] at h
  rw [← h, ← hft]
  generalize leastTo zs (len - 1) = p
  by_cases h2 : o ≤ t
  · by_cases h3 : p ≤ t <;> simp [h2, h3] <;> omega
  · by_cases h3 : p ≤ t <;> simp [h2, h3] <;> omega
theorem more_law {zs : List Int} {o more ft : Int} {len : Nat} (h1 : 1 ≤ len) (hz : len ≤ zs.length) (hft : max o (leastTo zs (len - 1)) = ft) : max o (leastTo (zs.take len ++ [more]) (len + 1 - 1)) ≤ ft := by
  have h2 : leastTo (zs.take len ++ [more]) (len - 1) = leastTo zs (len - 1) := by
    refine leastTo_congr _ fun j hj => ?_
    rw [List.getElem?_append_left (by rw [List.length_take]; omega), List.getElem?_take, if_pos (by omega)]
  obtain ⟨m, rfl⟩ : ∃ m, len = m + 1 := ⟨len - 1, by omega⟩
  rw [show m + 1 + 1 - 1 = m + 1 by omega, leastTo]
  rw [show m + 1 - 1 = m by omega] at h2 hft
  rw [h2]
  generalize leastTo zs m = p at *
  omega

section
variable {P : Program} {ops : Array Oper} {rest : List Oper} {o : Oper} {a : Act} {Q : Exit → Act → World → Prop} {w : World}
theorem wpList_guarded (hw : Region.wanted o (yielded ops a.tmps) = true)
    (h : ∀ K : Act → World → Prop, (∀ a w, wpList P ops Q rest a w → K a w) → o.wp P a w K Q) : wpList P ops Q (o :: rest) a w :=
  wpList_step fun K hK => by simp only [hw, if_true]; exact h K hK
theorem wpList_append_own_g (hw : Region.wanted o (yielded ops a.tmps) = true) (s x : Operand) (t : TypeId)
    (ho : o.op = .call { callee := .builtin .append, args := #[s, x], argTypes := #[t, t] })
    (base : Nat) (e : TypeId) (i : TypeInfo) (z : Value) (size bytes : Nat) (ht : P.underlying t = some (.slice e)) (hi : P.info? e = some i) (hz : i.zero = some z)
    (hsize : i.size = size) (hby : i.bytes = bytes) (hzs : z.cells.size = size) (hsz : 0 < size)
    (v : Value) (n : Nat) (xs : List Value) (hs : a.eval s = v) (hown : w.ownsRow base e size v n xs)
    (ad : Addr) (m c : Nat) (news : List Value) (hx : a.eval x = .slice (some ad) m c) (hl : news.length = m * size) (hnews : ∀ j u, news[j]? = some u → w.cell? (ad.add j) = some u) (h1 : ∀ u ∈ news, u.oneCell' = true)
    (h63 : n + m ≤ maxLen) (hbytes : (n + m) * bytes ≤ 140737488355328) (hbase : base ≤ w.heap.size)
    (h : ∀ v' w', w'.ownsRow base e size v' (n + m) (xs ++ news) → w.grownBy w' v.ownBlock → (v' = .slice none 0 0 ↔ v = .slice none 0 0 ∧ m = 0) → wpList P ops Q rest (a.put o.dst v') w') : wpList P ops Q (o :: rest) a w :=
  wpList_guarded hw fun _ hK => wp_append_own w s x t ho base e i z size bytes ht hi hz hsize hby hzs hsz v n xs hs hown ad m c news hx hl hnews h1 h63 hbytes hbase fun v' w' h2 h3 h4 => hK _ _ (h v' w' h2 h3 h4)
end

theorem below_long (o t more : Int) (a : Option Addr) (len cap : Nat) (w : World) (h : 100 < len) (hb : len ≤ 9223372036854775807) :
    Calls Try.prog 9 #[.int .u64 o, .slice a len cap, .int .u64 t, .int .u64 more] w fun e w' => e = .returned (.bool true) ∧ Below w.heap.size w w' := by
  go_enter Try.func9, Try.ntmps9
  go_wp2_with (go_at_call 28; refine (up_awake _).mono ?_; rintro e' w1 ⟨rfl, hb1⟩)
  go_ret
  exact ⟨rfl, hb1⟩

theorem below_none (o t more : Int) (a : Option Addr) (cap : Nat) (w : World) :
    Calls Try.prog 9 #[.int .u64 o, .slice a 0 cap, .int .u64 t, .int .u64 more] w fun e w' => e = .returned (.bool true) ∧ Below w.heap.size w w' := by
  go_enter Try.func9, Try.ntmps9
  go_wp2_with (first
    | (go_at_call 28; refine (up_awake _).mono ?_; rintro e' w1 ⟨rfl, hb1⟩)
    | (go_at_call 35; refine (inner_none _ _ _ _).mono ?_; rintro e w' ⟨rfl, rfl⟩))
  refine wp_loop_rounds 1 ?_
  rw [rounds_succ]
  go_wp2
  go_ret
  exact ⟨rfl, hb1⟩

set_option maxRecDepth 100000 in
theorem below_some (o t more : Int) (b off len cap : Nat) (zs : List Int) (w : World) (h1 : 1 ≤ len) (h100 : len ≤ 100) (hz : len ≤ zs.length) (hb : b < w.heap.size)
    (hc : ∀ j, j < zs.length → w.cell? ⟨b, off + j, none⟩ = some (.int .u64 (zs.getD j 0))) :
    Calls Try.prog 9 #[.int .u64 o, .slice (some ⟨b, off, none⟩) len cap, .int .u64 t, .int .u64 more] w fun e w' => e = .returned (.bool true) ∧ Below w.heap.size w w' := by
  obtain ⟨i0, hi, hz0, hz1, hz2⟩ := info_parts u64_info
  have HC := Lib.hid hc
  clear hc
  obtain ⟨ft, hft⟩ : ∃ ft, max o (leastTo zs (len - 1)) = ft := ⟨_, rfl⟩
  have hml := more_law (more := more) h1 hz hft
  obtain ⟨f2, hf2⟩ : ∃ q, max o (leastTo (zs.take len ++ [more]) (len + 1 - 1)) = q := ⟨_, rfl⟩
  rw [hf2] at hml
  have hfl := fits_law (t := t) h1 hft
  have hlen : (zs.take len ++ [more]).length = len + 1 := by simp; omega
  have HF := Lib.hid hft; have HG2 := Lib.hid hf2
  clear hft hf2
  go_enter Try.func9, Try.ntmps9
  go_wp2_with (first
    | (go_at_call 28; refine (up_awake _).mono ?_; rintro e' w1 ⟨rfl, hb1⟩; have HC1 := Lib.hid (fun j hj => (hb1.cell (p := ⟨b, off + j, none⟩) hb).trans (HC.out j hj)))
    | (go_at_call 35; refine (inner_some _ _ _ _ _ zs _ h1 (by omega) (fun j hj => HC1.out j (by omega))).mono ?_; rintro e w' ⟨rfl, rfl⟩; rw [HF.out]))
  go_loop [10, 11] (fun sm i => ∃ k : Nat, k ≤ len ∧ i = .int .i64 k ∧ sm = .bool (anyLE zs t k)) (fun _ i => len - (intOf i).toNat)
  case atStart => exact ⟨0, by omega, rfl, rfl⟩
  case round =>
    obtain ⟨k, hk, rfl, rfl⟩ := hrel
    by_cases hlt : k < len
    · have hc1 := HC1.out k (by omega)
      have hk1 : (k : Int) < (len : Int) := by omega
      obtain ⟨sm, hsm⟩ : ∃ sm, anyLE zs t k = sm := ⟨_, rfl⟩
      have hs1 : anyLE zs t (k + 1) = (sm || decide (zs.getD k 0 ≤ t)) := by rw [anyLE, hsm]
      rw [hsm]
      rcases sm with _ | _
      · go_wp2
        go_round
        case rel => exact ⟨k + 1, by omega, by go_num, by rw [hs1]; rfl⟩
        case measure => simp [intOf]; omega
      · go_wp2
        go_round
        case rel => exact ⟨k + 1, by omega, by go_num, by rw [hs1]; rfl⟩
        case measure => simp [intOf]; omega
    · obtain rfl : k = len := by omega
      obtain ⟨sm, hsm⟩ : ∃ sm, anyLE zs t k = sm := ⟨_, rfl⟩
      rw [hsm] at hfl ⊢
      have hkk : ((k : Int) == 0) = false := by simp; omega
      have HZERO := Lib.hid (show True from trivial)
      have hbw := Nat.lt_of_lt_of_le hb hb1.size
      go_wp2_with (first
        | (at_builtin
           have hz5 := HZERO.out
           refine wpList_append_own_g (by rfl) (.tmp 52) (.tmp 53) 53 rfl w1.heap.size 22 i0 (.int .u64 0) 1 8 Try.underlying53 hi hz0 hz1 hz2 rfl (by decide) _ 0 [] rfl (World.ownsRow_lit w1 #[] 0 (Nat.le_refl _) (by decide) rfl) ⟨b, off, none⟩ k cap ((zs.take k).map (Value.int .u64)) rfl (by simp; omega) (cells_add hz (fun j hj => (((Below.refl w1.heap.size w1).alloc (Nat.le_refl _) _).cell (p := ⟨b, off + j, none⟩) hbw).trans (HC1.out j hj))) (ints_one _ _) (by unfold maxLen; omega) (by omega) (by simp) ?_
           intro v' w2 hown hgrow _
           simp only [Nat.zero_add, List.nil_append] at hown
           obtain ⟨g, c', rfl, hg⟩ := own_some hown h1
           have hbel1 : Below w1.heap.size w1 w2 := ((Below.refl _ _).alloc (Nat.le_refl _) _).grown hgrow (by simp) (by intro k hk; cases hk; exact Nat.le_refl _)
           have HO := Lib.hid hown
           clear hown hgrow hz5 HZERO)
        | (at_builtin
           refine wpList_append_own_g (by rfl) (.tmp 54) (.tmp 56) 53 rfl w1.heap.size 22 i0 (.int .u64 0) 1 8 Try.underlying53 hi hz0 hz1 hz2 rfl (by decide) _ k ((zs.take k).map (Value.int .u64)) rfl (HO.out.kept (Below.grownNone ((Below.refl w2.heap.size w2).alloc (Nat.le_refl _) (.cells #[.int .u64 more] 22))) (Classical.em _)) ⟨w2.heap.size, 0, none⟩ 1 1 [.int .u64 more] rfl rfl (World.news_of_block (Blk.new w2 22 #[.int .u64 more])) (by simp [Value.oneCell']) (by unfold maxLen; omega) (by omega) (by have := hbel1.size; simp; omega) ?_
           intro v2 w3 hown2 hgrow2 _
           obtain ⟨g2, c2, rfl, hg2⟩ := own_some hown2 (by omega)
           have hbel2 : Below w1.heap.size w1 w3 := (hbel1.alloc hbel1.size (.cells #[.int .u64 more] 22)).grown hgrow2 (by have := hbel1.size; simp; omega) (by intro k hk; cases hk; exact hg)
           have HG := Lib.hid (own_cells (zs := zs.take k ++ [more]) (by simpa using hown2) (by simp; omega))
           clear hown2 hgrow2)
        | (go_at_call 35; refine (inner_some _ _ _ _ _ (zs.take k ++ [more]) _ (by omega) (by omega) HG.out).mono ?_; rintro e w' ⟨rfl, rfl⟩; rw [HG2.out]))
      all_goals
        go_ret
        refine ⟨?_, hb1.trans (hbel2.mono hb1.size)⟩
        simp
        try omega

end Go.Proofs.Ytflnlapfomjggaa
