/-
  What stays when another run starts a copy; an answer that is known; the law's own 'started'.
-/
import Derived.Test.YtflnlapfomjggaaRunMake
import Derived.Test.YtflnlapfomjggaaActs
namespace Go.Proofs.Ytflnlapfomjggaa
set_option linter.unusedVariables false
open Go.RowKit

section
variable {w w' : World} {r g : Nat} {F L R x : Int} {A : List (Int × Int)}
theorem blk_ne {w : World} {a b t t' : Nat} {cs cs' : Array Value} (h : Blk w a t cs) (h' : Blk w b t' cs') (ht : t ≠ t') : a ≠ b := by
  rintro rfl
  unfold Blk at h h'
  rw [h] at h'
  injection h' with h'
  injection h' with h1 h2
  exact ht h2
theorem RunAt.gblk (h : RunAt w r g F L R x A) : ∃ t cs, Blk w g t cs ∧ t ≠ 180 ∧ t ≠ 95 := by
  rcases h with h | ⟨_, ⟨K, hK⟩, _⟩
  · obtain ⟨h1, h2, hB, _⟩ := h.2.1.blk
    exact ⟨_, _, hB, by decide, by decide⟩
  · obtain ⟨v, hB, _⟩ := hK.at_
    exact ⟨_, _, hB, by decide, by decide⟩
theorem Live.stay2 {K : List (Int × Int)} {g' : Nat} {t : Nat} {cs : Array Value} (h : Live w g F L R x K A) (hg : g' ≠ g) (hB : Blk w g' t cs) (ht : t ≠ 180) (hw : w.grownBy w' (some g')) : Live w' g F L R x K A := by
  obtain ⟨v, hb, hr⟩ := h.at_
  refine ⟨⟨v, hb.grown hw (by simpa using Ne.symm hg), hr.kept hw ?_⟩, h.may, h.le, h.run, h.num, h.x0, h.x1, h.few, h.one⟩
  rcases hr.2 with ⟨hv, _⟩ | ⟨b, cp, cur, hv, _, hblk, _⟩
  · rw [hv]; exact .inl rfl
  · rw [hv]
    refine .inr fun he => ?_
    have : b = g' := by simpa [Value.ownBlock] using he
    exact blk_ne (t := 180) (show Blk w b _ cur from hblk) hB (Ne.symm ht) this
theorem BentAt.stay {g' : Nat} (h : BentAt w g F L R x A) (hg : g' ≠ g) (hw : w.grownBy w' (some g')) : BentAt w' g F L R x A := by
  obtain ⟨⟨h1, h2, hB, h3⟩, r⟩ := h
  exact ⟨⟨h1, h2, hB.grown hw (by simpa using Ne.symm hg), h3⟩, r, ‹_›, ‹_›, ‹_›, ‹_›, ‹_›⟩
/-- another run's copy starts: this one is as it was -/
theorem RunAt.stay {r' g' : Nat} {F' L' R' x' : Int} {A' : List (Int × Int)} (h : RunAt w r g F L R x A) (h' : RunAt w r' g' F' L' R' x' A') (hg : g' ≠ g) (hw : w.grownBy w' (some g')) : RunAt w' r g F L R x A := by
  obtain ⟨t, cs, hB, ht1, ht2⟩ := h'.gblk
  rcases h with ⟨h1, h2, h3⟩ | ⟨h1, ⟨K, h2⟩, h3⟩
  · exact .inl ⟨h1.grown hw (by have := blk_ne hB h1 ht2; simpa using Ne.symm this), h2.stay hg hw, h3⟩
  · exact .inr ⟨h1.grown hw (by have := blk_ne hB h1 ht2; simpa using Ne.symm this), ⟨K, h2.stay2 hg hB ht1 hw⟩, h3⟩
end

theorem Back.is {v : Int → Int} {x y n k : Int} (h : Back v x y n) (hm : ∀ t u, x ≤ t → t ≤ u → v t ≤ v u) (hk : x ≤ k) (hk2 : k < 9223372036854775808) (h1 : y ≤ v k) (h2 : k = x ∨ v (k - 1) < y) : n = k := by
  rcases Int.lt_trichotomy n k with hlt | heq | hgt
  · exfalso
    have h3 := (h.le hm (e := k - 1) (by omega) (by omega)).2
    rcases h2 with h2 | h2
    · have := h.x_le; omega
    · omega
  · exact heq
  · have := h.gt hm hk hgt; omega
theorem vA_max_mono {F L R x : Int} {A : List (Int × Int)} (h : MayC F L R) (hA : ∀ a ∈ A, a.1 ≤ x ∧ 0 ≤ a.2) : ∀ t u, x ≤ t → t ≤ u → (fun t => vA F L R A (max t x)) t ≤ (fun t => vA F L R A (max t x)) u := by
  intro t u ht htu
  exact vA_mono h hA (by omega) (by omega)
theorem vE_max_mono {F L R x : Int} {A : List (Int × Int)} (h : MayC F L R) (hA : ∀ a ∈ A, a.1 ≤ x ∧ 0 ≤ a.2) : ∀ t u, x ≤ t → t ≤ u → (fun t => vE F L R A (max t x)) t ≤ (fun t => vE F L R A (max t x)) u := by
  intro t u ht htu
  exact vE_mono h hA (by omega) (by omega)
theorem u_small {n : Int} (h : 0 ≤ n) (h2 : n ≤ 9223372036854775808) : U n := ⟨h, by omega⟩

set_option maxHeartbeats 1000000 in
theorem started_nil (F L R : Int) (a : Option Addr) (len cap : Nat) (w : World) (hL : 0 ≤ L) (hlen : len ≤ 9223372036854775807) (h : mayB F L R = false) :
    Calls Try.prog 16 #[.agg #[.int .u64 F, .int .u64 L, .int .u64 R], .slice a len cap] w fun e w' => e = .returned (.pointer none) ∧ Below w.heap.size w w' := by
  have hal := (Below.refl w.heap.size w).alloc (Nat.le_refl _) (.cells #[.int .u64 F, .int .u64 L, .int .u64 R] 24)
  have H := Lib.hid h; clear h
  go_enter Try.func16, Try.ntmps16
  go_wp2_with (go_at_call 23; refine (run_new_no F L R _ hL H.out).mono ?_; rintro e w1 ⟨rfl, hb1⟩)
  all_goals
    go_ret
    exact ⟨rfl, hal.trans (hb1.mono hal.size)⟩

set_option maxHeartbeats 1000000 in
theorem started_many (F L R : Int) (a : Option Addr) (len cap : Nat) (w : World) (hF : 0 ≤ F) (hL : 0 ≤ L) (hR : 0 ≤ R) (hlen : len ≤ 9223372036854775807) (h40 : 40 < len) (h1 : mayB F L R = true) :
    Calls Try.prog 16 #[.agg #[.int .u64 F, .int .u64 L, .int .u64 R], .slice a len cap] w fun e w' => e = .returned (.pointer none) ∧ Below w.heap.size w w' := by
  have hal := (Below.refl w.heap.size w).alloc (Nat.le_refl _) (.cells #[.int .u64 F, .int .u64 L, .int .u64 R] 24)
  have H := Lib.hid h1; clear h1
  go_enter Try.func16, Try.ntmps16
  go_wp2_with (go_at_call 23; refine (run_new F L R _ hF hL hR H.out).mono ?_; rintro e w1 ⟨r, g, rfl, hg, hs, hb1⟩)
  all_goals
    go_ret
    exact ⟨rfl, hal.trans (hb1.mono hal.size)⟩

/-- what 'started' tells -/
def Started (w : World) (F L R : Int) (z : List Act4) (e : Ending) (w' : World) : Prop :=
  ∃ r g, e = .returned (.pointer (some ⟨r, 0, none⟩)) ∧ w.heap.size ≤ g ∧ RunAt w' r g F L R (runA z).1 (runA z).2 ∧ Below w.heap.size w w'

set_option maxHeartbeats 1000000 in
theorem started_some (F L R : Int) (a : Option Addr) (len cap : Nat) (z : List Act4) (w : World) (hF : 0 ≤ F) (hL : 0 ≤ L) (hR : 0 ≤ R) (hz : ActsAt w a len z) (h40 : len ≤ 40) (h1 : mayB F L R = true) :
    Calls Try.prog 16 #[.agg #[.int .u64 F, .int .u64 L, .int .u64 R], .slice a len cap] w (Started w F L R z) := by
  have hal := (Below.refl w.heap.size w).alloc (Nat.le_refl _) (.cells #[.int .u64 F, .int .u64 L, .int .u64 R] 24)
  have H := Lib.hid h1
  have HZ := Lib.hid hz; clear h1 hz
  go_enter Try.func16, Try.ntmps16
  go_wp2_with (go_at_call 23; refine (run_new F L R _ hF hL hR H.out).mono ?_; rintro e w1 ⟨r, g, rfl, hg, hs, hb1⟩)
  have hb : Below w.heap.size w w1 := hal.trans (hb1.mono hal.size)
  have hgw : w.heap.size ≤ g := Nat.le_trans hal.size hg
  have HS := Lib.hid hs
  clear hs hb1 hal hg
  go_loopw [6] (fun i W => ∃ (k : Nat), k ≤ len ∧ i = .int .i64 k ∧ RunAt W r g F L R (runA (z.take k)).1 (runA (z.take k)).2 ∧ Below w.heap.size w W) (fun i _ => len - (intOf i).toNat)
  case atStart => exact ⟨0, by omega, rfl, by simpa [runA] using HS.out, hb⟩
  case round =>
    obtain ⟨k, hk, rfl, hlv, hbr⟩ := hrel
    have HL := Lib.hid hlv; clear hlv
    by_cases hlt : k < len
    · obtain ⟨hzl, hzu, hzc⟩ := HZ.out.below hbr
      obtain ⟨b, off, rfl, hbl, hcl⟩ := hzc.resolve_left (by omega)
      obtain ⟨⟨X, Y, T, N⟩, hq⟩ : ∃ q, z[k]? = some q := ⟨_, List.getElem?_eq_getElem (by omega)⟩
      obtain ⟨c0, c1, _, _⟩ := hcl k _ hq
      have hu := hzu _ (List.mem_of_getElem? hq)
      have hsn := runA_snoc hq
      have o0 := fun e => (over_cell (w := wr) (e := e) hbl).trans c0
      have o1 := fun e => (over_cell (w := wr) (e := e) hbl).trans c1
      have HN := Lib.hid hsn
      clear hzl hzu hzc hcl hq c0 c1 hsn
      go_wp2
      refine wp_region_over_tail 11 (by kernel_rfl) (by kernel_rfl) ?_
      simp only [List.take_succ_cons, List.take_zero, List.drop_succ_cons, List.drop_zero]
      repeat (first | go_big_quiet_skip | (go_big_quiet_want; go_big_quiet_op; go_big_quiet_on))
      refine wpQuiet_nil ?_
      rintro W2 ⟨e, he⟩
      have hb22 := over_below wr e
      rw [← he] at hb22
      clear he o0 o1
      have hl2 := HL.out.below hb22
      have HL2 := Lib.hid hl2; clear hl2
      have hfew : (runA (z.take k)).2.length < 900000 := by rw [runA_len, List.length_take]; omega
      go_wp2_with (go_at_call 24; refine (run_start HL2.out X Y _ _ hu.1 hu.2.1 rfl rfl hfew).mono ?_; rintro e w3 ⟨rfl, hl3, hg3⟩)
      have HL3 := Lib.hid hl3; clear hl3
      go_roundw
      case rel =>
        refine ⟨k + 1, by omega, by go_num, ?_, (hbr.trans (hb22.mono hbr.size)).grown hg3 (Nat.le_trans hbr.size hb22.size) (fun j hj => by injection hj with hj; omega)⟩
        rw [HN.out]
        exact HL3.out
      case measure => simp [intOf]; omega
    · obtain rfl : k = len := by omega
      go_wp2
      go_ret
      have hzl := HZ.out.1
      have h := HL.out
      rw [List.take_of_length_le (by omega)] at h
      exact ⟨r, g, rfl, hgw, h, hbr⟩

end Go.Proofs.Ytflnlapfomjggaa
