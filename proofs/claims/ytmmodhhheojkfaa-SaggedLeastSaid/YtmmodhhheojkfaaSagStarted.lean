/-
  sagged.New where there is no run; the law's own 'started': a run behind starts.
-/
import Derived.Test.YtmmodhhheojkfaaSagLive
import Derived.Test.YtmmodhhheojkfaaActs
namespace Go.Proofs.Ytmmodhhheojkfaa
open Go.RowKit

set_option maxHeartbeats 1000000 in
theorem snew_no (F L R : Int) (w : World) (hL : 0 ≤ L) (h : mayB F L R = false ∨ (mayB F L R = true ∧ R < F)) :
    Calls Try.prog 42 #[.agg #[.int .u64 F, .int .u64 L, .int .u64 R]] w fun e w' =>
      e = .returned (.tuple #[.pointer none, .int .i64 30]) ∧ Below w.heap.size w w' := by
  have hal := (Below.refl w.heap.size w).alloc (Nat.le_refl _) (.cells #[.int .u64 F, .int .u64 L, .int .u64 R] 30)
  have nb := Blk.new w 30 #[.int .u64 F, .int .u64 L, .int .u64 R]
  have nl := nb.lt
  have HN := Lib.hid nb
  clear nb
  rcases h with h1 | ⟨h1, h2⟩
  · go_enter Try.func42, Try.ntmps42
    go_wp2_with (go_at_call 95; refine (may_any F L R _ hL).mono ?_; rintro e w1 ⟨rfl, hb1⟩)
    go_ret2
    exact ⟨rfl, hal.trans (hb1.mono hal.size)⟩
  · have hd : decide (R < F) = true := by simp; omega
    go_enter Try.func42, Try.ntmps42
    go_wp2_with (first
      | (go_at_call 95; refine (may_any F L R _ hL).mono ?_; rintro e w1 ⟨rfl, hb1⟩; have n1 := HN.out.below hb1 nl; have a0 := n1.cell 0; have a1 := n1.cell 1; have a2 := n1.cell 2; simp only [List.getElem?_toArray, List.getElem?_cons_zero, List.getElem?_cons_succ] at a0 a1 a2)
      | (go_at_call 96; refine (bent_any F L R _).mono ?_; rintro e w2 ⟨rfl, hb2⟩))
    go_ret2
    exact ⟨rfl, (hal.trans (hb1.mono hal.size)).trans (hb2.mono (Nat.le_trans hal.size hb1.size))⟩

set_option maxHeartbeats 1000000 in
theorem started_nil (F L R : Int) (a : Option Addr) (len cap : Nat) (w : World) (hL : 0 ≤ L) (hlen : len ≤ 9223372036854775807) (h : mayB F L R = false ∨ (mayB F L R = true ∧ R < F)) :
    Calls Try.prog 34 #[.agg #[.int .u64 F, .int .u64 L, .int .u64 R], .slice a len cap] w fun e w' => e = .returned (.pointer none) ∧ Below w.heap.size w w' := by
  have hal := (Below.refl w.heap.size w).alloc (Nat.le_refl _) (.cells #[.int .u64 F, .int .u64 L, .int .u64 R] 30)
  have H := Lib.hid h; clear h
  go_enter Try.func34, Try.ntmps34
  go_wp2_with (go_at_call 42; refine (snew_no F L R _ hL H.out).mono ?_; rintro e w1 ⟨rfl, hb1⟩)
  all_goals
    go_ret
    exact ⟨rfl, hal.trans (hb1.mono hal.size)⟩

set_option maxHeartbeats 1000000 in
theorem started_many (F L R : Int) (a : Option Addr) (len cap : Nat) (w : World) (hF : 0 ≤ F) (hL : 0 ≤ L) (hR : 0 ≤ R) (hlen : len ≤ 9223372036854775807) (h40 : 40 < len) (h1 : mayB F L R = true) (h2 : F ≤ R) :
    Calls Try.prog 34 #[.agg #[.int .u64 F, .int .u64 L, .int .u64 R], .slice a len cap] w fun e w' => e = .returned (.pointer none) ∧ Below w.heap.size w w' := by
  have hal := (Below.refl w.heap.size w).alloc (Nat.le_refl _) (.cells #[.int .u64 F, .int .u64 L, .int .u64 R] 30)
  have H := Lib.hid h1; clear h1
  go_enter Try.func34, Try.ntmps34
  go_wp2_with (go_at_call 42; refine (live_new _ hF hL hR H.out h2).mono ?_; rintro e w1 ⟨g, rfl, hg, hs, hb1⟩)
  all_goals
    go_ret
    exact ⟨rfl, hal.trans (hb1.mono hal.size)⟩

/-- what 'started' tells -/
def Started (w : World) (F L R : Int) (z : List Act4) (e : Ending) (w' : World) : Prop :=
  ∃ g K, e = .returned (.pointer (some ⟨g, 0, none⟩)) ∧ w.heap.size ≤ g ∧ Live w' g F L R (runA z).1 K (runA z).2 ∧ Below w.heap.size w w'

set_option maxHeartbeats 1000000 in
theorem started_some (F L R : Int) (a : Option Addr) (len cap : Nat) (z : List Act4) (w : World) (hF : 0 ≤ F) (hL : 0 ≤ L) (hR : 0 ≤ R) (hz : ActsAt w a len z) (h40 : len ≤ 40) (h1 : mayB F L R = true) (h2 : F ≤ R) :
    Calls Try.prog 34 #[.agg #[.int .u64 F, .int .u64 L, .int .u64 R], .slice a len cap] w (Started w F L R z) := by
  have hal := (Below.refl w.heap.size w).alloc (Nat.le_refl _) (.cells #[.int .u64 F, .int .u64 L, .int .u64 R] 30)
  have H := Lib.hid h1
  have HZ := Lib.hid hz; clear h1 hz
  go_enter Try.func34, Try.ntmps34
  go_wp2_with (go_at_call 42; refine (live_new _ hF hL hR H.out h2).mono ?_; rintro e w1 ⟨g, rfl, hg, hs, hb1⟩)
  have hb : Below w.heap.size w w1 := hal.trans (hb1.mono hal.size)
  have hgw : w.heap.size ≤ g := Nat.le_trans hal.size hg
  have HS := Lib.hid hs
  clear hs hb1 hal hg
  go_loopw [7] (fun i W => ∃ (k : Nat) (K : List (Int × Int)), k ≤ len ∧ i = .int .i64 k ∧ Live W g F L R (runA (z.take k)).1 K (runA (z.take k)).2 ∧ Below w.heap.size w W) (fun i _ => len - (intOf i).toNat)
  case atStart => exact ⟨0, [], by omega, rfl, by simpa [runA] using HS.out, hb⟩
  case round =>
    obtain ⟨k, K, hk, rfl, hlv, hbr⟩ := hrel
    have HL := Lib.hid hlv; clear hlv
    by_cases hlt : k < len
    · obtain ⟨hzl, hzu, hzc⟩ := HZ.out.below hbr
      obtain ⟨b, off, rfl, hbl, hcl⟩ := hzc.resolve_left (by omega)
      obtain ⟨⟨X, Y, T, N⟩, hq⟩ : ∃ q, z[k]? = some q := ⟨_, List.getElem?_eq_getElem (by omega)⟩
      obtain ⟨c0, c1, _, _⟩ := hcl k _ hq
      have hu := hzu _ (List.mem_of_getElem? hq)
      have hsn := runA_snoc hq
      have o0 := fun e => (over_cell (w := wr) (e := e) hbl).trans c0
      have o1 := fun e => (over_cell (w := wr) (e := e) hbl).trans c1
      have HN := Lib.hid hsn
      clear hzl hzu hzc hcl hq c0 c1 hsn
      go_wp2
      refine wp_region_over_tail 11 (by kernel_rfl) (by kernel_rfl) ?_
      simp only [List.take_succ_cons, List.take_zero, List.drop_succ_cons, List.drop_zero]
      repeat (first | go_big_quiet_skip | (go_big_quiet_want; go_big_quiet_op; go_big_quiet_on))
      refine wpQuiet_nil ?_
      rintro W2 ⟨e, he⟩
      have hb22 := over_below wr e
      rw [← he] at hb22
      clear he o0 o1
      have hl2 := HL.out.below hb22
      have HL2 := Lib.hid hl2; clear hl2
      have hfew : (runA (z.take k)).2.length < 900000 := by rw [runA_len, List.length_take]; omega
      go_wp2_with (go_at_call 17; refine (live_start HL2.out X Y _ _ hu.1 hu.2.1 rfl rfl hfew).mono ?_; rintro e w3 ⟨rfl, hl3, hg3⟩)
      have HL3 := Lib.hid hl3; clear hl3
      go_roundw
      case rel =>
        refine ⟨k + 1, ?K0, by omega, by go_num, ?hl, (hbr.trans (hb22.mono hbr.size)).grown hg3 (Nat.le_trans hbr.size hb22.size) (fun j hj => by injection hj with hj; omega)⟩
        case hl =>
          rw [HN.out]
          exact HL3.out
      case measure => simp [intOf]; omega
    · obtain rfl : k = len := by omega
      go_wp2
      go_ret
      have hzl := HZ.out.1
      have h := HL.out
      rw [List.take_of_length_le (by omega)] at h
      exact ⟨g, K, rfl, hgw, h, hbr⟩

end Go.Proofs.Ytmmodhhheojkfaa
