/-
  slices.Sort of words: heap sort.
-/
import Derived.Test.YtclhhegfffccgaaGreatSortW
namespace Go.Proofs.YtclhhegfffccgaaGreat
set_option linter.unusedVariables false
open Go.RowKit Go.Sort

theorem sift_size {lt : Int → Int → Bool} {hi first : Nat} : ∀ (m root : Nat) (d : Array Int), hi - root ≤ m → (Sort.siftDown lt hi first root d).size = d.size := by
  intro m
  induction m with
  | zero => intro root d h; rw [sift_stop (by omega)]
  | succ m ih =>
    intro root d h
    by_cases h1 : 2 * root + 1 < hi
    · obtain ⟨c, hc⟩ : ∃ c, childOf lt hi first root d = c := ⟨_, rfl⟩
      have hcr : root < c := by unfold childOf at hc; split at hc <;> omega
      cases hl : lt d[first + root]! d[first + c]!
      · rw [sift_no h1 hc hl]
      · rw [sift_go h1 hc hl, ih _ _ (by omega), size_swp]
    · rw [sift_stop (by omega)]

set_option maxHeartbeats 4000000 in
theorem heapW (g cap a b : Nat) (d : Array Int) (w : World) (h : RowW w g d) (hab : a < b) (hb : b ≤ d.size) (hsz : d.size ≤ 1000000) :
    Calls Tryz.prog 119 #[.slice (some ⟨g, 0, none⟩) d.size cap, .int .i64 a, .int .i64 b] w (DoneW w g (Sort.heapSort ltInt d a b)) := by
  have H := Lib.hid h
  clear h
  obtain ⟨n, hn⟩ : ∃ n, n = d.size := ⟨_, rfl⟩
  rw [← hn] at hb hsz ⊢
  have hsift : ∀ (k : Array Int) (lo hi : Nat) (W : World), RowW W g k → k.size = n → a + hi ≤ n → lo ≤ 1000000 → Calls Tryz.prog 127 #[.slice (some ⟨g, 0, none⟩) n cap, .int .i64 lo, .int .i64 hi, .int .i64 a] W (DoneW W g (Sort.siftDown ltInt hi a lo k)) := fun k lo hi W h hk hb hlo => by
    have := siftW g cap lo hi a k W h (by omega) hlo (by omega)
    rwa [hk] at this
  have HS := Lib.hid hsift
  clear hsift
  obtain ⟨q, hq⟩ : ∃ q, q = b - a := ⟨_, rfl⟩
  have HN := Lib.hid hn
  have e1 : (b : Int) - (a : Int) = (q : Int) := by omega
  have q1 : 1 ≤ q := by omega
  have q2 : q ≤ 1000000 := by omega
  have q3 : a + q ≤ n := by omega
  have HE1 := Lib.hid e1
  have hp : heapPop ltInt a q (heapBuild ltInt q a ((q - 1) / 2 + 1) d) = Sort.heapSort ltInt d a b := by rw [Sort.heapSort, ← hq]
  have HP := Lib.hid hp
  clear hn hq e1 hp
  go_enter Tryz.func119, Tryz.ntmps119
  go_wp2
  simp only [HE1.out]
  go_loopw [9] (fun vi W => ∃ (r : Nat) (k : Array Int), vi = .int .i64 ((r : Int) - 1) ∧ r ≤ 1000000 ∧ k.size = n ∧ RowW W g k ∧ w.grownBy W (some g) ∧ heapPop ltInt a q (heapBuild ltInt q a r k) = Sort.heapSort ltInt d a b) (fun vi _ => (intOf vi + 1).toNat)
  case atStart => exact ⟨(q - 1) / 2 + 1, d, by go_num, by omega, HN.out.symm, H.out, World.grownBy.refl _ _, HP.out⟩
  case round =>
    obtain ⟨r, k, rfl, hr, hk, hR, hG, hE⟩ := hrel
    by_cases hlt : 1 ≤ r
    · obtain ⟨s, rfl⟩ : ∃ s, r = s + 1 := ⟨r - 1, by omega⟩
      have hcall := HS.out k s q wr hR hk (by omega) (by omega)
      have hz := sift_size (lt := ltInt) (hi := q) (first := a) _ s k (Nat.le_refl _)
      rw [hk] at hz
      rw [heapBuild] at hE
      have e2 : ((s + 1 : Nat) : Int) - 1 = (s : Int) := by omega
      rw [e2]
      have HG := Lib.hid hG; have HE := Lib.hid hE; have HZ := Lib.hid hz
      clear hR hG hE hk hz e2
      go_wp2_with fail
      refine hcall.mono ?_
      rintro e w1 ⟨rfl, hR1, hG1⟩
      have HR1 := Lib.hid hR1; have HG1 := Lib.hid (HG.out.trans hG1)
      clear hR1 hG1 hcall
      go_wp2
      go_roundw
      case measure => (simp [intOf]; try omega)
      case rel => exact ⟨s, _, by go_num, by omega, HZ.out, HR1.out, HG1.out, HE.out⟩
    · obtain rfl : r = 0 := by omega
      rw [heapBuild] at hE
      rw [show (((0 : Nat) : Int) - 1) = -1 from rfl]
      have HR := Lib.hid hR; have HG := Lib.hid hG; have HE := Lib.hid hE; have HK := Lib.hid hk
      clear hR hG hE hk H HN HP
      go_wp2
      go_loopw [10] (fun vi W => ∃ (r : Nat) (k : Array Int), vi = .int .i64 ((r : Int) - 1) ∧ r ≤ q ∧ k.size = n ∧ RowW W g k ∧ w.grownBy W (some g) ∧ heapPop ltInt a r k = Sort.heapSort ltInt d a b) (fun vi _ => (intOf vi + 1).toNat)
      case atStart => exact ⟨q, k, rfl, by omega, HK.out, HR.out, HG.out, HE.out⟩
      case round =>
        obtain ⟨r, k, rfl, hr, hk, hR, hG, hE⟩ := hrel
        by_cases hlt : 1 ≤ r
        · obtain ⟨s, rfl⟩ : ∃ s, r = s + 1 := ⟨r - 1, by omega⟩
          have c1 := hR.cell (i := a) (by omega); have c2 := hR.cell (i := a + s) (by omega)
          have z1 := hR.frozen (i := a) (by omega); have z2 := hR.frozen (i := a + s) (by omega)
          rw [heapPop] at hE
          have e2 : ((s + 1 : Nat) : Int) - 1 = (s : Int) := by omega
          rw [e2]
          have hS : ∀ W : World, RowW W g k → RowW ((W.setCell ⟨g, a, none⟩ (.int .u64 k[a + s]!)).setCell ⟨g, a + s, none⟩ (.int .u64 k[a]!)) g (swp k a (a + s)) := fun W h => h.swap (by omega) (by omega)
          have hz1 : (swp k a (a + s)).size = n := by rw [size_swp, hk]
          have hz := sift_size (lt := ltInt) (hi := s) (first := a) _ 0 (swp k a (a + s)) (Nat.le_refl _)
          rw [hz1] at hz
          have HR := Lib.hid hR; have HG := Lib.hid hG; have HE := Lib.hid hE; have HSW := Lib.hid hS; have HZ1 := Lib.hid hz1; have HZ := Lib.hid hz
          clear hR hG hE hk e2 hS hz1 hz HK
          obtain ⟨v2, y2⟩ := cell?_setCell_some (w := wr) (p := ⟨g, a, none⟩) (x := .int .u64 k[a + s]!) (q := ⟨g, a + s, none⟩) c2
          go_wp2
          go_region
          have hrow := (HSW.out _ HR.out).drew
          have hgr := (HG.out.trans (grown_swap wr g a (a + s) (.int .u64 k[a + s]!) (.int .u64 k[a]!))).trans (grown_drew _ _)
          obtain ⟨W2, hW2⟩ : ∃ W2, ((wr.setCell ⟨g, a, none⟩ (.int .u64 k[a + s]!)).setCell ⟨g, a + s, none⟩ (.int .u64 k[a]!)).drew = W2 := ⟨_, rfl⟩
          rw [hW2] at hrow hgr ⊢
          clear hW2 c1 c2 z1 z2
          have hcall := HS.out _ 0 s W2 hrow HZ1.out (by omega) (by omega)
          have HGR := Lib.hid hgr
          clear hrow hgr
          go_wp2_with fail
          refine hcall.mono ?_
          rintro e w1 ⟨rfl, hR1, hG1⟩
          have HR1 := Lib.hid hR1; have HG1 := Lib.hid (HGR.out.trans hG1)
          clear hR1 hG1 hcall
          go_wp2
          go_roundw
          case measure => (simp [intOf]; try omega)
          case rel => exact ⟨s, _, by go_num, by omega, HZ.out, HR1.out, HG1.out, HE.out⟩
        · obtain rfl : r = 0 := by omega
          rw [heapPop] at hE
          have HR := Lib.hid hR; have HG := Lib.hid hG; have HE := Lib.hid hE
          clear hR hG hE hk
          go_wp2
          go_returns
          exact ⟨rfl, by rw [← HE.out]; exact HR.out, HG.out⟩
end Go.Proofs.YtclhhegfffccgaaGreat
