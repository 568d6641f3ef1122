/-
  The document's copies: when the last one started; the numbers of copies.
-/
import Derived.Test.YtipiajnaechadaaRefMem
namespace Go.Proofs.Ytipiajnaechadaa
set_option linter.unusedVariables false
open Go.RowKit

/-- when the last copy started; 0: none did -/
def lastX (A : List (Int × Int)) : Int := match A.getLast? with | none => 0 | some k => k.1
theorem lastX_nil : lastX [] = 0 := rfl
theorem lastX_snoc (A : List (Int × Int)) (k : Int × Int) : lastX (A ++ [k]) = k.1 := by simp [lastX]
theorem RowU.shape {w : World} {base : Nat} {v : Value} {xs : List Int} (h : RowU w base v xs) : ∃ a cap, v = .slice a xs.length cap := by
  rcases h.2 with ⟨rfl, h0⟩ | ⟨b, cap, cur, hv, _⟩
  · exact ⟨none, 0, by rw [h0]⟩
  · exact ⟨_, _, hv⟩
/-- the numbers of copies that started, the last one at x -/
structure Nums (x : Int) (A : List (Int × Int)) : Prop where
  last : lastX A = x
  num : ∀ a ∈ A, 0 ≤ a.1 ∧ a.1 ≤ x ∧ 0 ≤ a.2 ∧ a.2 ≤ 4611686018427387904
  x0 : 0 ≤ x
  x1 : x ≤ 9223372036854775808
  few : A.length ≤ 900000
theorem Nums.nil : Nums 0 [] := ⟨rfl, by intro a ha; simp at ha, by omega, by omega, by simp⟩
theorem Nums.start {x : Int} {A : List (Int × Int)} (h : Nums x A) (t y X Y : Int) (ht : U t) (hy : U y) (hX : X = max (min t 9223372036854775808) x) (hY : Y = min y 4611686018427387904) (hfew : A.length < 900000) : Nums X (A ++ [(X, Y)]) := by
  have h0 := h.x0; have h1 := h.x1; have hy0 := hy.1
  refine ⟨lastX_snoc _ _, fun a ha => ?_, by omega, by omega, by simp; omega⟩
  rcases List.mem_append.1 ha with ha | ha
  · have := h.num a ha; omega
  · obtain rfl : a = (X, Y) := by simpa using ha
    exact ⟨by simp only; omega, by simp only; omega, by simp only; omega, by simp only; omega⟩
theorem Nums.low {x : Int} {A : List (Int × Int)} (h : Nums x A) : ∀ a ∈ A, a.1 ≤ x ∧ 0 ≤ a.2 := fun a ha => ⟨(h.num a ha).2.1, (h.num a ha).2.2.1⟩

section
variable {w : World} {c base : Nat} {F L R x : Int} {A : List (Int × Int)}
set_option maxHeartbeats 1000000 in
theorem copies_last (h : CopiesAt w c base F L R A) (hf : A.length ≤ 900000) :
    Calls Try.prog 54 #[.pointer (some ⟨c, 0, none⟩)] w fun e w' => e = .returned (.int .u64 (lastX A)) ∧ ∃ n, w' = w.drewN n := by
  obtain ⟨vx, vy, hB, hx, hy⟩ := h
  have c3 := hB.cell 3
  simp only [List.getElem?_toArray, List.getElem?_cons_zero, List.getElem?_cons_succ] at c3
  rcases List.eq_nil_or_concat A with rfl | ⟨B, k, hk⟩
  · obtain ⟨a, cap, rfl⟩ := hx.shape
    clear hB hx hy
    go_enter Try.func54, Try.ntmps54
    go_wp2
    go_ret
    exact ⟨rfl, 0, rfl⟩
  · rw [List.concat_eq_append] at hk
    subst hk
    have hlen : (List.map (fun x : Int × Int => x.1) (B ++ [k])).length = B.length + 1 := by simp
    obtain ⟨b, cap, hv, hbb, hbl, hcap, hcells⟩ := hx.open_ (by simp)
    have hc := hcells B.length k.1 (by simp)
    rw [hlen] at hv hcap
    subst hv
    rw [lastX_snoc]
    have hm : B.length ≤ 900000 := by simp at hf; omega
    generalize B.length = m at *
    have e1 : ((m : Int) + 1) - 1 = m := by omega
    have e2 : ((m + 1 : Nat) : Int) = (m : Int) + 1 := by omega
    clear hB hx hy hcells hlen hf hbb hcap
    have hm0 : (0 : Int) ≤ (m : Int) := by omega
    have hm1 : (m : Int) < (m : Int) + 1 := by omega
    go_enter Try.func54, Try.ntmps54
    go_wp2
    go_quiet (fail)
    go_wp2
    go_ret
    exact ⟨rfl, nq, rfl⟩
end

end Go.Proofs.Ytipiajnaechadaa
