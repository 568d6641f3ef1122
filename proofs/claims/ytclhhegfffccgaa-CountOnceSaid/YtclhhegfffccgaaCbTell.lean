/-
  The document's book of counters: what is told goes on at some places.
-/
import Derived.Test.YtclhhegfffccgaaCbBoth
namespace Go.Proofs.Ytclhhegfffccgaa
set_option linter.unusedVariables false
open Go.RowKit Go.Maps

/-- what stands at a place goes on -/
def atK (f : St → St) (B : Bk) (k : Nat) : Bk := match B[k]? with | some p => B.set k (p.1, f p.2) | none => B
theorem atK_some {f : St → St} {B : Bk} {k : Nat} {c : Int} {s : St} (h : B[k]? = some (c, s)) : atK f B k = B.set k (c, f s) := by unfold atK; rw [h]
theorem atK_len (f : St → St) (B : Bk) (k : Nat) : (atK f B k).length = B.length := by
  unfold atK
  split <;> simp
def atKs (f : St → St) (B : Bk) (ks : List Nat) : Bk := ks.foldl (atK f) B
theorem atKs_len (f : St → St) (ks : List Nat) : ∀ B : Bk, (atKs f B ks).length = B.length := by
  induction ks with
  | nil => intro B; rfl
  | cons k ks ih => intro B; show (atKs f (atK f B k) ks).length = _; rw [ih, atK_len]
theorem atKs_snoc (f : St → St) (B : Bk) (ks : List Nat) (k : Nat) : atKs f B (ks ++ [k]) = atK f (atKs f B ks) k := by simp [atKs]
/-- where what is told of a class goes -/
def Places (B : Bk) (c : Int) (ks : List Nat) (B1 : Bk) : Prop := (c < 1 ∧ ks = [0] ∧ B1 = B) ∨ (1 ≤ c ∧ ∃ k, ks = [0, k] ∧ B1 = insB B c ∧ k < B1.length ∧ B1[k]? = some (c, getB B c))
theorem Places.lt {B : Bk} {c : Int} {ks : List Nat} {B1 : Bk} (h : Places B c ks B1) (h0 : B ≠ []) : ∀ k ∈ ks, k < B1.length := by
  rcases h with ⟨_, rfl, rfl⟩ | ⟨_, k, rfl, rfl, h1, _⟩
  · intro k hk; simp at hk; subst hk; exact List.length_pos_iff.2 h0
  · intro j hj
    simp at hj
    rcases hj with rfl | rfl
    · omega
    · exact h1
/-- all stands first, and the others are above 0 -/
def Head0 (B : Bk) : Prop := ∃ s0 R, B = (0, s0) :: R ∧ ∀ p ∈ R, 0 < p.1
theorem Places.told {B : Bk} {c : Int} {ks : List Nat} {B1 : Bk} (h : Places B c ks B1) (hh : Head0 B) (hr : Rising B) (L : List Stp) : atKs (fun s => stepsS s L) B1 ks = tellB B c L := by
  obtain ⟨s0, R, rfl, hR⟩ := hh
  have h0 : getB ((0, s0) :: R) 0 = s0 := rfl
  have t0 : tell0 ((0, s0) :: R) 0 L = (0, stepsS s0 L) :: R := by unfold tell0; rw [h0]; simp [putM]
  rcases h with ⟨hc, rfl, rfl⟩ | ⟨hc, k, rfl, rfl, hk, hkk⟩
  · unfold tellB
    rw [if_pos (by omega), t0]
    rfl
  · unfold tellB
    rw [if_neg (by omega), t0]
    have hins : insB ((0, s0) :: R) c = (0, s0) :: insB R c := by
      unfold insB
      have e : lookM ((0, s0) :: R) c = lookM R c := by
        show (if (0 : Int) = c then some s0 else lookM R c) = _
        rw [if_neg (by omega)]
      rw [e]
      split
      · rfl
      · show (if c < 0 then _ else if (0 : Int) = c then _ else (0, s0) :: putM R c st0) = _
        rw [if_neg (by omega), if_neg (by omega)]
    have hg : getB ((0, s0) :: R) c = getB R c := by
      unfold getB
      show ((if (0 : Int) = c then some s0 else lookM R c).getD st0) = _
      rw [if_neg (by omega)]
    rw [hins] at hkk
    cases k with
    | zero => simp at hkk; omega
    | succ k =>
      rw [hg] at hkk
      have hk2 : (insB R c)[k]? = some (c, getB R c) := by simpa using hkk
      have e1 : atKs (fun s => stepsS s L) (insB ((0, s0) :: R) c) [0, k + 1] = atK (fun s => stepsS s L) ((0, stepsS s0 L) :: insB R c) (k + 1) := by rw [hins]; rfl
      rw [e1, atK_some (c := c) (s := getB R c) (by simpa using hk2), List.set_cons_succ, ins_set (List.pairwise_cons.1 hr).2 hk2]
      unfold tell0
      have hg2 : getB ((0, stepsS s0 L) :: R) c = getB R c := by
        unfold getB
        show ((if (0 : Int) = c then some (stepsS s0 L) else lookM R c).getD st0) = _
        rw [if_neg (by omega)]
      rw [hg2]
      show _ = (if c < 0 then _ else if (0 : Int) = c then _ else (0, stepsS s0 L) :: putM R c _)
      rw [if_neg (by omega), if_neg (by omega)]
theorem head_ins {B : Bk} {c : Int} (h : Head0 B) (hc : 1 ≤ c) : Head0 (insB B c) := by
  obtain ⟨s0, R, rfl, hR⟩ := h
  unfold insB
  split
  · exact ⟨s0, R, rfl, hR⟩
  · refine ⟨s0, putM R c st0, ?_, fun p hp => ?_⟩
    · show (if c < 0 then _ else if (0 : Int) = c then _ else (0, s0) :: putM R c st0) = _
      rw [if_neg (by omega), if_neg (by omega)]
    · rcases putM_mem hp with rfl | hp
      · show 0 < c; omega
      · exact hR p hp
/-- one class's counters turned -/
theorem CbAt.put {W W' : World} {base p g cap j : Nat} {cur cur' : Array Value} {B : Bk} {c : Int} {s s' : St} (h1 : Blk W' p 63 #[.slice (some ⟨g, 0, none⟩) B.length cap]) (h2 : Blk W' g 60 cur') (h3 : ClIn cur B) (h4 : B.length ≤ cap) (h5 : cur.size = cap * 9) (h6 : cap ≤ maxLen) (h7 : base ≤ g) (hpb : base ≤ p) (hok : OkB B) (hj : B[j]? = some (c, s)) (hs : OkS s') (hsz : cur'.size = cur.size) (ho : ∀ m, (m < j * 9 + 1 ∨ j * 9 + 9 ≤ m) → cur'[m]? = cur[m]?) (hn : ∀ f, f < 8 → cur'[j * 9 + 1 + f]? = some (.int .u64 (s' f))) : CbAt W' base p (B.set j (c, s')) := by
  refine ⟨⟨g, cap, cur', by rw [List.length_set]; exact h1, h2, h3.set hj hsz ho hn, by rw [List.length_set]; exact h4, by rw [hsz]; exact h5, h6, h7⟩, hpb, fun q hq => ?_⟩
  rcases List.mem_or_eq_of_mem_set hq with hq | rfl
  · exact hok q hq
  · exact hs
end Go.Proofs.Ytclhhegfffccgaa
