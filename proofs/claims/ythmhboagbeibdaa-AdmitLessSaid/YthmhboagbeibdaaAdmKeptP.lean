/-
  What is live and the ghosts can be kept, whatever was put, swapped, dropped: in plain arithmetic. No program in sight.
-/
import Derived.Test.YthmhboagbeibdaaAdmActs
namespace Go.Proofs.Ythmhboagbeibdaa
set_option linter.unusedVariables false
open Go.RowKit Go.Maps

theorem Keep.le {k l : List Cv} {r : Int} (h : Keep l r) (hv : ∀ t, 0 ≤ t → vS k t ≤ vS l t) : Keep k r := fun t t0 t1 => by
  have h1 := h t t0 t1
  have h2 := hv t t0
  unfold Lt at *
  omega
theorem vS_put {id : Int} {c : Cv} (t : Int) : ∀ {L : List (Int × Cv)}, lookM L id = none → vS ((putM L id c).map (·.2)) t = vS (L.map (·.2)) t + vS [c] t
  | [], _ => by simp [putM, vS]
  | p :: r, h => by
    have hn := look_none.1 h
    have hp : p.1 ≠ id := hn p (.head _)
    have ih := vS_put (c := c) t (look_none.2 fun q hq => hn q (.tail _ hq))
    unfold putM
    split
    · simp only [List.map_cons, vS]; omega
    · try simp only [hp, if_false]
      simp only [List.map_cons, vS] at ih ⊢
      omega
theorem vS_del {id : Int} (t : Int) : ∀ {L : List (Int × Cv)}, Rising L → vS ((delM L id).map (·.2)) t + vS (lookM L id).toList t = vS (L.map (·.2)) t
  | [], _ => by simp [delM, lookM, vS]
  | p :: r, h => by
    have hr : Rising r := (List.pairwise_cons.1 h).2
    have h1 := (List.pairwise_cons.1 h).1
    have ih := vS_del (id := id) t hr
    by_cases e : p.1 = id
    · have hd : delM (p :: r) id = r := by
        have : delM (p :: r) id = delM r id := by simp [delM, e]
        rw [this]
        exact delM_none id r fun q hq => by have := h1 q hq; omega
      rw [hd]
      simp only [lookM, e, if_true, Option.toList, List.map_cons, vS]
      omega
    · have hd : delM (p :: r) id = p :: delM r id := by simp [delM, e]
      rw [hd]
      simp only [lookM, e, if_false, List.map_cons, vS]
      omega
theorem liveBut_del (L : List (Int × Cv)) (id : Int) : liveBut L (fun x => x == id) = (delM L id).map (·.2) := by
  unfold liveBut delM
  congr 1
theorem ask_yes {l : List Cv} {c : Cv} {r : Int} (h : askB l c r = true) : c = (0, 0, 0) ∨ Keep (l ++ [c]) r := by
  unfold askB at h
  simpa using h
theorem put_yes {L : List (Int × Cv)} {G : List Cv} {id : Int} {c : Cv} {r : Int} (h : putC L G id c r = 0) : okC c = true ∧ lookM L id = none ∧ askB (G ++ L.map (·.2)) c r = true := by
  unfold putC at h
  split at h
  · omega
  · rename_i h1
    split at h
    · omega
    · rename_i h2
      split at h
      · omega
      · rename_i h3
        exact ⟨by simpa using h1, by cases hl : lookM L id <;> simp_all, by simpa using h3⟩
theorem swap_yes {L : List (Int × Cv)} {G : List Cv} {id : Int} {c : Cv} {keep : Bool} {r : Int} (h : swapC L G id c keep r = 0) : okC c = true ∧ askB (G ++ swapM L id keep ++ liveBut L (fun x => x == id)) c r = true := by
  unfold swapC at h
  split at h
  · omega
  · rename_i h1
    split at h
    · omega
    · rename_i h3
      exact ⟨by simpa using h1, by simpa using h3⟩

/-- a curve that is noted -/
def Noted (c : Cv) : Prop := okC c = true ∧ c ≠ (0, 0, 0) ∧ U c.1 ∧ U c.2.1 ∧ U c.2.2
/-- what always holds -/
structure AKI (r : Int) (s : List (Int × Cv) × List Cv) : Prop where
  rise : Rising s.1
  keep : Keep (s.2 ++ s.1.map (·.2)) r
  live : ∀ p ∈ s.1, Noted p.2
  gh : ∀ c ∈ s.2, Noted c
theorem AKI.all {r : Int} {s : List (Int × Cv) × List Cv} (h : AKI r s) : ∀ c ∈ s.2 ++ s.1.map (·.2), Noted c := fun c hc => by
  rcases List.mem_append.1 hc with hc | hc
  · exact h.gh c hc
  · obtain ⟨p, hp, rfl⟩ := List.mem_map.1 hc
    exact h.live p hp
theorem nn_noted {l : List Cv} (h : ∀ c ∈ l, Noted c) : NN l := fun c hc => ⟨(h c hc).2.2.1.1, (h c hc).2.2.2.1.1, (h c hc).2.2.2.2.1⟩
theorem look_mem {L : List (Int × Cv)} {id : Int} {c : Cv} (h : lookM L id = some c) : ∃ p ∈ L, p.2 = c := by
  induction L with
  | nil => cases h
  | cons p r ih =>
    unfold lookM at h
    split at h
    · cases h; exact ⟨p, by simp, rfl⟩
    · obtain ⟨q, hq, e⟩ := ih h; exact ⟨q, by simp [hq], e⟩
theorem AKI.ghosts {r : Int} {s : List (Int × Cv) × List Cv} (h : AKI r s) (id : Int) (keep : Bool) : ∀ c ∈ s.2 ++ swapM s.1 id keep, Noted c := fun c hc => by
  rcases List.mem_append.1 hc with hc | hc
  · exact h.gh c hc
  · unfold swapM at hc
    split at hc
    · obtain ⟨p, hp, rfl⟩ := look_mem (by simpa using hc : lookM s.1 id = some c)
      exact h.live p hp
    · simp at hc
theorem AKI.del {r : Int} {s : List (Int × Cv) × List Cv} (h : AKI r s) (id : Int) (keep : Bool) : AKI r (delM s.1 id, s.2 ++ swapM s.1 id keep) := by
  refine ⟨rising_del h.rise id, h.keep.le fun t ht => ?_, fun p hp => h.live p (List.mem_filter.1 hp).1, h.ghosts id keep⟩
  have hv := vS_del (id := id) t h.rise
  have hn : 0 ≤ vS (lookM s.1 id).toList t := by
    refine vS_nonneg (fun c hc => ?_) ht
    obtain ⟨p, hp, rfl⟩ := look_mem (by simpa using hc : lookM s.1 id = some c)
    have := h.live p hp
    exact ⟨this.2.2.1.1, this.2.2.2.1.1, this.2.2.2.2.1⟩
  simp only [vS_append]
  unfold swapM
  cases keep
  · simp [vS]; omega
  · simp only [if_true]; omega
theorem AKI.put {r : Int} {s : List (Int × Cv) × List Cv} (h : AKI r s) {id : Int} {c : Cv} (hl : lookM s.1 id = none) (hc : Noted c) (hk : Keep (s.2 ++ s.1.map (·.2) ++ [c]) r) : AKI r (putM s.1 id c, s.2) := by
  refine ⟨rising_put id c h.rise, hk.le fun t ht => ?_, putM_mem2 _ h.live hc, h.gh⟩
  have hv := vS_put (c := c) t hl
  simp only [vS_append]
  omega
theorem drop_ghosts (L : List (Int × Cv)) (G : List Cv) (id : Int) (b : Bool) : (if b then G ++ (lookM L id).toList else G) = G ++ swapM L id b := by
  unfold swapM
  cases b <;> simp

theorem step_ki {r : Int} {s : List (Int × Cv) × List Cv} (h : AKI r s) {a : BAct} (ha : BFit a) : AKI r (stepP r s a) := by
  obtain ⟨_, hid, hu⟩ := ha
  unfold stepP
  split
  · unfold putBk
    split
    · rename_i h1
      obtain ⟨ho, hl, hk⟩ := put_yes h1.1
      exact h.put hl ⟨ho, h1.2, hu⟩ ((ask_yes hk).resolve_left h1.2)
    · exact h
  · split
    · unfold swapL swapG
      split
      · rename_i h1
        obtain ⟨ho, hk⟩ := swap_yes h1
        have hd := h.del a.i a.b
        split
        · exact hd
        · rename_i hz
          have hk := (ask_yes hk).resolve_left hz
          rw [liveBut_del] at hk
          exact hd.put (look_del_same a.i s.1) ⟨ho, hz, hu⟩ hk
      · exact h
    · split
      · rw [drop_ghosts]
        exact h.del a.i a.b
      · split
        · refine ⟨h.rise, h.keep.le fun t ht => ?_, h.live, fun c hc => by simp at hc⟩
          have := vS_nonneg (nn_noted h.gh) ht
          simp only [vS_append, vS]
          omega
        · exact h
theorem play_ki {r : Int} (hr : 0 ≤ r) {z : List BAct} (hz : ∀ q ∈ z, BFit q) : AKI r (playP r z) := by
  have h : ∀ (z : List BAct) s, AKI r s → (∀ q ∈ z, BFit q) → AKI r (z.foldl (stepP r) s) := by
    intro z
    induction z with
    | nil => intro s hs _; exact hs
    | cons a z ih => intro s hs hz; exact ih _ (step_ki hs (hz a (.head _))) fun q hq => hz q (.tail _ hq)
  refine h z _ ⟨.nil, fun t t0 t1 => ?_, fun p hp => by simp at hp, fun c hc => by simp at hc⟩ hz
  have := Int.mul_nonneg hr t0
  unfold Lt
  simp [vS]
  omega
end Go.Proofs.Ythmhboagbeibdaa
