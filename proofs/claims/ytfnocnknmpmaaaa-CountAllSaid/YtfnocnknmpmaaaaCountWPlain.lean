/-
  CountWaits: the plain law.
-/
import Derived.Test.YtfnocnknmpmaaaaCountPlain
namespace Go.Proofs.Ytfnocnknmpmaaaa
set_option linter.unusedVariables false
open Go.RowKit

/-- the book, what waits, what was chosen, bytes put, bytes taken -/
structure WS where
  B : Bk
  C : List CAct
  D : List CAct
  put : Int
  taken : Int
def ws0 : WS := ⟨[(0, st0)], [], [], 0, 0⟩
def wstep (s : WS) (a : CAct) : WS :=
  if a.k % 6 = 0 then { s with B := tellB s.B a.c (cameL a.n), C := s.C ++ [a], put := s.put + a.n }
  else if a.k % 6 = 2 then match s.C with
    | [] => s
    | q :: r => { s with B := tellB s.B q.c (chosenL q.n a.r), taken := s.taken + q.n, D := s.D ++ [q], C := r }
  else if a.k % 6 = 3 then match s.D with
    | [] => s
    | q :: r => { s with B := tellB s.B q.c (throughL q.n), D := r }
  else s
def sumN (l : List CAct) : Int := (l.map (·.n)).sum
theorem sumN_app (l : List CAct) (q : CAct) : sumN (l ++ [q]) = sumN l + q.n := by simp [sumN]
theorem sumN_cons (l : List CAct) (q : CAct) : sumN (q :: l) = q.n + sumN l := by simp [sumN]
theorem sumN_pos {l : List CAct} (h : ∀ a ∈ l, fitB a = true) : 0 ≤ sumN l ∧ sumN l ≤ 65535 * l.length := by
  induction l with
  | nil => simp [sumN]
  | cons q l ih =>
    have h1 := ih fun a ha => h a (by simp [ha])
    have h2 := h q (by simp)
    unfold fitB at h2
    obtain ⟨_, _, h3, h4⟩ := of_decide_eq_true h2
    rw [sumN_cons]; simp only [List.length_cons]; omega
structure WInv (k : Nat) (s : WS) : Prop where
  hC : ∀ q ∈ s.C, fitB q = true
  hD : ∀ q ∈ s.D, fitB q = true
  c6 : getB s.B 0 6 = s.C.length
  c7 : getB s.B 0 7 = sumN s.C
  pt : s.put = s.taken + sumN s.C
  c45 : getB s.B 0 4 + getB s.B 0 5 = s.taken
  c3 : getB s.B 0 3 + sumN s.D = s.taken
  c0 : getB s.B 0 0 = getB s.B 0 2 + s.C.length + s.D.length
  p2 : 0 ≤ getB s.B 0 2
  p3 : 0 ≤ getB s.B 0 3
  p4 : 0 ≤ getB s.B 0 4
  p5 : 0 ≤ getB s.B 0 5
  q0 : getB s.B 0 0 ≤ k
  qp : s.put ≤ 65535 * k
  len : s.B.length ≤ 1 + 2 * k
  wf : (∀ q ∈ s.C, CFit q) ∧ ∀ q ∈ s.D, CFit q
theorem winv0 : WInv 0 ws0 := by
  constructor <;> simp [ws0, sumN, getB, lookM, st0]
theorem get0_tellB (B : Bk) (c : Int) (L : List Stp) (hc : 1 ≤ c) : getB (tellB B c L) 0 = stepsS (getB B 0) L := by
  rw [get_look, look_tellB _ _ _ _ hc, if_pos rfl]; rfl
theorem winv_step {k : Nat} {s : WS} {a : CAct} (h : WInv k s) (ha : fitB a = true) (hw : CFit a) (hk : k < 200) : WInv (k + 1) (wstep s a) := by
  have hsC := sumN_pos h.hC
  have hsD := sumN_pos h.hD
  have ha' := ha
  unfold fitB at ha'
  obtain ⟨f1, f2, f3, f4⟩ := of_decide_eq_true ha'
  have hlC : s.C.length ≤ k := by have := h.c0; have := h.p2; have := h.q0; omega
  have hlD : s.D.length ≤ k := by have := h.c0; have := h.p2; have := h.q0; omega
  have c6 := h.c6; have c7 := h.c7; have pt := h.pt; have c45 := h.c45; have c3 := h.c3; have c0 := h.c0; have p2 := h.p2; have p3 := h.p3; have p4 := h.p4; have p5 := h.p5; have q0 := h.q0; have qp := h.qp; have hlen := h.len
  unfold wstep
  split
  · -- it came
    have e := get0_tellB s.B a.c (cameL a.n) f1
    have hm : max a.n 0 = a.n := by omega
    have e0 : getB (tellB s.B a.c (cameL a.n)) 0 0 = getB s.B 0 0 + 1 := by rw [e]; simp [stepsS, cameL, step1, setS]; exact sumv_up (by omega)
    have e6 : getB (tellB s.B a.c (cameL a.n)) 0 6 = getB s.B 0 6 + 1 := by rw [e]; simp [stepsS, cameL, step1, setS]; exact sumv_up (by omega)
    have e7 : getB (tellB s.B a.c (cameL a.n)) 0 7 = getB s.B 0 7 + a.n := by rw [e]; simp [stepsS, cameL, step1, setS, hm]; exact sumv_up (by omega)
    have e2 : getB (tellB s.B a.c (cameL a.n)) 0 2 = getB s.B 0 2 := by rw [e]; simp [stepsS, cameL, step1, setS]
    have e3 : getB (tellB s.B a.c (cameL a.n)) 0 3 = getB s.B 0 3 := by rw [e]; simp [stepsS, cameL, step1, setS]
    have e4 : getB (tellB s.B a.c (cameL a.n)) 0 4 = getB s.B 0 4 := by rw [e]; simp [stepsS, cameL, step1, setS]
    have e5 : getB (tellB s.B a.c (cameL a.n)) 0 5 = getB s.B 0 5 := by rw [e]; simp [stepsS, cameL, step1, setS]
    have hl := len_tellB s.B a.c (cameL a.n)
    constructor <;> dsimp only
    · intro q hq; rcases List.mem_append.1 hq with hq | hq
      · exact h.hC q hq
      · simp at hq; rw [hq]; exact ha
    · exact h.hD
    · rw [e6]; simp; omega
    · rw [e7, sumN_app]; omega
    · rw [sumN_app]; omega
    · rw [e4, e5]; omega
    · rw [e3]; omega
    · rw [e0, e2]; simp; omega
    · rw [e2]; omega
    · rw [e3]; omega
    · rw [e4]; omega
    · rw [e5]; omega
    · rw [e0]; omega
    · omega
    · omega
    · refine ⟨fun q hq => ?_, h.wf.2⟩
      rcases List.mem_append.1 hq with hq | hq
      · exact h.wf.1 q hq
      · simp at hq; rw [hq]; exact hw
  · split
    · -- one is chosen
      cases hC : s.C with
      | nil =>
        dsimp only
        exact ⟨h.hC, h.hD, h.c6, h.c7, h.pt, h.c45, h.c3, h.c0, h.p2, h.p3, h.p4, h.p5, by omega, by omega, by omega, h.wf⟩
      | cons q r =>
        dsimp only
        rw [hC] at c6 c7 pt c0 hsC
        have hqf := h.hC q (by rw [hC]; simp)
        have hqf' := hqf
        unfold fitB at hqf'
        obtain ⟨g1, g2, g3, g4⟩ := of_decide_eq_true hqf'
        have hsr := sumN_pos (l := r) fun x hx => h.hC x (by rw [hC]; simp [hx])
        rw [sumN_cons] at c7 pt hsC
        simp only [List.length_cons] at c6 c0 hsC
        have e := get0_tellB s.B q.c (chosenL q.n a.r) g1
        have hm : max q.n 0 = q.n := by omega
        have e6 : getB (tellB s.B q.c (chosenL q.n a.r)) 0 6 = getB s.B 0 6 - 1 := by
          rw [e]
          by_cases hr : a.r = 1 <;> simp [stepsS, chosenL, step1, setS, hr, sumv] <;> omega
        have e7 : getB (tellB s.B q.c (chosenL q.n a.r)) 0 7 = getB s.B 0 7 - q.n := by
          rw [e]
          by_cases hr : a.r = 1 <;> simp [stepsS, chosenL, step1, setS, hr, sumv, hm] <;> omega
        have e45 : getB (tellB s.B q.c (chosenL q.n a.r)) 0 4 + getB (tellB s.B q.c (chosenL q.n a.r)) 0 5 = getB s.B 0 4 + getB s.B 0 5 + q.n ∧ 0 ≤ getB (tellB s.B q.c (chosenL q.n a.r)) 0 4 ∧ 0 ≤ getB (tellB s.B q.c (chosenL q.n a.r)) 0 5 := by
          rw [e]
          by_cases hr : a.r = 1
          · have := sumv_up (n := getB s.B 0 4) (x := q.n) (by omega)
            simp [stepsS, chosenL, step1, setS, hr, hm, this]; omega
          · have := sumv_up (n := getB s.B 0 5) (x := q.n) (by omega)
            simp [stepsS, chosenL, step1, setS, hr, hm, this]; omega
        have e0 : getB (tellB s.B q.c (chosenL q.n a.r)) 0 0 = getB s.B 0 0 := by rw [e]; by_cases hr : a.r = 1 <;> simp [stepsS, chosenL, step1, setS, hr]
        have e2 : getB (tellB s.B q.c (chosenL q.n a.r)) 0 2 = getB s.B 0 2 := by rw [e]; by_cases hr : a.r = 1 <;> simp [stepsS, chosenL, step1, setS, hr]
        have e3 : getB (tellB s.B q.c (chosenL q.n a.r)) 0 3 = getB s.B 0 3 := by rw [e]; by_cases hr : a.r = 1 <;> simp [stepsS, chosenL, step1, setS, hr]
        have hl := len_tellB s.B q.c (chosenL q.n a.r)
        constructor <;> dsimp only
        · intro x hx; exact h.hC x (by rw [hC]; simp [hx])
        · intro x hx; rcases List.mem_append.1 hx with hx | hx
          · exact h.hD x hx
          · simp at hx; rw [hx]; exact hqf
        · rw [e6]; omega
        · rw [e7]; omega
        · omega
        · rw [e45.1]; omega
        · rw [e3, sumN_app]; omega
        · rw [e0, e2]; simp; omega
        · rw [e2]; omega
        · rw [e3]; omega
        · exact e45.2.1
        · exact e45.2.2
        · rw [e0]; omega
        · omega
        · omega
        · refine ⟨fun x hx => h.wf.1 x (by rw [hC]; simp [hx]), fun x hx => ?_⟩
          rcases List.mem_append.1 hx with hx | hx
          · exact h.wf.2 x hx
          · simp at hx; rw [hx]; exact h.wf.1 q (by rw [hC]; simp)
    · split
      · cases hD : s.D with
        | nil =>
          dsimp only
          exact ⟨h.hC, h.hD, h.c6, h.c7, h.pt, h.c45, h.c3, h.c0, h.p2, h.p3, h.p4, h.p5, by omega, by omega, by omega, h.wf⟩
        | cons q r =>
          dsimp only
          rw [hD] at c3 c0 hsD
          have hqf := h.hD q (by rw [hD]; simp)
          unfold fitB at hqf
          obtain ⟨g1, g2, g3, g4⟩ := of_decide_eq_true hqf
          have hsr := sumN_pos (l := r) fun x hx => h.hD x (by rw [hD]; simp [hx])
          rw [sumN_cons] at c3 hsD
          simp only [List.length_cons] at c0 hsD
          have e := get0_tellB s.B q.c (throughL q.n) g1
          have hm : max q.n 0 = q.n := by omega
          have e2 : getB (tellB s.B q.c (throughL q.n)) 0 2 = getB s.B 0 2 + 1 := by rw [e]; simp [stepsS, throughL, step1, setS]; exact sumv_up (by omega)
          have e3 : getB (tellB s.B q.c (throughL q.n)) 0 3 = getB s.B 0 3 + q.n := by rw [e]; simp [stepsS, throughL, step1, setS, hm]; exact sumv_up (by omega)
          have e0 : getB (tellB s.B q.c (throughL q.n)) 0 0 = getB s.B 0 0 := by rw [e]; simp [stepsS, throughL, step1, setS]
          have e4 : getB (tellB s.B q.c (throughL q.n)) 0 4 = getB s.B 0 4 := by rw [e]; simp [stepsS, throughL, step1, setS]
          have e5 : getB (tellB s.B q.c (throughL q.n)) 0 5 = getB s.B 0 5 := by rw [e]; simp [stepsS, throughL, step1, setS]
          have e6 : getB (tellB s.B q.c (throughL q.n)) 0 6 = getB s.B 0 6 := by rw [e]; simp [stepsS, throughL, step1, setS]
          have e7 : getB (tellB s.B q.c (throughL q.n)) 0 7 = getB s.B 0 7 := by rw [e]; simp [stepsS, throughL, step1, setS]
          have hl := len_tellB s.B q.c (throughL q.n)
          constructor <;> dsimp only
          · exact h.hC
          · intro x hx; exact h.hD x (by rw [hD]; simp [hx])
          · rw [e6]; omega
          · rw [e7]; omega
          · omega
          · rw [e4, e5]; omega
          · rw [e3]; omega
          · rw [e0, e2]; omega
          · rw [e2]; omega
          · rw [e3]; omega
          · rw [e4]; omega
          · rw [e5]; omega
          · rw [e0]; omega
          · omega
          · omega
          · exact ⟨h.wf.1, fun x hx => h.wf.2 x (by rw [hD]; simp [hx])⟩
      · exact ⟨h.hC, h.hD, h.c6, h.c7, h.pt, h.c45, h.c3, h.c0, h.p2, h.p3, h.p4, h.p5, by omega, by omega, by omega, h.wf⟩
/-- what the law asks of the counters of all -/
theorem winv_val {k : Nat} {s : WS} (h : WInv k s) (hk : k ≤ 200) : ∃ x1 x2 x3 x5 : Int, stV (getB s.B 0) = .agg #[.int .u64 (x2 + ((s.C.length : Int) + (s.D.length : Int))), .int .u64 x1, .int .u64 x2, .int .u64 x3, .int .u64 (s.taken - x5), .int .u64 x5, .int .u64 (s.C.length : Int), .int .u64 (s.put - s.taken)] ∧
    0 ≤ x2 ∧ x2 ≤ 200 ∧ 0 ≤ x3 ∧ x3 ≤ s.taken ∧ 0 ≤ x5 ∧ x5 ≤ s.taken ∧ 0 ≤ s.taken ∧ s.taken ≤ s.put ∧ s.put ≤ 13107000 ∧ s.C.length ≤ 200 ∧ s.D.length ≤ 200 := by
  have hsC := sumN_pos h.hC
  have hsD := sumN_pos h.hD
  have c6 := h.c6; have c7 := h.c7; have pt := h.pt; have c45 := h.c45; have c3 := h.c3; have c0 := h.c0; have p2 := h.p2; have p3 := h.p3; have p4 := h.p4; have p5 := h.p5; have q0 := h.q0; have qp := h.qp
  refine ⟨getB s.B 0 1, getB s.B 0 2, getB s.B 0 3, getB s.B 0 5, ?_, by omega, by omega, by omega, by omega, by omega, by omega, by omega, by omega, by omega, by omega, by omega⟩
  unfold stV stC
  rw [c6, c7, show getB s.B 0 4 = s.taken - getB s.B 0 5 by omega, show getB s.B 0 0 = getB s.B 0 2 + ((s.C.length : Int) + (s.D.length : Int)) by omega, show sumN s.C = s.put - s.taken by omega]
end Go.Proofs.Ytfnocnknmpmaaaa
