/-
  A left-leaning tree of red and black nodes, in plain words: what is put in and taken out never meets a missing node, and leaves a tree that is well made.
-/
import Derived.Test.YtbnnkkojlclgjaaGreatLlrb
namespace Go.Proofs.YtbnnkkojlclgjaaGreat
set_option linter.unusedVariables false

theorem isR_node (a k v s c l r) : isR (.node a k v s c l r) = c := rfl
theorem lft_node (a k v s c l r) : lft (.node a k v s c l r) = l := rfl
theorem rgt_node (a k v s c l r) : rgt (.node a k v s c l r) = r := rfl
theorem Str.nil_of {t : RB} (h : Str t 0) (hb : isR t = false) : t = .nil := by
  cases h with
  | nil => rfl
  | red => cases hb
theorem Str.some {t : RB} {n : Nat} (h : Str t (n + 1)) : ∃ a k v s c l r, t = .node a k v s c l r := by
  cases h with
  | red => exact ⟨_, _, _, _, _, _, _, rfl⟩
  | black => exact ⟨_, _, _, _, _, _, _, rfl⟩
/-- a black one is made well again -/
theorem bal_black {a : Nat} {k : Ky} {v : Int} {s : Ky} {l r : RB} {n : Nat} (hl : Str l n ∨ (Alm l n ∧ isR r = false)) (hr : Str r n) :
    ∃ t', bal (.node a k v s false l r) = some t' ∧ Str t' (n + 1) ∧ (isR l = false ∨ (isR r = false ∧ Str l n) → isR t' = false) := by
  rcases hl with hl | ⟨hl, hrb⟩
  · cases hrc : isR r
    · refine ⟨.node a k v (total k v l r) false l r, ?_, .black hl hr hrc, fun _ => rfl⟩
      cases hlc : isR l
      · simp [bal, bal1, bal2, bal3, resum, lft_node, rgt_node, hrc, hlc]
      · cases hl with
        | nil => cases hlc
        | black => cases hlc
        | red h1 h2 h3 h4 => simp [bal, bal1, bal2, bal3, resum, lft_node, rgt_node, isR_node, hrc, h3]
    · cases hr with
      | nil => cases hrc
      | black => cases hrc
      | @red b k2 v2 s2 l2 r2 _ h1 h2 h3 h4 =>
        cases hlc : isR l
        · have : ∃ sa sb, bal (.node a k v s false l (.node b k2 v2 s2 true l2 r2)) = some (.node b k2 v2 sa false (.node a k v sb true l l2) r2) := by
            simp [bal, bal1, bal2, bal3, resum, lft_node, rgt_node, isR_node, hlc, rotL, h4]
          obtain ⟨sa, sb, hgo⟩ := this
          exact ⟨_, hgo, .black (.red hl h1 hlc h3) h2 h4, fun _ => rfl⟩
        · cases hl with
          | nil => cases hlc
          | black => cases hlc
          | @red d k3 v3 s3 l3 r3 _ g1 g2 g3 g4 =>
            have : ∃ sa sb sc, bal (.node a k v s false (.node d k3 v3 s3 true l3 r3) (.node b k2 v2 s2 true l2 r2)) = some (.node a k v sa true (.node d k3 v3 sb false l3 r3) (.node b k2 v2 sc false l2 r2)) := by
              simp [bal, bal1, bal2, bal3, resum, lft_node, rgt_node, isR_node, g3, flipT]
            obtain ⟨sa, sb, sc, hgo⟩ := this
            refine ⟨_, hgo, .red (.black g1 g2 g4) (.black h1 h2 h4) rfl rfl, fun h => ?_⟩
            rcases h with h | h
            · cases h
            · cases h.1
  · cases hl with
    | @mk b k2 v2 s2 l2 r2 _ h1 h2 h3 =>
      cases hlc : isR l2
      · refine ⟨.node a k v (total k v (.node b k2 v2 s2 true l2 r2) r) false (.node b k2 v2 s2 true l2 r2) r, ?_, .black (.red h1 h2 hlc h3) hr hrb, fun _ => rfl⟩
        simp [bal, bal1, bal2, bal3, resum, lft_node, rgt_node, isR_node, hrb, hlc]
      · cases h1 with
        | nil => cases hlc
        | black => cases hlc
        | @red d k3 v3 s3 l3 r3 _ g1 g2 g3 g4 =>
          have : ∃ sa sb sc, bal (.node a k v s false (.node b k2 v2 s2 true (.node d k3 v3 s3 true l3 r3) r2) r) = some (.node b k2 v2 sa true (.node d k3 v3 sb false l3 r3) (.node a k v sc false r2 r)) := by
            simp [bal, bal1, bal2, bal3, resum, lft_node, rgt_node, isR_node, hrb, rotR, flipT]
          obtain ⟨sa, sb, sc, hgo⟩ := this
          refine ⟨_, hgo, .red (.black g1 g2 g4) (.black h2 hr hrb) rfl rfl, fun h => ?_⟩
          rcases h with h | ⟨_, h⟩
          · cases h
          · cases h with
            | red _ _ h5 _ => cases h5
/-- a red one, with at most one red one below -/
theorem bal_red {a : Nat} {k : Ky} {v : Int} {s : Ky} {l r : RB} {n : Nat} (hl : Str l n) (hr : Str r n) (hb : isR l = false ∨ isR r = false) :
    ∃ t', bal (.node a k v s true l r) = some t' ∧ Alm t' n ∧ isR t' = true ∧ (isR l = false → isR r = false → Str t' n) := by
  cases hrc : isR r
  · refine ⟨.node a k v (total k v l r) true l r, ?_, .mk hl hr hrc, rfl, fun h _ => .red hl hr h hrc⟩
    cases hlc : isR l
    · simp [bal, bal1, bal2, bal3, resum, lft_node, rgt_node, hrc, hlc]
    · cases hl with
      | nil => cases hlc
      | black => cases hlc
      | @red b k2 v2 s2 l2 r2 _ h1 h2 h3 h4 => simp [bal, bal1, bal2, bal3, resum, lft_node, rgt_node, isR_node, hrc, h3]
  · have hlc : isR l = false := by
      rcases hb with h | h
      · exact h
      · rw [hrc] at h; cases h
    cases hr with
    | nil => cases hrc
    | black => cases hrc
    | @red b k2 v2 s2 l2 r2 _ h1 h2 h3 h4 =>
      have : ∃ sa sb, bal (.node a k v s true l (.node b k2 v2 s2 true l2 r2)) = some (.node b k2 v2 sa true (.node a k v sb true l l2) r2) := by
        simp [bal, bal1, bal2, bal3, resum, lft_node, rgt_node, isR_node, hlc, rotL, h4]
      obtain ⟨sa, sb, hgo⟩ := this
      exact ⟨_, hgo, .mk (.red hl h1 hlc h3) h2 h4, rfl, nofun⟩
/-- what is put in -/
theorem put_ok (a : Nat) (k : Ky) (v : Int) : ∀ (t : RB) (n : Nat), Str t n → ∃ t', putR a k v t = some t' ∧ (isR t = false → Str t' n) ∧ (isR t = true → Alm t' n ∧ isR t' = true) := by
  intro t
  induction t with
  | nil =>
    intro n h
    cases h
    exact ⟨_, rfl, fun _ => .red .nil .nil rfl rfl, fun h => by cases h⟩
  | node b k2 v2 s c l r ihl ihr =>
    intro n h
    unfold putR
    cases h with
    | @red _ _ _ _ _ _ _ h1 h2 h3 h4 =>
      split
      · obtain ⟨l', e, hl, _⟩ := ihl n h1
        obtain ⟨t', e2, ha, hr, _⟩ := bal_red (a := b) (k := k2) (v := v2) (s := s) (hl h3) h2 (.inr h4)
        exact ⟨t', (by rw [e]; exact e2), (fun h => nomatch h), fun _ => ⟨ha, hr⟩⟩
      · obtain ⟨r', e, hr, _⟩ := ihr n h2
        obtain ⟨t', e2, ha, hr2, _⟩ := bal_red (a := b) (k := k2) (v := v2) (s := s) h1 (hr h4) (.inl h3)
        exact ⟨t', (by rw [e]; exact e2), (fun h => nomatch h), fun _ => ⟨ha, hr2⟩⟩
    | @black _ _ _ _ _ _ n h1 h2 h3 =>
      split
      · obtain ⟨l', e, hl, hl2⟩ := ihl n h1
        have : Str l' n ∨ (Alm l' n ∧ isR r = false) := by
          cases hc : isR l
          · exact .inl (hl hc)
          · exact .inr ⟨(hl2 hc).1, h3⟩
        obtain ⟨t', e2, hs, _⟩ := bal_black (a := b) (k := k2) (v := v2) (s := s) this h2
        exact ⟨t', (by rw [e]; exact e2), fun _ => hs, (fun h => nomatch h)⟩
      · obtain ⟨r', e, hr, _⟩ := ihr n h2
        obtain ⟨t', e2, hs, _⟩ := bal_black (a := b) (k := k2) (v := v2) (s := s) (.inl h1) (hr h3)
        exact ⟨t', (by rw [e]; exact e2), fun _ => hs, (fun h => nomatch h)⟩
/-- red, or black with a red left one below -/
inductive Pre : RB → Nat → Prop
  | red {a k v s l r n} : Str l n → Str r n → isR l = false → isR r = false → Pre (.node a k v s true l r) n
  | black {a k v s l r n} : Str l n → Str r n → isR l = true → isR r = false → Pre (.node a k v s false l r) (n + 1)
/-- black with a red right one below -/
inductive PreR : RB → Nat → Prop
  | mk {a k v s l r n} : Str l n → Str r n → isR l = false → isR r = true → PreR (.node a k v s false l r) (n + 1)
theorem Pre.of_red {t : RB} {n : Nat} (h : Str t n) (hr : isR t = true) : Pre t n := by
  cases h with
  | nil => cases hr
  | red h1 h2 h3 h4 => exact .red h1 h2 h3 h4
  | black => cases hr
/-- behind the way down to the left -/
theorem goL_ok {t : RB} {m : Nat} (h : Pre t m) (hne : lft t ≠ .nil) :
    ∃ t1 h1, goL t = some t1 ∧ Pre (lft t1) h1 ∧ t1 ≠ .nil ∧ ∀ l', Str l' h1 → (isR (lft t1) = false → isR l' = false) → ∃ t', bal (setL t1 l') = some t' ∧ Str t' m ∧ (isR t = false → isR t' = false) := by
  cases h with
  | @black a k v s l r n hl hr hlc hrc =>
    refine ⟨.node a k v s false l r, n, ?_, .of_red hl hlc, nofun, fun l' hl' _ => ?_⟩
    · unfold goL
      cases l with
      | nil => cases hlc
      | node b k2 v2 s2 c2 l2 r2 =>
        have : c2 = true := hlc
        subst this
        simp [lft_node]
    · obtain ⟨t', e, hs, hb⟩ := bal_black (a := a) (k := k) (v := v) (s := s) (.inl hl') hr
      exact ⟨t', e, hs, fun _ => hb (.inr ⟨hrc, hl'⟩)⟩
  | @red a k v s l r n hl hr hlc hrc =>
    cases hl with
    | nil => exact absurd rfl hne
    | red => cases hlc
    | @black b k2 v2 s2 l2 r2 n g1 g2 g3 =>
      cases hc : isR l2
      · obtain ⟨d, k3, v3, s3, c3, l3, r3, rfl⟩ := hr.some
        have hc3 : c3 = false := hrc
        subst hc3
        cases hr with
        | @black _ _ _ _ _ _ _ f1 f2 f3 =>
        cases hc2 : isR l3
        · refine ⟨.node a k v s false (.node b k2 v2 s2 true l2 r2) (.node d k3 v3 s3 true l3 r3), n, ?_, .red g1 g2 hc g3, nofun, fun l' hl' _ => ?_⟩
          · simp [goL, lft_node, hc, redL, flipT, rgt_node, hc2]
          · obtain ⟨t', e, hs, hb⟩ := bal_black (a := a) (k := k) (v := v) (s := s) (.inl hl') (.red f1 f2 hc2 f3 : Str (.node d k3 v3 s3 true l3 r3) n)
            exact ⟨t', e, hs, nofun⟩
        · cases f1 with
          | nil => cases hc2
          | black => cases hc2
          | @red x k4 v4 s4 l4 r4 _ e1 e2 e3 e4 =>
            have hgo : ∃ sa sb sc, goL (.node a k v s true (.node b k2 v2 s2 false l2 r2) (.node d k3 v3 s3 false (.node x k4 v4 s4 true l4 r4) r3)) = some (.node x k4 v4 sa true (.node a k v sb false (.node b k2 v2 s2 true l2 r2) l4) (.node d k3 v3 sc false r4 r3)) := by
              simp [goL, lft_node, hc, redL, flipT, rgt_node, rotR, rotL, setR, isR_node]
            obtain ⟨sa, sb, sc, hgo⟩ := hgo
            refine ⟨_, n + 1, hgo, .black (.red g1 g2 hc g3) e1 rfl e3, nofun, fun l' hl' hlb => ?_⟩
            have hlb := hlb rfl
            obtain ⟨t', e, ha, hr, hs⟩ := bal_red (a := x) (k := k4) (v := v4) (s := sa) hl' (.black e2 f2 f3 : Str (.node d k3 v3 sc false r4 r3) (n + 1)) (.inl hlb)
            exact ⟨t', e, hs hlb rfl, nofun⟩
      · refine ⟨.node a k v s true (.node b k2 v2 s2 false l2 r2) r, n + 1, ?_, .black g1 g2 hc g3, nofun, fun l' hl' hb => ?_⟩
        · simp [goL, lft_node, hc]
        · have hlb := hb rfl
          obtain ⟨t', e, ha, hr2, hs⟩ := bal_red (a := a) (k := k) (v := v) (s := s) hl' hr (.inl hlb)
          exact ⟨t', e, hs hlb hrc, nofun⟩
theorem leanR_ok {t : RB} {m : Nat} (h : Pre t m ∨ PreR t m) : ∃ t1, leanR t = some t1 ∧ ((Pre t1 m ∧ isR t1 = true ∧ isR t = true) ∨ PreR t1 m) := by
  rcases h with h | h
  · cases h with
    | @red a k v s l r n h1 h2 h3 h4 => exact ⟨.node a k v s true l r, by simp [leanR, lft_node, h3], .inl ⟨.red h1 h2 h3 h4, rfl, rfl⟩⟩
    | @black a k v s l r n h1 h2 h3 h4 =>
      cases h1 with
      | nil => cases h3
      | black => cases h3
      | @red b k2 v2 s2 l2 r2 _ g1 g2 g3 g4 =>
        have : ∃ sa sb, leanR (.node a k v s false (.node b k2 v2 s2 true l2 r2) r) = some (.node b k2 v2 sa false l2 (.node a k v sb true r2 r)) := by
          simp [leanR, lft_node, isR_node, rotR]
        obtain ⟨sa, sb, h⟩ := this
        exact ⟨_, h, .inr (.mk g1 (.red g2 h2 g4 h4) g3 rfl)⟩
  · cases h with
    | @mk a k v s l r n h1 h2 h3 h4 => exact ⟨.node a k v s false l r, by simp [leanR, lft_node, h3], .inr (.mk h1 h2 h3 h4)⟩
def setO (t : RB) : Option En → RB
  | none => t
  | some e => setE t e
/-- behind the way down to the right -/
theorem goR_ok {t : RB} {m : Nat} (h : (Pre t m ∧ isR t = true) ∨ PreR t m) (hne : rgt t ≠ .nil) :
    ∃ t1 h1, goR t = some t1 ∧ t1 ≠ .nil ∧ ((Pre (rgt t1) h1 ∧ keyT t1 = keyT t) ∨ (PreR (rgt t1) h1 ∧ keyT (rgt t1) = keyT t ∧ lft t ≠ .nil ∧ keyT t1 = keyT (lft t))) ∧
      ∀ r', Str r' h1 → (isR (rgt t1) = false → isR r' = false) → ∀ e : Option En, ∃ t', bal (setR (setO t1 e) r') = some t' ∧ Str t' m ∧ (isR t = false → isR t' = false) := by
  rcases h with ⟨h, hc⟩ | h
  · cases h with
    | black => cases hc
    | @red a k v s l r n hl hr hlc hrc =>
      cases hr with
      | nil => exact absurd rfl hne
      | red => cases hrc
      | @black d k3 v3 s3 l3 r3 n f1 f2 f3 =>
        cases hc2 : isR l3
        · obtain ⟨b, k2, v2, s2, c2, l2, r2, rfl⟩ := hl.some
          have hc3 : c2 = false := hlc
          subst hc3
          cases hl with
          | @black _ _ _ _ _ _ _ g1 g2 g3 =>
          cases hc4 : isR l2
          · refine ⟨.node a k v s false (.node b k2 v2 s2 true l2 r2) (.node d k3 v3 s3 true l3 r3), n, ?_, nofun, .inl ⟨.red f1 f2 hc2 f3, rfl⟩, fun r' hr' _ e => ?_⟩
            · simp [goR, lft_node, hc4, redRt, flipT, rgt_node, hc2]
            · cases e with
              | none =>
                obtain ⟨t', e, hs, hb⟩ := bal_black (a := a) (k := k) (v := v) (s := s) (.inl (.red g1 g2 hc4 g3 : Str (.node b k2 v2 s2 true l2 r2) n)) hr'
                exact ⟨t', e, hs, nofun⟩
              | some x =>
                obtain ⟨t', e, hs, hb⟩ := bal_black (a := a) (k := x.1) (v := x.2) (s := s) (.inl (.red g1 g2 hc4 g3 : Str (.node b k2 v2 s2 true l2 r2) n)) hr'
                exact ⟨t', e, hs, nofun⟩
          · have hgo : ∃ sa sb, goR (.node a k v s true (.node b k2 v2 s2 false l2 r2) (.node d k3 v3 s3 false l3 r3)) = some (.node b k2 v2 sa true (paint l2) (.node a k v sb false r2 (.node d k3 v3 s3 true l3 r3))) := by
              cases l2 with
              | nil => cases hc4
              | node => simp [goR, lft_node, rgt_node, hc2, redRt, flipT, hc4, rotR, paint]
            obtain ⟨sa, sb, hgo⟩ := hgo
            have hp : Str (paint l2) (n + 1) ∧ isR (paint l2) = false := by
              cases g1 with
              | nil => cases hc4
              | black => cases hc4
              | red e1 e2 e3 e4 => exact ⟨.black e1 e2 e4, rfl⟩
            refine ⟨_, n + 1, hgo, nofun, .inr ⟨.mk g2 (.red f1 f2 hc2 f3) g3 rfl, rfl, nofun, rfl⟩, fun r' hr' hrb e => ?_⟩
            have hrb := hrb rfl
            cases e with
            | none =>
              obtain ⟨t', e, ha, _, hs⟩ := bal_red (a := b) (k := k2) (v := v2) (s := sa) hp.1 hr' (.inr hrb)
              exact ⟨t', e, hs hp.2 hrb, nofun⟩
            | some x =>
              obtain ⟨t', e, ha, _, hs⟩ := bal_red (a := b) (k := x.1) (v := x.2) (s := sa) hp.1 hr' (.inr hrb)
              exact ⟨t', e, hs hp.2 hrb, nofun⟩
        · refine ⟨.node a k v s true l (.node d k3 v3 s3 false l3 r3), n + 1, ?_, nofun, .inl ⟨.black f1 f2 hc2 f3, rfl⟩, fun r' hr' hb e => ?_⟩
          · simp [goR, rgt_node, hc2]
          · have hrb := hb rfl
            cases e with
            | none =>
              obtain ⟨t', e, ha, _, hs⟩ := bal_red (a := a) (k := k) (v := v) (s := s) hl hr' (.inr hrb)
              exact ⟨t', e, hs hlc hrb, nofun⟩
            | some x =>
              obtain ⟨t', e, ha, _, hs⟩ := bal_red (a := a) (k := x.1) (v := x.2) (s := s) hl hr' (.inr hrb)
              exact ⟨t', e, hs hlc hrb, nofun⟩
  · cases h with
    | @mk a k v s l r n hl hr hlc hrc =>
      refine ⟨.node a k v s false l r, n, ?_, nofun, .inl ⟨.of_red hr hrc, rfl⟩, fun r' hr' _ e => ?_⟩
      · unfold goR
        cases r with
        | nil => cases hrc
        | node b k2 v2 s2 c2 l2 r2 =>
          have : c2 = true := hrc
          subst this
          simp [rgt_node]
      · cases e with
        | none =>
          obtain ⟨t', e, hs, hb⟩ := bal_black (a := a) (k := k) (v := v) (s := s) (.inl hl) hr'
          exact ⟨t', e, hs, fun _ => hb (.inl hlc)⟩
        | some x =>
          obtain ⟨t', e, hs, hb⟩ := bal_black (a := a) (k := x.1) (v := x.2) (s := s) (.inl hl) hr'
          exact ⟨t', e, hs, fun _ => hb (.inl hlc)⟩
theorem Str.leaf {t : RB} {a k v s c r n} (h : Str (.node a k v s c .nil r) n) (hc : c = true) : r = .nil ∧ n = 0 := by
  subst hc
  cases h with
  | red h1 h2 h3 h4 =>
    cases h1
    exact ⟨h2.nil_of h4, rfl⟩
/-- the least one goes -/
theorem dropF_ok : ∀ (n : Nat) (t : RB) (m : Nat), (listT t).length ≤ n → Pre t m → ∃ t', dropF n t = some t' ∧ Str t' m ∧ (isR t = false → isR t' = false)
  | 0, t, m, hn, h => by cases h <;> simp [listT] at hn
  | n + 1, .nil, m, hn, h => by cases h
  | n + 1, .node a k v s c l r, m, hn, h => by
    unfold dropF
    cases l with
    | nil =>
      cases h with
      | black _ _ h _ => cases h
      | red h1 h2 h3 h4 =>
        cases h1
        have := h2.nil_of h4
        subst this
        exact ⟨.nil, rfl, .nil, nofun⟩
    | node b k2 v2 s2 c2 l2 r2 =>
      rw [if_neg (by simp [adr])]
      obtain ⟨t1, h1, e1, hp, hne, hbal⟩ := goL_ok h nofun
      have e2 := (goL_same e1).1.list
      have hlt : (listT (lft t1)).length ≤ n := by
        cases t1 with
        | nil => exact absurd rfl hne
        | node a1 k1 v1 s1 c1 l1 r1 =>
          have := congrArg List.length e2
          simp only [listT, List.length_append, List.length_cons, lft_node] at this hn ⊢
          omega
      obtain ⟨l', e3, hs, hb⟩ := dropF_ok n (lft t1) h1 hlt hp
      obtain ⟨t', e4, hs2, hb2⟩ := hbal l' hs hb
      refine ⟨t', ?_, hs2, hb2⟩
      rw [e1]
      show ((dropF n (lft t1)).bind fun l' => bal (setL t1 l')) = some t'
      rw [e3]
      exact e4
theorem right_in {x : Ky} {vx : Int} {A B : List En} {k : Ky} {v : Int} (hs : SortE (A ++ (k, v) :: B)) (hk : lessK k x = true) (h : (x, vx) ∈ A ++ (k, v) :: B) : (x, vx) ∈ B := by
  have hm := sort_mid (A := A) (x := (k, v)) (B := B) hs
  rcases List.mem_append.1 h with h | h
  · have := hm.1 _ h; rw [lessK_asym this] at hk; cases hk
  · rcases List.mem_cons.1 h with h | h
    · cases h; rw [lessK_irr] at hk; cases hk
    · exact h
theorem left_in {x : Ky} {vx : Int} {A B : List En} {k : Ky} {v : Int} (hs : SortE (A ++ (k, v) :: B)) (hk : lessK x k = true) (h : (x, vx) ∈ A ++ (k, v) :: B) : (x, vx) ∈ A := by
  have hm := sort_mid (A := A) (x := (k, v)) (B := B) hs
  rcases List.mem_append.1 h with h | h
  · exact h
  · rcases List.mem_cons.1 h with h | h
    · cases h; rw [lessK_irr] at hk; cases hk
    · have := hm.2.1 _ h; rw [lessK_asym this] at hk; cases hk
/-- what is there goes -/
theorem dropR_ok (x : Ky) : ∀ (n : Nat) (t : RB) (m : Nat), (listT t).length ≤ n → SortE (listT t) → (∃ v, (x, v) ∈ listT t) → Pre t m ∨ (PreR t m ∧ ∀ k, keyT t = some k → lessK x k = false) → ∃ t', dropR n x t = some t' ∧ Str t' m ∧ (isR t = false → isR t' = false)
  | 0, t, m, hn, _, ⟨v, hv⟩, h => by
    have : (listT t) = [] := List.eq_nil_of_length_eq_zero (by omega)
    rw [this] at hv
    cases hv
  | n + 1, .nil, m, hn, _, ⟨v, hv⟩, h => by cases hv
  | n + 1, .node a k v s c l r, m, hn, hs, ⟨vx, hx⟩, h => by
    unfold dropR
    by_cases hlt : lessK x k = true
    · rw [if_pos hlt]
      have hxl := left_in hs hlt hx
      have hlne : l ≠ .nil := by rintro rfl; cases hxl
      have hpre : Pre (.node a k v s c l r) m := by
        rcases h with h | ⟨_, h⟩
        · exact h
        · rw [h k rfl] at hlt; cases hlt
      obtain ⟨t1, h1, e1, hp, hne, hbal⟩ := goL_ok hpre hlne
      have e2 := (goL_same e1).1.list
      have hs1 := hs
      rw [← e2] at hs1
      have hkk := goL_key hs e1
      obtain ⟨a1, k1, v1, s1, c1, l1, r1, rfl, _⟩ := setL_node (l' := .nil) hne
      have hm1 := sort_mid (A := listT l1) (x := (k1, v1)) (B := listT r1) hs1
      have hlen : (listT l1).length ≤ n := by
        have := congrArg List.length e2
        simp only [listT, List.length_append, List.length_cons] at this hn
        omega
      have hxk : lessK x k1 = true := by
        rcases hkk with e | ⟨k2, e, h5⟩
        · cases e; exact hlt
        · cases e; exact lessK_trans hlt h5
      have hin : (x, vx) ∈ listT l1 := left_in hs1 hxk (by rw [← e2] at hx; exact hx)
      obtain ⟨l', e3, hs3, hb⟩ := dropR_ok x n l1 h1 hlen hm1.2.2.1 ⟨vx, hin⟩ (.inl hp)
      obtain ⟨t', e4, hs4, hb4⟩ := hbal l' hs3 hb
      refine ⟨t', ?_, hs4, hb4⟩
      rw [e1]
      show ((dropR n x l1).bind fun l' => bal (setL (.node a1 k1 v1 s1 c1 l1 r1) l')) = some t'
      rw [e3]
      exact e4
    · rw [if_neg hlt]
      have hlt : lessK x k = false := by simpa using hlt
      obtain ⟨t1, e1, h1⟩ := leanR_ok (h.imp id And.left)
      have k1le := leanR_key hs hlt e1
      have d1 := (leanR_same e1).1.list
      have hcc : isR (.node a k v s c l r) = false → isR t1 = false := by
        intro hh
        rcases h1 with ⟨_, _, h1⟩ | h1
        · rw [h1] at hh; cases hh
        · cases h1; rfl
      have h1' : (Pre t1 m ∧ isR t1 = true) ∨ PreR t1 m := h1.imp (fun h => ⟨h.1, h.2.1⟩) id
      have hs1 := hs
      rw [← d1] at hs1
      have hx1 := hx
      rw [← d1] at hx1
      have hne1 : t1 ≠ .nil := by rintro rfl; cases hx1
      obtain ⟨a1, k1, v1, s1, c1, l1, r1, rfl, _⟩ := setL_node (l' := .nil) hne1
      have hk1 := k1le k1 rfl
      rw [e1]
      show ∃ t', (if keyT (.node a1 k1 v1 s1 c1 l1 r1) = some x ∧ adr r1 = none then (if adr l1 = none then some RB.nil else none) else _) = some t' ∧ _
      by_cases hend : keyT (.node a1 k1 v1 s1 c1 l1 r1) = some x ∧ adr r1 = none
      · rw [if_pos hend]
        have hr := adr_none.1 hend.2
        subst hr
        rcases h1' with ⟨hp, hc⟩ | hp
        · cases hp with
          | black => cases hc
          | red g1 g2 g3 g4 =>
            cases g2
            have := g1.nil_of g3
            subst this
            exact ⟨.nil, rfl, .nil, fun _ => rfl⟩
        · exfalso
          cases hp with
          | mk _ _ _ h9 => cases h9
      · rw [if_neg hend]
        have hrne : r1 ≠ .nil := by
          rintro rfl
          have hk1x : keyT (.node a1 k1 v1 s1 c1 l1 .nil) ≠ some x := fun hh => hend ⟨hh, rfl⟩
          cases e : lessK k1 x
          · exact hk1x (by rw [lessK_tri hk1 e]; rfl)
          · have := right_in hs1 e hx1
            cases this
        obtain ⟨t2, h2, e2, hne2, hp2, hbal⟩ := goR_ok h1' hrne
        have d2 := (goR_same e2).1.list
        have k2le := goR_key hs1 k1le e2
        obtain ⟨a2, k2, v2, s2, c2, l2, r2, rfl, _⟩ := setL_node (l' := .nil) hne2
        have hk2 := k2le k2 rfl
        have hs2 := hs1
        rw [← d2] at hs2
        have hx2 := hx1
        rw [← d2] at hx2
        have hm2 := sort_mid (A := listT l2) (x := (k2, v2)) (B := listT r2) hs2
        have hlen : (listT r2).length ≤ n := by
          have d := congrArg List.length (d2.trans d1)
          simp only [listT, List.length_append, List.length_cons] at d hn
          omega
        rw [e2]
        show ∃ t', (if keyT (.node a2 k2 v2 s2 c2 l2 r2) = some x then (firstE r2).bind fun e => (dropF n r2).bind fun r' => bal (setR (setE (.node a2 k2 v2 s2 c2 l2 r2) e) r') else (dropR n x r2).bind fun r' => bal (setR (.node a2 k2 v2 s2 c2 l2 r2) r')) = some t' ∧ _
        by_cases hxe : keyT (.node a2 k2 v2 s2 c2 l2 r2) = some x
        · rw [if_pos hxe]
          cases hxe
          have hpre : Pre r2 h2 := by
            rcases hp2 with ⟨hp, _⟩ | ⟨_, _, hlne, hkk⟩
            · exact hp
            · have hmm := sort_mid (A := listT l1) (x := (k1, v1)) (B := listT r1) hs1
              cases l1 with
              | nil => exact absurd rfl hlne
              | node b k3 v3 s3 c3 l3 r3 =>
                cases hkk
                have := hmm.1 (x, v3) (by simp [listT])
                rw [this] at hk1
                cases hk1
          have hrne2 : r2 ≠ .nil := by rintro rfl; cases hpre
          obtain ⟨e0, L0, _, q2⟩ := first_some r2 hrne2
          obtain ⟨r', e3, hs3, hb⟩ := dropF_ok n r2 h2 hlen hpre
          obtain ⟨t', e4, hs4, hb4⟩ := hbal r' hs3 hb (some e0)
          refine ⟨t', ?_, hs4, fun hh => hb4 (hcc hh)⟩
          rw [q2]
          show ((dropF n r2).bind fun r' => bal (setR (setE (.node a2 x v2 s2 c2 l2 r2) e0) r')) = some t'
          rw [e3]
          exact e4
        · rw [if_neg hxe]
          have hlt2 : lessK k2 x = true := by
            cases e : lessK k2 x
            · exact absurd (by rw [lessK_tri hk2 e]; rfl) hxe
            · rfl
          have hin := right_in hs2 hlt2 hx2
          have hpre : Pre r2 h2 ∨ (PreR r2 h2 ∧ ∀ k, keyT r2 = some k → lessK x k = false) := by
            rcases hp2 with ⟨hp, _⟩ | ⟨hp, hkr, _⟩
            · exact .inl hp
            · refine .inr ⟨hp, fun k' hk' => ?_⟩
              have hkr : keyT r2 = some k1 := hkr
              rw [hkr] at hk'
              cases hk'
              exact hk1
          obtain ⟨r', e3, hs3, hb⟩ := dropR_ok x n r2 h2 hlen hm2.2.2.2 ⟨vx, hin⟩ hpre
          obtain ⟨t', e4, hs4, hb4⟩ := hbal r' hs3 hb none
          refine ⟨t', ?_, hs4, fun hh => hb4 (hcc hh)⟩
          rw [e3]
          exact e4
/-- the whole tree: made black at its root -/
def blackT : RB → RB
  | .nil => .nil
  | .node a k v s _ l r => .node a k v s false l r
def redT : RB → RB
  | .nil => .nil
  | .node a k v s _ l r => .node a k v s true l r
def Well (t : RB) : Prop := isR t = false ∧ (∃ n, Str t n) ∧ SumOk t ∧ SortE (listT t)
theorem blackT_same (t : RB) : listT (blackT t) = listT t ∧ addrs (blackT t) = addrs t ∧ (SumOk t → SumOk (blackT t)) ∧ isR (blackT t) = false := by
  cases t with
  | nil => exact ⟨rfl, rfl, id, rfl⟩
  | node => exact ⟨rfl, rfl, id, rfl⟩
theorem blackT_str {t : RB} {n : Nat} (h : Str t n ∨ Alm t n) : ∃ m, Str (blackT t) m := by
  rcases h with h | h
  · cases h with
    | nil => exact ⟨0, .nil⟩
    | red h1 h2 h3 h4 => exact ⟨_, .black h1 h2 h4⟩
    | black h1 h2 h3 => exact ⟨_, .black h1 h2 h3⟩
  · cases h with
    | mk h1 h2 h3 => exact ⟨_, .black h1 h2 h3⟩
theorem mem_insE {e : En} : ∀ {L : List En} {z : En}, z ∈ insE L e ↔ z = e ∨ z ∈ L
  | [], z => by simp [insE]
  | x :: L, z => by
    unfold insE
    split
    · simp
    · simp only [List.mem_cons, mem_insE (L := L)]
      constructor
      · rintro (h | h | h)
        · exact .inr (.inl h)
        · exact .inl h
        · exact .inr (.inr h)
      · rintro (h | h | h)
        · exact .inr (.inl h)
        · exact .inl h
        · exact .inr (.inr h)
theorem sort_ins {e : En} : ∀ {L : List En}, SortE L → (∀ z ∈ L, z.1 ≠ e.1) → SortE (insE L e)
  | [], _, _ => by simp [insE, SortE]
  | x :: L, h, hn => by
    have h1 := (List.pairwise_cons.1 h).1
    unfold insE
    split
    · rename_i hlt
      refine List.pairwise_cons.2 ⟨fun z hz => ?_, h⟩
      rcases List.mem_cons.1 hz with rfl | hz
      · exact hlt
      · exact lessK_trans hlt (h1 z hz)
    · rename_i hlt
      have hlt : lessK e.1 x.1 = false := by simpa using hlt
      refine List.pairwise_cons.2 ⟨fun z hz => ?_, sort_ins (List.pairwise_cons.1 h).2 fun z hz => hn z (.tail _ hz)⟩
      rcases mem_insE.1 hz with rfl | hz
      · cases e2 : lessK x.1 z.1
        · exact absurd (lessK_tri e2 hlt) (hn x (.head _))
        · rfl
      · exact h1 z hz
theorem sort_del {L : List En} (h : SortE L) (x : Ky) : SortE (delE L x) := List.Pairwise.filter _ h
theorem Well.put {t : RB} (h : Well t) (a : Nat) (k : Ky) (v : Int) (hn : ∀ z ∈ listT t, z.1 ≠ k) :
    ∃ t', putR a k v t = some t' ∧ t' ≠ .nil ∧ Well (blackT t') ∧ listT (blackT t') = insE (listT t) (k, v) ∧ (addrs (blackT t')).Perm (a :: addrs t) := by
  obtain ⟨hr, ⟨n, hs⟩, hk, ho⟩ := h
  obtain ⟨t', e, h1, _⟩ := put_ok a k v t n hs
  have h2 := put_list a k v t t' ho e
  have hb := blackT_same t'
  refine ⟨t', e, ?_, ⟨hb.2.2.2, blackT_str (.inl (h1 hr)), hb.2.2.1 (h2.2.2 hk), ?_⟩, hb.1.trans h2.1, hb.2.1 ▸ h2.2.1⟩
  · rintro rfl
    have := h2.2.1.length_eq
    simp [addrs] at this
  · rw [hb.1, h2.1]
    exact sort_ins ho hn
/-- the root is made red, if it has no red one below -/
def startT (t : RB) : RB := if isR (lft t) = false ∧ isR (rgt t) = false then redT t else t
theorem Well.drop {t : RB} (h : Well t) (x : Ky) (hx : ∃ v, (x, v) ∈ listT t) :
    ∃ t', dropR (listT t).length x (startT t) = some t' ∧ Well (blackT t') ∧ listT (blackT t') = delE (listT t) x ∧ ∃ b, (addrs t).Perm (b :: addrs (blackT t')) := by
  obtain ⟨hr, ⟨n, hs⟩, hk, ho⟩ := h
  have hq : listT (startT t) = listT t ∧ addrs (startT t) = addrs t ∧ (SumOk t → SumOk (startT t)) := by
    unfold startT
    split
    · cases t <;> exact ⟨rfl, rfl, id⟩
    · exact ⟨rfl, rfl, id⟩
  have hp : ∃ m, Pre (startT t) m := by
    cases hs with
    | nil => obtain ⟨v, hv⟩ := hx; cases hv
    | red => cases hr
    | @black a k v s l r n h1 h2 h3 =>
      unfold startT
      rw [lft_node, rgt_node]
      cases hc : isR l
      · rw [if_pos ⟨rfl, h3⟩]; exact ⟨n, .red h1 h2 hc h3⟩
      · rw [if_neg (by simp)]; exact ⟨n + 1, .black h1 h2 hc h3⟩
  obtain ⟨m, hp⟩ := hp
  obtain ⟨t', e, h1, _⟩ := dropR_ok x (listT t).length (startT t) m (by rw [hq.1]; exact Nat.le_refl _) (by rw [hq.1]; exact ho) (by rw [hq.1]; exact hx) (.inl hp)
  have h2 := dropR_list x _ _ _ (by rw [hq.1]; exact ho) e
  rw [hq.1, hq.2.1] at h2
  have hb := blackT_same t'
  refine ⟨t', e, ⟨hb.2.2.2, blackT_str (.inl h1), hb.2.2.1 (h2.2.2 (hq.2.2 hk)), ?_⟩, hb.1.trans h2.1, hb.2.1 ▸ h2.2.1⟩
  rw [hb.1, h2.1]
  exact sort_del ho x
theorem Well.nil : Well .nil := ⟨rfl, ⟨0, .nil⟩, trivial, List.Pairwise.nil⟩
end Go.Proofs.YtbnnkkojlclgjaaGreat
