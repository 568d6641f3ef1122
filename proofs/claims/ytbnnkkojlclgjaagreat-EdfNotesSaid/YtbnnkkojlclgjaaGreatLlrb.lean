/-
  A left-leaning tree of red and black nodes, in plain words: what is put in and taken out, how it is turned; that it never meets a missing node.
-/

namespace Go.Proofs.YtbnnkkojlclgjaaGreat
set_option linter.unusedVariables false

abbrev Ky := Int × Int
abbrev En := Ky × Int
def lessK (x y : Ky) : Bool := decide (x.1 < y.1) || (decide (x.1 = y.1) && decide (x.2 < y.2))
def ownK (k : Ky) (v : Int) : Ky := (v, k.2)
def lessH (a b : Ky) : Ky := if a = b ∨ lessK a b = true then a else b
/-- nodes: where each lies, its key, its value, the summary, its colour, what stands below -/
inductive RB where
  | nil
  | node (a : Nat) (k : Ky) (v : Int) (s : Ky) (c : Bool) (l r : RB)
def isR : RB → Bool
  | .nil => false
  | .node _ _ _ _ c _ _ => c
def lft : RB → RB
  | .nil => .nil
  | .node _ _ _ _ _ l _ => l
def rgt : RB → RB
  | .nil => .nil
  | .node _ _ _ _ _ _ r => r
def adr : RB → Option Nat
  | .nil => none
  | .node a _ _ _ _ _ _ => some a
def joinL (t : RB) (s : Ky) : Ky := match t with
  | .nil => s
  | .node _ _ _ s2 _ _ _ => lessH s2 s
def joinR (t : RB) (s : Ky) : Ky := match t with
  | .nil => s
  | .node _ _ _ s2 _ _ _ => lessH s s2
def total (k : Ky) (v : Int) (l r : RB) : Ky := joinR r (joinL l (ownK k v))
def rotL : RB → Option RB
  | .node a k v _ c l (.node b k2 v2 _ _ m r) => some (.node b k2 v2 (total k2 v2 (.node a k v (total k v l m) true l m) r) c (.node a k v (total k v l m) true l m) r)
  | _ => none
def rotR : RB → Option RB
  | .node a k v _ c (.node b k2 v2 _ _ l m) r => some (.node b k2 v2 (total k2 v2 l (.node a k v (total k v m r) true m r)) c l (.node a k v (total k v m r) true m r))
  | _ => none
def paint : RB → RB
  | .nil => .nil
  | .node a k v s c l r => .node a k v s (!c) l r
def flipT : RB → Option RB
  | .node a k v s c (.node b k2 v2 s2 c2 l2 r2) (.node d k3 v3 s3 c3 l3 r3) => some (.node a k v s (!c) (.node b k2 v2 s2 (!c2) l2 r2) (.node d k3 v3 s3 (!c3) l3 r3))
  | _ => none
def resum : RB → Option RB
  | .nil => none
  | .node a k v _ c l r => some (.node a k v (total k v l r) c l r)
def bal1 (t : RB) : Option RB := if isR (rgt t) = true ∧ isR (lft t) = false then rotL t else some t
def bal2 (t : RB) : Option RB := if isR (lft t) = true ∧ isR (lft (lft t)) = true then rotR t else some t
def bal3 (t : RB) : Option RB := if isR (lft t) = true ∧ isR (rgt t) = true then flipT t else some t
def bal (t : RB) : Option RB := (bal1 t).bind fun t => (bal2 t).bind fun t => (bal3 t).bind resum
/-- a new one comes -/
def putR (a : Nat) (k : Ky) (v : Int) : RB → Option RB
  | .nil => some (.node a k v (ownK k v) true .nil .nil)
  | .node b k2 v2 s c l r => if lessK k k2 = true then (putR a k v l).bind fun l' => bal (.node b k2 v2 s c l' r) else (putR a k v r).bind fun r' => bal (.node b k2 v2 s c l r')
def setR (t r : RB) : RB := match t with
  | .nil => .nil
  | .node a k v s c l _ => .node a k v s c l r
def setL (t l : RB) : RB := match t with
  | .nil => .nil
  | .node a k v s c _ r => .node a k v s c l r
def redL (t : RB) : Option RB := (flipT t).bind fun t => if isR (lft (rgt t)) = true then (rotR (rgt t)).bind fun r => (rotL (setR t r)).bind flipT else some t
def redRt (t : RB) : Option RB := (flipT t).bind fun t => if isR (lft (lft t)) = true then (rotR t).bind flipT else some t
/-- the left one made red, if neither it nor the one below it is -/
def goL (t : RB) : Option RB := match lft t with
  | .nil => none
  | .node _ _ _ _ c l _ => if c = false ∧ isR l = false then redL t else some t
def goR (t : RB) : Option RB := match rgt t with
  | .nil => none
  | .node _ _ _ _ c l _ => if c = false ∧ isR l = false then redRt t else some t
def leanR (t : RB) : Option RB := if isR (lft t) = true then rotR t else some t
def dropF : Nat → RB → Option RB
  | 0, _ => none
  | n + 1, .nil => none
  | n + 1, .node a k v s c l r => if adr l = none then (if adr r = none then some .nil else none) else (goL (.node a k v s c l r)).bind fun t => (dropF n (lft t)).bind fun l' => bal (setL t l')
def firstE : RB → Option En
  | .nil => none
  | .node _ k v _ _ .nil _ => some (k, v)
  | .node _ _ _ _ _ l _ => firstE l
def keyT : RB → Option Ky
  | .nil => none
  | .node _ k _ _ _ _ _ => some k
def setE (t : RB) (e : En) : RB := match t with
  | .nil => .nil
  | .node a _ _ s c l r => .node a e.1 e.2 s c l r
def dropR : Nat → Ky → RB → Option RB
  | 0, _, _ => none
  | n + 1, x, .nil => none
  | n + 1, x, .node a k v s c l r => if lessK x k = true then (goL (.node a k v s c l r)).bind fun t => (dropR n x (lft t)).bind fun l' => bal (setL t l')
    else (leanR (.node a k v s c l r)).bind fun t => if keyT t = some x ∧ adr (rgt t) = none then (if adr (lft t) = none then some .nil else none) else (goR t).bind fun t => if keyT t = some x
      then (firstE (rgt t)).bind fun e => (dropF n (rgt t)).bind fun r' => bal (setR (setE t e) r')
      else (dropR n x (rgt t)).bind fun r' => bal (setR t r')

/-- the entries in order -/
def listT : RB → List En
  | .nil => []
  | .node _ k v _ _ l r => listT l ++ (k, v) :: listT r
/-- where the nodes lie -/
def addrs : RB → List Nat
  | .nil => []
  | .node a _ _ _ _ l r => a :: (addrs l ++ addrs r)
def sizeT : RB → Nat
  | .nil => 0
  | .node _ _ _ _ _ l r => sizeT l + sizeT r + 1
/-- well made, with so many black ones on each way down -/
inductive Str : RB → Nat → Prop
  | nil : Str .nil 0
  | red {a k v s l r n} : Str l n → Str r n → isR l = false → isR r = false → Str (.node a k v s true l r) n
  | black {a k v s l r n} : Str l n → Str r n → isR r = false → Str (.node a k v s false l r) (n + 1)
/-- red, but the left one below may be, too -/
inductive Alm : RB → Nat → Prop
  | mk {a k v s l r n} : Str l n → Str r n → isR r = false → Alm (.node a k v s true l r) n

/-! ### What turning leaves -/
def SumOk : RB → Prop
  | .nil => True
  | .node _ k v s _ l r => s = total k v l r ∧ SumOk l ∧ SumOk r
def KidsOk (t : RB) : Prop := SumOk (lft t) ∧ SumOk (rgt t)
theorem SumOk.kids {t : RB} (h : SumOk t) : KidsOk t := by
  cases t with
  | nil => exact ⟨trivial, trivial⟩
  | node a k v s c l r => exact h.2
/-- the same entries at the same places -/
structure Same (t t' : RB) : Prop where
  list : listT t' = listT t
  addr : (addrs t').Perm (addrs t)
theorem Same.refl (t : RB) : Same t t := ⟨rfl, .refl _⟩
theorem Same.trans {a b c : RB} (h : Same a b) (k : Same b c) : Same a c := ⟨k.list.trans h.list, k.addr.trans h.addr⟩
theorem rotL_same {t t' : RB} (h : rotL t = some t') : Same t t' ∧ (KidsOk t → SumOk t') := by
  cases t with
  | nil => cases h
  | node a k v s c l r =>
    cases r with
    | nil => cases h
    | node b k2 v2 s2 c2 m r =>
      cases h
      refine ⟨⟨by simp [listT], ?_⟩, fun hk => ⟨rfl, ⟨rfl, hk.1, hk.2.2.1⟩, hk.2.2.2⟩⟩
      simp only [addrs]
      refine List.Perm.trans ?_ (List.perm_middle (l₁ := a :: addrs l) (a := b) (l₂ := addrs m ++ addrs r)).symm
      simp
theorem rotR_same {t t' : RB} (h : rotR t = some t') : Same t t' ∧ (KidsOk t → SumOk t') := by
  cases t with
  | nil => cases h
  | node a k v s c l r =>
    cases l with
    | nil => cases h
    | node b k2 v2 s2 c2 l m =>
      cases h
      refine ⟨⟨by simp [listT], ?_⟩, fun hk => ⟨rfl, hk.1.2.1, rfl, hk.1.2.2, hk.2⟩⟩
      simp only [addrs]
      refine .trans (.cons b (List.perm_middle (l₁ := addrs l) (a := a) (l₂ := addrs m ++ addrs r))) ?_
      refine (List.Perm.swap a b _).trans ?_
      simp
theorem flip_same {t t' : RB} (h : flipT t = some t') : Same t t' ∧ (KidsOk t → KidsOk t') ∧ (SumOk t → SumOk t') := by
  cases t with
  | nil => cases h
  | node a k v s c l r =>
    cases l with
    | nil => cases h
    | node b k2 v2 s2 c2 l2 r2 =>
      cases r with
      | nil => cases h
      | node d k3 v3 s3 c3 l3 r3 =>
        cases h
        exact ⟨⟨rfl, .refl _⟩, id, id⟩
theorem resum_same {t t' : RB} (h : resum t = some t') : Same t t' ∧ (KidsOk t → SumOk t') := by
  cases t with
  | nil => cases h
  | node a k v s c l r =>
    cases h
    exact ⟨⟨rfl, .refl _⟩, fun hk => ⟨rfl, hk⟩⟩
theorem bal_same {t t' : RB} (h : bal t = some t') : Same t t' ∧ (KidsOk t → SumOk t') := by
  unfold bal at h
  obtain ⟨t1, h1, h⟩ := Option.bind_eq_some_iff.1 h
  obtain ⟨t2, h2, h⟩ := Option.bind_eq_some_iff.1 h
  obtain ⟨t3, h3, h4⟩ := Option.bind_eq_some_iff.1 h
  have e1 : Same t t1 ∧ (KidsOk t → KidsOk t1) := by
    unfold bal1 at h1
    split at h1
    · exact ⟨(rotL_same h1).1, fun k => ((rotL_same h1).2 k).kids⟩
    · cases h1; exact ⟨.refl _, id⟩
  have e2 : Same t1 t2 ∧ (KidsOk t1 → KidsOk t2) := by
    unfold bal2 at h2
    split at h2
    · exact ⟨(rotR_same h2).1, fun k => ((rotR_same h2).2 k).kids⟩
    · cases h2; exact ⟨.refl _, id⟩
  have e3 : Same t2 t3 ∧ (KidsOk t2 → KidsOk t3) := by
    unfold bal3 at h3
    split at h3
    · exact ⟨(flip_same h3).1, (flip_same h3).2.1⟩
    · cases h3; exact ⟨.refl _, id⟩
  have e4 := resum_same h4
  exact ⟨((e1.1.trans e2.1).trans e3.1).trans e4.1, fun k => e4.2 (e3.2 (e2.2 (e1.2 k)))⟩
theorem setR_list {t r : RB} (h : t ≠ .nil) (ha : (addrs r).Perm (addrs (rgt t))) (hl : listT r = listT (rgt t)) : Same t (setR t r) := by
  cases t with
  | nil => exact absurd rfl h
  | node a k v s c l r0 =>
    refine ⟨?_, ?_⟩
    · simp only [setR, listT, rgt] at *; rw [hl]
    · exact .cons _ (.append_left _ ha)
theorem redL_same {t t' : RB} (h : redL t = some t') : Same t t' ∧ (SumOk t → SumOk t') := by
  unfold redL at h
  obtain ⟨t1, h1, h⟩ := Option.bind_eq_some_iff.1 h
  have e1 := flip_same h1
  split at h
  · obtain ⟨r, h2, h⟩ := Option.bind_eq_some_iff.1 h
    obtain ⟨t3, h3, h4⟩ := Option.bind_eq_some_iff.1 h
    have e2 := rotR_same h2
    have e3 := rotL_same h3
    have e4 := flip_same h4
    have hne : t1 ≠ .nil := by rintro rfl; cases h2
    have e5 := setR_list hne e2.1.addr e2.1.list
    refine ⟨((e1.1.trans e5).trans e3.1).trans e4.1, fun k => e4.2.2 (e3.2 ?_)⟩
    have k1 := e1.2.2 k
    cases t1 with
    | nil => exact absurd rfl hne
    | node a k v s c l r0 => exact ⟨k1.2.1, e2.2 k1.2.2.kids⟩
  · cases h; exact ⟨e1.1, e1.2.2⟩
theorem redRt_same {t t' : RB} (h : redRt t = some t') : Same t t' ∧ (SumOk t → SumOk t') := by
  unfold redRt at h
  obtain ⟨t1, h1, h⟩ := Option.bind_eq_some_iff.1 h
  have e1 := flip_same h1
  split at h
  · obtain ⟨t3, h3, h4⟩ := Option.bind_eq_some_iff.1 h
    have e3 := rotR_same h3
    have e4 := flip_same h4
    exact ⟨(e1.1.trans e3.1).trans e4.1, fun k => e4.2.2 (e3.2 (e1.2.2 k).kids)⟩
  · cases h; exact ⟨e1.1, e1.2.2⟩
theorem goL_same {t t' : RB} (h : goL t = some t') : Same t t' ∧ (SumOk t → SumOk t') := by
  unfold goL at h
  split at h
  · cases h
  · split at h
    · exact redL_same h
    · cases h; exact ⟨.refl _, id⟩
theorem goR_same {t t' : RB} (h : goR t = some t') : Same t t' ∧ (SumOk t → SumOk t') := by
  unfold goR at h
  split at h
  · cases h
  · split at h
    · exact redRt_same h
    · cases h; exact ⟨.refl _, id⟩
theorem leanR_same {t t' : RB} (h : leanR t = some t') : Same t t' ∧ (SumOk t → SumOk t') := by
  unfold leanR at h
  split at h
  · exact ⟨(rotR_same h).1, fun k => (rotR_same h).2 k.kids⟩
  · cases h; exact ⟨.refl _, id⟩

/-! ### Keys in order -/
theorem lessK_iff {x y : Ky} : lessK x y = true ↔ x.1 < y.1 ∨ (x.1 = y.1 ∧ x.2 < y.2) := by
  unfold lessK
  simp only [Bool.or_eq_true, Bool.and_eq_true, decide_eq_true_eq]
theorem lessK_irr (x : Ky) : lessK x x = false := by
  cases h : lessK x x
  · rfl
  · rcases lessK_iff.1 h with h | h <;> omega
theorem lessK_trans {x y z : Ky} (h : lessK x y = true) (k : lessK y z = true) : lessK x z = true := by
  rw [lessK_iff] at *
  omega
theorem lessK_asym {x y : Ky} (h : lessK x y = true) : lessK y x = false := by
  cases e : lessK y x
  · rfl
  · have := lessK_trans h e; rw [lessK_irr] at this; cases this
theorem lessK_tri {x y : Ky} (h1 : lessK x y = false) (h2 : lessK y x = false) : x = y := by
  have a : ¬ (x.1 < y.1 ∨ (x.1 = y.1 ∧ x.2 < y.2)) := fun h => by rw [lessK_iff.2 h] at h1; cases h1
  have b : ¬ (y.1 < x.1 ∨ (y.1 = x.1 ∧ y.2 < x.2)) := fun h => by rw [lessK_iff.2 h] at h2; cases h2
  have : x.1 = y.1 := by omega
  exact Prod.ext this (by omega)
def SortE (L : List En) : Prop := L.Pairwise fun a b => lessK a.1 b.1 = true
/-- where a new one comes -/
def insE : List En → En → List En
  | [], e => [e]
  | x :: L, e => if lessK e.1 x.1 = true then e :: x :: L else x :: insE L e
def delE (L : List En) (x : Ky) : List En := L.filter fun e => !decide (e.1 = x)
theorem insE_left {e x : En} {B : List En} (h : lessK e.1 x.1 = true) : ∀ A : List En, insE (A ++ x :: B) e = insE A e ++ x :: B
  | [] => by show insE (x :: B) e = e :: x :: B; unfold insE; rw [if_pos h]
  | y :: A => by
    show insE (y :: (A ++ x :: B)) e = insE (y :: A) e ++ x :: B
    unfold insE
    split
    · rfl
    · rw [insE_left h A]; rfl
theorem insE_right {e x : En} {B : List En} (h : lessK e.1 x.1 = false) : ∀ A : List En, (∀ a ∈ A, lessK a.1 x.1 = true) → insE (A ++ x :: B) e = A ++ x :: insE B e
  | [], _ => by show insE (x :: B) e = x :: insE B e; conv => lhs; unfold insE
                rw [if_neg (by rw [h]; simp)]
  | y :: A, hA => by
    show insE (y :: (A ++ x :: B)) e = y :: (A ++ x :: insE B e)
    conv => lhs; unfold insE
    have hy := hA y (.head _)
    rw [if_neg, insE_right h A fun a ha => hA a (.tail _ ha)]
    intro h2
    rw [lessK_trans h2 hy] at h
    cases h
theorem sort_mid {A B : List En} {x : En} (h : SortE (A ++ x :: B)) : (∀ a ∈ A, lessK a.1 x.1 = true) ∧ (∀ b ∈ B, lessK x.1 b.1 = true) ∧ SortE A ∧ SortE B := by
  have h1 := List.pairwise_append.1 h
  have h2 := List.pairwise_cons.1 h1.2.1
  exact ⟨fun a ha => h1.2.2 a ha x (.head _), h2.1, h1.1, h2.2⟩
theorem put_list (a : Nat) (k : Ky) (v : Int) : ∀ (t t' : RB), SortE (listT t) → putR a k v t = some t' → listT t' = insE (listT t) (k, v) ∧ (addrs t').Perm (a :: addrs t) ∧ (SumOk t → SumOk t')
  | .nil, t', _, h => by
    cases h
    exact ⟨rfl, .refl _, fun _ => ⟨rfl, trivial, trivial⟩⟩
  | .node b k2 v2 s c l r, t', hs, h => by
    have hm := sort_mid (A := listT l) (x := (k2, v2)) (B := listT r) hs
    unfold putR at h
    split at h
    · rename_i hlt
      obtain ⟨l', h1, h2⟩ := Option.bind_eq_some_iff.1 h
      have ih := put_list a k v l l' hm.2.2.1 h1
      have hb := bal_same h2
      refine ⟨?_, ?_, fun hk => hb.2 ⟨ih.2.2 hk.2.1, hk.2.2⟩⟩
      · rw [hb.1.list]
        show listT l' ++ (k2, v2) :: listT r = _
        rw [ih.1]
        exact (insE_left (x := (k2, v2)) hlt _).symm
      · refine hb.1.addr.trans ?_
        show (b :: (addrs l' ++ addrs r)).Perm (a :: b :: (addrs l ++ addrs r))
        exact (List.Perm.cons b (ih.2.1.append_right _)).trans (.swap a b _)
    · rename_i hlt
      obtain ⟨r', h1, h2⟩ := Option.bind_eq_some_iff.1 h
      have ih := put_list a k v r r' hm.2.2.2 h1
      have hb := bal_same h2
      refine ⟨?_, ?_, fun hk => hb.2 ⟨hk.2.1, ih.2.2 hk.2.2⟩⟩
      · rw [hb.1.list]
        show listT l ++ (k2, v2) :: listT r' = _
        rw [ih.1]
        exact (insE_right (x := (k2, v2)) (by simpa using hlt) _ hm.1).symm
      · refine hb.1.addr.trans ?_
        show (b :: (addrs l ++ addrs r')).Perm (a :: b :: (addrs l ++ addrs r))
        refine (List.Perm.cons b ((ih.2.1.append_left _).trans List.perm_middle)).trans (.swap a b _)
theorem adr_none {t : RB} : adr t = none ↔ t = .nil := by cases t <;> simp [adr]
theorem setL_node {t l' : RB} (h : t ≠ .nil) : ∃ a k v s c l r, t = .node a k v s c l r ∧ setL t l' = .node a k v s c l' r := by
  cases t with
  | nil => exact absurd rfl h
  | node a k v s c l r => exact ⟨a, k, v, s, c, l, r, rfl, rfl⟩
theorem first_some (t : RB) (h : t ≠ .nil) : ∃ e0 L, listT t = e0 :: L ∧ firstE t = some e0 := by
  induction t with
  | nil => exact absurd rfl h
  | node a k v s c l r ih1 _ =>
    cases l with
    | nil => exact ⟨(k, v), listT r, rfl, rfl⟩
    | node a2 k2 v2 s2 c2 l2 r2 =>
      obtain ⟨e0, L, h1, h2⟩ := ih1 (by simp)
      exact ⟨e0, L ++ (k, v) :: listT r, by rw [listT, h1]; rfl, h2⟩
/-- what a node less leaves: the places, the sums -/
theorem dropF_list : ∀ (n : Nat) (t t' : RB), dropF n t = some t' → (∃ e, firstE t = some e ∧ listT t = e :: listT t') ∧ (∃ x, (addrs t).Perm (x :: addrs t')) ∧ (SumOk t → SumOk t')
  | 0, t, t', h => by cases h
  | n + 1, .nil, t', h => by cases h
  | n + 1, .node a k v s c l r, t', h => by
    unfold dropF at h
    split at h
    · rename_i hl
      have hl := adr_none.1 hl
      subst hl
      split at h
      · rename_i hr
        have hr := adr_none.1 hr
        subst hr
        cases h
        exact ⟨⟨(k, v), rfl, rfl⟩, ⟨a, .refl _⟩, fun _ => trivial⟩
      · cases h
    · rename_i hl
      obtain ⟨t1, h1, h⟩ := Option.bind_eq_some_iff.1 h
      obtain ⟨l', h2, h3⟩ := Option.bind_eq_some_iff.1 h
      have e1 := goL_same h1
      have ih := dropF_list n _ _ h2
      have hb := bal_same h3
      have hne : t1 ≠ .nil := by
        rintro rfl
        cases n <;> cases h2
      obtain ⟨⟨e, f1, f2⟩, ⟨x, f3⟩, f4⟩ := ih
      have e2 := e1.1.list
      have e3 := e1.1.addr
      have e4 := e1.2
      obtain ⟨a1, k1, v1, s1, c1, l1, r1, rfl, hset⟩ := setL_node (l' := l') hne
      rw [hset] at hb
      have g1 : listT l1 = e :: listT l' := f2
      have g2 : (addrs l1).Perm (x :: addrs l') := f3
      have hf := first_some (.node a k v s c l r) (by simp)
      obtain ⟨e0, L0, q1, q2⟩ := hf
      refine ⟨⟨e0, q2, ?_⟩, ⟨x, ?_⟩, fun hk => hb.2 ?_⟩
      · rw [hb.1.list]
        rw [← e2] at q1 ⊢
        have : e0 :: L0 = e :: (listT l' ++ (k1, v1) :: listT r1) := by
          rw [← q1]
          show listT l1 ++ (k1, v1) :: listT r1 = _
          rw [g1]; rfl
        injection this with a1 a2
        rw [q1, a2]
        rfl
      · refine e3.symm.trans ?_
        refine .trans ?_ (.cons x hb.1.addr.symm)
        show (a1 :: (addrs l1 ++ addrs r1)).Perm (x :: a1 :: (addrs l' ++ addrs r1))
        exact (List.Perm.cons a1 (g2.append_right _)).trans (.swap x a1 _)
      · have := e4 hk
        exact ⟨f4 this.2.1, this.2.2⟩
theorem delE_not {x : Ky} : ∀ {L : List En}, (∀ e ∈ L, e.1 ≠ x) → delE L x = L := by
  intro L h
  unfold delE
  rw [List.filter_eq_self]
  intro e he
  simpa using h e he
theorem lessK_ne {x y : Ky} (h : lessK x y = true) : x ≠ y := by
  rintro rfl
  rw [lessK_irr] at h
  cases h
theorem delE_append (A B : List En) (x : Ky) : delE (A ++ B) x = delE A x ++ delE B x := List.filter_append ..
theorem delE_cons_same (B : List En) (x : Ky) (v : Int) : delE ((x, v) :: B) x = delE B x := by unfold delE; rw [List.filter_cons_of_neg (by simp)]
theorem delE_cons_other (B : List En) {x : Ky} {e : En} (h : e.1 ≠ x) : delE (e :: B) x = e :: delE B x := by unfold delE; rw [List.filter_cons_of_pos (by simpa using h)]
theorem goL_key {a : Nat} {k : Ky} {v : Int} {s : Ky} {c : Bool} {l r t1 : RB} (hs : SortE (listT (.node a k v s c l r))) (h1 : goL (.node a k v s c l r) = some t1) : keyT t1 = some k ∨ ∃ k1, keyT t1 = some k1 ∧ lessK k k1 = true := by
  unfold goL at h1
  split at h1
  · cases h1
  · split at h1
    · unfold redL at h1
      obtain ⟨t2, f1, h1⟩ := Option.bind_eq_some_iff.1 h1
      cases l with
      | nil => cases f1
      | node b k2 v2 s2 c2 l2 r2 =>
        cases r with
        | nil => cases f1
        | node d k3 v3 s3 c3 l3 r3 =>
          cases f1
          split at h1
          · obtain ⟨t3, f2, h1⟩ := Option.bind_eq_some_iff.1 h1
            obtain ⟨t4, f3, h1⟩ := Option.bind_eq_some_iff.1 h1
            cases l3 with
            | nil => cases f2
            | node d2 k4 v4 s4 c4 l4 r4 =>
              cases f2
              cases f3
              cases l4 <;> cases r4 <;> cases h1 <;> (right; refine ⟨k4, rfl, ?_⟩; have := sort_mid (A := listT (.node b k2 v2 s2 c2 l2 r2)) (x := (k, v)) hs; exact this.2.1 (k4, v4) (by simp [listT]))
          · cases h1; left; rfl
    · cases h1; left; rfl
theorem leanR_key {x : Ky} {a : Nat} {k : Ky} {v : Int} {s : Ky} {c : Bool} {l r t1 : RB} (hs : SortE (listT (.node a k v s c l r))) (hlt : lessK x k = false) (h1 : leanR (.node a k v s c l r) = some t1) : ∀ k1, keyT t1 = some k1 → lessK x k1 = false := by
  intro k1 hk1
  unfold leanR at h1
  split at h1
  · cases l with
    | nil => cases h1
    | node b k2 v2 s2 c2 l2 r2 =>
      cases h1
      cases hk1
      have := sort_mid (A := listT (.node b k1 v2 s2 c2 l2 r2)) (x := (k, v)) hs
      have := this.1 (k1, v2) (by simp [listT])
      cases e : lessK x k1
      · rfl
      · rw [lessK_trans e this] at hlt; cases hlt
  · cases h1; cases hk1; exact hlt
theorem goR_key {x : Ky} {t1 t2 : RB} (hs1 : SortE (listT t1)) (k1le : ∀ k1, keyT t1 = some k1 → lessK x k1 = false) (h2 : goR t1 = some t2) : ∀ k2, keyT t2 = some k2 → lessK x k2 = false := by
  intro k2 hk2
  unfold goR at h2
  split at h2
  · cases h2
  · split at h2
    · unfold redRt at h2
      obtain ⟨t3, f1, h2⟩ := Option.bind_eq_some_iff.1 h2
      cases t1 with
      | nil => cases f1
      | node a1 k1 v1 s1 c1 l1 r1 =>
        have hk1 := k1le k1 rfl
        cases l1 with
        | nil => cases f1
        | node b k4 v4 s4 c4 l4 r4 =>
          cases r1 with
          | nil => cases f1
          | node d k5 v5 s5 c5 l5 r5 =>
            cases f1
            split at h2
            · obtain ⟨t4, f3, h2⟩ := Option.bind_eq_some_iff.1 h2
              cases f3
              cases l4 with
              | nil => cases h2
              | node b2 k6 v6 s6 c6 l6 r6 =>
                cases h2
                cases hk2
                have := sort_mid (A := listT (.node b k2 v4 s4 c4 (.node b2 k6 v6 s6 c6 l6 r6) r4)) (x := (k1, v1)) hs1
                have := this.1 (k2, v4) (by simp [listT])
                cases e : lessK x k2
                · rfl
                · rw [lessK_trans e this] at hk1; cases hk1
            · cases h2; cases hk2; exact hk1
    · cases h2; exact k1le _ hk2
theorem dropR_list (x : Ky) : ∀ (n : Nat) (t t' : RB), SortE (listT t) → dropR n x t = some t' → listT t' = delE (listT t) x ∧ (∃ b, (addrs t).Perm (b :: addrs t')) ∧ (SumOk t → SumOk t')
  | 0, t, t', _, h => by cases h
  | n + 1, .nil, t', _, h => by cases h
  | n + 1, .node a k v s c l r, t', hs, h => by
    unfold dropR at h
    split at h
    · rename_i hlt
      obtain ⟨t1, h1, h⟩ := Option.bind_eq_some_iff.1 h
      obtain ⟨l', h2, h3⟩ := Option.bind_eq_some_iff.1 h
      have e1 := goL_same h1
      have hb := bal_same h3
      have hne : t1 ≠ .nil := by
        rintro rfl
        cases n <;> cases h2
      have e2 := e1.1.list
      have e3 := e1.1.addr
      have e4 := e1.2
      have hs1 := hs
      rw [← e2] at hs1
      have hkey : ∀ k1, keyT t1 = some k1 → lessK x k1 = true := by
        intro k1 hk1
        have := goL_key hs h1
        rcases this with e | ⟨k2, e, h5⟩
        · rw [e] at hk1; cases hk1; exact hlt
        · rw [e] at hk1; cases hk1; exact lessK_trans hlt h5
      obtain ⟨a1, k1, v1, s1, c1, l1, r1, rfl, hset⟩ := setL_node (l' := l') hne
      have hx := hkey k1 rfl
      rw [hset] at hb
      have hm := sort_mid (A := listT l1) (x := (k1, v1)) (B := listT r1) hs1
      obtain ⟨f1, ⟨b, f2⟩, f3⟩ := dropR_list x n _ _ hm.2.2.1 h2
      refine ⟨?_, ⟨b, ?_⟩, fun hk => hb.2 ?_⟩
      · rw [hb.1.list, ← e2]
        show listT l' ++ (k1, v1) :: listT r1 = delE (listT l1 ++ (k1, v1) :: listT r1) x
        rw [delE_append, delE_not (L := (k1, v1) :: listT r1) fun e he => ?_]
        · have f1 : listT l' = delE (listT l1) x := f1
          rw [f1]
        · rcases List.mem_cons.1 he with rfl | he
          · exact (lessK_ne hx).symm
          · exact (lessK_ne (lessK_trans hx (hm.2.1 e he))).symm
      · refine e3.symm.trans ?_
        refine .trans ?_ (.cons b hb.1.addr.symm)
        show (a1 :: (addrs l1 ++ addrs r1)).Perm (b :: a1 :: (addrs l' ++ addrs r1))
        exact (List.Perm.cons a1 (List.Perm.append_right _ f2)).trans (.swap b a1 _)
      · have := e4 hk
        exact ⟨f3 this.2.1, this.2.2⟩
    · rename_i hlt
      have hlt : lessK x k = false := by simpa using hlt
      obtain ⟨t1, h1, h⟩ := Option.bind_eq_some_iff.1 h
      have e1 := leanR_same h1
      have k1le := leanR_key hs hlt h1
      split at h
      · rename_i hx
        split at h
        · rename_i hl
          have hl := adr_none.1 hl
          have hr := adr_none.1 hx.2
          cases h
          cases t1 with
          | nil => cases hx.1
          | node a1 k1 v1 s1 c1 l1 r1 =>
            cases hl
            cases hr
            have hk := hx.1
            cases hk
            refine ⟨?_, ⟨a1, e1.1.addr.symm⟩, fun _ => trivial⟩
            rw [← e1.1.list]
            show [] = delE [(x, v1)] x
            rw [delE_cons_same]; rfl
        · cases h
      · obtain ⟨t2, h2, h⟩ := Option.bind_eq_some_iff.1 h
        have e2 := goR_same h2
        have e3 := e1.1.trans e2.1
        have e4 : SumOk (.node a k v s c l r) → SumOk t2 := fun hk => e2.2 (e1.2 hk)
        have hs2 := hs
        rw [← e3.list] at hs2
        have hs1 := hs
        rw [← e1.1.list] at hs1
        have k2le := goR_key hs1 k1le h2
        cases t2 with
        | nil =>
          split at h
          · rename_i hx; cases hx
          · obtain ⟨r', f1, h⟩ := Option.bind_eq_some_iff.1 h
            cases n <;> cases f1
        | node a2 k2 v2 s2 c2 l2 r2 =>
          have hm := sort_mid (A := listT l2) (x := (k2, v2)) (B := listT r2) hs2
          split at h
          · rename_i hx
            cases hx
            obtain ⟨e, f1, h⟩ := Option.bind_eq_some_iff.1 h
            obtain ⟨r', f2, h⟩ := Option.bind_eq_some_iff.1 h
            have hb := bal_same h
            obtain ⟨⟨e', g1, g2⟩, ⟨b, g3⟩, g4⟩ := dropF_list n _ _ f2
            have : e' = e := by
              have f1 : firstE r2 = some e := f1
              have g1 : firstE r2 = some e' := g1
              rw [f1] at g1; cases g1; rfl
            subst this
            refine ⟨?_, ⟨b, ?_⟩, fun hk => hb.2 ?_⟩
            · rw [hb.1.list, ← e3.list]
              show listT l2 ++ (e'.1, e'.2) :: listT r' = delE (listT l2 ++ (x, v2) :: listT r2) x
              rw [delE_append, delE_not (L := listT l2) fun e he => lessK_ne (hm.1 e he), delE_cons_same, delE_not (L := listT r2) fun e he => (lessK_ne (hm.2.1 e he)).symm]
              have g2 : listT r2 = e' :: listT r' := g2
              rw [g2]
            · refine e3.addr.symm.trans ?_
              refine .trans ?_ (.cons b hb.1.addr.symm)
              show (a2 :: (addrs l2 ++ addrs r2)).Perm (b :: a2 :: (addrs l2 ++ addrs r'))
              have g3 : (addrs r2).Perm (b :: addrs r') := g3
              exact (List.Perm.cons a2 ((g3.append_left _).trans List.perm_middle)).trans (.swap b a2 _)
            · have := e4 hk
              exact ⟨this.2.1, g4 this.2.2⟩
          · rename_i hx
            obtain ⟨r', f2, h⟩ := Option.bind_eq_some_iff.1 h
            have hb := bal_same h
            obtain ⟨f1, ⟨b, g3⟩, g4⟩ := dropR_list x n _ _ hm.2.2.2 f2
            have hk2 := k2le k2 rfl
            have hlt2 : lessK k2 x = true := by
              cases e : lessK k2 x
              · exact absurd (by rw [lessK_tri hk2 e]; rfl) hx
              · rfl
            refine ⟨?_, ⟨b, ?_⟩, fun hk => hb.2 ?_⟩
            · rw [hb.1.list, ← e3.list]
              show listT l2 ++ (k2, v2) :: listT r' = delE (listT l2 ++ (k2, v2) :: listT r2) x
              have f1 : listT r' = delE (listT r2) x := f1
              rw [f1, delE_append, delE_not (L := listT l2) fun e he => lessK_ne (lessK_trans (hm.1 e he) hlt2), delE_cons_other _ (lessK_ne hlt2)]
            · refine e3.addr.symm.trans ?_
              refine .trans ?_ (.cons b hb.1.addr.symm)
              show (a2 :: (addrs l2 ++ addrs r2)).Perm (b :: a2 :: (addrs l2 ++ addrs r'))
              have g3 : (addrs r2).Perm (b :: addrs r') := g3
              exact (List.Perm.cons a2 ((g3.append_left _).trans List.perm_middle)).trans (.swap b a2 _)
            · have := e4 hk
              exact ⟨this.2.1, g4 this.2.2⟩
end Go.Proofs.YtbnnkkojlclgjaaGreat
