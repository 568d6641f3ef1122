/- Lemmas of the claim. No conditions beyond those that each states. -/
import Derived.Test.YtmmeopjemkjllaaGreatPT23
import Derived.Test.YtmmeopjemkjllaaGreatPT22
import Derived.Deep.RegionLaw
import Derived.BigRegion
set_option linter.unusedVariables false
set_option linter.unusedSimpArgs false
set_option maxRecDepth 100000
set_option maxHeartbeats 8000000
namespace Go.Proofs.YtmmeopjemkjllaaGreat
section
open Go.RowKit
section
variable {w w' : World} {r g : Nat} {F L R x : Int} {A : List (Int × Int)}
end
theorem vA_max_mono {F L R x:Int} {A:List (Int × Int)} (h:MayC F L R)(hA:∀ a∈A,a.1≤x∧0≤a.2):∀ t u,x≤t→t≤u→(fun t=>vA F L R A (max t x)) t≤(fun t=>vA F L R A (max t x)) u:=by
 intro t u ht htu
 exact vA_mono h hA (by omega) (by omega)
end
section
open Go.RowKit
def LimAt (w:World)(l r g:Nat)(F L R x:Int)(A:List (Int × Int)):Prop :=
 Blk w l 131 #[.iface 135 (.agg #[.pointer (some ⟨r,0,none⟩)])]∧RunAt w r g F L R x A∧r < l
def LFree (w:World)(l:Nat):Prop:=Blk w l 131 #[.iface 127 (.agg #[])]
@[go_sem] theorem as_free_bound (v:Value)(W:World):(Instr.typeAssert (.iface 127 v) 129 135 true).run Tryz.prog W=.ok (.tuple #[.agg #[.pointer none],.bool false]) W:=by kernel_rfl
@[go_sem] theorem as_free_free (v:Value)(W:World):(Instr.typeAssert (.iface 127 v) 129 127 true).run Tryz.prog W=.ok (.tuple #[v,.bool true]) W:=by kernel_rfl
@[go_sem] theorem as_bound_bound (v:Value)(W:World):(Instr.typeAssert (.iface 135 v) 129 135 true).run Tryz.prog W=.ok (.tuple #[v,.bool true]) W:=by kernel_rfl
section
variable {w w' : World} {l r g : Nat} {F L R x : Int} {A : List (Int × Int)}
theorem LimAt.below (h:LimAt w l r g F L R x A)(hb:Below w.heap.size w w'):LimAt w' l r g F L R x A:=⟨h.1.below hb h.1.lt,h.2.1.below hb,h.2.2⟩
theorem LimAt.glt (h:LimAt w l r g F L R x A):g < l:=by have:=h.2.1.lt;have:=h.2.2;omega
theorem lbound_some (h:LimAt w l r g F L R x A) :
  Calls Tryz.prog 89 #[.pointer (some ⟨l,0,none⟩)] w fun e w'=>e=.returned (.pointer (some ⟨r,0,none⟩))∧Below w.heap.size w w':=by
 have c0:=h.1.cell 0
 simp only [lTA,lCZ,lCS] at c0
 clear h
 go_enter Tryz.func89,Tryz.ntmps89
 go_wp2
 go_ret
 exact⟨rfl,by go_grown⟩
theorem lbound_free (h:LFree w l) :
  Calls Tryz.prog 89 #[.pointer (some ⟨l,0,none⟩)] w fun e w'=>e=.returned (.pointer none)∧Below w.heap.size w w':=by
 have c0:=h.cell 0
 simp only [lTA,lCZ,lCS] at c0
 clear h
 go_enter Tryz.func89,Tryz.ntmps89
 go_wp2
 go_ret
 exact⟨rfl,by go_grown⟩
theorem lfit_free (total:Int)(h:LFree w l) :
  Calls Tryz.prog 112 #[.pointer (some ⟨l,0,none⟩),.int .u64 total] w fun e w'=>e=.returned (.int .u64 0)∧Below w.heap.size w w':=by
 go_enter Tryz.func112,Tryz.ntmps112
 go_wp2_with (go_at_call 89;refine (lbound_free h).mono ?_;rintro e w1 ⟨rfl,hb1⟩)
 go_ret
 exact⟨rfl,hb1⟩
end
theorem cnone_any (F L R:Int)(w:World) :
  Calls Tryz.prog 81 #[.agg #[.int .u64 F,.int .u64 L,.int .u64 R]] w fun e w'=>e=.returned (.bool (decide (F=0∧L=0∧R=0)))∧Below w.heap.size w w':=by
 by_cases h1:F=0
 ·by_cases h2:L=0
  ·by_cases h3:R=0
   ·subst h1 h2 h3
    go_enter Tryz.func81,Tryz.ntmps81
    go_wp2
    go_ret
    exact⟨rfl,by go_grown⟩
   ·go_enter Tryz.func81,Tryz.ntmps81
    go_wp2
    go_ret
    exact⟨by simp [h3],by go_grown⟩
  ·go_enter Tryz.func81,Tryz.ntmps81
   go_wp2
   go_ret
   exact⟨by simp [h2],by go_grown⟩
 ·go_enter Tryz.func81,Tryz.ntmps81
  go_wp2
  go_ret
  exact⟨by simp [h1],by go_grown⟩
theorem cnone_no {F L R:Int} (w:World)(h:¬ (F=0∧L=0∧R=0)) :
  Calls Tryz.prog 81 #[.agg #[.int .u64 F,.int .u64 L,.int .u64 R]] w fun e w'=>e=.returned (.bool false)∧Below w.heap.size w w' :=
 (cnone_any F L R w).mono fun e w' ⟨he,hb⟩=>⟨by rw [he,decide_eq_false h],hb⟩
theorem cnone_yes {F L R:Int} (w:World)(h:F=0∧L=0∧R=0) :
  Calls Tryz.prog 81 #[.agg #[.int .u64 F,.int .u64 L,.int .u64 R]] w fun e w'=>e=.returned (.bool true)∧Below w.heap.size w w' :=
 (cnone_any F L R w).mono fun e w' ⟨he,hb⟩=>⟨by rw [he,decide_eq_true h],hb⟩
theorem lnew_free (F L R:Int)(w:World)(hL:0≤L)(hno:(F=0∧L=0∧R=0)∨mayB F L R=false) :
  Calls Tryz.prog 36 #[.agg #[.int .u64 F,.int .u64 L,.int .u64 R]] w fun e w'=>∃ l,e=.returned (.pointer (some ⟨l,0,none⟩))∧w.heap.size≤l∧LFree w' l∧Below w.heap.size w w':=by
 have hal:=(Below.refl w.heap.size w).alloc (Nat.le_refl _) (.cells #[.int .u64 F,.int .u64 L,.int .u64 R] 30)
 have nb:=Blk.new w 30 #[.int .u64 F,.int .u64 L,.int .u64 R]
 have HN:=Lib.hid nb
 clear nb
 by_cases h0:F=0∧L=0∧R=0
 ·have H0:=Lib.hid h0
  clear h0 hno
  go_enter Tryz.func36,Tryz.ntmps36
  go_wp2_with (go_at_call 81;refine (cnone_yes _ H0.out).mono ?_;rintro e w1 ⟨rfl,hb1⟩)
  go_ret
  have hb3:Below w.heap.size w w1:=hal.trans (hb1.mono hal.size)
  exact⟨w1.heap.size,rfl,hb3.size,Blk.new _ _ _,hb3.alloc hb3.size _⟩
 ·have H:=Lib.hid (hno.resolve_left h0)
  have H0:=Lib.hid h0
  clear h0 hno
  go_enter Tryz.func36,Tryz.ntmps36
  go_wp2_with (first
   | (go_at_call 81;refine (cnone_no _ H0.out).mono ?_;rintro e w1 ⟨rfl,hb1⟩;have n1:=HN.out.below hb1 HN.out.lt;have a0:=n1.cell 0;have a1:=n1.cell 1;have a2:=n1.cell 2;simp only [lTA,lCZ,lCS] at a0 a1 a2)
   | (go_at_call 82;refine (may_any F L R _ hL).mono ?_;rintro e w2 ⟨rfl,hb2⟩;rw [H.out]))
  go_ret
  have hb3:Below w.heap.size w w2:=hal.trans ((hb1.trans (hb2.mono hb1.size)).mono hal.size)
  exact⟨w2.heap.size,rfl,hb3.size,Blk.new _ _ _,hb3.alloc hb3.size _⟩
theorem lnew_some (F L R:Int)(w:World)(hF:0≤F)(hL:0≤L)(hR:0≤R)(hno:¬ (F=0∧L=0∧R=0))(h1:mayB F L R=true) :
  Calls Tryz.prog 36 #[.agg #[.int .u64 F,.int .u64 L,.int .u64 R]] w fun e w'=>∃ l r g,e=.returned (.pointer (some ⟨l,0,none⟩))∧w.heap.size≤g∧LimAt w' l r g F L R 0 []∧Below w.heap.size w w':=by
 have hal:=(Below.refl w.heap.size w).alloc (Nat.le_refl _) (.cells #[.int .u64 F,.int .u64 L,.int .u64 R] 30)
 have nb:=Blk.new w 30 #[.int .u64 F,.int .u64 L,.int .u64 R]
 have HN:=Lib.hid nb
 clear nb
 have H:=Lib.hid h1
 have H0:=Lib.hid hno
 clear h1 hno
 go_enter Tryz.func36,Tryz.ntmps36
 go_wp2_with (first
  | (go_at_call 81;refine (cnone_no _ H0.out).mono ?_;rintro e w1 ⟨rfl,hb1⟩;have n1:=HN.out.below hb1 HN.out.lt;have a0:=n1.cell 0;have a1:=n1.cell 1;have a2:=n1.cell 2;simp only [lTA,lCZ,lCS] at a0 a1 a2)
  | (go_at_call 82;refine (may_any F L R _ hL).mono ?_;rintro e w2 ⟨rfl,hb2⟩;rw [H.out];have n2:=n1.below hb2 n1.lt;have b0:=n2.cell 0;have b1:=n2.cell 1;have b2:=n2.cell 2;simp only [lTA,lCZ,lCS] at b0 b1 b2)
  | (go_at_call 83;refine (run_new F L R _ hF hL hR H.out).mono ?_;rintro e w3 ⟨r,g,rfl,hg,hr,hb3⟩;have HR:=Lib.hid hr;clear hr))
 go_ret
 have hb4:=(hb1.trans (hb2.mono hb1.size)).trans (hb3.mono (hb1.trans (hb2.mono hb1.size)).size)
 have hb5:Below w.heap.size w w3:=hal.trans (hb4.mono hal.size)
 have hal2:=(Below.refl w3.heap.size w3).alloc (Nat.le_refl _) (.cells #[.iface 135 (.agg #[.pointer (some ⟨r,0,none⟩)])] 131)
 exact⟨w3.heap.size,r,g,rfl,Nat.le_trans (Nat.le_trans hal.size (hb1.trans (hb2.mono hb1.size)).size) hg,⟨Blk.new _ _ _,HR.out.below hal2,HR.out.lt.2⟩,hb5.trans (hal2.mono hb5.size)⟩
end
section
open Go.RowKit
noncomputable def ansI (v:Int→Int)(x y:Int):Int:=Classical.epsilon fun n=>Back v x y n
noncomputable def qR (F L R x:Int)(A:List (Int × Int))(y:Int):Int:=if A.isEmpty then nevB y else ansI (fun t=>vA F L R A (max t x)) x y
theorem ans_unique {v:Int→Int} {x y n m:Int} (h:Back v x y n)(k:Back v x y m)(hm:∀ t u,x≤t→t≤u→v t≤v u):n=m:=by
 have h1:=Back.less h k hm (fun _ _=>Int.le_refl _)
 have h2:=Back.less k h hm (fun _ _=>Int.le_refl _)
 omega
theorem Back.ans {v:Int→Int} {x y n:Int} (h:Back v x y n)(hm:∀ t u,x≤t→t≤u→v t≤v u):n=ansI v x y :=
 ans_unique h (Classical.epsilon_spec (p:=fun n=>Back v x y n) ⟨n,h⟩) hm
theorem Ans.fix {v:Int→Int} {x y:Int} {w w':World} {e:Ending} (hm:∀ t u,x≤t→t≤u→v t≤v u)(h:Ans v x y w e w'):e=.returned (.int .u64 (ansI v x y))∧Below w.heap.size w w':=by
 obtain⟨n,rfl,hk,_,_,hb⟩:=h
 exact⟨by rw [hk.ans hm],hb⟩
theorem not_empty {A:List (Int × Int)} (h:A≠[]):A.isEmpty=false:=by cases A with | nil=>exact absurd rfl h | cons _ _=>rfl
section
variable {w w' : World} {r base : Nat} {F L R x : Int} {A : List (Int × Int)} {vx vy : Value}
end
end
section
open Go.RowKit
section
variable {w w' : World} {r g : Nat} {F L R x : Int} {A : List (Int × Int)}
theorem urun_reach (h:RunAt w r g F L R x A)(y:Int)(hy:U y) :
  Calls Tryz.prog 102 #[.pointer (some ⟨r,0,none⟩),.int .u64 y] w fun e w'=>e=.returned (.int .u64 (qR F L R x A y))∧Below w.heap.size w w':=by
 by_cases hA:A=[]
 ·subst hA;exact run_reach0 h y
 ·have e:qR F L R x A y=ansI (fun t=>vA F L R A (max t x)) x y:=by unfold qR;rw [not_empty hA];rfl
  rw [e];exact (run_reach h hA y hy).mono fun _ _ k=>k.fix (vA_max_mono h.may h.num.1)
end
end
section
abbrev Ky:=Int × Int
abbrev En:=Ky × Int
def lessK (x y:Ky):Bool:=decide (x.1 < y.1) || (decide (x.1=y.1) && decide (x.2 < y.2))
def ownK (k:Ky)(v:Int):Ky:=(v,k.2)
def lessH (a b:Ky):Ky:=if a=b∨lessK a b=true then a else b
inductive RB where
 | nil
 | node (a:Nat)(k:Ky)(v:Int)(s:Ky)(c:Bool)(l r:RB)
def isR:RB→Bool
 | .nil=>false
 | .node _ _ _ _ c _ _=>c
def lft:RB→RB
 | .nil=>.nil
 | .node _ _ _ _ _ l _=>l
def rgt:RB→RB
 | .nil=>.nil
 | .node _ _ _ _ _ _ r=>r
def adr:RB→Option Nat
 | .nil=>none
 | .node a _ _ _ _ _ _=>some a
def joinL (t:RB)(s:Ky):Ky:=match t with
 | .nil=>s
 | .node _ _ _ s2 _ _ _=>lessH s2 s
def joinR (t:RB)(s:Ky):Ky:=match t with
 | .nil=>s
 | .node _ _ _ s2 _ _ _=>lessH s s2
def total (k:Ky)(v:Int)(l r:RB):Ky:=joinR r (joinL l (ownK k v))
def rotL:RB→Option RB
 | .node a k v _ c l (.node b k2 v2 _ _ m r)=>some (.node b k2 v2 (total k2 v2 (.node a k v (total k v l m) true l m) r) c (.node a k v (total k v l m) true l m) r)
 | _=>none
def rotR:RB→Option RB
 | .node a k v _ c (.node b k2 v2 _ _ l m) r=>some (.node b k2 v2 (total k2 v2 l (.node a k v (total k v m r) true m r)) c l (.node a k v (total k v m r) true m r))
 | _=>none
def paint:RB→RB
 | .nil=>.nil
 | .node a k v s c l r=>.node a k v s (!c) l r
def flipT:RB→Option RB
 | .node a k v s c (.node b k2 v2 s2 c2 l2 r2) (.node d k3 v3 s3 c3 l3 r3)=>some (.node a k v s (!c) (.node b k2 v2 s2 (!c2) l2 r2) (.node d k3 v3 s3 (!c3) l3 r3))
 | _=>none
def resum:RB→Option RB
 | .nil=>none
 | .node a k v _ c l r=>some (.node a k v (total k v l r) c l r)
def bal1 (t:RB):Option RB:=if isR (rgt t)=true∧isR (lft t)=false then rotL t else some t
def bal2 (t:RB):Option RB:=if isR (lft t)=true∧isR (lft (lft t))=true then rotR t else some t
def bal3 (t:RB):Option RB:=if isR (lft t)=true∧isR (rgt t)=true then flipT t else some t
def bal (t:RB):Option RB:=(bal1 t).bind fun t=>(bal2 t).bind fun t=>(bal3 t).bind resum
def putR (a:Nat)(k:Ky)(v:Int):RB→Option RB
 | .nil=>some (.node a k v (ownK k v) true .nil .nil)
 | .node b k2 v2 s c l r=>if lessK k k2=true then (putR a k v l).bind fun l'=>bal (.node b k2 v2 s c l' r) else (putR a k v r).bind fun r'=>bal (.node b k2 v2 s c l r')
def setR (t r:RB):RB:=match t with
 | .nil=>.nil
 | .node a k v s c l _=>.node a k v s c l r
def setL (t l:RB):RB:=match t with
 | .nil=>.nil
 | .node a k v s c _ r=>.node a k v s c l r
def redL (t:RB):Option RB:=(flipT t).bind fun t=>if isR (lft (rgt t))=true then (rotR (rgt t)).bind fun r=>(rotL (setR t r)).bind flipT else some t
def redRt (t:RB):Option RB:=(flipT t).bind fun t=>if isR (lft (lft t))=true then (rotR t).bind flipT else some t
def goL (t:RB):Option RB:=match lft t with
 | .nil=>none
 | .node _ _ _ _ c l _=>if c=false∧isR l=false then redL t else some t
def goR (t:RB):Option RB:=match rgt t with
 | .nil=>none
 | .node _ _ _ _ c l _=>if c=false∧isR l=false then redRt t else some t
def leanR (t:RB):Option RB:=if isR (lft t)=true then rotR t else some t
def dropF:Nat→RB→Option RB
 | 0,_=>none
 | n+1,.nil=>none
 | n+1,.node a k v s c l r=>if adr l=none then (if adr r=none then some .nil else none) else (goL (.node a k v s c l r)).bind fun t=>(dropF n (lft t)).bind fun l'=>bal (setL t l')
def firstE:RB→Option En
 | .nil=>none
 | .node _ k v _ _ .nil _=>some (k,v)
 | .node _ _ _ _ _ l _=>firstE l
def keyT:RB→Option Ky
 | .nil=>none
 | .node _ k _ _ _ _ _=>some k
def setE (t:RB)(e:En):RB:=match t with
 | .nil=>.nil
 | .node a _ _ s c l r=>.node a e.1 e.2 s c l r
def dropR:Nat→Ky→RB→Option RB
 | 0,_,_=>none
 | n+1,x,.nil=>none
 | n+1,x,.node a k v s c l r=>if lessK x k=true then (goL (.node a k v s c l r)).bind fun t=>(dropR n x (lft t)).bind fun l'=>bal (setL t l')
  else (leanR (.node a k v s c l r)).bind fun t=>if keyT t=some x∧adr (rgt t)=none then (if adr (lft t)=none then some .nil else none) else (goR t).bind fun t=>if keyT t=some x
   then (firstE (rgt t)).bind fun e=>(dropF n (rgt t)).bind fun r'=>bal (setR (setE t e) r')
   else (dropR n x (rgt t)).bind fun r'=>bal (setR t r')
def listT:RB→List En
 | .nil=>[]
 | .node _ k v _ _ l r=>listT l ++ (k,v) :: listT r
def addrs:RB→List Nat
 | .nil=>[]
 | .node a _ _ _ _ l r=>a :: (addrs l ++ addrs r)
def sizeT:RB→Nat
 | .nil=>0
 | .node _ _ _ _ _ l r=>sizeT l+sizeT r+1
inductive Str:RB→Nat→Prop
 | nil:Str .nil 0
 | red {a k v s l r n}:Str l n→Str r n→isR l=false→isR r=false→Str (.node a k v s true l r) n
 | black {a k v s l r n}:Str l n→Str r n→isR r=false→Str (.node a k v s false l r) (n+1)
inductive Alm:RB→Nat→Prop
 | mk {a k v s l r n}:Str l n→Str r n→isR r=false→Alm (.node a k v s true l r) n
/-! ### What turning leaves -/
def SumOk:RB→Prop
 | .nil=>True
 | .node _ k v s _ l r=>s=total k v l r∧SumOk l∧SumOk r
def KidsOk (t:RB):Prop:=SumOk (lft t)∧SumOk (rgt t)
theorem SumOk.kids {t:RB} (h:SumOk t):KidsOk t:=by
 cases t with
 | nil=>exact⟨trivial,trivial⟩
 | node a k v s c l r=>exact h.2
structure Same (t t':RB):Prop where
 list:listT t'=listT t
 addr:(addrs t').Perm (addrs t)
theorem Same.refl (t:RB):Same t t:=⟨rfl,.refl _⟩
theorem Same.trans {a b c:RB} (h:Same a b)(k:Same b c):Same a c:=⟨k.list.trans h.list,k.addr.trans h.addr⟩
theorem rotL_same {t t':RB} (h:rotL t=some t'):Same t t'∧(KidsOk t→SumOk t'):=by
 cases t with
 | nil=>cases h
 | node a k v s c l r =>
  cases r with
  | nil=>cases h
  | node b k2 v2 s2 c2 m r =>
   cases h
   refine⟨⟨by simp [listT],?_⟩,fun hk=>⟨rfl,⟨rfl,hk.1,hk.2.2.1⟩,hk.2.2.2⟩⟩
   simp only [addrs]
   refine List.Perm.trans ?_ (List.perm_middle (l₁:=a :: addrs l) (a:=b) (l₂:=addrs m ++ addrs r)).symm
   simp
theorem rotR_same {t t':RB} (h:rotR t=some t'):Same t t'∧(KidsOk t→SumOk t'):=by
 cases t with
 | nil=>cases h
 | node a k v s c l r =>
  cases l with
  | nil=>cases h
  | node b k2 v2 s2 c2 l m =>
   cases h
   refine⟨⟨by simp [listT],?_⟩,fun hk=>⟨rfl,hk.1.2.1,rfl,hk.1.2.2,hk.2⟩⟩
   simp only [addrs]
   refine .trans (.cons b (List.perm_middle (l₁:=addrs l) (a:=a) (l₂:=addrs m ++ addrs r))) ?_
   refine (List.Perm.swap a b _).trans ?_
   simp
theorem flip_same {t t':RB} (h:flipT t=some t'):Same t t'∧(KidsOk t→KidsOk t')∧(SumOk t→SumOk t'):=by
 cases t with
 | nil=>cases h
 | node a k v s c l r =>
  cases l with
  | nil=>cases h
  | node b k2 v2 s2 c2 l2 r2 =>
   cases r with
   | nil=>cases h
   | node d k3 v3 s3 c3 l3 r3 =>
    cases h
    exact⟨⟨rfl,.refl _⟩,id,id⟩
theorem resum_same {t t':RB} (h:resum t=some t'):Same t t'∧(KidsOk t→SumOk t'):=by
 cases t with
 | nil=>cases h
 | node a k v s c l r =>
  cases h
  exact⟨⟨rfl,.refl _⟩,fun hk=>⟨rfl,hk⟩⟩
theorem bal_same {t t':RB} (h:bal t=some t'):Same t t'∧(KidsOk t→SumOk t'):=by
 unfold bal at h
 obtain⟨t1,h1,h⟩:=Option.bind_eq_some_iff.1 h
 obtain⟨t2,h2,h⟩:=Option.bind_eq_some_iff.1 h
 obtain⟨t3,h3,h4⟩:=Option.bind_eq_some_iff.1 h
 have e1:Same t t1∧(KidsOk t→KidsOk t1):=by
  unfold bal1 at h1
  split at h1
  ·exact⟨(rotL_same h1).1,fun k=>((rotL_same h1).2 k).kids⟩
  ·cases h1;exact⟨.refl _,id⟩
 have e2:Same t1 t2∧(KidsOk t1→KidsOk t2):=by
  unfold bal2 at h2
  split at h2
  ·exact⟨(rotR_same h2).1,fun k=>((rotR_same h2).2 k).kids⟩
  ·cases h2;exact⟨.refl _,id⟩
 have e3:Same t2 t3∧(KidsOk t2→KidsOk t3):=by
  unfold bal3 at h3
  split at h3
  ·exact⟨(flip_same h3).1,(flip_same h3).2.1⟩
  ·cases h3;exact⟨.refl _,id⟩
 have e4:=resum_same h4
 exact⟨((e1.1.trans e2.1).trans e3.1).trans e4.1,fun k=>e4.2 (e3.2 (e2.2 (e1.2 k)))⟩
theorem setR_list {t r:RB} (h:t≠.nil)(ha:(addrs r).Perm (addrs (rgt t)))(hl:listT r=listT (rgt t)):Same t (setR t r):=by
 cases t with
 | nil=>exact absurd rfl h
 | node a k v s c l r0 =>
  refine⟨?_,?_⟩
  ·simp only [setR,listT,rgt] at *;rw [hl]
  ·exact .cons _ (.append_left _ ha)
theorem redL_same {t t':RB} (h:redL t=some t'):Same t t'∧(SumOk t→SumOk t'):=by
 unfold redL at h
 obtain⟨t1,h1,h⟩:=Option.bind_eq_some_iff.1 h
 have e1:=flip_same h1
 split at h
 ·obtain⟨r,h2,h⟩:=Option.bind_eq_some_iff.1 h
  obtain⟨t3,h3,h4⟩:=Option.bind_eq_some_iff.1 h
  have e2:=rotR_same h2
  have e3:=rotL_same h3
  have e4:=flip_same h4
  have hne:t1≠.nil:=by rintro rfl;cases h2
  have e5:=setR_list hne e2.1.addr e2.1.list
  refine⟨((e1.1.trans e5).trans e3.1).trans e4.1,fun k=>e4.2.2 (e3.2 ?_)⟩
  have k1:=e1.2.2 k
  cases t1 with
  | nil=>exact absurd rfl hne
  | node a k v s c l r0=>exact⟨k1.2.1,e2.2 k1.2.2.kids⟩
 ·cases h;exact⟨e1.1,e1.2.2⟩
theorem redRt_same {t t':RB} (h:redRt t=some t'):Same t t'∧(SumOk t→SumOk t'):=by
 unfold redRt at h
 obtain⟨t1,h1,h⟩:=Option.bind_eq_some_iff.1 h
 have e1:=flip_same h1
 split at h
 ·obtain⟨t3,h3,h4⟩:=Option.bind_eq_some_iff.1 h
  have e3:=rotR_same h3
  have e4:=flip_same h4
  exact⟨(e1.1.trans e3.1).trans e4.1,fun k=>e4.2.2 (e3.2 (e1.2.2 k).kids)⟩
 ·cases h;exact⟨e1.1,e1.2.2⟩
theorem goL_same {t t':RB} (h:goL t=some t'):Same t t'∧(SumOk t→SumOk t'):=by
 unfold goL at h
 split at h
 ·cases h
 ·split at h
  ·exact redL_same h
  ·cases h;exact⟨.refl _,id⟩
theorem goR_same {t t':RB} (h:goR t=some t'):Same t t'∧(SumOk t→SumOk t'):=by
 unfold goR at h
 split at h
 ·cases h
 ·split at h
  ·exact redRt_same h
  ·cases h;exact⟨.refl _,id⟩
theorem leanR_same {t t':RB} (h:leanR t=some t'):Same t t'∧(SumOk t→SumOk t'):=by
 unfold leanR at h
 split at h
 ·exact⟨(rotR_same h).1,fun k=>(rotR_same h).2 k.kids⟩
 ·cases h;exact⟨.refl _,id⟩
/-! ### Keys in order -/
theorem lessK_iff {x y:Ky}:lessK x y=true↔x.1 < y.1∨(x.1=y.1∧x.2 < y.2):=by
 unfold lessK
 simp only [Bool.or_eq_true,Bool.and_eq_true,decide_eq_true_eq]
theorem lessK_irr (x:Ky):lessK x x=false:=by
 cases h:lessK x x
 ·rfl
 ·rcases lessK_iff.1 h with h | h <;> omega
theorem lessK_trans {x y z:Ky} (h:lessK x y=true)(k:lessK y z=true):lessK x z=true:=by
 rw [lessK_iff] at *
 omega
theorem lessK_asym {x y:Ky} (h:lessK x y=true):lessK y x=false:=by
 cases e:lessK y x
 ·rfl
 ·have:=lessK_trans h e;rw [lessK_irr] at this;cases this
theorem lessK_tri {x y:Ky} (h1:lessK x y=false)(h2:lessK y x=false):x=y:=by
 have a:¬ (x.1 < y.1∨(x.1=y.1∧x.2 < y.2)):=fun h=>by rw [lessK_iff.2 h] at h1;cases h1
 have b:¬ (y.1 < x.1∨(y.1=x.1∧y.2 < x.2)):=fun h=>by rw [lessK_iff.2 h] at h2;cases h2
 have:x.1=y.1:=by omega
 exact Prod.ext this (by omega)
def SortE (L:List En):Prop:=L.Pairwise fun a b=>lessK a.1 b.1=true
def insE:List En→En→List En
 | [],e=>[e]
 | x :: L,e=>if lessK e.1 x.1=true then e :: x :: L else x :: insE L e
def delE (L:List En)(x:Ky):List En:=L.filter fun e=>!decide (e.1=x)
theorem insE_left {e x:En} {B:List En} (h:lessK e.1 x.1=true):∀ A:List En,insE (A ++ x :: B) e=insE A e ++ x :: B
 | []=>by show insE (x :: B) e=e :: x :: B;unfold insE;rw [if_pos h]
 | y :: A=>by
  show insE (y :: (A ++ x :: B)) e=insE (y :: A) e ++ x :: B
  unfold insE
  split
  ·rfl
  ·rw [insE_left h A];rfl
theorem insE_right {e x:En} {B:List En} (h:lessK e.1 x.1=false):∀ A:List En,(∀ a∈A,lessK a.1 x.1=true)→insE (A ++ x :: B) e=A ++ x :: insE B e
 | [],_=>by show insE (x :: B) e=x :: insE B e;conv=>lhs;unfold insE
        rw [if_neg (by rw [h];simp)]
 | y :: A,hA=>by
  show insE (y :: (A ++ x :: B)) e=y :: (A ++ x :: insE B e)
  conv=>lhs;unfold insE
  have hy:=hA y (.head _)
  rw [if_neg,insE_right h A fun a ha=>hA a (.tail _ ha)]
  intro h2
  rw [lessK_trans h2 hy] at h
  cases h
theorem sort_mid {A B:List En} {x:En} (h:SortE (A ++ x :: B)):(∀ a∈A,lessK a.1 x.1=true)∧(∀ b∈B,lessK x.1 b.1=true)∧SortE A∧SortE B:=by
 have h1:=List.pairwise_append.1 h
 have h2:=List.pairwise_cons.1 h1.2.1
 exact⟨fun a ha=>h1.2.2 a ha x (.head _),h2.1,h1.1,h2.2⟩
theorem put_list (a:Nat)(k:Ky)(v:Int):∀ (t t':RB),SortE (listT t)→putR a k v t=some t'→listT t'=insE (listT t) (k,v)∧(addrs t').Perm (a :: addrs t)∧(SumOk t→SumOk t')
 | .nil,t',_,h=>by
  cases h
  exact⟨rfl,.refl _,fun _=>⟨rfl,trivial,trivial⟩⟩
 | .node b k2 v2 s c l r,t',hs,h=>by
  have hm:=sort_mid (A:=listT l) (x:=(k2,v2)) (B:=listT r) hs
  unfold putR at h
  split at h
  ·rename_i hlt
   obtain⟨l',h1,h2⟩:=Option.bind_eq_some_iff.1 h
   have ih:=put_list a k v l l' hm.2.2.1 h1
   have hb:=bal_same h2
   refine⟨?_,?_,fun hk=>hb.2 ⟨ih.2.2 hk.2.1,hk.2.2⟩⟩
   ·rw [hb.1.list]
    show listT l' ++ (k2,v2) :: listT r=_
    rw [ih.1]
    exact (insE_left (x:=(k2,v2)) hlt _).symm
   ·refine hb.1.addr.trans ?_
    show (b :: (addrs l' ++ addrs r)).Perm (a :: b :: (addrs l ++ addrs r))
    exact (List.Perm.cons b (ih.2.1.append_right _)).trans (.swap a b _)
  ·rename_i hlt
   obtain⟨r',h1,h2⟩:=Option.bind_eq_some_iff.1 h
   have ih:=put_list a k v r r' hm.2.2.2 h1
   have hb:=bal_same h2
   refine⟨?_,?_,fun hk=>hb.2 ⟨hk.2.1,ih.2.2 hk.2.2⟩⟩
   ·rw [hb.1.list]
    show listT l ++ (k2,v2) :: listT r'=_
    rw [ih.1]
    exact (insE_right (x:=(k2,v2)) (by simpa using hlt) _ hm.1).symm
   ·refine hb.1.addr.trans ?_
    show (b :: (addrs l ++ addrs r')).Perm (a :: b :: (addrs l ++ addrs r))
    refine (List.Perm.cons b ((ih.2.1.append_left _).trans List.perm_middle)).trans (.swap a b _)
theorem adr_none {t:RB}:adr t=none↔t=.nil:=by cases t <;> simp [adr]
theorem setL_node {t l':RB} (h:t≠.nil):∃ a k v s c l r,t=.node a k v s c l r∧setL t l'=.node a k v s c l' r:=by
 cases t with
 | nil=>exact absurd rfl h
 | node a k v s c l r=>exact⟨a,k,v,s,c,l,r,rfl,rfl⟩
theorem first_some (t:RB)(h:t≠.nil):∃ e0 L,listT t=e0 :: L∧firstE t=some e0:=by
 induction t with
 | nil=>exact absurd rfl h
 | node a k v s c l r ih1 _ =>
  cases l with
  | nil=>exact⟨(k,v),listT r,rfl,rfl⟩
  | node a2 k2 v2 s2 c2 l2 r2 =>
   obtain⟨e0,L,h1,h2⟩:=ih1 (by simp)
   exact⟨e0,L ++ (k,v) :: listT r,by rw [listT,h1];rfl,h2⟩
theorem dropF_list:∀ (n:Nat)(t t':RB),dropF n t=some t'→(∃ e,firstE t=some e∧listT t=e :: listT t')∧(∃ x,(addrs t).Perm (x :: addrs t'))∧(SumOk t→SumOk t')
 | 0,t,t',h=>by cases h
 | n+1,.nil,t',h=>by cases h
 | n+1,.node a k v s c l r,t',h=>by
  unfold dropF at h
  split at h
  ·rename_i hl
   have hl:=adr_none.1 hl
   subst hl
   split at h
   ·rename_i hr
    have hr:=adr_none.1 hr
    subst hr
    cases h
    exact⟨⟨(k,v),rfl,rfl⟩,⟨a,.refl _⟩,fun _=>trivial⟩
   ·cases h
  ·rename_i hl
   obtain⟨t1,h1,h⟩:=Option.bind_eq_some_iff.1 h
   obtain⟨l',h2,h3⟩:=Option.bind_eq_some_iff.1 h
   have e1:=goL_same h1
   have ih:=dropF_list n _ _ h2
   have hb:=bal_same h3
   have hne:t1≠.nil:=by
    rintro rfl
    cases n <;> cases h2
   obtain⟨⟨e,f1,f2⟩,⟨x,f3⟩,f4⟩:=ih
   have e2:=e1.1.list
   have e3:=e1.1.addr
   have e4:=e1.2
   obtain⟨a1,k1,v1,s1,c1,l1,r1,rfl,hset⟩:=setL_node (l':=l') hne
   rw [hset] at hb
   have g1:listT l1=e :: listT l':=f2
   have g2:(addrs l1).Perm (x :: addrs l'):=f3
   have hf:=first_some (.node a k v s c l r) (by simp)
   obtain⟨e0,L0,q1,q2⟩:=hf
   refine⟨⟨e0,q2,?_⟩,⟨x,?_⟩,fun hk=>hb.2 ?_⟩
   ·rw [hb.1.list]
    rw [← e2] at q1 ⊢
    have:e0 :: L0=e :: (listT l' ++ (k1,v1) :: listT r1):=by
     rw [← q1]
     show listT l1 ++ (k1,v1) :: listT r1=_
     rw [g1];rfl
    injection this with a1 a2
    rw [q1,a2]
    rfl
   ·refine e3.symm.trans ?_
    refine .trans ?_ (.cons x hb.1.addr.symm)
    show (a1 :: (addrs l1 ++ addrs r1)).Perm (x :: a1 :: (addrs l' ++ addrs r1))
    exact (List.Perm.cons a1 (g2.append_right _)).trans (.swap x a1 _)
   ·have:=e4 hk
    exact⟨f4 this.2.1,this.2.2⟩
theorem delE_not {x:Ky}:∀ {L:List En},(∀ e∈L,e.1≠x)→delE L x=L:=by
 intro L h
 unfold delE
 rw [List.filter_eq_self]
 intro e he
 simpa using h e he
theorem lessK_ne {x y:Ky} (h:lessK x y=true):x≠y:=by
 rintro rfl
 rw [lessK_irr] at h
 cases h
theorem delE_append (A B:List En)(x:Ky):delE (A ++ B) x=delE A x ++ delE B x:=List.filter_append ..
theorem delE_cons_same (B:List En)(x:Ky)(v:Int):delE ((x,v) :: B) x=delE B x:=by unfold delE;rw [List.filter_cons_of_neg (by simp)]
theorem delE_cons_other (B:List En) {x:Ky} {e:En} (h:e.1≠x):delE (e :: B) x=e :: delE B x:=by unfold delE;rw [List.filter_cons_of_pos (by simpa using h)]
theorem goL_key {a:Nat} {k:Ky} {v:Int} {s:Ky} {c:Bool} {l r t1:RB} (hs:SortE (listT (.node a k v s c l r)))(h1:goL (.node a k v s c l r)=some t1):keyT t1=some k∨∃ k1,keyT t1=some k1∧lessK k k1=true:=by
 unfold goL at h1
 split at h1
 ·cases h1
 ·split at h1
  ·unfold redL at h1
   obtain⟨t2,f1,h1⟩:=Option.bind_eq_some_iff.1 h1
   cases l with
   | nil=>cases f1
   | node b k2 v2 s2 c2 l2 r2 =>
    cases r with
    | nil=>cases f1
    | node d k3 v3 s3 c3 l3 r3 =>
     cases f1
     split at h1
     ·obtain⟨t3,f2,h1⟩:=Option.bind_eq_some_iff.1 h1
      obtain⟨t4,f3,h1⟩:=Option.bind_eq_some_iff.1 h1
      cases l3 with
      | nil=>cases f2
      | node d2 k4 v4 s4 c4 l4 r4 =>
       cases f2
       cases f3
       cases l4 <;> cases r4 <;> cases h1 <;> (right;refine⟨k4,rfl,?_⟩;have:=sort_mid (A:=listT (.node b k2 v2 s2 c2 l2 r2)) (x:=(k,v)) hs;exact this.2.1 (k4,v4) (by simp [listT]))
     ·cases h1;left;rfl
  ·cases h1;left;rfl
theorem leanR_key {x:Ky} {a:Nat} {k:Ky} {v:Int} {s:Ky} {c:Bool} {l r t1:RB} (hs:SortE (listT (.node a k v s c l r)))(hlt:lessK x k=false)(h1:leanR (.node a k v s c l r)=some t1):∀ k1,keyT t1=some k1→lessK x k1=false:=by
 intro k1 hk1
 unfold leanR at h1
 split at h1
 ·cases l with
  | nil=>cases h1
  | node b k2 v2 s2 c2 l2 r2 =>
   cases h1
   cases hk1
   have:=sort_mid (A:=listT (.node b k1 v2 s2 c2 l2 r2)) (x:=(k,v)) hs
   have:=this.1 (k1,v2) (by simp [listT])
   cases e:lessK x k1
   ·rfl
   ·rw [lessK_trans e this] at hlt;cases hlt
 ·cases h1;cases hk1;exact hlt
theorem goR_key {x:Ky} {t1 t2:RB} (hs1:SortE (listT t1))(k1le:∀ k1,keyT t1=some k1→lessK x k1=false)(h2:goR t1=some t2):∀ k2,keyT t2=some k2→lessK x k2=false:=by
 intro k2 hk2
 unfold goR at h2
 split at h2
 ·cases h2
 ·split at h2
  ·unfold redRt at h2
   obtain⟨t3,f1,h2⟩:=Option.bind_eq_some_iff.1 h2
   cases t1 with
   | nil=>cases f1
   | node a1 k1 v1 s1 c1 l1 r1 =>
    have hk1:=k1le k1 rfl
    cases l1 with
    | nil=>cases f1
    | node b k4 v4 s4 c4 l4 r4 =>
     cases r1 with
     | nil=>cases f1
     | node d k5 v5 s5 c5 l5 r5 =>
      cases f1
      split at h2
      ·obtain⟨t4,f3,h2⟩:=Option.bind_eq_some_iff.1 h2
       cases f3
       cases l4 with
       | nil=>cases h2
       | node b2 k6 v6 s6 c6 l6 r6 =>
        cases h2
        cases hk2
        have:=sort_mid (A:=listT (.node b k2 v4 s4 c4 (.node b2 k6 v6 s6 c6 l6 r6) r4)) (x:=(k1,v1)) hs1
        have:=this.1 (k2,v4) (by simp [listT])
        cases e:lessK x k2
        ·rfl
        ·rw [lessK_trans e this] at hk1;cases hk1
      ·cases h2;cases hk2;exact hk1
  ·cases h2;exact k1le _ hk2
theorem dropR_list (x:Ky):∀ (n:Nat)(t t':RB),SortE (listT t)→dropR n x t=some t'→listT t'=delE (listT t) x∧(∃ b,(addrs t).Perm (b :: addrs t'))∧(SumOk t→SumOk t')
 | 0,t,t',_,h=>by cases h
 | n+1,.nil,t',_,h=>by cases h
 | n+1,.node a k v s c l r,t',hs,h=>by
  unfold dropR at h
  split at h
  ·rename_i hlt
   obtain⟨t1,h1,h⟩:=Option.bind_eq_some_iff.1 h
   obtain⟨l',h2,h3⟩:=Option.bind_eq_some_iff.1 h
   have e1:=goL_same h1
   have hb:=bal_same h3
   have hne:t1≠.nil:=by
    rintro rfl
    cases n <;> cases h2
   have e2:=e1.1.list
   have e3:=e1.1.addr
   have e4:=e1.2
   have hs1:=hs
   rw [← e2] at hs1
   have hkey:∀ k1,keyT t1=some k1→lessK x k1=true:=by
    intro k1 hk1
    have:=goL_key hs h1
    rcases this with e | ⟨k2,e,h5⟩
    ·rw [e] at hk1;cases hk1;exact hlt
    ·rw [e] at hk1;cases hk1;exact lessK_trans hlt h5
   obtain⟨a1,k1,v1,s1,c1,l1,r1,rfl,hset⟩:=setL_node (l':=l') hne
   have hx:=hkey k1 rfl
   rw [hset] at hb
   have hm:=sort_mid (A:=listT l1) (x:=(k1,v1)) (B:=listT r1) hs1
   obtain⟨f1,⟨b,f2⟩,f3⟩:=dropR_list x n _ _ hm.2.2.1 h2
   refine⟨?_,⟨b,?_⟩,fun hk=>hb.2 ?_⟩
   ·rw [hb.1.list,← e2]
    show listT l' ++ (k1,v1) :: listT r1=delE (listT l1 ++ (k1,v1) :: listT r1) x
    rw [delE_append,delE_not (L:=(k1,v1) :: listT r1) fun e he=>?_]
    ·have f1:listT l'=delE (listT l1) x:=f1
     rw [f1]
    ·rcases List.mem_cons.1 he with rfl | he
     ·exact (lessK_ne hx).symm
     ·exact (lessK_ne (lessK_trans hx (hm.2.1 e he))).symm
   ·refine e3.symm.trans ?_
    refine .trans ?_ (.cons b hb.1.addr.symm)
    show (a1 :: (addrs l1 ++ addrs r1)).Perm (b :: a1 :: (addrs l' ++ addrs r1))
    exact (List.Perm.cons a1 (List.Perm.append_right _ f2)).trans (.swap b a1 _)
   ·have:=e4 hk
    exact⟨f3 this.2.1,this.2.2⟩
  ·rename_i hlt
   have hlt:lessK x k=false:=by simpa using hlt
   obtain⟨t1,h1,h⟩:=Option.bind_eq_some_iff.1 h
   have e1:=leanR_same h1
   have k1le:=leanR_key hs hlt h1
   split at h
   ·rename_i hx
    split at h
    ·rename_i hl
     have hl:=adr_none.1 hl
     have hr:=adr_none.1 hx.2
     cases h
     cases t1 with
     | nil=>cases hx.1
     | node a1 k1 v1 s1 c1 l1 r1 =>
      cases hl
      cases hr
      have hk:=hx.1
      cases hk
      refine⟨?_,⟨a1,e1.1.addr.symm⟩,fun _=>trivial⟩
      rw [← e1.1.list]
      show []=delE [(x,v1)] x
      rw [delE_cons_same];rfl
    ·cases h
   ·obtain⟨t2,h2,h⟩:=Option.bind_eq_some_iff.1 h
    have e2:=goR_same h2
    have e3:=e1.1.trans e2.1
    have e4:SumOk (.node a k v s c l r)→SumOk t2:=fun hk=>e2.2 (e1.2 hk)
    have hs2:=hs
    rw [← e3.list] at hs2
    have hs1:=hs
    rw [← e1.1.list] at hs1
    have k2le:=goR_key hs1 k1le h2
    cases t2 with
    | nil =>
     split at h
     ·rename_i hx;cases hx
     ·obtain⟨r',f1,h⟩:=Option.bind_eq_some_iff.1 h
      cases n <;> cases f1
    | node a2 k2 v2 s2 c2 l2 r2 =>
     have hm:=sort_mid (A:=listT l2) (x:=(k2,v2)) (B:=listT r2) hs2
     split at h
     ·rename_i hx
      cases hx
      obtain⟨e,f1,h⟩:=Option.bind_eq_some_iff.1 h
      obtain⟨r',f2,h⟩:=Option.bind_eq_some_iff.1 h
      have hb:=bal_same h
      obtain⟨⟨e',g1,g2⟩,⟨b,g3⟩,g4⟩:=dropF_list n _ _ f2
      have:e'=e:=by
       have f1:firstE r2=some e:=f1
       have g1:firstE r2=some e':=g1
       rw [f1] at g1;cases g1;rfl
      subst this
      refine⟨?_,⟨b,?_⟩,fun hk=>hb.2 ?_⟩
      ·rw [hb.1.list,← e3.list]
       show listT l2 ++ (e'.1,e'.2) :: listT r'=delE (listT l2 ++ (x,v2) :: listT r2) x
       rw [delE_append,delE_not (L:=listT l2) fun e he=>lessK_ne (hm.1 e he),delE_cons_same,delE_not (L:=listT r2) fun e he=>(lessK_ne (hm.2.1 e he)).symm]
       have g2:listT r2=e' :: listT r':=g2
       rw [g2]
      ·refine e3.addr.symm.trans ?_
       refine .trans ?_ (.cons b hb.1.addr.symm)
       show (a2 :: (addrs l2 ++ addrs r2)).Perm (b :: a2 :: (addrs l2 ++ addrs r'))
       have g3:(addrs r2).Perm (b :: addrs r'):=g3
       exact (List.Perm.cons a2 ((g3.append_left _).trans List.perm_middle)).trans (.swap b a2 _)
      ·have:=e4 hk
       exact⟨this.2.1,g4 this.2.2⟩
     ·rename_i hx
      obtain⟨r',f2,h⟩:=Option.bind_eq_some_iff.1 h
      have hb:=bal_same h
      obtain⟨f1,⟨b,g3⟩,g4⟩:=dropR_list x n _ _ hm.2.2.2 f2
      have hk2:=k2le k2 rfl
      have hlt2:lessK k2 x=true:=by
       cases e:lessK k2 x
       ·exact absurd (by rw [lessK_tri hk2 e];rfl) hx
       ·rfl
      refine⟨?_,⟨b,?_⟩,fun hk=>hb.2 ?_⟩
      ·rw [hb.1.list,← e3.list]
       show listT l2 ++ (k2,v2) :: listT r'=delE (listT l2 ++ (k2,v2) :: listT r2) x
       have f1:listT r'=delE (listT r2) x:=f1
       rw [f1,delE_append,delE_not (L:=listT l2) fun e he=>lessK_ne (lessK_trans (hm.1 e he) hlt2),delE_cons_other _ (lessK_ne hlt2)]
      ·refine e3.addr.symm.trans ?_
       refine .trans ?_ (.cons b hb.1.addr.symm)
       show (a2 :: (addrs l2 ++ addrs r2)).Perm (b :: a2 :: (addrs l2 ++ addrs r'))
       have g3:(addrs r2).Perm (b :: addrs r'):=g3
       exact (List.Perm.cons a2 ((g3.append_left _).trans List.perm_middle)).trans (.swap b a2 _)
      ·have:=e4 hk
       exact⟨this.2.1,g4 this.2.2⟩
end
section
theorem isR_node (a k v s c l r):isR (.node a k v s c l r)=c:=rfl
theorem lft_node (a k v s c l r):lft (.node a k v s c l r)=l:=rfl
theorem rgt_node (a k v s c l r):rgt (.node a k v s c l r)=r:=rfl
theorem Str.nil_of {t:RB} (h:Str t 0)(hb:isR t=false):t=.nil:=by
 cases h with
 | nil=>rfl
 | red=>cases hb
theorem Str.some {t:RB} {n:Nat} (h:Str t (n+1)):∃ a k v s c l r,t=.node a k v s c l r:=by
 cases h with
 | red=>exact⟨_,_,_,_,_,_,_,rfl⟩
 | black=>exact⟨_,_,_,_,_,_,_,rfl⟩
theorem bal_black {a:Nat} {k:Ky} {v:Int} {s:Ky} {l r:RB} {n:Nat} (hl:Str l n∨(Alm l n∧isR r=false))(hr:Str r n) :
  ∃ t',bal (.node a k v s false l r)=some t'∧Str t' (n+1)∧(isR l=false∨(isR r=false∧Str l n)→isR t'=false):=by
 rcases hl with hl | ⟨hl,hrb⟩
 ·cases hrc:isR r
  ·refine⟨.node a k v (total k v l r) false l r,?_,.black hl hr hrc,fun _=>rfl⟩
   cases hlc:isR l
   ·simp [bal,bal1,bal2,bal3,resum,lft_node,rgt_node,hrc,hlc]
   ·cases hl with
    | nil=>cases hlc
    | black=>cases hlc
    | red h1 h2 h3 h4=>simp [bal,bal1,bal2,bal3,resum,lft_node,rgt_node,isR_node,hrc,h3]
  ·cases hr with
   | nil=>cases hrc
   | black=>cases hrc
   | @red b k2 v2 s2 l2 r2 _ h1 h2 h3 h4 =>
    cases hlc:isR l
    ·have:∃ sa sb,bal (.node a k v s false l (.node b k2 v2 s2 true l2 r2))=some (.node b k2 v2 sa false (.node a k v sb true l l2) r2):=by
      simp [bal,bal1,bal2,bal3,resum,lft_node,rgt_node,isR_node,hlc,rotL,h4]
     obtain⟨sa,sb,hgo⟩:=this
     exact⟨_,hgo,.black (.red hl h1 hlc h3) h2 h4,fun _=>rfl⟩
    ·cases hl with
     | nil=>cases hlc
     | black=>cases hlc
     | @red d k3 v3 s3 l3 r3 _ g1 g2 g3 g4 =>
      have:∃ sa sb sc,bal (.node a k v s false (.node d k3 v3 s3 true l3 r3) (.node b k2 v2 s2 true l2 r2))=some (.node a k v sa true (.node d k3 v3 sb false l3 r3) (.node b k2 v2 sc false l2 r2)):=by
       simp [bal,bal1,bal2,bal3,resum,lft_node,rgt_node,isR_node,g3,flipT]
      obtain⟨sa,sb,sc,hgo⟩:=this
      refine⟨_,hgo,.red (.black g1 g2 g4) (.black h1 h2 h4) rfl rfl,fun h=>?_⟩
      rcases h with h | h
      ·cases h
      ·cases h.1
 ·cases hl with
  | @mk b k2 v2 s2 l2 r2 _ h1 h2 h3 =>
   cases hlc:isR l2
   ·refine⟨.node a k v (total k v (.node b k2 v2 s2 true l2 r2) r) false (.node b k2 v2 s2 true l2 r2) r,?_,.black (.red h1 h2 hlc h3) hr hrb,fun _=>rfl⟩
    simp [bal,bal1,bal2,bal3,resum,lft_node,rgt_node,isR_node,hrb,hlc]
   ·cases h1 with
    | nil=>cases hlc
    | black=>cases hlc
    | @red d k3 v3 s3 l3 r3 _ g1 g2 g3 g4 =>
     have:∃ sa sb sc,bal (.node a k v s false (.node b k2 v2 s2 true (.node d k3 v3 s3 true l3 r3) r2) r)=some (.node b k2 v2 sa true (.node d k3 v3 sb false l3 r3) (.node a k v sc false r2 r)):=by
      simp [bal,bal1,bal2,bal3,resum,lft_node,rgt_node,isR_node,hrb,rotR,flipT]
     obtain⟨sa,sb,sc,hgo⟩:=this
     refine⟨_,hgo,.red (.black g1 g2 g4) (.black h2 hr hrb) rfl rfl,fun h=>?_⟩
     rcases h with h | ⟨_,h⟩
     ·cases h
     ·cases h with
      | red _ _ h5 _=>cases h5
theorem bal_red {a:Nat} {k:Ky} {v:Int} {s:Ky} {l r:RB} {n:Nat} (hl:Str l n)(hr:Str r n)(hb:isR l=false∨isR r=false) :
  ∃ t',bal (.node a k v s true l r)=some t'∧Alm t' n∧isR t'=true∧(isR l=false→isR r=false→Str t' n):=by
 cases hrc:isR r
 ·refine⟨.node a k v (total k v l r) true l r,?_,.mk hl hr hrc,rfl,fun h _=>.red hl hr h hrc⟩
  cases hlc:isR l
  ·simp [bal,bal1,bal2,bal3,resum,lft_node,rgt_node,hrc,hlc]
  ·cases hl with
   | nil=>cases hlc
   | black=>cases hlc
   | @red b k2 v2 s2 l2 r2 _ h1 h2 h3 h4=>simp [bal,bal1,bal2,bal3,resum,lft_node,rgt_node,isR_node,hrc,h3]
 ·have hlc:isR l=false:=by
   rcases hb with h | h
   ·exact h
   ·rw [hrc] at h;cases h
  cases hr with
  | nil=>cases hrc
  | black=>cases hrc
  | @red b k2 v2 s2 l2 r2 _ h1 h2 h3 h4 =>
   have:∃ sa sb,bal (.node a k v s true l (.node b k2 v2 s2 true l2 r2))=some (.node b k2 v2 sa true (.node a k v sb true l l2) r2):=by
    simp [bal,bal1,bal2,bal3,resum,lft_node,rgt_node,isR_node,hlc,rotL,h4]
   obtain⟨sa,sb,hgo⟩:=this
   exact⟨_,hgo,.mk (.red hl h1 hlc h3) h2 h4,rfl,nofun⟩
theorem put_ok (a:Nat)(k:Ky)(v:Int):∀ (t:RB)(n:Nat),Str t n→∃ t',putR a k v t=some t'∧(isR t=false→Str t' n)∧(isR t=true→Alm t' n∧isR t'=true):=by
 intro t
 induction t with
 | nil =>
  intro n h
  cases h
  exact⟨_,rfl,fun _=>.red .nil .nil rfl rfl,fun h=>by cases h⟩
 | node b k2 v2 s c l r ihl ihr =>
  intro n h
  unfold putR
  cases h with
  | @red _ _ _ _ _ _ _ h1 h2 h3 h4 =>
   split
   ·obtain⟨l',e,hl,_⟩:=ihl n h1
    obtain⟨t',e2,ha,hr,_⟩:=bal_red (a:=b) (k:=k2) (v:=v2) (s:=s) (hl h3) h2 (.inr h4)
    exact⟨t',(by rw [e];exact e2),(fun h=>nomatch h),fun _=>⟨ha,hr⟩⟩
   ·obtain⟨r',e,hr,_⟩:=ihr n h2
    obtain⟨t',e2,ha,hr2,_⟩:=bal_red (a:=b) (k:=k2) (v:=v2) (s:=s) h1 (hr h4) (.inl h3)
    exact⟨t',(by rw [e];exact e2),(fun h=>nomatch h),fun _=>⟨ha,hr2⟩⟩
  | @black _ _ _ _ _ _ n h1 h2 h3 =>
   split
   ·obtain⟨l',e,hl,hl2⟩:=ihl n h1
    have:Str l' n∨(Alm l' n∧isR r=false):=by
     cases hc:isR l
     ·exact .inl (hl hc)
     ·exact .inr ⟨(hl2 hc).1,h3⟩
    obtain⟨t',e2,hs,_⟩:=bal_black (a:=b) (k:=k2) (v:=v2) (s:=s) this h2
    exact⟨t',(by rw [e];exact e2),fun _=>hs,(fun h=>nomatch h)⟩
   ·obtain⟨r',e,hr,_⟩:=ihr n h2
    obtain⟨t',e2,hs,_⟩:=bal_black (a:=b) (k:=k2) (v:=v2) (s:=s) (.inl h1) (hr h3)
    exact⟨t',(by rw [e];exact e2),fun _=>hs,(fun h=>nomatch h)⟩
inductive Pre:RB→Nat→Prop
 | red {a k v s l r n}:Str l n→Str r n→isR l=false→isR r=false→Pre (.node a k v s true l r) n
 | black {a k v s l r n}:Str l n→Str r n→isR l=true→isR r=false→Pre (.node a k v s false l r) (n+1)
inductive PreR:RB→Nat→Prop
 | mk {a k v s l r n}:Str l n→Str r n→isR l=false→isR r=true→PreR (.node a k v s false l r) (n+1)
theorem Pre.of_red {t:RB} {n:Nat} (h:Str t n)(hr:isR t=true):Pre t n:=by
 cases h with
 | nil=>cases hr
 | red h1 h2 h3 h4=>exact .red h1 h2 h3 h4
 | black=>cases hr
theorem goL_ok {t:RB} {m:Nat} (h:Pre t m)(hne:lft t≠.nil) :
  ∃ t1 h1,goL t=some t1∧Pre (lft t1) h1∧t1≠.nil∧∀ l',Str l' h1→(isR (lft t1)=false→isR l'=false)→∃ t',bal (setL t1 l')=some t'∧Str t' m∧(isR t=false→isR t'=false):=by
 cases h with
 | @black a k v s l r n hl hr hlc hrc =>
  refine⟨.node a k v s false l r,n,?_,.of_red hl hlc,nofun,fun l' hl' _=>?_⟩
  ·unfold goL
   cases l with
   | nil=>cases hlc
   | node b k2 v2 s2 c2 l2 r2 =>
    have:c2=true:=hlc
    subst this
    simp [lft_node]
  ·obtain⟨t',e,hs,hb⟩:=bal_black (a:=a) (k:=k) (v:=v) (s:=s) (.inl hl') hr
   exact⟨t',e,hs,fun _=>hb (.inr ⟨hrc,hl'⟩)⟩
 | @red a k v s l r n hl hr hlc hrc =>
  cases hl with
  | nil=>exact absurd rfl hne
  | red=>cases hlc
  | @black b k2 v2 s2 l2 r2 n g1 g2 g3 =>
   cases hc:isR l2
   ·obtain⟨d,k3,v3,s3,c3,l3,r3,rfl⟩:=hr.some
    have hc3:c3=false:=hrc
    subst hc3
    cases hr with
    | @black _ _ _ _ _ _ _ f1 f2 f3 =>
    cases hc2:isR l3
    ·refine⟨.node a k v s false (.node b k2 v2 s2 true l2 r2) (.node d k3 v3 s3 true l3 r3),n,?_,.red g1 g2 hc g3,nofun,fun l' hl' _=>?_⟩
     ·simp [goL,lft_node,hc,redL,flipT,rgt_node,hc2]
     ·obtain⟨t',e,hs,hb⟩:=bal_black (a:=a) (k:=k) (v:=v) (s:=s) (.inl hl') (.red f1 f2 hc2 f3:Str (.node d k3 v3 s3 true l3 r3) n)
      exact⟨t',e,hs,nofun⟩
    ·cases f1 with
     | nil=>cases hc2
     | black=>cases hc2
     | @red x k4 v4 s4 l4 r4 _ e1 e2 e3 e4 =>
      have hgo:∃ sa sb sc,goL (.node a k v s true (.node b k2 v2 s2 false l2 r2) (.node d k3 v3 s3 false (.node x k4 v4 s4 true l4 r4) r3))=some (.node x k4 v4 sa true (.node a k v sb false (.node b k2 v2 s2 true l2 r2) l4) (.node d k3 v3 sc false r4 r3)):=by
       simp [goL,lft_node,hc,redL,flipT,rgt_node,rotR,rotL,setR,isR_node]
      obtain⟨sa,sb,sc,hgo⟩:=hgo
      refine⟨_,n+1,hgo,.black (.red g1 g2 hc g3) e1 rfl e3,nofun,fun l' hl' hlb=>?_⟩
      have hlb:=hlb rfl
      obtain⟨t',e,ha,hr,hs⟩:=bal_red (a:=x) (k:=k4) (v:=v4) (s:=sa) hl' (.black e2 f2 f3:Str (.node d k3 v3 sc false r4 r3) (n+1)) (.inl hlb)
      exact⟨t',e,hs hlb rfl,nofun⟩
   ·refine⟨.node a k v s true (.node b k2 v2 s2 false l2 r2) r,n+1,?_,.black g1 g2 hc g3,nofun,fun l' hl' hb=>?_⟩
    ·simp [goL,lft_node,hc]
    ·have hlb:=hb rfl
     obtain⟨t',e,ha,hr2,hs⟩:=bal_red (a:=a) (k:=k) (v:=v) (s:=s) hl' hr (.inl hlb)
     exact⟨t',e,hs hlb hrc,nofun⟩
theorem leanR_ok {t:RB} {m:Nat} (h:Pre t m∨PreR t m):∃ t1,leanR t=some t1∧((Pre t1 m∧isR t1=true∧isR t=true)∨PreR t1 m):=by
 rcases h with h | h
 ·cases h with
  | @red a k v s l r n h1 h2 h3 h4=>exact⟨.node a k v s true l r,by simp [leanR,lft_node,h3],.inl ⟨.red h1 h2 h3 h4,rfl,rfl⟩⟩
  | @black a k v s l r n h1 h2 h3 h4 =>
   cases h1 with
   | nil=>cases h3
   | black=>cases h3
   | @red b k2 v2 s2 l2 r2 _ g1 g2 g3 g4 =>
    have:∃ sa sb,leanR (.node a k v s false (.node b k2 v2 s2 true l2 r2) r)=some (.node b k2 v2 sa false l2 (.node a k v sb true r2 r)):=by
     simp [leanR,lft_node,isR_node,rotR]
    obtain⟨sa,sb,h⟩:=this
    exact⟨_,h,.inr (.mk g1 (.red g2 h2 g4 h4) g3 rfl)⟩
 ·cases h with
  | @mk a k v s l r n h1 h2 h3 h4=>exact⟨.node a k v s false l r,by simp [leanR,lft_node,h3],.inr (.mk h1 h2 h3 h4)⟩
def setO (t:RB):Option En→RB
 | none=>t
 | some e=>setE t e
theorem goR_ok {t:RB} {m:Nat} (h:(Pre t m∧isR t=true)∨PreR t m)(hne:rgt t≠.nil) :
  ∃ t1 h1,goR t=some t1∧t1≠.nil∧((Pre (rgt t1) h1∧keyT t1=keyT t)∨(PreR (rgt t1) h1∧keyT (rgt t1)=keyT t∧lft t≠.nil∧keyT t1=keyT (lft t))) ∧
   ∀ r',Str r' h1→(isR (rgt t1)=false→isR r'=false)→∀ e:Option En,∃ t',bal (setR (setO t1 e) r')=some t'∧Str t' m∧(isR t=false→isR t'=false):=by
 rcases h with ⟨h,hc⟩ | h
 ·cases h with
  | black=>cases hc
  | @red a k v s l r n hl hr hlc hrc =>
   cases hr with
   | nil=>exact absurd rfl hne
   | red=>cases hrc
   | @black d k3 v3 s3 l3 r3 n f1 f2 f3 =>
    cases hc2:isR l3
    ·obtain⟨b,k2,v2,s2,c2,l2,r2,rfl⟩:=hl.some
     have hc3:c2=false:=hlc
     subst hc3
     cases hl with
     | @black _ _ _ _ _ _ _ g1 g2 g3 =>
     cases hc4:isR l2
     ·refine⟨.node a k v s false (.node b k2 v2 s2 true l2 r2) (.node d k3 v3 s3 true l3 r3),n,?_,nofun,.inl ⟨.red f1 f2 hc2 f3,rfl⟩,fun r' hr' _ e=>?_⟩
      ·simp [goR,lft_node,hc4,redRt,flipT,rgt_node,hc2]
      ·cases e with
       | none =>
        obtain⟨t',e,hs,hb⟩:=bal_black (a:=a) (k:=k) (v:=v) (s:=s) (.inl (.red g1 g2 hc4 g3:Str (.node b k2 v2 s2 true l2 r2) n)) hr'
        exact⟨t',e,hs,nofun⟩
       | some x =>
        obtain⟨t',e,hs,hb⟩:=bal_black (a:=a) (k:=x.1) (v:=x.2) (s:=s) (.inl (.red g1 g2 hc4 g3:Str (.node b k2 v2 s2 true l2 r2) n)) hr'
        exact⟨t',e,hs,nofun⟩
     ·have hgo:∃ sa sb,goR (.node a k v s true (.node b k2 v2 s2 false l2 r2) (.node d k3 v3 s3 false l3 r3))=some (.node b k2 v2 sa true (paint l2) (.node a k v sb false r2 (.node d k3 v3 s3 true l3 r3))):=by
       cases l2 with
       | nil=>cases hc4
       | node=>simp [goR,lft_node,rgt_node,hc2,redRt,flipT,hc4,rotR,paint]
      obtain⟨sa,sb,hgo⟩:=hgo
      have hp:Str (paint l2) (n+1)∧isR (paint l2)=false:=by
       cases g1 with
       | nil=>cases hc4
       | black=>cases hc4
       | red e1 e2 e3 e4=>exact⟨.black e1 e2 e4,rfl⟩
      refine⟨_,n+1,hgo,nofun,.inr ⟨.mk g2 (.red f1 f2 hc2 f3) g3 rfl,rfl,nofun,rfl⟩,fun r' hr' hrb e=>?_⟩
      have hrb:=hrb rfl
      cases e with
      | none =>
       obtain⟨t',e,ha,_,hs⟩:=bal_red (a:=b) (k:=k2) (v:=v2) (s:=sa) hp.1 hr' (.inr hrb)
       exact⟨t',e,hs hp.2 hrb,nofun⟩
      | some x =>
       obtain⟨t',e,ha,_,hs⟩:=bal_red (a:=b) (k:=x.1) (v:=x.2) (s:=sa) hp.1 hr' (.inr hrb)
       exact⟨t',e,hs hp.2 hrb,nofun⟩
    ·refine⟨.node a k v s true l (.node d k3 v3 s3 false l3 r3),n+1,?_,nofun,.inl ⟨.black f1 f2 hc2 f3,rfl⟩,fun r' hr' hb e=>?_⟩
     ·simp [goR,rgt_node,hc2]
     ·have hrb:=hb rfl
      cases e with
      | none =>
       obtain⟨t',e,ha,_,hs⟩:=bal_red (a:=a) (k:=k) (v:=v) (s:=s) hl hr' (.inr hrb)
       exact⟨t',e,hs hlc hrb,nofun⟩
      | some x =>
       obtain⟨t',e,ha,_,hs⟩:=bal_red (a:=a) (k:=x.1) (v:=x.2) (s:=s) hl hr' (.inr hrb)
       exact⟨t',e,hs hlc hrb,nofun⟩
 ·cases h with
  | @mk a k v s l r n hl hr hlc hrc =>
   refine⟨.node a k v s false l r,n,?_,nofun,.inl ⟨.of_red hr hrc,rfl⟩,fun r' hr' _ e=>?_⟩
   ·unfold goR
    cases r with
    | nil=>cases hrc
    | node b k2 v2 s2 c2 l2 r2 =>
     have:c2=true:=hrc
     subst this
     simp [rgt_node]
   ·cases e with
    | none =>
     obtain⟨t',e,hs,hb⟩:=bal_black (a:=a) (k:=k) (v:=v) (s:=s) (.inl hl) hr'
     exact⟨t',e,hs,fun _=>hb (.inl hlc)⟩
    | some x =>
     obtain⟨t',e,hs,hb⟩:=bal_black (a:=a) (k:=x.1) (v:=x.2) (s:=s) (.inl hl) hr'
     exact⟨t',e,hs,fun _=>hb (.inl hlc)⟩
theorem dropF_ok:∀ (n:Nat)(t:RB)(m:Nat),(listT t).length≤n→Pre t m→∃ t',dropF n t=some t'∧Str t' m∧(isR t=false→isR t'=false)
 | 0,t,m,hn,h=>by cases h <;> simp [listT] at hn
 | n+1,.nil,m,hn,h=>by cases h
 | n+1,.node a k v s c l r,m,hn,h=>by
  unfold dropF
  cases l with
  | nil =>
   cases h with
   | black _ _ h _=>cases h
   | red h1 h2 h3 h4 =>
    cases h1
    have:=h2.nil_of h4
    subst this
    exact⟨.nil,rfl,.nil,nofun⟩
  | node b k2 v2 s2 c2 l2 r2 =>
   rw [if_neg (by simp [adr])]
   obtain⟨t1,h1,e1,hp,hne,hbal⟩:=goL_ok h nofun
   have e2:=(goL_same e1).1.list
   have hlt:(listT (lft t1)).length≤n:=by
    cases t1 with
    | nil=>exact absurd rfl hne
    | node a1 k1 v1 s1 c1 l1 r1 =>
     have:=congrArg List.length e2
     simp only [listT,List.length_append,List.length_cons,lft_node] at this hn ⊢
     omega
   obtain⟨l',e3,hs,hb⟩:=dropF_ok n (lft t1) h1 hlt hp
   obtain⟨t',e4,hs2,hb2⟩:=hbal l' hs hb
   refine⟨t',?_,hs2,hb2⟩
   rw [e1]
   show ((dropF n (lft t1)).bind fun l'=>bal (setL t1 l'))=some t'
   rw [e3]
   exact e4
theorem right_in {x:Ky} {vx:Int} {A B:List En} {k:Ky} {v:Int} (hs:SortE (A ++ (k,v) :: B))(hk:lessK k x=true)(h:(x,vx)∈A ++ (k,v) :: B):(x,vx)∈B:=by
 have hm:=sort_mid (A:=A) (x:=(k,v)) (B:=B) hs
 rcases List.mem_append.1 h with h | h
 ·have:=hm.1 _ h;rw [lessK_asym this] at hk;cases hk
 ·rcases List.mem_cons.1 h with h | h
  ·cases h;rw [lessK_irr] at hk;cases hk
  ·exact h
theorem left_in {x:Ky} {vx:Int} {A B:List En} {k:Ky} {v:Int} (hs:SortE (A ++ (k,v) :: B))(hk:lessK x k=true)(h:(x,vx)∈A ++ (k,v) :: B):(x,vx)∈A:=by
 have hm:=sort_mid (A:=A) (x:=(k,v)) (B:=B) hs
 rcases List.mem_append.1 h with h | h
 ·exact h
 ·rcases List.mem_cons.1 h with h | h
  ·cases h;rw [lessK_irr] at hk;cases hk
  ·have:=hm.2.1 _ h;rw [lessK_asym this] at hk;cases hk
theorem dropR_ok (x:Ky):∀ (n:Nat)(t:RB)(m:Nat),(listT t).length≤n→SortE (listT t)→(∃ v,(x,v)∈listT t)→Pre t m∨(PreR t m∧∀ k,keyT t=some k→lessK x k=false)→∃ t',dropR n x t=some t'∧Str t' m∧(isR t=false→isR t'=false)
 | 0,t,m,hn,_,⟨v,hv⟩,h=>by
  have:(listT t)=[]:=List.eq_nil_of_length_eq_zero (by omega)
  rw [this] at hv
  cases hv
 | n+1,.nil,m,hn,_,⟨v,hv⟩,h=>by cases hv
 | n+1,.node a k v s c l r,m,hn,hs,⟨vx,hx⟩,h=>by
  unfold dropR
  by_cases hlt:lessK x k=true
  ·rw [if_pos hlt]
   have hxl:=left_in hs hlt hx
   have hlne:l≠.nil:=by rintro rfl;cases hxl
   have hpre:Pre (.node a k v s c l r) m:=by
    rcases h with h | ⟨_,h⟩
    ·exact h
    ·rw [h k rfl] at hlt;cases hlt
   obtain⟨t1,h1,e1,hp,hne,hbal⟩:=goL_ok hpre hlne
   have e2:=(goL_same e1).1.list
   have hs1:=hs
   rw [← e2] at hs1
   have hkk:=goL_key hs e1
   obtain⟨a1,k1,v1,s1,c1,l1,r1,rfl,_⟩:=setL_node (l':=.nil) hne
   have hm1:=sort_mid (A:=listT l1) (x:=(k1,v1)) (B:=listT r1) hs1
   have hlen:(listT l1).length≤n:=by
    have:=congrArg List.length e2
    simp only [listT,List.length_append,List.length_cons] at this hn
    omega
   have hxk:lessK x k1=true:=by
    rcases hkk with e | ⟨k2,e,h5⟩
    ·cases e;exact hlt
    ·cases e;exact lessK_trans hlt h5
   have hin:(x,vx)∈listT l1:=left_in hs1 hxk (by rw [← e2] at hx;exact hx)
   obtain⟨l',e3,hs3,hb⟩:=dropR_ok x n l1 h1 hlen hm1.2.2.1 ⟨vx,hin⟩ (.inl hp)
   obtain⟨t',e4,hs4,hb4⟩:=hbal l' hs3 hb
   refine⟨t',?_,hs4,hb4⟩
   rw [e1]
   show ((dropR n x l1).bind fun l'=>bal (setL (.node a1 k1 v1 s1 c1 l1 r1) l'))=some t'
   rw [e3]
   exact e4
  ·rw [if_neg hlt]
   have hlt:lessK x k=false:=by simpa using hlt
   obtain⟨t1,e1,h1⟩:=leanR_ok (h.imp id And.left)
   have k1le:=leanR_key hs hlt e1
   have d1:=(leanR_same e1).1.list
   have hcc:isR (.node a k v s c l r)=false→isR t1=false:=by
    intro hh
    rcases h1 with ⟨_,_,h1⟩ | h1
    ·rw [h1] at hh;cases hh
    ·cases h1;rfl
   have h1':(Pre t1 m∧isR t1=true)∨PreR t1 m:=h1.imp (fun h=>⟨h.1,h.2.1⟩) id
   have hs1:=hs
   rw [← d1] at hs1
   have hx1:=hx
   rw [← d1] at hx1
   have hne1:t1≠.nil:=by rintro rfl;cases hx1
   obtain⟨a1,k1,v1,s1,c1,l1,r1,rfl,_⟩:=setL_node (l':=.nil) hne1
   have hk1:=k1le k1 rfl
   rw [e1]
   show ∃ t',(if keyT (.node a1 k1 v1 s1 c1 l1 r1)=some x∧adr r1=none then (if adr l1=none then some RB.nil else none) else _)=some t'∧_
   by_cases hend:keyT (.node a1 k1 v1 s1 c1 l1 r1)=some x∧adr r1=none
   ·rw [if_pos hend]
    have hr:=adr_none.1 hend.2
    subst hr
    rcases h1' with ⟨hp,hc⟩ | hp
    ·cases hp with
     | black=>cases hc
     | red g1 g2 g3 g4 =>
      cases g2
      have:=g1.nil_of g3
      subst this
      exact⟨.nil,rfl,.nil,fun _=>rfl⟩
    ·exfalso
     cases hp with
     | mk _ _ _ h9=>cases h9
   ·rw [if_neg hend]
    have hrne:r1≠.nil:=by
     rintro rfl
     have hk1x:keyT (.node a1 k1 v1 s1 c1 l1 .nil)≠some x:=fun hh=>hend ⟨hh,rfl⟩
     cases e:lessK k1 x
     ·exact hk1x (by rw [lessK_tri hk1 e];rfl)
     ·have:=right_in hs1 e hx1
      cases this
    obtain⟨t2,h2,e2,hne2,hp2,hbal⟩:=goR_ok h1' hrne
    have d2:=(goR_same e2).1.list
    have k2le:=goR_key hs1 k1le e2
    obtain⟨a2,k2,v2,s2,c2,l2,r2,rfl,_⟩:=setL_node (l':=.nil) hne2
    have hk2:=k2le k2 rfl
    have hs2:=hs1
    rw [← d2] at hs2
    have hx2:=hx1
    rw [← d2] at hx2
    have hm2:=sort_mid (A:=listT l2) (x:=(k2,v2)) (B:=listT r2) hs2
    have hlen:(listT r2).length≤n:=by
     have d:=congrArg List.length (d2.trans d1)
     simp only [listT,List.length_append,List.length_cons] at d hn
     omega
    rw [e2]
    show ∃ t',(if keyT (.node a2 k2 v2 s2 c2 l2 r2)=some x then (firstE r2).bind fun e=>(dropF n r2).bind fun r'=>bal (setR (setE (.node a2 k2 v2 s2 c2 l2 r2) e) r') else (dropR n x r2).bind fun r'=>bal (setR (.node a2 k2 v2 s2 c2 l2 r2) r'))=some t'∧_
    by_cases hxe:keyT (.node a2 k2 v2 s2 c2 l2 r2)=some x
    ·rw [if_pos hxe]
     cases hxe
     have hpre:Pre r2 h2:=by
      rcases hp2 with ⟨hp,_⟩ | ⟨_,_,hlne,hkk⟩
      ·exact hp
      ·have hmm:=sort_mid (A:=listT l1) (x:=(k1,v1)) (B:=listT r1) hs1
       cases l1 with
       | nil=>exact absurd rfl hlne
       | node b k3 v3 s3 c3 l3 r3 =>
        cases hkk
        have:=hmm.1 (x,v3) (by simp [listT])
        rw [this] at hk1
        cases hk1
     have hrne2:r2≠.nil:=by rintro rfl;cases hpre
     obtain⟨e0,L0,_,q2⟩:=first_some r2 hrne2
     obtain⟨r',e3,hs3,hb⟩:=dropF_ok n r2 h2 hlen hpre
     obtain⟨t',e4,hs4,hb4⟩:=hbal r' hs3 hb (some e0)
     refine⟨t',?_,hs4,fun hh=>hb4 (hcc hh)⟩
     rw [q2]
     show ((dropF n r2).bind fun r'=>bal (setR (setE (.node a2 x v2 s2 c2 l2 r2) e0) r'))=some t'
     rw [e3]
     exact e4
    ·rw [if_neg hxe]
     have hlt2:lessK k2 x=true:=by
      cases e:lessK k2 x
      ·exact absurd (by rw [lessK_tri hk2 e];rfl) hxe
      ·rfl
     have hin:=right_in hs2 hlt2 hx2
     have hpre:Pre r2 h2∨(PreR r2 h2∧∀ k,keyT r2=some k→lessK x k=false):=by
      rcases hp2 with ⟨hp,_⟩ | ⟨hp,hkr,_⟩
      ·exact .inl hp
      ·refine .inr ⟨hp,fun k' hk'=>?_⟩
       have hkr:keyT r2=some k1:=hkr
       rw [hkr] at hk'
       cases hk'
       exact hk1
     obtain⟨r',e3,hs3,hb⟩:=dropR_ok x n r2 h2 hlen hm2.2.2.2 ⟨vx,hin⟩ hpre
     obtain⟨t',e4,hs4,hb4⟩:=hbal r' hs3 hb none
     refine⟨t',?_,hs4,fun hh=>hb4 (hcc hh)⟩
     rw [e3]
     exact e4
def blackT:RB→RB
 | .nil=>.nil
 | .node a k v s _ l r=>.node a k v s false l r
def redT:RB→RB
 | .nil=>.nil
 | .node a k v s _ l r=>.node a k v s true l r
def Well (t:RB):Prop:=isR t=false∧(∃ n,Str t n)∧SumOk t∧SortE (listT t)
theorem blackT_same (t:RB):listT (blackT t)=listT t∧addrs (blackT t)=addrs t∧(SumOk t→SumOk (blackT t))∧isR (blackT t)=false:=by
 cases t with
 | nil=>exact⟨rfl,rfl,id,rfl⟩
 | node=>exact⟨rfl,rfl,id,rfl⟩
theorem blackT_str {t:RB} {n:Nat} (h:Str t n∨Alm t n):∃ m,Str (blackT t) m:=by
 rcases h with h | h
 ·cases h with
  | nil=>exact⟨0,.nil⟩
  | red h1 h2 h3 h4=>exact⟨_,.black h1 h2 h4⟩
  | black h1 h2 h3=>exact⟨_,.black h1 h2 h3⟩
 ·cases h with
  | mk h1 h2 h3=>exact⟨_,.black h1 h2 h3⟩
theorem mem_insE {e:En}:∀ {L:List En} {z:En},z∈insE L e↔z=e∨z∈L
 | [],z=>by simp [insE]
 | x :: L,z=>by
  unfold insE
  split
  ·simp
  ·simp only [List.mem_cons,mem_insE (L:=L)]
   constructor
   ·rintro (h | h | h)
    ·exact .inr (.inl h)
    ·exact .inl h
    ·exact .inr (.inr h)
   ·rintro (h | h | h)
    ·exact .inr (.inl h)
    ·exact .inl h
    ·exact .inr (.inr h)
theorem sort_ins {e:En}:∀ {L:List En},SortE L→(∀ z∈L,z.1≠e.1)→SortE (insE L e)
 | [],_,_=>by simp [insE,SortE]
 | x :: L,h,hn=>by
  have h1:=(List.pairwise_cons.1 h).1
  unfold insE
  split
  ·rename_i hlt
   refine List.pairwise_cons.2 ⟨fun z hz=>?_,h⟩
   rcases List.mem_cons.1 hz with rfl | hz
   ·exact hlt
   ·exact lessK_trans hlt (h1 z hz)
  ·rename_i hlt
   have hlt:lessK e.1 x.1=false:=by simpa using hlt
   refine List.pairwise_cons.2 ⟨fun z hz=>?_,sort_ins (List.pairwise_cons.1 h).2 fun z hz=>hn z (.tail _ hz)⟩
   rcases mem_insE.1 hz with rfl | hz
   ·cases e2:lessK x.1 z.1
    ·exact absurd (lessK_tri e2 hlt) (hn x (.head _))
    ·rfl
   ·exact h1 z hz
theorem sort_del {L:List En} (h:SortE L)(x:Ky):SortE (delE L x):=List.Pairwise.filter _ h
theorem Well.put {t:RB} (h:Well t)(a:Nat)(k:Ky)(v:Int)(hn:∀ z∈listT t,z.1≠k) :
  ∃ t',putR a k v t=some t'∧t'≠.nil∧Well (blackT t')∧listT (blackT t')=insE (listT t) (k,v)∧(addrs (blackT t')).Perm (a :: addrs t):=by
 obtain⟨hr,⟨n,hs⟩,hk,ho⟩:=h
 obtain⟨t',e,h1,_⟩:=put_ok a k v t n hs
 have h2:=put_list a k v t t' ho e
 have hb:=blackT_same t'
 refine⟨t',e,?_,⟨hb.2.2.2,blackT_str (.inl (h1 hr)),hb.2.2.1 (h2.2.2 hk),?_⟩,hb.1.trans h2.1,hb.2.1 ▸ h2.2.1⟩
 ·rintro rfl
  have:=h2.2.1.length_eq
  simp [addrs] at this
 ·rw [hb.1,h2.1]
  exact sort_ins ho hn
def startT (t:RB):RB:=if isR (lft t)=false∧isR (rgt t)=false then redT t else t
theorem Well.drop {t:RB} (h:Well t)(x:Ky)(hx:∃ v,(x,v)∈listT t) :
  ∃ t',dropR (listT t).length x (startT t)=some t'∧Well (blackT t')∧listT (blackT t')=delE (listT t) x∧∃ b,(addrs t).Perm (b :: addrs (blackT t')):=by
 obtain⟨hr,⟨n,hs⟩,hk,ho⟩:=h
 have hq:listT (startT t)=listT t∧addrs (startT t)=addrs t∧(SumOk t→SumOk (startT t)):=by
  unfold startT
  split
  ·cases t <;> exact⟨rfl,rfl,id⟩
  ·exact⟨rfl,rfl,id⟩
 have hp:∃ m,Pre (startT t) m:=by
  cases hs with
  | nil=>obtain⟨v,hv⟩:=hx;cases hv
  | red=>cases hr
  | @black a k v s l r n h1 h2 h3 =>
   unfold startT
   rw [lft_node,rgt_node]
   cases hc:isR l
   ·rw [if_pos ⟨rfl,h3⟩];exact⟨n,.red h1 h2 hc h3⟩
   ·rw [if_neg (by simp)];exact⟨n+1,.black h1 h2 hc h3⟩
 obtain⟨m,hp⟩:=hp
 obtain⟨t',e,h1,_⟩:=dropR_ok x (listT t).length (startT t) m (by rw [hq.1];exact Nat.le_refl _) (by rw [hq.1];exact ho) (by rw [hq.1];exact hx) (.inl hp)
 have h2:=dropR_list x _ _ _ (by rw [hq.1];exact ho) e
 rw [hq.1,hq.2.1] at h2
 have hb:=blackT_same t'
 refine⟨t',e,⟨hb.2.2.2,blackT_str (.inl h1),hb.2.2.1 (h2.2.2 (hq.2.2 hk)),?_⟩,hb.1.trans h2.1,hb.2.1 ▸ h2.2.1⟩
 rw [hb.1,h2.1]
 exact sort_del ho x
theorem Well.nil:Well .nil:=⟨rfl,⟨0,.nil⟩,trivial,List.Pairwise.nil⟩
end
end Go.Proofs.YtmmeopjemkjllaaGreat
