/- Lemmas of the claim. No conditions beyond those that each states. -/
import Derived.Test.YtmmeopjemkjllaaGreatPU29
import Derived.Deep.DrawnRows
set_option linter.unusedVariables false
set_option linter.unusedSimpArgs false
set_option maxRecDepth 100000
set_option maxHeartbeats 8000000
namespace Go.Proofs.YtmmeopjemkjllaaGreat
section
open Go.RowKit
attribute [local go_sem ↓] Go.wp_at_zero Go.wp_at_succ
attribute [local go_sem] quietR quietAtR quietUponR midAt midUpon
def BelowP (a b:Cv):Prop:=okC a=true∧okC b=true∧Under a b
noncomputable instance (a b:Cv):Decidable (BelowP a b):=Classical.propDecidable _
end
section
open Go.RowKit
attribute [local go_sem ↓] Go.wp_at_zero Go.wp_at_succ
attribute [local go_sem] quietR quietAtR quietUponR midAt midUpon
structure Sp where
 id:Int
 pa:Int
 lf:Bool
 r:Cv
 s:Cv
 u:Cv
 pk:Int
 by_:Int
def spC (s:Sp):Array Value:=#[.int .i64 s.id,.int .i64 s.pa,.bool s.lf,.int .u64 s.r.1,.int .u64 s.r.2.1,.int .u64 s.r.2.2,.int .u64 s.s.1,.int .u64 s.s.2.1,.int .u64 s.s.2.2,.int .u64 s.u.1,.int .u64 s.u.2.1,.int .u64 s.u.2.2,.int .i64 s.pk,.int .i64 s.by_]
def spV (s:Sp):Value:=.agg (spC s)
def UC (c:Cv):Prop:=U c.1∧U c.2.1∧U c.2.2
def WfSp (s:Sp):Prop:=((Lit.int .i64 s.id).wf=true∧(Lit.int .i64 s.pa).wf=true∧(Lit.int .i64 s.pk).wf=true∧(Lit.int .i64 s.by_).wf=true)∧UC s.r∧UC s.s∧UC s.u
def noneB (c:Cv):Bool:=decide (c=(0,0,0))
def inB (n a b:Int):Bool:=decide (a≤n) && decide (n≤b)
def namedB (s:Sp):Bool:=inB s.id 1 65535 && inB s.pa 0 65535 && (s.id != s.pa)
def curvesB (s:Sp):Bool:=okC s.r && okC s.s && okC s.u
def shapedB (s:Sp):Bool:=if s.lf then (!(noneB s.r && noneB s.s)) && inB s.pk 1 4096 && inB s.by_ 1 16777216 else noneB s.r && !noneB s.s && (s.pk == 0) && (s.by_ == 0)
def goesB (c:Cv):Bool:=noneB c || decide (0 < c.2.2)
def sharedB (s:Sp):Bool:=goesB s.s && goesB s.u && (noneB s.u || !noneB s.s)
noncomputable def underB (s:Sp):Bool:=noneB s.r || noneB s.u || decide (BelowP s.r s.u)
noncomputable def mayS (s:Sp):Bool:=namedB s && curvesB s && shapedB s && sharedB s && underB s
theorem cnoneH_any (F L R:Int)(w:World) :
  Calls Tryz.prog 81 #[.agg #[.int .u64 F,.int .u64 L,.int .u64 R]] w fun e w'=>e=.returned (.bool (noneB (F,L,R)))∧Below w.heap.size w w':=by
 unfold noneB
 by_cases h1:F=0
 ·by_cases h2:L=0
  ·by_cases h3:R=0
   ·subst h1 h2 h3
    go_enter Tryz.func81,Tryz.ntmps81
    go_wp2
    go_ret
    exact⟨rfl,by go_grown⟩
   ·go_enter Tryz.func81,Tryz.ntmps81
    go_wp2
    go_ret
    exact⟨by simp [h3],by go_grown⟩
  ·go_enter Tryz.func81,Tryz.ntmps81
   go_wp2
   go_ret
   exact⟨by simp [h2],by go_grown⟩
 ·go_enter Tryz.func81,Tryz.ntmps81
  go_wp2
  go_ret
  exact⟨by simp [h1],by go_grown⟩
end
section
open Go.RowKit
abbrev Cl:=Sp × Int
abbrev Mp:=List (Int × Cl)
def kids (M:Mp)(k:Int):List Int:=(M.filter fun q=>decide (q.2.1.pa=k)).map (·.1)
def depthM (M:Mp)(pa:Int):Int:=if pa=0 then 1 else match lookM M pa with
 | some c=>if c.1.lf=true∨8≤c.2 then 0 else c.2+1
 | none=>0
noncomputable def addM (M:Mp)(s:Sp):Int × Mp:=if mayS s=false then (130,M) else if 64≤M.length then (4,M) else if (lookM M s.id).isSome=true then (80,M) else if depthM M s.pa=0 then (160,M) else (0,putM M s.id (s,depthM M s.pa))
def dropM (M:Mp)(id:Int):Int × Mp:=match lookM M id with
 | none=>(81,M)
 | some c=>if kids M id=[] then (0,delM M id) else (161,M)
structure OkCl (M:Mp)(k:Int)(c:Cl):Prop where
 id:c.1.id=k
 wf:WfSp c.1
 may:mayS c.1=true
 d1:1≤c.2
 d8:c.2≤8
 up:c.1.pa=0∧c.2=1∨∃ p,lookM M c.1.pa=some p∧p.1.lf=false∧c.2=p.2+1
structure InvT (M:Mp):Prop where
 rise:Rising M
 few:M.length≤64
 ok:∀ k c,lookM M k=some c→OkCl M k c
theorem look_of_mem {α:Type}:∀ {M:List (Int × α)} {k:Int} {c:α},Rising M→(k,c)∈M→lookM M k=some c
 | [],k,c,_,h=>by simp at h
 | p :: r,k,c,hr,h=>by
  have h1:=(List.pairwise_cons.1 hr).1
  rcases List.mem_cons.1 h with rfl | h
  ·simp [lookM]
  ·have:=h1 _ h
   dsimp only at this
   unfold lookM
   rw [if_neg (by omega)]
   exact look_of_mem (List.pairwise_cons.1 hr).2 h
theorem mem_of_look {α:Type}:∀ {M:List (Int × α)} {k:Int} {c:α},lookM M k=some c→(k,c)∈M
 | [],k,c,h=>by cases h
 | p :: r,k,c,h=>by
  unfold lookM at h
  split at h
  ·rename_i e
   cases h
   subst e
   exact .head _
  ·exact .tail _ (mem_of_look h)
theorem put_len_same {α:Type} {id:Int} {c c0:α}:∀ {M:List (Int × α)},Rising M→lookM M id=some c0→(putM M id c).length=M.length
 | [],_,h=>by cases h
 | p :: r,hr,hl=>by
  have h1:=(List.pairwise_cons.1 hr).1
  unfold lookM at hl
  unfold putM
  by_cases hp:p.1=id
  ·rw [if_neg (by omega),if_pos hp];rfl
  ·rw [if_neg hp] at hl
   have:=h1 _ (mem_of_look hl)
   dsimp only at this
   rw [if_neg (by omega),if_neg hp,List.length_cons,put_len_same (List.pairwise_cons.1 hr).2 hl,List.length_cons]
theorem inv_nil:InvT []:=⟨by simp [Rising],by simp,fun k c h=>by cases h⟩
def pathF (M:Mp):Nat→Int→List Int
 | 0,_=>[]
 | n+1,id=>match lookM M id with
  | none=>[]
  | some c=>id :: pathF M n c.1.pa
def pathM (M:Mp)(id:Int):List Int:=pathF M 8 id
end
end Go.Proofs.YtmmeopjemkjllaaGreat
