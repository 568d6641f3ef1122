/- Lemmas of the claim. No conditions beyond those that each states. -/
import Derived.Test.YtmmeopjemkjllaaGreatPU34
import Derived.Deep.MidRow
import Derived.BigRegion
import Derived.Test.YtmmeopjemkjllaaGreatPU15
import Derived.Deep.AppendSrc
set_option linter.unusedVariables false
set_option linter.unusedSimpArgs false
set_option maxRecDepth 100000
set_option maxHeartbeats 8000000
namespace Go.Proofs.YtmmeopjemkjllaaGreat
section
open Go.RowKit Go.Maps
attribute [local go_sem ↓] Go.wp_at_zero Go.wp_at_succ
attribute [local go_sem] quietR quietAtR quietUponR midAt midUpon
attribute [local irreducible] TStep HStep
theorem put_look {α:Type} {id:Int} {c:α}:∀ {M:List (Int × α)},Rising M→lookM M id=some c→putM M id c=M
 | [],_,h=>by cases h
 | p :: r,hr,hl=>by
  have h1:=(List.pairwise_cons.1 hr).1
  unfold lookM at hl
  unfold putM
  by_cases hp:p.1=id
  ·rw [if_pos hp] at hl
   cases hl
   subst hp
   rw [if_neg (by omega),if_pos rfl]
  ·rw [if_neg hp] at hl
   have:=h1 _ (mem_of_look hl)
   dsimp only at this
   rw [if_neg (by omega),if_neg hp,put_look (List.pairwise_cons.1 hr).2 hl]
end
section
open Go.RowKit Go.Maps
attribute [local go_sem ↓] Go.wp_at_zero Go.wp_at_succ
attribute [local go_sem] quietR quietAtR quietUponR midAt midUpon
def innS (id pa:Int):Sp:=⟨id,pa,false,(0,0,0),(0,0,100),(0,0,0),0,0⟩
def leafS (id pa:Int):Sp:=⟨id,pa,true,(0,0,0),(0,0,100),(0,0,0),4,4000⟩
def aM1:Mp:=[(1,(innS 1 0,1))]
def aM2:Mp:=[(1,(innS 1 0,1)),(2,(leafS 2 1,2))]
def aM3:Mp:=[(1,(innS 1 0,1)),(2,(leafS 2 1,2)),(3,(leafS 3 1,2))]
theorem a1:addM [] (innS 1 0)=(0,aM1):=by kernel_rfl
theorem a2:addM aM1 (leafS 2 1)=(0,aM2):=by kernel_rfl
theorem a3:addM aM2 (leafS 3 1)=(0,aM3):=by kernel_rfl
theorem a4:addM aM3 (leafS 2 0)=(80,aM3):=by kernel_rfl
theorem a5:addM aM3 (leafS 4 2)=(160,aM3):=by kernel_rfl
theorem a6:dropM aM3 1=(161,aM3):=by kernel_rfl
theorem a7:pathM aM3 3=[3,1]:=by kernel_rfl
theorem a8:kids aM3 1=[2,3]:=by kernel_rfl
theorem a9:dropM aM3 3=(0,aM2):=by kernel_rfl
open Go.RowKit Go.Maps
attribute [local go_sem ↓] Go.wp_at_zero Go.wp_at_succ
attribute [local go_sem] quietR quietAtR quietUponR midAt midUpon
structure HAct where
 k:Int
 s:Sp
instance:Inhabited Sp:=⟨sp0⟩
instance:Inhabited HAct:=⟨⟨0,sp0⟩⟩
end
section
open Go.RowKit Go.Maps
theorem nodup_leH {l m:List Int}:l.Nodup→(∀ x∈l,x∈m)→l.length≤m.length:=by
 induction l generalizing m with
 | nil=>intro _ _;simp
 | cons a l ih =>
  intro hn hs
  have ha:=hs a (by simp)
  have hn2:=List.nodup_cons.1 hn
  have h1:=ih (m:=m.erase a) hn2.2 (fun x hx=>(List.mem_erase_of_ne (by rintro rfl;exact hn2.1 hx)).2 (hs x (by simp [hx])))
  rw [List.length_erase_of_mem ha] at h1
  have:0 < m.length:=List.length_pos_of_mem ha
  simp;omega
section
variable {A M : Mp}
end
end
end Go.Proofs.YtmmeopjemkjllaaGreat
