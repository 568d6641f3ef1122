/- Lemmas of the claim. No conditions beyond those that each states. -/
import Derived.Test.YtmmeopjemkjllaaGreatPU1
set_option linter.unusedVariables false
set_option linter.unusedSimpArgs false
set_option maxRecDepth 100000
set_option maxHeartbeats 8000000
namespace Go.Proofs.YtmmeopjemkjllaaGreat
section
theorem lessH_le {a b:Ky}:(lessH a b=a∧lessK b a=false)∨(lessH a b=b∧lessK b a=true):=by
 unfold lessH
 by_cases h:a=b∨lessK a b=true
 ·rw [if_pos h]
  refine .inl ⟨rfl,?_⟩
  rcases h with rfl | h
  ·exact lessK_irr a
  ·exact lessK_asym h
 ·rw [if_neg h]
  refine .inr ⟨rfl,?_⟩
  cases e:lessK b a
  ·have h2:lessK a b=false:=by
    cases e2:lessK a b
    ·rfl
    ·exact absurd (.inr e2) h
   exact absurd (.inl (lessK_tri h2 e)) h
  ·rfl
def LeastH (s:Ky)(L:List Ky):Prop:=s∈L∧∀ z∈L,lessK z s=false
theorem not_less_trans {a b c:Ky} (h:lessK b a=false)(k:lessK c b=false):lessK c a=false:=by
 cases e:lessK c a
 ·rfl
 ·cases e2:lessK a b
  ·rw [lessK_tri e2 h] at e;rw [e] at k;cases k
  ·rw [lessK_trans e e2] at k;cases k
theorem LeastH.append {a b:Ky} {A B:List Ky} (h:LeastH a A)(k:LeastH b B):LeastH (lessH a b) (A ++ B):=by
 rcases lessH_le (a:=a) (b:=b) with ⟨e,h2⟩ | ⟨e,h2⟩ <;> rw [e]
 ·refine⟨List.mem_append.2 (.inl h.1),fun z hz=>?_⟩
  rcases List.mem_append.1 hz with hz | hz
  ·exact h.2 z hz
  ·exact not_less_trans h2 (k.2 z hz)
 ·refine⟨List.mem_append.2 (.inr k.1),fun z hz=>?_⟩
  rcases List.mem_append.1 hz with hz | hz
  ·exact not_less_trans (lessK_asym h2) (h.2 z hz)
  ·exact k.2 z hz
theorem LeastH.one (a:Ky):LeastH a [a]:=⟨.head _,fun z hz=>by rw [List.mem_singleton.1 hz];exact lessK_irr a⟩
def ownE (e:En):Ky:=ownK e.1 e.2
theorem SumOk.least:∀ {t:RB} {a:Nat} {k:Ky} {v:Int} {s:Ky} {c:Bool} {l r:RB},SumOk t→t=.node a k v s c l r→LeastH s ((listT t).map ownE)
 | .nil,_,_,_,_,_,_,_,_,h=>by cases h
 | .node a k v s c l r,_,_,_,_,_,_,_,h,e=>by
  cases e
  obtain⟨h1,h2,h3⟩:=h
  rw [h1]
  show LeastH (joinR r (joinL l (ownK k v))) ((listT l ++ (k,v) :: listT r).map ownE)
  rw [List.map_append,List.map_cons,show (ownE (k,v))=ownK k v from rfl,List.append_cons]
  have hl:LeastH (joinL l (ownK k v)) ((listT l).map ownE ++ [ownK k v]):=by
   cases l with
   | nil=>exact LeastH.one _
   | node b k2 v2 s2 c2 l2 r2=>exact (SumOk.least h2 rfl).append (.one _)
  cases r with
  | nil=>simpa [listT,joinR] using hl
  | node b k2 v2 s2 c2 l2 r2=>exact hl.append (SumOk.least h3 rfl)
def findT (x:Ky):RB→RB
 | .nil=>.nil
 | .node a k v s c l r=>if k=x then .node a k v s c l r else if lessK x k=true then findT x l else findT x r
theorem find_ok (x:Ky):∀ (t:RB),SortE (listT t)→(∃ a v s c l r,findT x t=.node a x v s c l r∧(x,v)∈listT t)∨(findT x t=.nil∧∀ e∈listT t,e.1≠x)
 | .nil,_=>.inr ⟨rfl,fun e he=>by cases he⟩
 | .node a k v s c l r,hs=>by
  have hm:=sort_mid (A:=listT l) (x:=(k,v)) (B:=listT r) hs
  unfold findT
  by_cases hk:k=x
  ·subst hk
   rw [if_pos rfl]
   exact .inl ⟨a,v,s,c,l,r,rfl,by simp [listT]⟩
  ·rw [if_neg hk]
   by_cases hlt:lessK x k=true
   ·rw [if_pos hlt]
    rcases find_ok x l hm.2.2.1 with ⟨a',v',s',c',l',r',h1,h2⟩ | ⟨h1,h2⟩
    ·exact .inl ⟨a',v',s',c',l',r',h1,by simp [listT,h2]⟩
    ·refine .inr ⟨h1,fun e he=>?_⟩
     rcases List.mem_append.1 he with he | he
     ·exact h2 e he
     ·rcases List.mem_cons.1 he with rfl | he
      ·exact hk
      ·exact (lessK_ne (lessK_trans hlt (hm.2.1 e he))).symm
   ·rw [if_neg hlt]
    have hlt2:lessK k x=true:=by
     cases e:lessK k x
     ·exact absurd (lessK_tri e (by simpa using hlt)) hk
     ·rfl
    rcases find_ok x r hm.2.2.2 with ⟨a',v',s',c',l',r',h1,h2⟩ | ⟨h1,h2⟩
    ·exact .inl ⟨a',v',s',c',l',r',h1,by simp [listT,h2]⟩
    ·refine .inr ⟨h1,fun e he=>?_⟩
     rcases List.mem_append.1 he with he | he
     ·exact lessK_ne (lessK_trans (hm.1 e he) hlt2)
     ·rcases List.mem_cons.1 he with rfl | he
      ·exact hk
      ·exact h2 e he
def withinT (v0:Int):RB→Option Ky
 | .nil=>none
 | .node _ k v _ _ .nil r=>if v≤v0 then some k else withinT v0 r
 | .node _ k v _ _ (.node b k2 v2 sl c2 l2 r2) r=>if sl.1≤v0 then withinT v0 (.node b k2 v2 sl c2 l2 r2) else if v≤v0 then some k else withinT v0 r
theorem least_value {s:Ky} {L:List Ky} (h:LeastH s L)(v0:Int):s.1≤v0↔∃ z∈L,z.1≤v0:=by
 constructor
 ·exact fun hs=>⟨s,h.1,hs⟩
 ·rintro ⟨z,hz,hv⟩
  have:=h.2 z hz
  have:¬ (z.1 < s.1∨(z.1=s.1∧z.2 < s.2)):=fun hh=>by rw [lessK_iff.2 hh] at this;cases this
  omega
theorem within_ok (v0:Int):∀ (t:RB),SumOk t→withinT v0 t=((listT t).find? fun e=>decide (e.2≤v0)).map (·.1)
 | .nil,_=>rfl
 | .node a k v s c .nil r,h=>by
  show (if v≤v0 then some k else withinT v0 r)=((((k,v):En) :: listT r).find? fun e=>decide (e.2≤v0)).map (·.1)
  by_cases hv:v≤v0
  ·rw [if_pos hv,List.find?_cons_of_pos (by simpa using hv)];rfl
  ·rw [if_neg hv,List.find?_cons_of_neg (by simpa using hv)];exact within_ok v0 r h.2.2
 | .node a k v s c (.node b k2 v2 sl c2 l2 r2) r,h=>by
  show (if sl.1≤v0 then withinT v0 (.node b k2 v2 sl c2 l2 r2) else if v≤v0 then some k else withinT v0 r)=((listT (.node b k2 v2 sl c2 l2 r2) ++ ((k,v):En) :: listT r).find? fun e=>decide (e.2≤v0)).map (·.1)
  have hL:=SumOk.least h.2.1 rfl
  have hv:=least_value hL v0
  rw [List.find?_append]
  by_cases hs:sl.1≤v0
  ·rw [if_pos hs,within_ok v0 _ h.2.1]
   obtain⟨z,hz,hzv⟩:=hv.1 hs
   obtain⟨e,he,rfl⟩:=List.mem_map.1 hz
   cases hf:(listT (.node b k2 v2 sl c2 l2 r2)).find? fun e=>decide (e.2≤v0) with
   | none =>
    rw [List.find?_eq_none] at hf
    have:=hf e he
    simp only [decide_eq_true_eq] at this
    exact absurd hzv this
   | some e=>rfl
  ·rw [if_neg hs]
   have hf:(listT (.node b k2 v2 sl c2 l2 r2)).find? (fun e=>decide (e.2≤v0))=none:=by
    rw [List.find?_eq_none]
    intro e he
    simp only [decide_eq_true_eq]
    exact fun hh=>hs (hv.2 ⟨ownE e,List.mem_map.2 ⟨e,he,rfl⟩,hh⟩)
   rw [hf,Option.none_or]
   by_cases hv2:v≤v0
   ·rw [if_pos hv2,List.find?_cons_of_pos (by simpa using hv2)];rfl
   ·rw [if_neg hv2,List.find?_cons_of_neg (by simpa using hv2)];exact within_ok v0 r h.2.2
end
section
def dropI (L:List En)(i:Int):List En:=L.filter fun e=>!decide (e.1.2=i)
def putI (L:List En)(i a b:Int):List En:=insE (dropI L i) ((a,i),b)
def getE (L:List En)(i:Int):Option En:=L.find? fun e=>decide (e.1.2=i)
structure InvE (L:List En):Prop where
 sort:SortE L
 ids:L.Pairwise fun a b=>a.1.2≠b.1.2
theorem InvE.nil:InvE []:=⟨.nil,.nil⟩
theorem getE_some {L:List En} {i:Int} {e:En} (h:getE L i=some e):e∈L∧e.1.2=i:=⟨List.mem_of_find?_eq_some h,by simpa using List.find?_some h⟩
theorem getE_none {L:List En} {i:Int}:getE L i=none↔∀ e∈L,e.1.2≠i:=by
 unfold getE
 rw [List.find?_eq_none]
 simp
theorem same_id {L:List En} (h:L.Pairwise fun a b=>a.1.2≠b.1.2) {x y:En} (hx:x∈L)(hy:y∈L)(he:x.1.2=y.1.2):x=y:=by
 induction L with
 | nil=>cases hx
 | cons z L ih =>
  have hp:=List.pairwise_cons.1 h
  rcases List.mem_cons.1 hx with e1 | hx2
  ·rcases List.mem_cons.1 hy with e2 | hy2
   ·rw [e1,e2]
   ·rw [e1] at he
    exact absurd he (hp.1 y hy2)
  ·rcases List.mem_cons.1 hy with e2 | hy2
   ·rw [e2] at he
    exact absurd he.symm (hp.1 x hx2)
   ·exact ih hp.2 hx2 hy2
theorem getE_mem {L:List En} (h:L.Pairwise fun a b=>a.1.2≠b.1.2) {e:En} (he:e∈L):getE L e.1.2=some e:=by
 cases hg:getE L e.1.2 with
 | none=>exact absurd rfl (getE_none.1 hg e he)
 | some x =>
  have:=getE_some hg
  rw [same_id h this.1 he this.2]
theorem getE_iff {L:List En} (h:L.Pairwise fun a b=>a.1.2≠b.1.2) {i:Int} {e:En}:getE L i=some e↔e∈L∧e.1.2=i :=
 ⟨getE_some,fun hh=>by rw [← hh.2];exact getE_mem h hh.1⟩
theorem mem_drop {L:List En} {i:Int} {e:En}:e∈dropI L i↔e∈L∧e.1.2≠i:=by
 unfold dropI
 rw [List.mem_filter]
 simp
theorem dropI_not {L:List En} {i:Int} (h:∀ e∈L,e.1.2≠i):dropI L i=L:=by
 unfold dropI
 rw [List.filter_eq_self]
 intro e he
 simpa using h e he
theorem InvE.drop {L:List En} (h:InvE L)(i:Int):InvE (dropI L i):=⟨h.sort.filter _,h.ids.filter _⟩
theorem ins_perm (e:En):∀ L:List En,(insE L e).Perm (e :: L)
 | []=>.refl _
 | x :: L=>by
  unfold insE
  split
  ·exact .refl _
  ·exact (List.Perm.cons x (ins_perm e L)).trans (.swap e x L)
theorem InvE.put {L:List En} (h:InvE L)(i a b:Int):InvE (putI L i a b):=by
 have hd:=h.drop i
 have hn:∀ z∈dropI L i,z.1.2≠i:=fun z hz=>(mem_drop.1 hz).2
 refine⟨sort_ins hd.sort fun z hz e=>hn z hz (by rw [e]),?_⟩
 refine (ins_perm _ _).symm.pairwise (List.pairwise_cons.2 ⟨fun z hz e=>hn z hz e.symm,hd.ids⟩) fun hab e=>hab e.symm
theorem mem_put {L:List En} {i a b:Int} {z:En}:z∈putI L i a b↔z=((a,i),b)∨(z∈L∧z.1.2≠i):=by
 unfold putI
 rw [mem_insE,mem_drop]
theorem get_put {L:List En} (h:InvE L)(i a b j:Int):getE (putI L i a b) j=if j=i then some ((a,i),b) else getE L j:=by
 by_cases hj:j=i
 ·rw [if_pos hj,getE_iff (h.put i a b).ids]
  exact⟨mem_put.2 (.inl rfl),hj.symm⟩
 ·rw [if_neg hj]
  refine Option.ext fun e=>?_
  rw [getE_iff (h.put i a b).ids,getE_iff h.ids,mem_put]
  constructor
  ·rintro ⟨rfl | ⟨h1,h2⟩,h3⟩
   ·exact absurd h3.symm hj
   ·exact⟨h1,h3⟩
  ·rintro ⟨h1,h3⟩
   exact⟨.inr ⟨h1,fun h4=>hj (h3.symm.trans h4)⟩,h3⟩
theorem get_drop {L:List En} (h:InvE L)(i j:Int):getE (dropI L i) j=if j=i then none else getE L j:=by
 by_cases hj:j=i
 ·rw [if_pos hj,getE_none]
  exact fun e he h2=>(mem_drop.1 he).2 (h2.trans hj)
 ·rw [if_neg hj]
  refine Option.ext fun e=>?_
  rw [getE_iff (h.drop i).ids,getE_iff h.ids,mem_drop]
  exact⟨fun hh=>⟨hh.1.1,hh.2⟩,fun hh=>⟨⟨hh.1,fun h4=>hj (hh.2.symm.trans h4)⟩,hh.2⟩⟩
theorem del_drop {L:List En} (h:InvE L) {k:Ky} {v:Int} (hk:(k,v)∈L):delE L k=dropI L k.2:=by
 unfold delE dropI
 refine List.filter_congr fun e he=>?_
 have:e.1=k↔e.1.2=k.2:=⟨fun hh=>by rw [hh],fun hh=>by rw [same_id h.ids he hk hh]⟩
 rw [decide_eq_decide.2 this]
theorem ins_length (e:En)(L:List En):(insE L e).length=L.length+1:=(ins_perm e L).length_eq
theorem drop_length {L:List En} (h:L.Pairwise fun a b=>a.1.2≠b.1.2) {e:En} (he:e∈L):(dropI L e.1.2).length+1=L.length:=by
 induction L with
 | nil=>cases he
 | cons z L ih =>
  have hp:=List.pairwise_cons.1 h
  rcases List.mem_cons.1 he with rfl | he
  ·unfold dropI
   rw [List.filter_cons_of_neg (by simp)]
   have:=dropI_not (i:=e.1.2) fun x hx hh=>hp.1 x hx hh.symm
   unfold dropI at this
   rw [this];rfl
  ·have hne:z.1.2≠e.1.2:=hp.1 e he
   unfold dropI
   rw [List.filter_cons_of_pos (by simpa using hne)]
   have:=ih hp.2 he
   unfold dropI at this
   simp only [List.length_cons];omega
theorem drop_le (L:List En)(i:Int):(dropI L i).length≤L.length:=List.length_filter_le _ _
theorem put_le (L:List En)(i a b:Int):(putI L i a b).length≤L.length+1:=by
 unfold putI
 rw [ins_length]
 have:=drop_le L i
 omega
end
end Go.Proofs.YtmmeopjemkjllaaGreat
