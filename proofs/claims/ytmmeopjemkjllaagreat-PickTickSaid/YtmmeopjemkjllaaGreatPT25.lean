/- Lemmas of the claim. No conditions beyond those that each states. -/
import Derived.Test.YtmmeopjemkjllaaGreatPT24
import Derived.Deep.CutRange
import Derived.Deep.LoopGhost
set_option linter.unusedVariables false
set_option linter.unusedSimpArgs false
set_option maxRecDepth 100000
set_option maxHeartbeats 8000000
namespace Go.Proofs.YtmmeopjemkjllaaGreat
section
theorem lessH_le {a b:Ky}:(lessH a b=a∧lessK b a=false)∨(lessH a b=b∧lessK b a=true):=by
 unfold lessH
 by_cases h:a=b∨lessK a b=true
 ·rw [if_pos h]
  refine .inl ⟨rfl,?_⟩
  rcases h with rfl | h
  ·exact lessK_irr a
  ·exact lessK_asym h
 ·rw [if_neg h]
  refine .inr ⟨rfl,?_⟩
  cases e:lessK b a
  ·have h2:lessK a b=false:=by
    cases e2:lessK a b
    ·rfl
    ·exact absurd (.inr e2) h
   exact absurd (.inl (lessK_tri h2 e)) h
  ·rfl
def LeastH (s:Ky)(L:List Ky):Prop:=s∈L∧∀ z∈L,lessK z s=false
theorem not_less_trans {a b c:Ky} (h:lessK b a=false)(k:lessK c b=false):lessK c a=false:=by
 cases e:lessK c a
 ·rfl
 ·cases e2:lessK a b
  ·rw [lessK_tri e2 h] at e;rw [e] at k;cases k
  ·rw [lessK_trans e e2] at k;cases k
theorem LeastH.append {a b:Ky} {A B:List Ky} (h:LeastH a A)(k:LeastH b B):LeastH (lessH a b) (A ++ B):=by
 rcases lessH_le (a:=a) (b:=b) with ⟨e,h2⟩ | ⟨e,h2⟩ <;> rw [e]
 ·refine⟨List.mem_append.2 (.inl h.1),fun z hz=>?_⟩
  rcases List.mem_append.1 hz with hz | hz
  ·exact h.2 z hz
  ·exact not_less_trans h2 (k.2 z hz)
 ·refine⟨List.mem_append.2 (.inr k.1),fun z hz=>?_⟩
  rcases List.mem_append.1 hz with hz | hz
  ·exact not_less_trans (lessK_asym h2) (h.2 z hz)
  ·exact k.2 z hz
theorem LeastH.one (a:Ky):LeastH a [a]:=⟨.head _,fun z hz=>by rw [List.mem_singleton.1 hz];exact lessK_irr a⟩
def ownE (e:En):Ky:=ownK e.1 e.2
theorem SumOk.least:∀ {t:RB} {a:Nat} {k:Ky} {v:Int} {s:Ky} {c:Bool} {l r:RB},SumOk t→t=.node a k v s c l r→LeastH s ((listT t).map ownE)
 | .nil,_,_,_,_,_,_,_,_,h=>by cases h
 | .node a k v s c l r,_,_,_,_,_,_,_,h,e=>by
  cases e
  obtain⟨h1,h2,h3⟩:=h
  rw [h1]
  show LeastH (joinR r (joinL l (ownK k v))) ((listT l ++ (k,v) :: listT r).map ownE)
  rw [List.map_append,List.map_cons,show (ownE (k,v))=ownK k v from rfl,List.append_cons]
  have hl:LeastH (joinL l (ownK k v)) ((listT l).map ownE ++ [ownK k v]):=by
   cases l with
   | nil=>exact LeastH.one _
   | node b k2 v2 s2 c2 l2 r2=>exact (SumOk.least h2 rfl).append (.one _)
  cases r with
  | nil=>simpa [listT,joinR] using hl
  | node b k2 v2 s2 c2 l2 r2=>exact hl.append (SumOk.least h3 rfl)
def findT (x:Ky):RB→RB
 | .nil=>.nil
 | .node a k v s c l r=>if k=x then .node a k v s c l r else if lessK x k=true then findT x l else findT x r
theorem find_ok (x:Ky):∀ (t:RB),SortE (listT t)→(∃ a v s c l r,findT x t=.node a x v s c l r∧(x,v)∈listT t)∨(findT x t=.nil∧∀ e∈listT t,e.1≠x)
 | .nil,_=>.inr ⟨rfl,fun e he=>by cases he⟩
 | .node a k v s c l r,hs=>by
  have hm:=sort_mid (A:=listT l) (x:=(k,v)) (B:=listT r) hs
  unfold findT
  by_cases hk:k=x
  ·subst hk
   rw [if_pos rfl]
   exact .inl ⟨a,v,s,c,l,r,rfl,by simp [listT]⟩
  ·rw [if_neg hk]
   by_cases hlt:lessK x k=true
   ·rw [if_pos hlt]
    rcases find_ok x l hm.2.2.1 with ⟨a',v',s',c',l',r',h1,h2⟩ | ⟨h1,h2⟩
    ·exact .inl ⟨a',v',s',c',l',r',h1,by simp [listT,h2]⟩
    ·refine .inr ⟨h1,fun e he=>?_⟩
     rcases List.mem_append.1 he with he | he
     ·exact h2 e he
     ·rcases List.mem_cons.1 he with rfl | he
      ·exact hk
      ·exact (lessK_ne (lessK_trans hlt (hm.2.1 e he))).symm
   ·rw [if_neg hlt]
    have hlt2:lessK k x=true:=by
     cases e:lessK k x
     ·exact absurd (lessK_tri e (by simpa using hlt)) hk
     ·rfl
    rcases find_ok x r hm.2.2.2 with ⟨a',v',s',c',l',r',h1,h2⟩ | ⟨h1,h2⟩
    ·exact .inl ⟨a',v',s',c',l',r',h1,by simp [listT,h2]⟩
    ·refine .inr ⟨h1,fun e he=>?_⟩
     rcases List.mem_append.1 he with he | he
     ·exact lessK_ne (lessK_trans (hm.1 e he) hlt2)
     ·rcases List.mem_cons.1 he with rfl | he
      ·exact hk
      ·exact h2 e he
def withinT (v0:Int):RB→Option Ky
 | .nil=>none
 | .node _ k v _ _ .nil r=>if v≤v0 then some k else withinT v0 r
 | .node _ k v _ _ (.node b k2 v2 sl c2 l2 r2) r=>if sl.1≤v0 then withinT v0 (.node b k2 v2 sl c2 l2 r2) else if v≤v0 then some k else withinT v0 r
theorem least_value {s:Ky} {L:List Ky} (h:LeastH s L)(v0:Int):s.1≤v0↔∃ z∈L,z.1≤v0:=by
 constructor
 ·exact fun hs=>⟨s,h.1,hs⟩
 ·rintro ⟨z,hz,hv⟩
  have:=h.2 z hz
  have:¬ (z.1 < s.1∨(z.1=s.1∧z.2 < s.2)):=fun hh=>by rw [lessK_iff.2 hh] at this;cases this
  omega
theorem within_ok (v0:Int):∀ (t:RB),SumOk t→withinT v0 t=((listT t).find? fun e=>decide (e.2≤v0)).map (·.1)
 | .nil,_=>rfl
 | .node a k v s c .nil r,h=>by
  show (if v≤v0 then some k else withinT v0 r)=((((k,v):En) :: listT r).find? fun e=>decide (e.2≤v0)).map (·.1)
  by_cases hv:v≤v0
  ·rw [if_pos hv,List.find?_cons_of_pos (by simpa using hv)];rfl
  ·rw [if_neg hv,List.find?_cons_of_neg (by simpa using hv)];exact within_ok v0 r h.2.2
 | .node a k v s c (.node b k2 v2 sl c2 l2 r2) r,h=>by
  show (if sl.1≤v0 then withinT v0 (.node b k2 v2 sl c2 l2 r2) else if v≤v0 then some k else withinT v0 r)=((listT (.node b k2 v2 sl c2 l2 r2) ++ ((k,v):En) :: listT r).find? fun e=>decide (e.2≤v0)).map (·.1)
  have hL:=SumOk.least h.2.1 rfl
  have hv:=least_value hL v0
  rw [List.find?_append]
  by_cases hs:sl.1≤v0
  ·rw [if_pos hs,within_ok v0 _ h.2.1]
   obtain⟨z,hz,hzv⟩:=hv.1 hs
   obtain⟨e,he,rfl⟩:=List.mem_map.1 hz
   cases hf:(listT (.node b k2 v2 sl c2 l2 r2)).find? fun e=>decide (e.2≤v0) with
   | none =>
    rw [List.find?_eq_none] at hf
    have:=hf e he
    simp only [decide_eq_true_eq] at this
    exact absurd hzv this
   | some e=>rfl
  ·rw [if_neg hs]
   have hf:(listT (.node b k2 v2 sl c2 l2 r2)).find? (fun e=>decide (e.2≤v0))=none:=by
    rw [List.find?_eq_none]
    intro e he
    simp only [decide_eq_true_eq]
    exact fun hh=>hs (hv.2 ⟨ownE e,List.mem_map.2 ⟨e,he,rfl⟩,hh⟩)
   rw [hf,Option.none_or]
   by_cases hv2:v≤v0
   ·rw [if_pos hv2,List.find?_cons_of_pos (by simpa using hv2)];rfl
   ·rw [if_neg hv2,List.find?_cons_of_neg (by simpa using hv2)];exact within_ok v0 r h.2.2
end
section
open Go.RowKit
section
variable {P : Program} {ops : Array Oper} {md : Region.Mode} {w : World}
def hotUpon (P:Program)(w W:World)(T:Value→World→Prop):Result Next→Prop
 | .ok (.value u) W'=>Below w.heap.size w W'∧T u W'
 | .ok (.enter f args) W'=>W'=W∧Calls P f args W (fun e W''=>∃ v,e=.returned v∧Below w.heap.size w W''∧T v W'')
 | _=>False
def HStep (P:Program)(ops:Array Oper)(w:World)(o:Oper)(a:Act)(W:World)(T:Value→World→Prop):Prop :=
 if Region.wanted o (yielded ops a.tmps) then hotUpon P w W T ((execOp a.eval o).run P W) else T undef W
theorem hstep_yes {o:Oper} {a:Act} {W:World} {T:Value→World→Prop} (h:Region.wanted o (yielded ops a.tmps)=true)(hm:hotUpon P w W T ((execOp a.eval o).run P W)):HStep P ops w o a W T:=by unfold HStep;rw [if_pos h];exact hm
def pathB (md:Region.Mode)(ops:Array Oper):Nat→Nat→Nat→Bool
 | 0,_,_=>false
 | f+1,k,j=>match ops[k]? with
  | some o=>o.after.any fun e=>Region.binds md e && (e.on == j || pathB md ops f e.on j)
  | none=>false
theorem path_come {n:Nat} {listed:Array Bool} (hcl:∀ j oj,j < n→ops[j]?=some oj→listed.getD j false=true→∀ e∈oj.after,Region.binds md e=true→listed.getD e.on false=true)
  (hdn:∀ k ok,k < n→ops[k]?=some ok→∀ e∈ok.after,Region.binds md e=true→e.on < k):∀ (f k j:Nat)(ok:Oper),k < n→ops[k]?=some ok→pathB md ops f k j=true→(∀ e∈ok.after,Region.binds md e=true→listed.getD e.on false=true)→listed.getD j false=true
 | 0,_,_,_,_,_,h,_=>by cases h
 | f+1,k,j,ok,hk,hok,h,hall=>by
  unfold pathB at h
  rw [hok] at h
  simp only at h
  obtain⟨i,hi,h⟩:=Array.any_eq_true.1 h
  simp only [Bool.and_eq_true,Bool.or_eq_true,beq_iff_eq] at h
  have hm:=Array.getElem_mem hi
  have hl:=hall _ hm h.1
  rcases h.2 with h2 | h2
  ·rw [← h2];exact hl
  ·have hlt:=hdn k ok hk hok _ hm h.1
   cases hoe:ops[ok.after[i].on]? with
   | none =>
    cases f with
    | zero=>simp [pathB] at h2
    | succ f=>unfold pathB at h2;rw [hoe] at h2;cases h2
   | some oe=>exact path_come hcl hdn f _ j oe (by omega) hoe h2 fun e he hb=>hcl _ oe (by omega) hoe hl e he hb
structure StatX (md:Region.Mode)(ops:Array Oper)(n:Nat)(x:Nat→Nat)(hot still:Nat→Bool):Prop where
 look:∀ k ok,k < n→ops[k]?=some ok→∀ t∈ok.looksAt ops,∀ j,j < n→slotOf ops j=some t→x j=k∨ops.size≤x j∨(x j < n∧∃ f,pathB md ops f (x j) k=true)
 hotp:∀ k,k < n→hot k=true→∀ j,j < n→j≠k→still j=true∨x j=k∨(∃ f,pathB md ops f k (x j)=true)∨(∃ f,pathB md ops f j k=true)
theorem getD_out {l:Array Bool} {i:Nat} {d:Bool} (h:l.size≤i):l.getD i d=d:=by
 simp [Array.getD_eq_getD_getElem?,Array.getElem?_eq_none h]
theorem InvM.stepX {n g k:Nat} (S:StatM md ops n g) {T:Nat→Value→World→Prop} {a0:Act} {listed:Array Bool} {a:Act} {W W':World} {ok:Oper} {v:Value} (hT0:∀ k v W,T k v W)
  (I:InvM md ops n g T a0 w listed a W)(hr:k∈Region.ready md ops listed)(hkn:k < n)(hok:ops[k]?=some ok)(hb:Below w.heap.size w W') :
  InvM md ops n g T a0 w (listed.setIfInBounds k true) (a.put ok.dst v) W':=by
 obtain⟨hun,ok',hok',hall⟩:=mem_ready.1 hr
 have:ok'=ok:=Option.some.inj (hok'.symm.trans hok)
 subst this
 have hks:k < listed.size:=by rw [I.size];exact (Array.getElem?_eq_some_iff.1 hok).1
 have hsk:slotOf ops k=ok'.dst:=by unfold slotOf;rw [hok];rfl
 refine⟨by simpa using I.size,?_,?_,?_,hb,by rw [put_defers'];exact I.defers,by rw [put_size];exact I.sz,?_,?_⟩
 ·intro j oj hjn hoj hl e he hbi
  by_cases hjk:k=j
  ·subst hjk
   have:oj=ok':=Option.some.inj (hoj.symm.trans hok)
   subst this
   exact getD_set_true (hall e he hbi)
  ·rw [getD_set_ne false hjk] at hl
   exact getD_set_true (I.closed j oj hjn hoj hl e he hbi)
 ·intro t h1 h2
  rw [getD_set_ne true (by omega)];exact I.tail t h1 h2
 ·intro t h1 h2
  exact getD_set_true (I.fl t h1 h2)
 ·intro t h
  rw [put_tmps,if_neg]
  ·refine I.same t fun j hj hl=>h j hj (getD_set_true hl)
  ·rintro ⟨h1,_⟩
   exact h k hkn (by simp [hks]) (by rw [hsk];exact h1)
 ·intro j t hj hl hs ht
  by_cases hjk:k=j
  ·subst hjk
   rw [hsk] at hs
   refine⟨v,?_,hT0 _ _ _⟩
   rw [put_tmps,if_pos ⟨hs,by rw [I.sz];exact ht⟩]
  ·rw [getD_set_ne false hjk] at hl
   obtain⟨u,hu,hTu⟩:=I.val j t hj hl hs ht
   refine⟨u,?_,hT0 _ _ _⟩
   rw [put_tmps,if_neg]
   ·exact hu
   ·rintro ⟨h1,_⟩
    exact S.uniq k j t hkn hj hjk (by rw [hsk];exact h1) hs
def xOf (N:Nat):List (Nat × Nat)→Nat→Nat
 | [],_=>N
 | p :: r,k=>if p.1=k then p.2 else xOf N r k
def StillM (stills:List Nat):List (Nat × (Value→World→Prop))→Prop
 | []=>True
 | p :: r=>(stills.contains p.1=true→∀ v W W',p.2 v W→p.2 v W')∧StillM stills r
theorem stillM_mem {stills:List Nat}:∀ {l:List (Nat × (Value→World→Prop))} {p},p∈l→StillM stills l→stills.contains p.1=true→∀ v W W',p.2 v W→p.2 v W'
 | q :: r,p,hp,h=>by
  rcases List.mem_cons.1 hp with rfl | hp
  ·exact h.1
  ·exact stillM_mem hp h.2
def hotB (ops:Array Oper)(n:Nat)(mids:List Nat)(xs:List (Nat × Nat))(hots stills:List Nat):Bool :=
 ((List.range n).all fun k=>match ops[k]? with
  | some ok=>(List.range n).all fun j=>match slotOf ops j with
   | some t=>!(ok.looksAt ops).contains t || xOf ops.size xs j == k || decide (ops.size≤xOf ops.size xs j) || (decide (xOf ops.size xs j < n) && pathB .any ops n (xOf ops.size xs j) k)
   | none=>true
  | none=>true) &&
 (hots.all fun k=>(List.range n).all fun j=>j == k || stills.contains j || !mids.contains j || xOf ops.size xs j == k || pathB .any ops n k (xOf ops.size xs j) || pathB .any ops n j k)
theorem hJ_of {n jend:Nat} {hots:List Nat} (hj:(hots.all fun k=>k == jend || pathB .any ops n k jend)=true):∀ k,k < n→hots.contains k=true→k=jend∨∃ f,pathB .any ops f k jend=true:=by
 intro k _ hh
 have h3:=List.all_eq_true.1 hj k (by simpa using hh)
 simp only [Bool.or_eq_true,beq_iff_eq] at h3
 exact h3.imp id fun h=>⟨n,h⟩
theorem statX_of {n:Nat} {mids:List Nat} {xs:List (Nat × Nat)} {hots stills:List Nat} (h:hotB ops n mids xs hots stills=true) :
  StatX .any ops n (xOf ops.size xs) (fun k=>hots.contains k) (fun j=>stills.contains j || !mids.contains j):=by
 unfold hotB at h
 rw [Bool.and_eq_true] at h
 obtain⟨h1,h2⟩:=h
 constructor
 ·intro k ok hk hok t ht j hj hs
  have h3:=List.all_eq_true.1 h1 k (List.mem_range.2 hk)
  rw [hok] at h3
  have h4:=List.all_eq_true.1 h3 j (List.mem_range.2 hj)
  rw [hs] at h4
  simp only [Bool.or_eq_true,Bool.and_eq_true,Bool.not_eq_true',beq_iff_eq,decide_eq_true_eq] at h4
  rcases h4 with ((h4 | h4) | h4) | h4
  ·simp [ht] at h4
  ·exact .inl h4
  ·exact .inr (.inl h4)
  ·exact .inr (.inr ⟨h4.1,n,h4.2⟩)
 ·intro k hk hh j hj hne
  have h3:=List.all_eq_true.1 h2 k (by simpa using hh)
  have h4:=List.all_eq_true.1 h3 j (List.mem_range.2 hj)
  simp only [Bool.or_eq_true,beq_iff_eq] at h4
  rcases h4 with ((((h4 | h4) | h4) | h4) | h4) | h4
  ·exact absurd h4 hne
  ·exact .inl (by rw [h4];rfl)
  ·exact .inl (by rw [h4];simp)
  ·exact .inr (.inl h4)
  ·exact .inr (.inr (.inl ⟨n,h4⟩))
  ·exact .inr (.inr (.inr ⟨n,h4⟩))
end
end
section
open Go.RowKit
def ptrV (t:RB):Value:=.pointer ((adr t).map fun a=>⟨a,0,none⟩)
def kyV (k:Ky):Value:=.agg #[.int .u64 k.1,.int .i64 k.2]
def nodeC (k:Ky)(v:Int)(s:Ky)(c:Bool)(l r:RB):Array Value:=#[.int .u64 k.1,.int .i64 k.2,.int .u64 v,.int .u64 s.1,.int .i64 s.2,.bool c,ptrV l,ptrV r]
def RBAt (w:World):RB→Prop
 | .nil=>True
 | .node a k v s c l r=>Blk w a 193 (nodeC k v s c l r)∧RBAt w l∧RBAt w r
theorem Blk.fr {S:Nat→Prop} {w w':World} {g:Nat} {t:TypeId} {cs:Array Value} (h:Blk w g t cs)(hf:Fr S w w')(hn:¬ S g):Blk w' g t cs:=(hf.block g h.lt hn).trans h
theorem RBAt.lt {w:World}:∀ {t:RB},RBAt w t→∀ a∈addrs t,a < w.heap.size
 | .nil,_,a,ha=>by cases ha
 | .node b k v s c l r,h,a,ha=>by
  rcases List.mem_cons.1 ha with rfl | ha
  ·exact h.1.lt
  ·rcases List.mem_append.1 ha with ha | ha
   ·exact RBAt.lt h.2.1 a ha
   ·exact RBAt.lt h.2.2 a ha
theorem RBAt.typed {w:World} {g:Nat} {t:TypeId} {cs:Array Value} (hB:Blk w g t cs)(ht:t≠193):∀ {x:RB},RBAt w x→g ∉ addrs x
 | .nil,_=>by intro h;cases h
 | .node b k v s c l r,h=>by
  intro hm
  rcases List.mem_cons.1 hm with rfl | hm
  ·have:=hB.symm.trans h.1
   simp only [Option.some.injEq,Obj.cells.injEq] at this
   exact ht this.2.1
  ·rcases List.mem_append.1 hm with hm | hm
   ·exact RBAt.typed hB ht h.2.1 hm
   ·exact RBAt.typed hB ht h.2.2 hm
theorem RBAt.kept {w w':World}:∀ {t:RB},RBAt w t→(∀ a∈addrs t,w'.heap[a]?=w.heap[a]?)→RBAt w' t
 | .nil,_,_=>trivial
 | .node a k v s c l r,h,hk=>⟨(hk a (.head _)).trans h.1,RBAt.kept h.2.1 fun b hb=>hk b (.tail _ (List.mem_append.2 (.inl hb))),RBAt.kept h.2.2 fun b hb=>hk b (.tail _ (List.mem_append.2 (.inr hb)))⟩
theorem RBAt.later {w w':World} {t:RB} (h:RBAt w t)(hb:Below w.heap.size w w'):RBAt w' t:=h.kept fun a ha=>hb.block a (h.lt a ha)
theorem RBAt.fr {S:Nat→Prop} {w w':World} {t:RB} (h:RBAt w t)(hf:Fr S w w')(hn:∀ a∈addrs t,¬ S a):RBAt w' t:=h.kept fun a ha=>hf.block a (h.lt a ha) (hn a ha)
attribute [local go_sem ↓] Go.wp_at_zero Go.wp_at_succ
attribute [local go_sem] quietR quietAtR quietUponR midAt midUpon
theorem ret_bool {a b:Bool} (h:a=b):Ending.returned (.bool a)=.returned (.bool b):=by rw [h]
theorem less_any (x y:Ky)(w:World):Calls Tryz.prog 172 #[.agg #[.int .u64 x.1,.int .i64 x.2],.agg #[.int .u64 y.1,.int .i64 y.2]] w fun e w'=>e=.returned (.bool (lessK x y))∧Below w.heap.size w w':=by
 obtain⟨x1,x2⟩:=x
 obtain⟨y1,y2⟩:=y
 dsimp only
 have hb:=((Below.refl w.heap.size w).alloc (Nat.le_refl _) (.cells #[.int .u64 x1,.int .i64 x2] 147)).alloc (by simp) (.cells #[.int .u64 y1,.int .i64 y2] 147)
 have HB:=Lib.hid hb
 clear hb
 by_cases h1:x1 < y1
 ·go_enter Tryz.func172,Tryz.ntmps172
  go_wp2
  go_ret
  exact⟨ret_bool (lessK_iff.2 (.inl h1)).symm,HB.out⟩
 ·by_cases h2:x1=y1
  ·subst h2
   by_cases h3:x2 < y2
   ·have he:(x1 == x1)=true:=by simp
    go_enter Tryz.func172,Tryz.ntmps172
    go_wp2
    go_ret
    exact⟨ret_bool ((lessK_iff (x:=(x1,x2)) (y:=(x1,y2))).2 (.inr ⟨rfl,h3⟩)).symm,HB.out⟩
   ·have he:(x1 == x1)=true:=by simp
    have e:lessK (x1,x2) (x1,y2)=false:=by
     cases e:lessK (x1,x2) (x1,y2)
     ·rfl
     ·have:=lessK_iff.1 e;dsimp only at this;omega
    have e':=Lib.hid e
    clear e
    go_enter Tryz.func172,Tryz.ntmps172
    go_wp2
    go_ret
    exact⟨ret_bool e'.out.symm,HB.out⟩
  ·have he:(x1 == y1)=false:=by simpa using h2
   have e:lessK (x1,x2) (y1,y2)=false:=by
    cases e:lessK (x1,x2) (y1,y2)
    ·rfl
    ·have:=lessK_iff.1 e;dsimp only at this;omega
   have e':=Lib.hid e
   clear e
   go_enter Tryz.func172,Tryz.ntmps172
   go_wp2
   go_ret
   exact⟨ret_bool e'.out.symm,HB.out⟩
theorem is_any (t:RB)(w:World)(h:RBAt w t):Calls Tryz.prog 153 #[ptrV t] w fun e w'=>e=.returned (.bool (isR t))∧w=w':=by
 cases t with
 | nil =>
  unfold ptrV adr
  go_enter Tryz.func153,Tryz.ntmps153
  go_wp2
  go_ret
  exact⟨rfl,rfl⟩
 | node a k v s c l r =>
  have c5:=h.1.cell 5
  unfold nodeC at c5
  simp only [lTA,lCZ,lCS] at c5
  unfold ptrV adr
  clear h
  go_enter Tryz.func153,Tryz.ntmps153
  go_wp2
  go_ret
  exact⟨rfl,rfl⟩
theorem own_any (k:Ky)(v:Int)(w:World):Calls Tryz.prog 78 #[.agg #[.int .u64 k.1,.int .i64 k.2],.int .u64 v] w fun e w'=>e=.returned (.agg #[.int .u64 (ownK k v).1,.int .i64 (ownK k v).2])∧Below w.heap.size w w':=by
 obtain⟨k1,k2⟩:=k
 unfold ownK
 dsimp only
 go_enter Tryz.func78,Tryz.ntmps78
 go_wp2
 refine bodyPost_ret (v:=.agg #[.int .u64 v,.int .i64 k2]) (by simp [results,Tryz.results78,go_sem]) rfl ⟨rfl,?_⟩
 go_grown
def LessH (w:World)(h:Ky)(e:Ending)(w':World):Prop:=e=.returned (.agg #[.int .u64 h.1,.int .i64 h.2])∧Below w.heap.size w w'
theorem lesser_any (a b:Ky)(w:World):Calls Tryz.prog 79 #[.agg #[.int .u64 a.1,.int .i64 a.2],.agg #[.int .u64 b.1,.int .i64 b.2]] w (LessH w (lessH a b)):=by
 obtain⟨a1,a2⟩:=a
 obtain⟨b1,b2⟩:=b
 dsimp only
 by_cases h:(a1,a2)=(b1,b2)∨lessK (a1,a2) (b1,b2)=true
 ·have e:lessH (a1,a2) (b1,b2)=(a1,a2):=if_pos h
  rw [e]
  clear e
  have h2:(a1=b1∧a2=b2)∨a1 < b1∨(a1=b1∧a2 < b2):=by
   rcases h with h | h
   ·cases h;exact .inl ⟨rfl,rfl⟩
   ·exact .inr (lessK_iff.1 h)
  have h3:¬ (a1=b1∧b2 < a2):=by omega
  have h4:a1≤b1:=by omega
  have H:=Lib.hid (And.intro h2 h3)
  clear h h2 h3
  go_enter Tryz.func79,Tryz.ntmps79
  go_wp2
  all_goals first
   | (exfalso;have:=H.out;omega)
   | (refine bodyPost_ret (v:=.agg #[.int .u64 a1,.int .i64 a2]) (by (simp [results,Tryz.results79,go_sem];try omega)) rfl ⟨rfl,?_⟩;go_grown)
 ·have e:lessH (a1,a2) (b1,b2)=(b1,b2):=if_neg h
  rw [e]
  clear e
  have h2:b1 < a1∨(a1=b1∧b2 < a2):=by
   apply Classical.byContradiction
   intro hn
   by_cases h3:a1=b1∧a2=b2
   ·exact h (.inl (by rw [h3.1,h3.2]))
   ·exact h (.inr (lessK_iff.2 (by dsimp only;omega)))
  have H:=Lib.hid h2
  clear h h2
  go_enter Tryz.func79,Tryz.ntmps79
  go_wp2
  all_goals first
   | (exfalso;have:=H.out;omega)
   | (refine bodyPost_ret (v:=.agg #[.int .u64 b1,.int .i64 b2]) (by (simp [results,Tryz.results79,go_sem];try omega)) rfl ⟨rfl,?_⟩;go_grown)
end
section
open Go.RowKit
attribute [local go_sem ↓] Go.wp_at_zero Go.wp_at_succ
attribute [local go_sem] quietR quietAtR quietUponR midAt midUpon plain plainUpon
def treeC (p:Value)(n:Int):Array Value:=#[.func (.func 78) #[] #[],.func (.func 79) #[] #[],p,.int .i64 n]
def TotW (w:World)(h:Ky)(e:Ending)(w':World):Prop:=e=.returned (.agg #[.int .u64 h.1,.int .i64 h.2])∧Below w.heap.size w w'
def NewBox (n:Nat)(t:TypeId)(cs:Array Value)(u:Value)(W:World):Prop:=∃ B,u=.pointer (some ⟨B,0,none⟩)∧n≤B∧Blk W B t cs
theorem fits_castE {p q:Prop} (h:p)(e:p=q):q:=e ▸ h
structure TotS (w W:World)(g:Nat)(p:Value)(n:Int)(a:Nat)(k:Ky)(v:Int)(s:Ky)(c:Bool)(l r:RB)(R B:Nat)(x:Ky):Prop where
 tree:Blk W g 165 (treeC p n)
 rb:Blk W a 193 (nodeC k v s c l r)∧RBAt W l∧RBAt W r
 res:Blk W R 116 #[.int .u64 0,.int .i64 0]
 sum:Blk W B 116 #[.int .u64 x.1,.int .i64 x.2]
 below:Below w.heap.size w W
 rlo:w.heap.size≤R
 blo:w.heap.size≤B
 ne:R≠B
section
variable {w W W' : World} {g : Nat} {p : Value} {n : Int} {a : Nat} {k : Ky} {v : Int} {s : Ky} {c : Bool} {l r : RB} {R B : Nat} {x : Ky}
theorem TotS.later (h:TotS w W g p n a k v s c l r R B x)(hb:Below W.heap.size W W'):TotS w W' g p n a k v s c l r R B x :=
 ⟨h.tree.below hb h.tree.lt,⟨h.rb.1.below hb h.rb.1.lt,h.rb.2.1.later hb,h.rb.2.2.later hb⟩,h.res.below hb h.res.lt,h.sum.below hb h.sum.lt,h.below.trans (hb.mono h.below.size),h.rlo,h.blo,h.ne⟩
theorem TotS.put (h:TotS w W g p n a k v s c l r R B x)(y:Ky):TotS w ((W.setCell ⟨B,0,none⟩ (.int .u64 y.1)).setCell ⟨B,1,none⟩ (.int .i64 y.2)) g p n a k v s c l r R B y:=by
 have hBt:∀ {q:Nat} {t:TypeId} {cs:Array Value},Blk W q t cs→t≠116→q≠B:=fun hq ht e=>by
  subst e
  have:=hq.symm.trans h.sum
  simp only [Option.some.injEq,Obj.cells.injEq] at this
  exact ht this.2.1
 have far:∀ {q:Nat} {t:TypeId} {cs:Array Value},Blk W q t cs→q≠B→Blk ((W.setCell ⟨B,0,none⟩ (.int .u64 y.1)).setCell ⟨B,1,none⟩ (.int .i64 y.2)) q t cs:=fun hq hne=>(hq.far hne _).far hne _
 have hh:∀ q,q≠B→((W.setCell ⟨B,0,none⟩ (.int .u64 y.1)).setCell ⟨B,1,none⟩ (.int .i64 y.2)).heap[q]?=W.heap[q]?:=fun q hq=>(Below.heap_setCell _ ⟨B,1,none⟩ _ q hq).trans (Below.heap_setCell _ ⟨B,0,none⟩ _ q hq)
 have kept:∀ {t:RB},RBAt W t→RBAt ((W.setCell ⟨B,0,none⟩ (.int .u64 y.1)).setCell ⟨B,1,none⟩ (.int .i64 y.2)) t:=fun ht=>ht.kept fun q hq=>hh q fun e=>RBAt.typed h.sum (by decide) ht (e ▸ hq)
 have hs:=(h.sum.set_ 0 (.int .u64 y.1)).set_ 1 (.int .i64 y.2)
 simp at hs
 exact⟨far h.tree (hBt h.tree (by decide)),⟨far h.rb.1 (hBt h.rb.1 (by decide)),kept h.rb.2.1,kept h.rb.2.2⟩,far h.res h.ne,hs,(h.below.setCell h.blo _).setCell h.blo _,h.rlo,h.blo,h.ne⟩
end
theorem total_any (g a:Nat)(p:Value)(n:Int)(k:Ky)(v:Int)(s:Ky)(c:Bool)(l r:RB)(w:World)(hg:Blk w g 165 (treeC p n))(h:RBAt w (.node a k v s c l r)) :
  Calls Tryz.prog 188 #[.pointer (some ⟨g,0,none⟩),.pointer (some ⟨a,0,none⟩)] w (TotW w (total k v l r)):=by
 have hb0:=(Below.refl w.heap.size w).alloc (Nat.le_refl _) (.cells #[.int .u64 0,.int .i64 0] 116)
 have hR0:=Blk.new w 116 #[.int .u64 0,.int .i64 0]
 obtain⟨R,hR⟩:∃ R,R=w.heap.size:=⟨_,rfl⟩
 rw [← hR] at hR0
 have hRlo:w.heap.size≤R:=by omega
 have hg0:=hg.below hb0 hg.lt
 have h0:=h.later hb0
 obtain⟨h1,h2,h3⟩:=h0
 have HG:=Lib.hid (And.intro hg0 (And.intro h1 (And.intro h2 h3)))
 have HB:=Lib.hid (And.intro hb0 hR0)
 clear hg h h1 h2 h3 hb0 hR0 hg0
 go_enter Tryz.func188,Tryz.ntmps188
 go_upto_region 1 with fail
 rw [← hR]
 clear hR
 generalize w.alloc (.cells #[.int .u64 0,.int .i64 0] 116)=W0 at HG HB ⊢
 have lg:=HG.out.1.lt;have la:=HG.out.2.1.lt
 have og:=fun e=>(over_cell (w:=W0) (e:=e) (o:=0) lg).trans (HG.out.1.cell 0)
 have oa0:=fun e=>(over_cell (w:=W0) (e:=e) (o:=0) la).trans (HG.out.2.1.cell 0)
 have oa1:=fun e=>(over_cell (w:=W0) (e:=e) (o:=1) la).trans (HG.out.2.1.cell 1)
 have oa2:=fun e=>(over_cell (w:=W0) (e:=e) (o:=2) la).trans (HG.out.2.1.cell 2)
 unfold treeC at og
 unfold nodeC at oa0 oa1 oa2
 simp only [lTA,lCZ,lCS] at og oa0 oa1 oa2
 refine wp_region_midg (w:=W0) 14 1 [13] [] [(13,NewBox W0.heap.size 116 #[.int .u64 0,.int .i64 0])] rfl (by kernel_rfl) (by kernel_rfl) (by kernel_rfl) (by kernel_rfl) (fun _ _ _ _ _ h=>h) ⟨fun v W1 W2 ⟨B,h1,h2,h3⟩ hb=>⟨B,h1,h2,h3.below hb h3.lt⟩,trivial⟩ ?_
 intro LL hL
 have HL:=Lib.hid hL
 clear hL
 simp only [List.take_succ_cons,List.take_zero,putL]
 iterate 14 (first | refine wpHead_skip (by decide) ?_ | (refine wpHead_step (by decide) (fun K hK=>?_);go_simp;first | (refine hK _ ?_;clear hK K) | (apply Exists.intro;refine⟨fun _=>?_,hK _ ?_⟩;(focus (go_at_call 78;exact own_any k v _));clear hK K)))
 refine wpHead_nil (HL.out _ ⟨?_,trivial⟩ ?_)
 ·intro vs W1 hb1 hf
  clear HL hf og oa0 oa1 oa2
  change TStep _ _ _ (Act.put _ (some 5) (vs 13)) _ _
  refine tstep_yes (by kernel_rfl) ?_
  go_simp
  exact⟨(Below.refl _ _).alloc (Nat.le_refl _) _,_,rfl,hb1.size,Blk.new _ _ _⟩
 ·intro vs W1 hb1 hf
  have hf:=fits_castE (q:=NewBox W0.heap.size 116 #[.int .u64 0,.int .i64 0] (vs 13) W1∧True) hf (by kernel_rfl)
  clear HL
  change wpList _ _ _ _ (Act.put _ (some 5) (vs 13)) _
  refine Exists.elim hf.1 fun B hfB=>?_
  rw [hfB.1]
  have hB:=hfB.2.1
  have bN:=hfB.2.2
  clear hf hfB
  simp only [List.drop_succ_cons,List.drop_zero,List.take_succ_cons,List.take_zero]
  have hRB:R≠B:=by have:=HB.out.2.lt;omega
  have H0:TotS w W1 g p n a k v s c l r R B (0,0):=⟨HG.out.1.below hb1 lg,⟨HG.out.2.1.below hb1 la,HG.out.2.2.1.later hb1,HG.out.2.2.2.later hb1⟩,HB.out.2.below hb1 HB.out.2.lt,bN,HB.out.1.trans (hb1.mono HB.out.1.size),hRlo,Nat.le_trans HB.out.1.size hB,hRB⟩
  have H1:=Lib.hid (H0.put (ownK k v))
  have n0:=bN.cell 0;have n1:=bN.cell 1;have f0:=bN.frozen 0;have f1:=bN.frozen 1
  simp only [lTA,lCZ,lCS] at n0 n1
  clear H0 hRB og oa0 oa1 oa2 lg la hb1 bN HG HB hB
  go_upto_region 2 with fail
  generalize (W1.setCell ⟨B,0,none⟩ (.int .u64 (ownK k v).1)).setCell ⟨B,1,none⟩ (.int .i64 (ownK k v).2)=W at H1 ⊢
  have HW:=Lib.hid H1.out
  clear H1 n0 n1 f0 f1 hf
  clear W1 W0
  cases l with
  | nil =>
   cases r with
   | nil =>
    have cp:=HW.out.rb.1.cell 6
    unfold nodeC at cp
    simp only [lTA,lCZ,lCS,ptrV,adr,Option.map_some,Option.map_none] at cp
    go_upto_region 4 with fail
    clear cp
    have cp:=HW.out.rb.1.cell 7
    unfold nodeC at cp
    simp only [lTA,lCZ,lCS,ptrV,adr,Option.map_some,Option.map_none] at cp
    go_upto_region 6 with fail
    clear cp
    have cs0:=HW.out.sum.cell 0;have cs1:=HW.out.sum.cell 1;have cr0:=HW.out.res.cell 0;have cr1:=HW.out.res.cell 1;have fr0:=HW.out.res.frozen 0;have fr1:=HW.out.res.frozen 1
    simp only [lTA,lCZ,lCS] at cs0 cs1 cr0 cr1
    go_wp2
    have hres:=(HW.out.res.set_ 0 (.int .u64 (ownK k v).1)).set_ 1 (.int .i64 (ownK k v).2)
    have e0:=hres.cell 0;have e1:=hres.cell 1
    simp at e0 e1
    refine bodyPost_ret (v:=.agg #[.int .u64 (ownK k v).1,.int .i64 (ownK k v).2]) (by (simp [results,Tryz.results188,go_sem,e0,e1])) rfl ⟨by rw [show total k v _ _=(ownK k v) from rfl],(HW.out.below.setCell HW.out.rlo _).setCell HW.out.rlo _⟩
   | node bR kR vR sSR cR lR rR =>
    have cp:=HW.out.rb.1.cell 6
    unfold nodeC at cp
    simp only [lTA,lCZ,lCS,ptrV,adr,Option.map_some,Option.map_none] at cp
    go_upto_region 4 with fail
    clear cp
    have cp:=HW.out.rb.1.cell 7
    unfold nodeC at cp
    simp only [lTA,lCZ,lCS,ptrV,adr,Option.map_some,Option.map_none] at cp
    go_upto_region 5 with fail
    have lg:=HW.out.tree.lt;have la:=HW.out.rb.1.lt;have lb:=HW.out.rb.2.2.1.lt;have lB:=HW.out.sum.lt
    have og:=fun e=>(over_cell (w:=W) (e:=e) (o:=1) lg).trans (HW.out.tree.cell 1)
    have oa:=fun e=>(over_cell (w:=W) (e:=e) (o:=7) la).trans (HW.out.rb.1.cell 7)
    have ob3:=fun e=>(over_cell (w:=W) (e:=e) (o:=3) lb).trans (HW.out.rb.2.2.1.cell 3)
    have ob4:=fun e=>(over_cell (w:=W) (e:=e) (o:=4) lb).trans (HW.out.rb.2.2.1.cell 4)
    have oB0:=fun e=>(over_cell (w:=W) (e:=e) (o:=0) lB).trans (HW.out.sum.cell 0)
    have oB1:=fun e=>(over_cell (w:=W) (e:=e) (o:=1) lB).trans (HW.out.sum.cell 1)
    unfold treeC at og
    unfold nodeC at oa ob3 ob4
    simp only [lTA,lCZ,lCS,ptrV,adr,Option.map_some] at og oa ob3 ob4 oB0 oB1
    refine wp_region_over_tail 13 (by kernel_rfl) (by kernel_rfl) ?_
    simp only [List.take_succ_cons,List.take_zero,List.drop_succ_cons,List.drop_zero]
    repeat (first | go_big_quiet_skip | (go_big_quiet_want;go_big_quiet_op;first | go_big_quiet_on | (apply Exists.intro;refine⟨fun e=>?_,?_⟩;(focus (go_at_call 79;with_reducible exact calls_over (lesser_any ((ownK k v)) (sSR) _)));go_big_quiet_on)))
    refine wpQuiet_nil ?_
    rintro W2 ⟨e,he⟩
    have hb2:=over_below W e
    rw [← he] at hb2
    have H2:=Lib.hid (HW.out.later hb2)
    clear he og oa ob3 ob4 oB0 oB1 lg la lb lB hb2
    obtain⟨y,hy⟩:∃ y,lessH (ownK k v) sSR=y:=⟨_,rfl⟩
    rw [hy]
    have f0:=H2.out.sum.frozen 0;have f1:=H2.out.sum.frozen 1
    have c0:=H2.out.sum.cell 0;have c1:=H2.out.sum.cell 1
    simp only [lTA,lCZ,lCS] at c0 c1
    have HY:=Lib.hid hy
    clear hy
    have HS:=Lib.hid (H2.out.put y)
    go_upto_region 6 with fail
    clear c0 c1 f0 f1 HW H2
    generalize (W2.setCell ⟨B,0,none⟩ (.int .u64 y.1)).setCell ⟨B,1,none⟩ (.int .i64 y.2)=W at HS ⊢
    have HW:=Lib.hid HS.out
    clear HS
    clear W2
    obtain⟨xR,hxR⟩:∃ x,x=y:=⟨_,rfl⟩
    rw [← hxR] at HY HW ⊢
    have HYR:=Lib.hid HY.out
    clear HY hxR y cp
    have cs0:=HW.out.sum.cell 0;have cs1:=HW.out.sum.cell 1;have cr0:=HW.out.res.cell 0;have cr1:=HW.out.res.cell 1;have fr0:=HW.out.res.frozen 0;have fr1:=HW.out.res.frozen 1
    simp only [lTA,lCZ,lCS] at cs0 cs1 cr0 cr1
    go_wp2
    have hres:=(HW.out.res.set_ 0 (.int .u64 xR.1)).set_ 1 (.int .i64 xR.2)
    have e0:=hres.cell 0;have e1:=hres.cell 1
    simp at e0 e1
    refine bodyPost_ret (v:=.agg #[.int .u64 xR.1,.int .i64 xR.2]) (by (simp [results,Tryz.results188,go_sem,e0,e1])) rfl ⟨by rw [show total k v _ _=xR from by unfold total joinL joinR;dsimp only;try rw [HYR.out]],(HW.out.below.setCell HW.out.rlo _).setCell HW.out.rlo _⟩
  | node bL kL vL sSL cL lL rL =>
   cases r with
   | nil =>
    have cp:=HW.out.rb.1.cell 6
    unfold nodeC at cp
    simp only [lTA,lCZ,lCS,ptrV,adr,Option.map_some,Option.map_none] at cp
    go_upto_region 3 with fail
    have lg:=HW.out.tree.lt;have la:=HW.out.rb.1.lt;have lb:=HW.out.rb.2.1.1.lt;have lB:=HW.out.sum.lt
    have og:=fun e=>(over_cell (w:=W) (e:=e) (o:=1) lg).trans (HW.out.tree.cell 1)
    have oa:=fun e=>(over_cell (w:=W) (e:=e) (o:=6) la).trans (HW.out.rb.1.cell 6)
    have ob3:=fun e=>(over_cell (w:=W) (e:=e) (o:=3) lb).trans (HW.out.rb.2.1.1.cell 3)
    have ob4:=fun e=>(over_cell (w:=W) (e:=e) (o:=4) lb).trans (HW.out.rb.2.1.1.cell 4)
    have oB0:=fun e=>(over_cell (w:=W) (e:=e) (o:=0) lB).trans (HW.out.sum.cell 0)
    have oB1:=fun e=>(over_cell (w:=W) (e:=e) (o:=1) lB).trans (HW.out.sum.cell 1)
    unfold treeC at og
    unfold nodeC at oa ob3 ob4
    simp only [lTA,lCZ,lCS,ptrV,adr,Option.map_some] at og oa ob3 ob4 oB0 oB1
    refine wp_region_over_tail 13 (by kernel_rfl) (by kernel_rfl) ?_
    simp only [List.take_succ_cons,List.take_zero,List.drop_succ_cons,List.drop_zero]
    repeat (first | go_big_quiet_skip | (go_big_quiet_want;go_big_quiet_op;first | go_big_quiet_on | (apply Exists.intro;refine⟨fun e=>?_,?_⟩;(focus (go_at_call 79;with_reducible exact calls_over (lesser_any (sSL) ((ownK k v)) _)));go_big_quiet_on)))
    refine wpQuiet_nil ?_
    rintro W2 ⟨e,he⟩
    have hb2:=over_below W e
    rw [← he] at hb2
    have H2:=Lib.hid (HW.out.later hb2)
    clear he og oa ob3 ob4 oB0 oB1 lg la lb lB hb2
    obtain⟨y,hy⟩:∃ y,lessH sSL (ownK k v)=y:=⟨_,rfl⟩
    rw [hy]
    have f0:=H2.out.sum.frozen 0;have f1:=H2.out.sum.frozen 1
    have c0:=H2.out.sum.cell 0;have c1:=H2.out.sum.cell 1
    simp only [lTA,lCZ,lCS] at c0 c1
    have HY:=Lib.hid hy
    clear hy
    have HS:=Lib.hid (H2.out.put y)
    go_upto_region 4 with fail
    clear c0 c1 f0 f1 HW H2
    generalize (W2.setCell ⟨B,0,none⟩ (.int .u64 y.1)).setCell ⟨B,1,none⟩ (.int .i64 y.2)=W at HS ⊢
    have HW:=Lib.hid HS.out
    clear HS
    clear W2
    obtain⟨xL,hxL⟩:∃ x,x=y:=⟨_,rfl⟩
    rw [← hxL] at HY HW ⊢
    have HYL:=Lib.hid HY.out
    clear HY hxL y cp
    have cp:=HW.out.rb.1.cell 7
    unfold nodeC at cp
    simp only [lTA,lCZ,lCS,ptrV,adr,Option.map_some,Option.map_none] at cp
    go_upto_region 6 with fail
    clear cp
    have cs0:=HW.out.sum.cell 0;have cs1:=HW.out.sum.cell 1;have cr0:=HW.out.res.cell 0;have cr1:=HW.out.res.cell 1;have fr0:=HW.out.res.frozen 0;have fr1:=HW.out.res.frozen 1
    simp only [lTA,lCZ,lCS] at cs0 cs1 cr0 cr1
    go_wp2
    have hres:=(HW.out.res.set_ 0 (.int .u64 xL.1)).set_ 1 (.int .i64 xL.2)
    have e0:=hres.cell 0;have e1:=hres.cell 1
    simp at e0 e1
    refine bodyPost_ret (v:=.agg #[.int .u64 xL.1,.int .i64 xL.2]) (by (simp [results,Tryz.results188,go_sem,e0,e1])) rfl ⟨by rw [show total k v _ _=xL from by unfold total joinL joinR;dsimp only;rw [HYL.out];try rfl],(HW.out.below.setCell HW.out.rlo _).setCell HW.out.rlo _⟩
   | node bR kR vR sSR cR lR rR =>
    have cp:=HW.out.rb.1.cell 6
    unfold nodeC at cp
    simp only [lTA,lCZ,lCS,ptrV,adr,Option.map_some,Option.map_none] at cp
    go_upto_region 3 with fail
    have lg:=HW.out.tree.lt;have la:=HW.out.rb.1.lt;have lb:=HW.out.rb.2.1.1.lt;have lB:=HW.out.sum.lt
    have og:=fun e=>(over_cell (w:=W) (e:=e) (o:=1) lg).trans (HW.out.tree.cell 1)
    have oa:=fun e=>(over_cell (w:=W) (e:=e) (o:=6) la).trans (HW.out.rb.1.cell 6)
    have ob3:=fun e=>(over_cell (w:=W) (e:=e) (o:=3) lb).trans (HW.out.rb.2.1.1.cell 3)
    have ob4:=fun e=>(over_cell (w:=W) (e:=e) (o:=4) lb).trans (HW.out.rb.2.1.1.cell 4)
    have oB0:=fun e=>(over_cell (w:=W) (e:=e) (o:=0) lB).trans (HW.out.sum.cell 0)
    have oB1:=fun e=>(over_cell (w:=W) (e:=e) (o:=1) lB).trans (HW.out.sum.cell 1)
    unfold treeC at og
    unfold nodeC at oa ob3 ob4
    simp only [lTA,lCZ,lCS,ptrV,adr,Option.map_some] at og oa ob3 ob4 oB0 oB1
    refine wp_region_over_tail 13 (by kernel_rfl) (by kernel_rfl) ?_
    simp only [List.take_succ_cons,List.take_zero,List.drop_succ_cons,List.drop_zero]
    repeat (first | go_big_quiet_skip | (go_big_quiet_want;go_big_quiet_op;first | go_big_quiet_on | (apply Exists.intro;refine⟨fun e=>?_,?_⟩;(focus (go_at_call 79;with_reducible exact calls_over (lesser_any (sSL) ((ownK k v)) _)));go_big_quiet_on)))
    refine wpQuiet_nil ?_
    rintro W2 ⟨e,he⟩
    have hb2:=over_below W e
    rw [← he] at hb2
    have H2:=Lib.hid (HW.out.later hb2)
    clear he og oa ob3 ob4 oB0 oB1 lg la lb lB hb2
    obtain⟨y,hy⟩:∃ y,lessH sSL (ownK k v)=y:=⟨_,rfl⟩
    rw [hy]
    have f0:=H2.out.sum.frozen 0;have f1:=H2.out.sum.frozen 1
    have c0:=H2.out.sum.cell 0;have c1:=H2.out.sum.cell 1
    simp only [lTA,lCZ,lCS] at c0 c1
    have HY:=Lib.hid hy
    clear hy
    have HS:=Lib.hid (H2.out.put y)
    go_upto_region 4 with fail
    clear c0 c1 f0 f1 HW H2
    generalize (W2.setCell ⟨B,0,none⟩ (.int .u64 y.1)).setCell ⟨B,1,none⟩ (.int .i64 y.2)=W at HS ⊢
    have HW:=Lib.hid HS.out
    clear HS
    clear W2
    obtain⟨xL,hxL⟩:∃ x,x=y:=⟨_,rfl⟩
    rw [← hxL] at HY HW ⊢
    have HYL:=Lib.hid HY.out
    clear HY hxL y cp
    have cp:=HW.out.rb.1.cell 7
    unfold nodeC at cp
    simp only [lTA,lCZ,lCS,ptrV,adr,Option.map_some,Option.map_none] at cp
    go_upto_region 5 with fail
    have lg:=HW.out.tree.lt;have la:=HW.out.rb.1.lt;have lb:=HW.out.rb.2.2.1.lt;have lB:=HW.out.sum.lt
    have og:=fun e=>(over_cell (w:=W) (e:=e) (o:=1) lg).trans (HW.out.tree.cell 1)
    have oa:=fun e=>(over_cell (w:=W) (e:=e) (o:=7) la).trans (HW.out.rb.1.cell 7)
    have ob3:=fun e=>(over_cell (w:=W) (e:=e) (o:=3) lb).trans (HW.out.rb.2.2.1.cell 3)
    have ob4:=fun e=>(over_cell (w:=W) (e:=e) (o:=4) lb).trans (HW.out.rb.2.2.1.cell 4)
    have oB0:=fun e=>(over_cell (w:=W) (e:=e) (o:=0) lB).trans (HW.out.sum.cell 0)
    have oB1:=fun e=>(over_cell (w:=W) (e:=e) (o:=1) lB).trans (HW.out.sum.cell 1)
    unfold treeC at og
    unfold nodeC at oa ob3 ob4
    simp only [lTA,lCZ,lCS,ptrV,adr,Option.map_some] at og oa ob3 ob4 oB0 oB1
    refine wp_region_over_tail 13 (by kernel_rfl) (by kernel_rfl) ?_
    simp only [List.take_succ_cons,List.take_zero,List.drop_succ_cons,List.drop_zero]
    repeat (first | go_big_quiet_skip | (go_big_quiet_want;go_big_quiet_op;first | go_big_quiet_on | (apply Exists.intro;refine⟨fun e=>?_,?_⟩;(focus (go_at_call 79;with_reducible exact calls_over (lesser_any (xL) (sSR) _)));go_big_quiet_on)))
    refine wpQuiet_nil ?_
    rintro W2 ⟨e,he⟩
    have hb2:=over_below W e
    rw [← he] at hb2
    have H2:=Lib.hid (HW.out.later hb2)
    clear he og oa ob3 ob4 oB0 oB1 lg la lb lB hb2
    obtain⟨y,hy⟩:∃ y,lessH xL sSR=y:=⟨_,rfl⟩
    rw [hy]
    have f0:=H2.out.sum.frozen 0;have f1:=H2.out.sum.frozen 1
    have c0:=H2.out.sum.cell 0;have c1:=H2.out.sum.cell 1
    simp only [lTA,lCZ,lCS] at c0 c1
    have HY:=Lib.hid hy
    clear hy
    have HS:=Lib.hid (H2.out.put y)
    go_upto_region 6 with fail
    clear c0 c1 f0 f1 HW H2
    generalize (W2.setCell ⟨B,0,none⟩ (.int .u64 y.1)).setCell ⟨B,1,none⟩ (.int .i64 y.2)=W at HS ⊢
    have HW:=Lib.hid HS.out
    clear HS
    clear W2
    obtain⟨xR,hxR⟩:∃ x,x=y:=⟨_,rfl⟩
    rw [← hxR] at HY HW ⊢
    have HYR:=Lib.hid HY.out
    clear HY hxR y cp
    have cs0:=HW.out.sum.cell 0;have cs1:=HW.out.sum.cell 1;have cr0:=HW.out.res.cell 0;have cr1:=HW.out.res.cell 1;have fr0:=HW.out.res.frozen 0;have fr1:=HW.out.res.frozen 1
    simp only [lTA,lCZ,lCS] at cs0 cs1 cr0 cr1
    go_wp2
    have hres:=(HW.out.res.set_ 0 (.int .u64 xR.1)).set_ 1 (.int .i64 xR.2)
    have e0:=hres.cell 0;have e1:=hres.cell 1
    simp at e0 e1
    refine bodyPost_ret (v:=.agg #[.int .u64 xR.1,.int .i64 xR.2]) (by (simp [results,Tryz.results188,go_sem,e0,e1])) rfl ⟨by rw [show total k v _ _=xR from by unfold total joinL joinR;dsimp only;rw [HYL.out];try rw [HYR.out]],(HW.out.below.setCell HW.out.rlo _).setCell HW.out.rlo _⟩
end
section
open Go.RowKit
attribute [local go_sem ↓] Go.wp_at_zero Go.wp_at_succ
attribute [local go_sem] quietR quietAtR quietUponR midAt midUpon plain plainUpon
structure RbT (w:World)(g:Nat)(t:RB):Prop where
 tree:Blk w g 165 (treeC (ptrV t) (listT t).length)
 rb:RBAt w t
 nd:(addrs t).Nodup
 well:Well t
theorem RbT.later {w w':World} {g:Nat} {t:RB} (h:RbT w g t)(hb:Below w.heap.size w w'):RbT w' g t:=⟨h.tree.below hb h.tree.lt,h.rb.later hb,h.nd,h.well⟩
theorem RbT.fr {S:Nat→Prop} {w w':World} {g:Nat} {t:RB} (h:RbT w g t)(hf:Fr S w w')(hg:¬ S g)(hn:∀ a∈addrs t,¬ S a):RbT w' g t:=⟨h.tree.fr hf hg,h.rb.fr hf hn,h.nd,h.well⟩
theorem RbT.far {w:World} {g:Nat} {t:RB} (h:RbT w g t):g ∉ addrs t:=RBAt.typed h.tree (by decide) h.rb
theorem own_nil (W:World):(binOp .eql 117 (.func (.func 78) #[] #[]) .nilFunc).run Tryz.prog W=.ok (.bool false) W:=by kernel_rfl
theorem lesser_nil (W:World):(binOp .eql 118 (.func (.func 79) #[] #[]) .nilFunc).run Tryz.prog W=.ok (.bool false) W:=by kernel_rfl
theorem none_any (g:Nat)(p:Value)(n:Int)(w:World)(h:Blk w g 165 (treeC p n)) :
  Calls Tryz.prog 127 #[.pointer (some ⟨g,0,none⟩)] w fun e w'=>e=.returned (.bool false)∧w=w':=by
 have c0:=h.cell 0;have c1:=h.cell 1
 unfold treeC at c0 c1
 simp only [lTA,lCZ,lCS] at c0 c1
 clear h
 have hn0:=own_nil;have hn1:=lesser_nil
 go_enter Tryz.func127,Tryz.ntmps127
 go_wp2
 go_ret
 exact⟨rfl,rfl⟩
theorem key_eqT (x:Ky)(W:World):(binOp .eql 147 (.agg #[.int .u64 x.1,.int .i64 x.2]) (.agg #[.int .u64 x.1,.int .i64 x.2])).run Tryz.prog W=.ok (.bool true) W:=by go_simp
theorem key_neT (x:Ky)(W:World):(binOp .neq 147 (.agg #[.int .u64 x.1,.int .i64 x.2]) (.agg #[.int .u64 x.1,.int .i64 x.2])).run Tryz.prog W=.ok (.bool false) W:=by go_simp
theorem key_eqF (x y:Ky)(h:x≠y)(W:World):(binOp .eql 147 (.agg #[.int .u64 x.1,.int .i64 x.2]) (.agg #[.int .u64 y.1,.int .i64 y.2])).run Tryz.prog W=.ok (.bool false) W:=by
 have:¬ (x.1=y.1∧x.2=y.2):=fun hh=>h (Prod.ext hh.1 hh.2)
 by_cases h1:x.1=y.1
 ·have h2:¬ x.2=y.2:=fun hh=>this ⟨h1,hh⟩
  go_simp
 ·go_simp
theorem key_neF (x y:Ky)(h:x≠y)(W:World):(binOp .neq 147 (.agg #[.int .u64 x.1,.int .i64 x.2]) (.agg #[.int .u64 y.1,.int .i64 y.2])).run Tryz.prog W=.ok (.bool true) W:=by
 have:¬ (x.1=y.1∧x.2=y.2):=fun hh=>h (Prod.ext hh.1 hh.2)
 by_cases h1:x.1=y.1
 ·have h2:¬ x.2=y.2:=fun hh=>this ⟨h1,hh⟩
  go_simp
 ·go_simp
def AtW (w:World)(x:Ky)(t:RB)(e:Ending)(w':World):Prop:=e=.returned (ptrV (findT x t))∧Below w.heap.size w w'
theorem findT_same (a:Nat)(x:Ky)(v:Int)(s:Ky)(c:Bool)(l r:RB):findT x (.node a x v s c l r)=.node a x v s c l r:=by unfold findT;rw [if_pos rfl]
theorem findT_left {a:Nat} {x k:Ky} {v:Int} {s:Ky} {c:Bool} {l r:RB} (h:lessK x k=true):findT x (.node a k v s c l r)=findT x l:=by
 have:=lessK_ne h
 conv=>lhs;unfold findT
 rw [if_neg this.symm,if_pos h]
theorem findT_right {a:Nat} {x k:Ky} {v:Int} {s:Ky} {c:Bool} {l r:RB} (h:lessK x k=false)(hne:k≠x):findT x (.node a k v s c l r)=findT x r:=by
 conv=>lhs;unfold findT
 rw [if_neg hne,if_neg (by rw [h];simp)]
theorem rbat_any (g:Nat)(x:Ky)(n:Int)(t:RB)(w:World)(hg:Blk w g 165 (treeC (ptrV t) n))(hr:RBAt w t) :
  Calls Tryz.prog 151 #[.pointer (some ⟨g,0,none⟩),.agg #[.int .u64 x.1,.int .i64 x.2]] w (AtW w x t):=by
 have hb0:=(Below.refl w.heap.size w).alloc (Nat.le_refl _) (.cells #[.int .u64 x.1,.int .i64 x.2] 147)
 have hk0:=Blk.new w 147 #[.int .u64 x.1,.int .i64 x.2]
 obtain⟨kb,hkb⟩:∃ q,q=w.heap.size:=⟨_,rfl⟩
 rw [← hkb] at hk0
 have hg0:=hg.below hb0 hg.lt
 have hnone:=none_any g _ _ _ hg0
 have c2:=hg0.cell 2
 unfold treeC at c2
 simp only [lTA,lCZ,lCS] at c2
 have H0:=Lib.hid (And.intro (hr.later hb0) (And.intro hk0 hb0))
 have HKB:=Lib.hid hkb
 clear hg hr hb0 hk0 hkb hg0
 go_enter Tryz.func151,Tryz.ntmps151
 go_wp2_with fail
 refine hnone.mono ?_
 clear hnone
 rintro e w1 ⟨rfl,rfl⟩
 rw [← HKB.out]
 generalize w.alloc (.cells #[.int .u64 x.1,.int .i64 x.2] 147)=W1 at H0 c2 ⊢
 go_wp2_with fail
 clear c2
 have ok0:=H0.out.2.1.cell 0;have ok1:=H0.out.2.1.cell 1
 simp only [lTA,lCZ,lCS] at ok0 ok1
 go_loopg [5] (sizeT t) (fun k v5 wr=>∃ u,sizeT u=k∧v5=ptrV u∧findT x u=findT x t∧RBAt wr u∧Blk wr kb 147 #[.int .u64 x.1,.int .i64 x.2]∧Below w.heap.size w wr)
 case atStart=>exact⟨t,rfl,rfl,rfl,H0.out⟩
 case round =>
  obtain⟨u,hsz,rfl,hfu,hru,hkb,hbr⟩:=hrel
  clear ok0 ok1 H0
  cases u with
  | nil =>
   have e1:ptrV .nil=.pointer none:=rfl
   rw [e1]
   have HF:=Lib.hid hfu
   have HB:=Lib.hid hbr
   clear hfu hbr hru e1
   go_upto_region 4 with fail
   refine wp_region_over (by kernel_rfl) (by kernel_rfl) ?_
   repeat (first | go_big_quiet_skip | (go_big_quiet_want;go_big_quiet_op;go_big_quiet_on))
   refine wpQuiet_nil ?_
   rintro W2 ⟨e,he⟩
   have hb2:=over_below wr e
   rw [← he] at hb2
   have HB2:=Lib.hid (HB.out.trans (hb2.mono HB.out.size))
   clear he hb2 HB
   go_wp2_with fail
   go_ret
   exact⟨by rw [← HF.out];rfl,HB2.out⟩
  | node a k v s c l r =>
   have e1:ptrV (.node a k v s c l r)=.pointer (some ⟨a,0,none⟩):=rfl
   rw [e1]
   have HU:=Lib.hid (And.intro hru (And.intro hkb hbr))
   have HF:=Lib.hid hfu
   have HSZ:=Lib.hid hsz
   have ok0:=fun e=>(over_cell (w:=wr) (e:=e) (o:=0) hkb.lt).trans (hkb.cell 0)
   have ok1:=fun e=>(over_cell (w:=wr) (e:=e) (o:=1) hkb.lt).trans (hkb.cell 1)
   have oa0:=fun e=>(over_cell (w:=wr) (e:=e) (o:=0) hru.1.lt).trans (hru.1.cell 0)
   have oa1:=fun e=>(over_cell (w:=wr) (e:=e) (o:=1) hru.1.lt).trans (hru.1.cell 1)
   unfold nodeC at oa0 oa1
   simp only [lTA,lCZ,lCS] at ok0 ok1 oa0 oa1
   clear hru hkb hbr hfu hsz e1
   by_cases hk:k=x
   ·subst hk
    have hkeq:=key_neT k
    go_upto_region 4 with fail
    refine wp_region_over (by kernel_rfl) (by kernel_rfl) ?_
    repeat (first | go_big_quiet_skip | (go_big_quiet_want;go_big_quiet_op;go_big_quiet_on))
    refine wpQuiet_nil ?_
    rintro W2 ⟨e,he⟩
    have hb2:=over_below wr e
    rw [← he] at hb2
    have HB2:=Lib.hid (HU.out.2.2.trans (hb2.mono HU.out.2.2.size))
    clear he hb2 HU ok0 ok1 oa0 oa1 hkeq
    go_wp2_with fail
    go_ret
    exact⟨by rw [← HF.out,findT_same];rfl,HB2.out⟩
   ·have hkeq:=key_neF k x hk
    go_upto_region 4 with fail
    refine wp_region_over (by kernel_rfl) (by kernel_rfl) ?_
    repeat (first | go_big_quiet_skip | (go_big_quiet_want;go_big_quiet_op;go_big_quiet_on))
    refine wpQuiet_nil ?_
    rintro W2 ⟨e,he⟩
    have hb2:=over_below wr e
    rw [← he] at hb2
    have H2:=Lib.hid (And.intro (HU.out.1.later hb2) (And.intro (HU.out.2.1.below hb2 HU.out.2.1.lt) (HU.out.2.2.trans (hb2.mono HU.out.2.2.size))))
    clear he hb2 HU ok0 ok1 oa0 oa1 hkeq
    go_upto_region 5 with fail
    have ok0:=fun e=>(over_cell (w:=W2) (e:=e) (o:=0) H2.out.2.1.lt).trans (H2.out.2.1.cell 0)
    have ok1:=fun e=>(over_cell (w:=W2) (e:=e) (o:=1) H2.out.2.1.lt).trans (H2.out.2.1.cell 1)
    have oa0:=fun e=>(over_cell (w:=W2) (e:=e) (o:=0) H2.out.1.1.lt).trans (H2.out.1.1.cell 0)
    have oa1:=fun e=>(over_cell (w:=W2) (e:=e) (o:=1) H2.out.1.1.lt).trans (H2.out.1.1.cell 1)
    unfold nodeC at oa0 oa1
    simp only [lTA,lCZ,lCS] at ok0 ok1 oa0 oa1
    refine wp_region_over_tail 5 (by kernel_rfl) (by kernel_rfl) ?_
    simp only [List.take_succ_cons,List.take_zero,List.drop_succ_cons,List.drop_zero]
    repeat (first | go_big_quiet_skip | (go_big_quiet_want;go_big_quiet_op;go_big_quiet_on))
    refine wpQuiet_nil ?_
    rintro W3 ⟨e,he⟩
    have hb3:=over_below W2 e
    rw [← he] at hb3
    have H3:=Lib.hid (And.intro (H2.out.1.later hb3) (And.intro (H2.out.2.1.below hb3 H2.out.2.1.lt) (H2.out.2.2.trans (hb3.mono H2.out.2.2.size))))
    clear he hb3 H2 ok0 ok1 oa0 oa1
    have hless:=less_any x k W3
    go_wp2_with fail
    refine hless.mono ?_
    clear hless
    rintro e W4 ⟨rfl,hb4⟩
    have H4:=Lib.hid (And.intro (H3.out.1.later hb4) (And.intro (H3.out.2.1.below hb4 H3.out.2.1.lt) (H3.out.2.2.trans (hb4.mono H3.out.2.2.size))))
    clear hb4 H3
    have a6:=H4.out.1.1.cell 6;have a7:=H4.out.1.1.cell 7
    unfold nodeC at a6 a7
    simp only [lTA,lCZ,lCS] at a6 a7
    cases hlt:lessK x k with
    | true =>
     have HF2:=Lib.hid ((findT_left hlt).symm.trans HF.out)
     clear hlt HF a7
     go_wp2_with fail
     go_roundg (sizeT l)
     case measure=>have:=HSZ.out;simp only [sizeT] at this;omega
     case rel=>exact⟨l,rfl,rfl,HF2.out,H4.out.1.2.1,H4.out.2⟩
    | false =>
     have HF2:=Lib.hid ((findT_right hlt hk).symm.trans HF.out)
     clear hlt HF a6
     go_wp2_with fail
     go_roundg (sizeT r)
     case measure=>have:=HSZ.out;simp only [sizeT] at this;omega
     case rel=>exact⟨r,rfl,rfl,HF2.out,H4.out.1.2.2,H4.out.2⟩
end
section
open Go.RowKit Go.Shelf
section
attribute [local go_sem] Oper.semAt_some
attribute [local irreducible] wpSegs
theorem room_wideE {p:Prop}:Fence.wide.depth.isSome=true→p:=fun h=>by simp [Fence.wide] at h
end
end
section
open Go.RowKit Go.Shelf
section
attribute [local go_sem] Oper.semAt_some
theorem blk_own {β:Type} (n0 B:Nat)(t:TypeId)(cs:Array Value):OwnFrom n0 (fun (_:β) W=>Blk W B t cs) :=
 fun s X Y row hs hg hr=>hs.grown hg (fun e=>by obtain⟨o,ho,hc⟩:=(hr _ e.symm).2;rw [show X.heap[B]?=_ from hs] at ho;cases ho;cases hc)
end
end
section
open Go.RowKit
attribute [local go_sem ↓] Go.wp_at_zero Go.wp_at_succ
attribute [local go_sem] quietR quietAtR quietUponR midAt midUpon plain plainUpon
theorem rblen_any (g:Nat)(t:RB)(w:World)(h:RbT w g t) :
  Calls Tryz.prog 103 #[.pointer (some ⟨g,0,none⟩)] w fun e w'=>e=.returned (.int .i64 (listT t).length)∧w=w':=by
 have c3:=h.tree.cell 3
 unfold treeC at c3
 simp only [lTA,lCZ,lCS] at c3
 have hn:=none_any g _ _ w h.tree
 clear h
 go_enter Tryz.func103,Tryz.ntmps103
 go_wp2_with (go_at_call 127;refine hn.mono ?_;rintro e w1 ⟨rfl,rfl⟩)
 go_ret
 exact⟨rfl,rfl⟩
end
section
open Go.RowKit
attribute [local go_sem ↓] Go.wp_at_zero Go.wp_at_succ
attribute [local go_sem] quietR quietAtR quietUponR midAt midUpon
def TurnW (w:World)(S:List Nat)(t':RB)(e:Ending)(w':World):Prop:=e=.returned (ptrV t')∧RBAt w' t'∧Fr (fun x=>x∈S) w w'
structure Apart2 (a b:Nat)(l m r:RB):Prop where
 ab:a≠b
 al:a ∉ addrs l
 am:a ∉ addrs m
 ar:a ∉ addrs r
 bl:b ∉ addrs l
 bm:b ∉ addrs m
 br:b ∉ addrs r
theorem apart_right {a b:Nat} {k k2:Ky} {v v2:Int} {s s2:Ky} {c c2:Bool} {l m r:RB} (h:(addrs (.node a k v s c l (.node b k2 v2 s2 c2 m r))).Nodup):Apart2 a b l m r:=by
 simp only [addrs,List.nodup_cons,List.nodup_append,List.mem_append,List.mem_cons,not_or] at h
 obtain⟨⟨h1,h2,h3,h4⟩,h5,⟨⟨h6,h7⟩,h8⟩,h9⟩:=h
 exact⟨h2,h1,h3,h4,fun hb=>h9 b hb b (.inl rfl) rfl,h6,h7⟩
theorem apart_left {a b:Nat} {k k2:Ky} {v v2:Int} {s s2:Ky} {c c2:Bool} {l m r:RB} (h:(addrs (.node a k v s c (.node b k2 v2 s2 c2 l m) r)).Nodup):Apart2 a b l m r:=by
 simp only [addrs,List.nodup_cons,List.nodup_append,List.mem_append,List.mem_cons,not_or,List.cons_append] at h
 obtain⟨⟨h2,⟨h1,h3⟩,h4⟩,⟨h6,h7⟩,h8⟩:=h
 exact⟨h2,h1,h3,h4,h6.1,h6.2,h7⟩
structure TwoS (w W:World)(g:Nat)(p:Value)(n:Int)(a b:Nat)(cA cB:Array Value)(l m r:RB):Prop where
 tree:Blk W g 165 (treeC p n)
 A:Blk W a 193 cA
 B:Blk W b 193 cB
 tl:RBAt W l
 tm:RBAt W m
 tr:RBAt W r
 ap:Apart2 a b l m r
 fr:Fr (fun x=>x=a∨x=b) w W
section
variable {w W W' : World} {g : Nat} {p : Value} {n : Int} {a b : Nat} {cA cB : Array Value} {l m r : RB}
theorem TwoS.later (h:TwoS w W g p n a b cA cB l m r)(hb:Below W.heap.size W W'):TwoS w W' g p n a b cA cB l m r :=
 ⟨h.tree.below hb h.tree.lt,h.A.below hb h.A.lt,h.B.below hb h.B.lt,h.tl.later hb,h.tm.later hb,h.tr.later hb,h.ap,h.fr.trans (Fr.of_below hb)⟩
theorem node_ne {W:World} {g a:Nat} {t:TypeId} {cs cs':Array Value} (hg:Blk W g t cs)(ha:Blk W a 193 cs')(ht:t≠193):g≠a:=by
 rintro rfl
 have:=hg.symm.trans ha
 simp only [Option.some.injEq,Obj.cells.injEq] at this
 exact ht this.2.1
theorem TwoS.setA (h:TwoS w W g p n a b cA cB l m r)(o:Nat)(u:Value):TwoS w (W.setCell ⟨a,o,none⟩ u) g p n a b (cA.setIfInBounds o u) cB l m r:=by
 have hk:∀ q,q≠a→(W.setCell ⟨a,o,none⟩ u).heap[q]?=W.heap[q]?:=fun q hq=>Below.heap_setCell W ⟨a,o,none⟩ u q hq
 have hs:=h.A.set_ o u
 exact⟨(hk g (node_ne h.tree h.A (by decide))).trans h.tree,hs,(hk b h.ap.ab.symm).trans h.B,h.tl.kept fun q hq=>hk q fun e=>h.ap.al (e ▸ hq),h.tm.kept fun q hq=>hk q fun e=>h.ap.am (e ▸ hq),h.tr.kept fun q hq=>hk q fun e=>h.ap.ar (e ▸ hq),h.ap,h.fr.trans (Fr.set (.inl rfl))⟩
theorem TwoS.setB (h:TwoS w W g p n a b cA cB l m r)(o:Nat)(u:Value):TwoS w (W.setCell ⟨b,o,none⟩ u) g p n a b cA (cB.setIfInBounds o u) l m r:=by
 have hk:∀ q,q≠b→(W.setCell ⟨b,o,none⟩ u).heap[q]?=W.heap[q]?:=fun q hq=>Below.heap_setCell W ⟨b,o,none⟩ u q hq
 have hs:=h.B.set_ o u
 exact⟨(hk g (node_ne h.tree h.B (by decide))).trans h.tree,(hk a h.ap.ab).trans h.A,hs,h.tl.kept fun q hq=>hk q fun e=>h.ap.bl (e ▸ hq),h.tm.kept fun q hq=>hk q fun e=>h.ap.bm (e ▸ hq),h.tr.kept fun q hq=>hk q fun e=>h.ap.br (e ▸ hq),h.ap,h.fr.trans (Fr.set (.inr rfl))⟩
theorem TwoS.castA (h:TwoS w W g p n a b cA cB l m r) {c':Array Value} (e:cA=c'):TwoS w W g p n a b c' cB l m r:=e ▸ h
theorem TwoS.castB (h:TwoS w W g p n a b cA cB l m r) {c':Array Value} (e:cB=c'):TwoS w W g p n a b cA c' l m r:=e ▸ h
end
theorem rotL_walk (g:Nat)(p:Value)(n:Int)(a:Nat)(k:Ky)(v:Int)(s:Ky)(c:Bool)(l m r:RB)(b:Nat)(k2:Ky)(v2:Int)(s2:Ky)(c2:Bool)(w:World)(hg:Blk w g 165 (treeC p n))(h:RBAt w (.node a k v s c l (.node b k2 v2 s2 c2 m r)))(hn:(addrs (.node a k v s c l (.node b k2 v2 s2 c2 m r))).Nodup) :
  Calls Tryz.prog 186 #[.pointer (some ⟨g,0,none⟩),.pointer (some ⟨a,0,none⟩)] w (TurnW w (addrs (.node a k v s c l (.node b k2 v2 s2 c2 m r))) (.node b k2 v2 (total k2 v2 (.node a k v (total k v l m) true l m) r) c (.node a k v (total k v l m) true l m) r)):=by
 have hap:=apart_right hn
 obtain⟨hA,hl,hB,hm,hr⟩:=h
 have H0:=Lib.hid (⟨hg,hA,hB,hl,hm,hr,hap,Fr.refl _ _⟩:TwoS w w g p n a b _ _ l m r)
 have hab:¬ a=b:=hap.ab
 have hba:¬ b=a:=fun e=>hap.ab e.symm
 have a5:=hA.cell 5;have aT:=hA.cell 7;have b5:=hB.cell 5;have bT:=hB.cell 6
 have fa5:=hA.frozen 5;have faT:=hA.frozen 7;have fb5:=hB.frozen 5;have fbT:=hB.frozen 6
 unfold nodeC at a5 aT b5 bT
 simp only [lTA,lCZ,lCS] at a5 aT b5 bT
 have eb:ptrV (.node b k2 v2 s2 c2 m r)=.pointer (some ⟨b,0,none⟩):=rfl
 rw [eb] at aT
 obtain⟨pm,hpm⟩:∃ q,ptrV m=.pointer q:=⟨_,rfl⟩
 rw [hpm] at bT
 have HPM:=Lib.hid hpm
 clear hpm
 clear eb hg hn hap hA hB hl hm hr
 go_enter Tryz.func186,Tryz.ntmps186
 go_upto_region 4 with fail
 have hT:=((((H0.out.setA 7 (.pointer pm)).setB 6 (.pointer (some ⟨a,0,none⟩))).setB 5 (.bool c)).setA 5 (.bool true))
 have H3:=Lib.hid ((hT.castA (c':=nodeC k v s true l m) (by rw [← HPM.out];rfl)).castB (c':=nodeC k2 v2 s2 c (.node a k v s true l m) r) rfl)
 clear hT
 generalize ((((w.setCell ⟨a,7,none⟩ (.pointer pm)).setCell ⟨b,6,none⟩ (.pointer (some ⟨a,0,none⟩))).setCell ⟨b,5,none⟩ (.bool c)).setCell ⟨a,5,none⟩ (.bool true))=W3 at H3 ⊢
 clear a5 aT b5 bT fa5 faT fb5 fbT
 have ht:=total_any g a p n k v s true l m W3 H3.out.tree ⟨H3.out.A,H3.out.tl,H3.out.tm⟩
 go_wp2_with fail
 refine ht.mono ?_
 clear ht
 rintro e W4 ⟨rfl,hb4⟩
 have H4:=Lib.hid (H3.out.later hb4)
 clear hb4 H3
 obtain⟨x,hx⟩:∃ x,total k v l m=x:=⟨_,rfl⟩
 rw [hx]
 have HX:=Lib.hid hx
 clear hx
 have a3:=H4.out.A.cell 3;have a4:=H4.out.A.cell 4;have fa3:=H4.out.A.frozen 3;have fa4:=H4.out.A.frozen 4
 unfold nodeC at a3 a4
 simp only [lTA,lCZ,lCS] at a3 a4
 go_upto_region 5 with fail
 have H5:=Lib.hid (((H4.out.setA 3 (.int .u64 x.1)).setA 4 (.int .i64 x.2)).castA (c':=nodeC k v x true l m) rfl)
 generalize ((W4.setCell ⟨a,3,none⟩ (.int .u64 x.1)).setCell ⟨a,4,none⟩ (.int .i64 x.2))=W5 at H5 ⊢
 clear a3 a4 fa3 fa4 H4
 have ht:=total_any g b p n k2 v2 s2 c (.node a k v x true l m) r W5 H5.out.tree ⟨H5.out.B,⟨H5.out.A,H5.out.tl,H5.out.tm⟩,H5.out.tr⟩
 go_wp2_with fail
 refine ht.mono ?_
 clear ht
 rintro e W6 ⟨rfl,hb6⟩
 have H6:=Lib.hid (H5.out.later hb6)
 clear hb6 H5
 obtain⟨y,hy⟩:∃ y,total k2 v2 (.node a k v x true l m) r=y:=⟨_,rfl⟩
 rw [hy]
 have HY:=Lib.hid hy
 clear hy
 have b3:=H6.out.B.cell 3;have b4:=H6.out.B.cell 4;have fb3:=H6.out.B.frozen 3;have fb4:=H6.out.B.frozen 4
 unfold nodeC at b3 b4
 simp only [lTA,lCZ,lCS] at b3 b4
 go_upto_region 6 with fail
 have H7:=Lib.hid (((H6.out.setB 3 (.int .u64 y.1)).setB 4 (.int .i64 y.2)).castB (c':=nodeC k2 v2 y c (.node a k v x true l m) r) rfl)
 generalize ((W6.setCell ⟨b,3,none⟩ (.int .u64 y.1)).setCell ⟨b,4,none⟩ (.int .i64 y.2))=W7 at H7 ⊢
 clear b3 b4 fb3 fb4 H6
 go_wp2
 go_ret
 rw [HX.out,HY.out]
 refine⟨rfl,⟨H7.out.B,⟨H7.out.A,H7.out.tl,H7.out.tm⟩,H7.out.tr⟩,H7.out.fr.weak fun q _ hq=>?_⟩
 rcases hq with rfl | rfl
 ·exact .head _
 ·exact List.mem_cons.2 (.inr (List.mem_append.2 (.inr (.head _))))
theorem rotL_any (g:Nat)(p:Value)(n:Int)(t t':RB)(w:World)(hg:Blk w g 165 (treeC p n))(h:RBAt w t)(hn:(addrs t).Nodup)(e:rotL t=some t') :
  Calls Tryz.prog 186 #[.pointer (some ⟨g,0,none⟩),ptrV t] w (TurnW w (addrs t) t'):=by
 cases t with
 | nil=>cases e
 | node a k v s c l r =>
  cases r with
  | nil=>cases e
  | node b k2 v2 s2 c2 x y =>
   cases e
   exact rotL_walk g p n a k v s c l x y b k2 v2 s2 c2 w hg h hn
theorem rotR_walk (g:Nat)(p:Value)(n:Int)(a:Nat)(k:Ky)(v:Int)(s:Ky)(c:Bool)(l m r:RB)(b:Nat)(k2:Ky)(v2:Int)(s2:Ky)(c2:Bool)(w:World)(hg:Blk w g 165 (treeC p n))(h:RBAt w (.node a k v s c (.node b k2 v2 s2 c2 l m) r))(hn:(addrs (.node a k v s c (.node b k2 v2 s2 c2 l m) r)).Nodup) :
  Calls Tryz.prog 175 #[.pointer (some ⟨g,0,none⟩),.pointer (some ⟨a,0,none⟩)] w (TurnW w (addrs (.node a k v s c (.node b k2 v2 s2 c2 l m) r)) (.node b k2 v2 (total k2 v2 l (.node a k v (total k v m r) true m r)) c l (.node a k v (total k v m r) true m r))):=by
 have hap:=apart_left hn
 obtain⟨hA,⟨hB,hl,hm⟩,hr⟩:=h
 have H0:=Lib.hid (⟨hg,hA,hB,hl,hm,hr,hap,Fr.refl _ _⟩:TwoS w w g p n a b _ _ l m r)
 have hab:¬ a=b:=hap.ab
 have hba:¬ b=a:=fun e=>hap.ab e.symm
 have a5:=hA.cell 5;have aT:=hA.cell 6;have b5:=hB.cell 5;have bT:=hB.cell 7
 have fa5:=hA.frozen 5;have faT:=hA.frozen 6;have fb5:=hB.frozen 5;have fbT:=hB.frozen 7
 unfold nodeC at a5 aT b5 bT
 simp only [lTA,lCZ,lCS] at a5 aT b5 bT
 have eb:ptrV (.node b k2 v2 s2 c2 l m)=.pointer (some ⟨b,0,none⟩):=rfl
 rw [eb] at aT
 obtain⟨pm,hpm⟩:∃ q,ptrV m=.pointer q:=⟨_,rfl⟩
 rw [hpm] at bT
 have HPM:=Lib.hid hpm
 clear hpm
 clear eb hg hn hap hA hB hl hm hr
 go_enter Tryz.func175,Tryz.ntmps175
 go_upto_region 4 with fail
 have hT:=((((H0.out.setA 6 (.pointer pm)).setB 7 (.pointer (some ⟨a,0,none⟩))).setB 5 (.bool c)).setA 5 (.bool true))
 have H3:=Lib.hid ((hT.castA (c':=nodeC k v s true m r) (by rw [← HPM.out];rfl)).castB (c':=nodeC k2 v2 s2 c l (.node a k v s true m r)) rfl)
 clear hT
 generalize ((((w.setCell ⟨a,6,none⟩ (.pointer pm)).setCell ⟨b,7,none⟩ (.pointer (some ⟨a,0,none⟩))).setCell ⟨b,5,none⟩ (.bool c)).setCell ⟨a,5,none⟩ (.bool true))=W3 at H3 ⊢
 clear a5 aT b5 bT fa5 faT fb5 fbT
 have ht:=total_any g a p n k v s true m r W3 H3.out.tree ⟨H3.out.A,H3.out.tm,H3.out.tr⟩
 go_wp2_with fail
 refine ht.mono ?_
 clear ht
 rintro e W4 ⟨rfl,hb4⟩
 have H4:=Lib.hid (H3.out.later hb4)
 clear hb4 H3
 obtain⟨x,hx⟩:∃ x,total k v m r=x:=⟨_,rfl⟩
 rw [hx]
 have HX:=Lib.hid hx
 clear hx
 have a3:=H4.out.A.cell 3;have a4:=H4.out.A.cell 4;have fa3:=H4.out.A.frozen 3;have fa4:=H4.out.A.frozen 4
 unfold nodeC at a3 a4
 simp only [lTA,lCZ,lCS] at a3 a4
 go_upto_region 5 with fail
 have H5:=Lib.hid (((H4.out.setA 3 (.int .u64 x.1)).setA 4 (.int .i64 x.2)).castA (c':=nodeC k v x true m r) rfl)
 generalize ((W4.setCell ⟨a,3,none⟩ (.int .u64 x.1)).setCell ⟨a,4,none⟩ (.int .i64 x.2))=W5 at H5 ⊢
 clear a3 a4 fa3 fa4 H4
 have ht:=total_any g b p n k2 v2 s2 c l (.node a k v x true m r) W5 H5.out.tree ⟨H5.out.B,H5.out.tl,⟨H5.out.A,H5.out.tm,H5.out.tr⟩⟩
 go_wp2_with fail
 refine ht.mono ?_
 clear ht
 rintro e W6 ⟨rfl,hb6⟩
 have H6:=Lib.hid (H5.out.later hb6)
 clear hb6 H5
 obtain⟨y,hy⟩:∃ y,total k2 v2 l (.node a k v x true m r)=y:=⟨_,rfl⟩
 rw [hy]
 have HY:=Lib.hid hy
 clear hy
 have b3:=H6.out.B.cell 3;have b4:=H6.out.B.cell 4;have fb3:=H6.out.B.frozen 3;have fb4:=H6.out.B.frozen 4
 unfold nodeC at b3 b4
 simp only [lTA,lCZ,lCS] at b3 b4
 go_upto_region 6 with fail
 have H7:=Lib.hid (((H6.out.setB 3 (.int .u64 y.1)).setB 4 (.int .i64 y.2)).castB (c':=nodeC k2 v2 y c l (.node a k v x true m r)) rfl)
 generalize ((W6.setCell ⟨b,3,none⟩ (.int .u64 y.1)).setCell ⟨b,4,none⟩ (.int .i64 y.2))=W7 at H7 ⊢
 clear b3 b4 fb3 fb4 H6
 go_wp2
 go_ret
 rw [HX.out,HY.out]
 refine⟨rfl,⟨H7.out.B,H7.out.tl,⟨H7.out.A,H7.out.tm,H7.out.tr⟩⟩,H7.out.fr.weak fun q _ hq=>?_⟩
 rcases hq with rfl | rfl
 ·exact .head _
 ·exact List.mem_cons.2 (.inr (List.mem_append.2 (.inl (.head _))))
theorem rotR_any (g:Nat)(p:Value)(n:Int)(t t':RB)(w:World)(hg:Blk w g 165 (treeC p n))(h:RBAt w t)(hn:(addrs t).Nodup)(e:rotR t=some t') :
  Calls Tryz.prog 175 #[.pointer (some ⟨g,0,none⟩),ptrV t] w (TurnW w (addrs t) t'):=by
 cases t with
 | nil=>cases e
 | node a k v s c l r =>
  cases l with
  | nil=>cases e
  | node b k2 v2 s2 c2 x y =>
   cases e
   exact rotR_walk g p n a k v s c x y r b k2 v2 s2 c2 w hg h hn
end
end Go.Proofs.YtmmeopjemkjllaaGreat
