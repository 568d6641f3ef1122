/- Lemmas of the claim. No conditions beyond those that each states. -/
import Derived.Test.YtmmeopjemkjllaaGreatProg
import Derived.WalkKit
import Derived.ProofKit
import Derived.OpenShut
import Derived.Maps.OwnSet
import Derived.Maps.OwnOps
import Derived.Maps.Ext
import Derived.Lib.SlKeysI
import Derived.Test.YtmmeopjemkjllaaGreatPU2
set_option linter.unusedVariables false
set_option linter.unusedSimpArgs false
set_option maxRecDepth 100000
set_option maxHeartbeats 8000000
namespace Go.Proofs.YtmmeopjemkjllaaGreat
section
open Go.RowKit Go.Maps
def asIs (v:Value):Option (DataW Value × List MemPlace):=some (.held v,[])
theorem asIs_inv {v u:Value} {ps:List MemPlace} (h:asIs v=some (.held u,ps)):v=u:=by
 simp only [asIs,Option.some.injEq,Prod.mk.injEq,DataW.held.injEq] at h;exact h.1
def encP (p:Int × Value):Lit × DataW Value:=(.int .i64 p.1,.held p.2)
def toD (M:List (Int × Value)):DataW Value:=.map (M.map encP)
def lookM {α:Type}:List (Int × α)→Int→Option α
 | [],_=>none
 | p :: r,k=>if p.1=k then some p.2 else lookM r k
def putM {α:Type}:List (Int × α)→Int→α→List (Int × α)
 | [],k,v=>[(k,v)]
 | p :: r,k,v=>if k < p.1 then (k,v) :: p :: r else if p.1=k then (k,v) :: r else p :: putM r k v
def delM {α:Type} (M:List (Int × α))(k:Int):List (Int × α):=M.filter fun p=>!decide (p.1=k)
def Rising {α:Type} (M:List (Int × α)):Prop:=M.Pairwise fun p q=>p.1 < q.1
theorem same_int (a b:Int):(Lit.int .i64 a).sameKey (.int .i64 b)=decide (a=b):=by
 by_cases h:a=b
 ·subst h;simp [Lit.sameKey]
 ·simp [Lit.sameKey,h]
theorem before_int (a b:Int):(Lit.int .i64 a).before (.int .i64 b)=decide (a < b):=rfl
theorem toD_at (k:Int)(z:Value):∀ M:List (Int × Value),(toD M).atKey (.int .i64 k) (.held z)=.held ((lookM M k).getD z):=by
 intro M
 unfold toD DataW.atKey
 induction M with
 | nil=>rfl
 | cons p r ih =>
  have hs:(encP p).1.sameKey (.int .i64 k)=decide (p.1=k):=same_int _ _
  by_cases h:p.1=k
  ·have hs:(encP p).1.sameKey (.int .i64 k)=true:=by rw [hs];simp [h]
   simp only [List.map_cons,List.find?_cons,hs,lookM,h,if_true]
   rfl
  ·have hs:(encP p).1.sameKey (.int .i64 k)=false:=by rw [hs];simp [h]
   simp only [List.map_cons,List.find?_cons,hs,lookM,h,if_false]
   exact ih
theorem toD_has (k:Int):∀ M:List (Int × Value),Maps.has (toD M) (.int .i64 k)=(lookM M k).isSome:=by
 intro M
 show (M.map encP).any (fun p=>p.1.sameKey (.int .i64 k))=_
 induction M with
 | nil=>rfl
 | cons p r ih =>
  rw [List.map_cons,List.any_cons,ih,lookM]
  show ((Lit.int .i64 p.1).sameKey (.int .i64 k) || _)=_
  rw [same_int]
  by_cases h:p.1=k <;> simp [h]
theorem toD_del (k:Int):∀ M:List (Int × Value),(toD M).del (.int .i64 k)=toD (delM M k):=by
 intro M
 show DataW.map ((M.map encP).filter fun p=>!p.1.sameKey (.int .i64 k))=_
 rw [List.filter_map]
 have:((fun p:Lit × DataW Value=>!p.1.sameKey (.int .i64 k)) ∘ encP)=fun p:Int × Value=>!decide (p.1=k):=by
  funext p
  show (!(Lit.int .i64 p.1).sameKey (.int .i64 k))=_
  rw [same_int]
 rw [this]
 rfl
theorem delM_none {α:Type} (k:Int):∀ M:List (Int × α),(∀ p∈M,p.1≠k)→delM M k=M:=by
 intro M h
 rw [delM,List.filter_eq_self]
 intro p hp;simp [h p hp]
theorem putM_ins (k:Int)(v:Value):∀ M:List (Int × Value),Rising M→(putM M k v).map encP=DataW.insert (encP (k,v)) ((delM M k).map encP)
 | [],_=>rfl
 | p :: r,h=>by
  have hr:Rising r:=(List.pairwise_cons.1 h).2
  have hp:=(List.pairwise_cons.1 h).1
  by_cases h1:k < p.1
  ·rw [delM_none k (p :: r) (by
    intro q hq
    rcases List.mem_cons.1 hq with rfl | hq
    ·omega
    ·have:=hp q hq;omega)]
   simp only [putM,h1,if_true,List.map_cons]
   show _=DataW.insert (encP (k,v)) (encP p :: r.map encP)
   rw [DataW.insert]
   have:(encP (k,v)).1.before (encP p).1=true:=by show (Lit.int .i64 k).before (.int .i64 p.1)=true;rw [before_int];simp [h1]
   rw [if_pos this]
  ·by_cases h2:p.1=k
   ·have e:delM (p :: r) k=r:=by
     have:delM (p :: r) k=delM r k:=by simp [delM,h2]
     rw [this]
     exact delM_none k r (fun q hq=>by have:=hp q hq;omega)
    have e2:putM (p :: r) k v=(k,v) :: r:=by rw [putM,if_neg h1,if_pos h2]
    rw [e,e2]
    cases r with
    | nil=>rfl
    | cons q r =>
     have:=hp q (by simp)
     rw [List.map_cons,List.map_cons,DataW.insert]
     have:(encP (k,v)).1.before (encP q).1=true:=by show (Lit.int .i64 k).before (.int .i64 q.1)=true;rw [before_int];simp;omega
     rw [if_pos this]
   ·have e:delM (p :: r) k=p :: delM r k:=by simp [delM,h2]
    rw [e]
    simp only [putM,h1,h2,if_false,List.map_cons]
    rw [DataW.insert]
    have:¬ (encP (k,v)).1.before (encP p).1=true:=by show ¬ (Lit.int .i64 k).before (.int .i64 p.1)=true;rw [before_int];simp;omega
    rw [if_neg this,putM_ins k v r hr]
theorem toD_put (k:Int)(v:Value) {M:List (Int × Value)} (h:Rising M):(toD M).put (.int .i64 k) (.held v)=toD (putM M k v):=by
 show DataW.map (DataW.insert (encP (k,v)) ((M.map encP).filter fun p=>!p.1.sameKey (.int .i64 k)))=DataW.map _
 rw [putM_ins k v M h]
 have:=toD_del k M
 injection this with this
 rw [← this]
/-! ## the pure laws of pairs -/
theorem putM_mem {α:Type} {k:Int} {v:α}:∀ {M:List (Int × α)} {p:Int × α},p∈putM M k v→p=(k,v)∨p∈M
 | [],p,h=>by simpa [putM] using h
 | q :: r,p,h=>by
  rw [putM] at h
  split at h
  ·rcases List.mem_cons.1 h with h | h
   ·exact .inl h
   ·exact .inr h
  ·split at h
   ·rcases List.mem_cons.1 h with h | h
    ·exact .inl h
    ·exact .inr (List.mem_cons_of_mem _ h)
   ·rcases List.mem_cons.1 h with h | h
    ·exact .inr (h ▸ List.mem_cons_self ..)
    ·rcases putM_mem h with h | h
     ·exact .inl h
     ·exact .inr (List.mem_cons_of_mem _ h)
theorem rising_put {α:Type} (k:Int)(v:α):∀ {M:List (Int × α)},Rising M→Rising (putM M k v)
 | [],_=>by simp [putM,Rising]
 | p :: r,h=>by
  have hr:Rising r:=(List.pairwise_cons.1 h).2
  have hp:=(List.pairwise_cons.1 h).1
  rw [putM]
  split
  ·refine List.pairwise_cons.2 ⟨?_,h⟩
   intro q hq
   rcases List.mem_cons.1 hq with rfl | hq
   ·assumption
   ·have:=hp q hq;show k < q.1;omega
  ·split
   ·refine List.pairwise_cons.2 ⟨?_,hr⟩
    intro q hq;have:=hp q hq;show k < q.1;omega
   ·refine List.pairwise_cons.2 ⟨?_,rising_put k v hr⟩
    intro q hq
    rcases putM_mem hq with rfl | hq
    ·show p.1 < k;omega
    ·exact hp q hq
theorem look_put_same {α:Type} (k:Int)(v:α):∀ M:List (Int × α),lookM (putM M k v) k=some v
 | []=>by simp [putM,lookM]
 | p :: r=>by
  rw [putM]
  split
  ·simp [lookM]
  ·split
   ·simp [lookM]
   ·rename_i h;simp [lookM,h,look_put_same k v r]
theorem look_put_other {α:Type} {k j:Int} (v:α)(hj:j≠k):∀ M:List (Int × α),lookM (putM M k v) j=lookM M j
 | []=>by simp [putM,lookM,hj.symm]
 | p :: r=>by
  rw [putM]
  split
  ·simp [lookM,hj.symm]
  ·split
   ·rename_i h;simp [lookM,h,hj.symm]
   ·simp [lookM,look_put_other v hj r]
theorem look_del_same {α:Type} (k:Int):∀ M:List (Int × α),lookM (delM M k) k=none
 | []=>rfl
 | p :: r=>by
  have:=look_del_same k r
  by_cases h:p.1=k
  ·simpa [delM,h] using this
  ·simpa [delM,h,lookM] using this
theorem look_del_other {α:Type} {k j:Int} (hj:j≠k):∀ M:List (Int × α),lookM (delM M k) j=lookM M j
 | []=>rfl
 | p :: r=>by
  have:=look_del_other hj r
  by_cases h:p.1=k
  ·have hne:¬ p.1=j:=by omega
   simp only [lookM,hne,if_false,← this]
   simp [delM,h]
  ·simp only [delM,List.filter_cons,h,decide_false,Bool.not_false,if_true,lookM] at this ⊢
   rw [this]
theorem look_none {α:Type} {k:Int}:∀ {M:List (Int × α)},lookM M k=none↔∀ p∈M,p.1≠k
 | []=>by simp [lookM]
 | p :: r=>by
  rw [lookM]
  by_cases h:p.1=k
  ·simp [h]
  ·simp [h,look_none (M:=r)]
def mapV {α β:Type} (f:α→β)(M:List (Int × α)):List (Int × β):=M.map fun p=>(p.1,f p.2)
theorem mapV_length {α β:Type} (f:α→β)(M:List (Int × α)):(mapV f M).length=M.length:=by simp [mapV]
theorem look_map {α β:Type} (f:α→β)(k:Int):∀ M:List (Int × α),lookM (mapV f M) k=(lookM M k).map f
 | []=>rfl
 | p :: r=>by
  have:=look_map f k r
  simp only [mapV,List.map_cons,lookM] at this ⊢
  split
  ·rfl
  ·exact this
theorem put_map {α β:Type} (f:α→β)(k:Int)(v:α):∀ M:List (Int × α),putM (mapV f M) k (f v)=mapV f (putM M k v)
 | []=>rfl
 | p :: r=>by
  have:=put_map f k v r
  simp only [mapV,List.map_cons,putM] at this ⊢
  split
  ·simp
  ·split
   ·simp
   ·simp [this]
theorem del_map {α β:Type} (f:α→β)(k:Int)(M:List (Int × α)):delM (mapV f M) k=mapV f (delM M k):=by
 simp only [delM,mapV,List.filter_map];rfl
/-! ## in memory -/
section
variable {P : Program} {K : TypeId}
def MapI (P:Program)(K:TypeId)(w:World)(b:Nat)(M:List (Int × Value)):Prop:=w.ownsMap P K asIs b M.length (toD M)
theorem owns_size {R:Value→Option (DataW Value × List MemPlace)} {w:World} {b n:Nat} {D:DataW Value} (h:w.ownsMap P K R b n D):w.ownsMap P K R b (Maps.size D) D:=by
 obtain⟨es,clock,hb,F,hs,rfl⟩:=h
 exact⟨es,clock,hb,F,by simp [Maps.size,length_sorted],rfl⟩
theorem size_toD (M:List (Int × Value)):Maps.size (toD M)=M.length:=by simp [toD,Maps.size]
theorem MapI.of {w:World} {b n:Nat} {M:List (Int × Value)} (h:w.ownsMap P K asIs b n (toD M)):MapI P K w b M:=by
 have:=owns_size h;rw [size_toD] at this;exact this
theorem MapI.rising {w:World} {b:Nat} {M:List (Int × Value)} (h:MapI P K w b M)(hK:Keyed P K):Rising M:=by
 obtain⟨es,he,hs,_⟩:=World.ownsMap.canon h hK
 injection he with he
 rw [← he,List.pairwise_map] at hs
 exact hs.imp (fun {p q} h=>by
  have:(Lit.int .i64 p.1).before (.int .i64 q.1)=true:=h
  rw [before_int] at this
  exact of_decide_eq_true this)
theorem MapI.lt {w:World} {b:Nat} {M:List (Int × Value)} (h:MapI P K w b M):b < w.heap.size:=World.ownsMap.lt h
theorem MapI.heap {w w':World} {b:Nat} {M:List (Int × Value)} (h:MapI P K w b M)(hb:w'.heap[b]?=w.heap[b]?):MapI P K w' b M:=by
 obtain⟨es,clock,h1,F,hs,hD⟩:=h
 exact⟨es,clock,hb.trans h1,F,hs,hD⟩
theorem keyOf_mk (hu:P.underlying K=some (.int .i64)) {k:Int} (hk:(Lit.int .i64 k).wf=true):keyOf P K (.int .i64 k)=some (.int .i64 k):=keyOf_int_mk hu hk
theorem MapI.look {w:World} {b:Nat} {M:List (Int × Value)} {T E:TypeId} {z:Value} {k:Int} (h:MapI P K w b M)(hu:P.underlying K=some (.int .i64))(hT:P.underlying T=some (.map K E))(hz:(zeroValue E).run P w=.ok z w)
  (hk:(Lit.int .i64 k).wf=true):(Instr.lookup T (.map (some b)) (.int .i64 k) false).run P w=.ok ((lookM M k).getD z) w:=by
 obtain⟨v,ps,hr,hv⟩:=World.ownsMap.lookup h (int_keyed hu) hT hz (zd:=.held z) (zp:=[]) rfl (keyOf_mk hu hk)
 rw [toD_at] at hv
 rw [hr,asIs_inv hv]
theorem MapI.look_ok {w:World} {b:Nat} {M:List (Int × Value)} {T E:TypeId} {z:Value} {k:Int} (h:MapI P K w b M)(hu:P.underlying K=some (.int .i64))(hT:P.underlying T=some (.map K E))(hz:(zeroValue E).run P w=.ok z w)
  (hk:(Lit.int .i64 k).wf=true):(Instr.lookup T (.map (some b)) (.int .i64 k) true).run P w=.ok (.tuple #[(lookM M k).getD z,.bool (lookM M k).isSome]) w:=by
 obtain⟨v,ps,hr,hv⟩:=World.ownsMap.look_ok h (int_keyed hu) hT hz (zd:=.held z) (zp:=[]) rfl (keyOf_mk hu hk)
 rw [toD_at] at hv
 rw [hr,asIs_inv hv,toD_has]
theorem MapI.store {w:World} {b:Nat} {M:List (Int × Value)} {T E:TypeId} {k:Int} (h:MapI P K w b M)(hu:P.underlying K=some (.int .i64))(hT:P.underlying T=some (.map K E))
  (hk:(Lit.int .i64 k).wf=true) (hn:M.length < maxLen) (v:Value):∃ w',(Instr.mapUpdate T (.map (some b)) (.int .i64 k) v).run P w=.ok () w'∧MapI P K w' b (putM M k v)∧w.mapTurned w' b:=by
 obtain⟨w',hr,ho,ht⟩:=World.ownsMap.store h (int_keyed hu) hT hn (keyOf_mk hu hk) (d:=.held v) (ps:=[]) (val:=v) rfl
 rw [toD_put k v (h.rising (int_keyed hu))] at ho
 exact⟨w',hr,.of ho,ht⟩
theorem MapI.drop {w:World} {b:Nat} {M:List (Int × Value)} {T E:TypeId} {k:Int} (h:MapI P K w b M)(hu:P.underlying K=some (.int .i64))(hT:P.underlying T=some (.map K E))
  (hk:(Lit.int .i64 k).wf=true) (ty:TypeId):∃ w',(Builtin.delete_ #[T,K] ty #[.map (some b),.int .i64 k]).run P w=.ok (.tuple #[]) w'∧MapI P K w' b (delM M k)∧w.mapTurned w' b:=by
 obtain⟨w',hr,ho,ht⟩:=World.ownsMap.drop h (int_keyed hu) hT (keyOf_mk hu hk) ty
 rw [toD_del] at ho
 exact⟨w',hr,.of ho,ht⟩
theorem MapI.made (w:World):MapI P K (w.alloc (.map #[] 0)) w.heap.size []:=World.ownsMap_made w P K asIs
end
end
section
structure Rn where
 F:Int
 L:Int
 R:Int
 x:Int
 A:List (Int × Int)
structure Mem where
 tot:Int
 v:Int
 rn:Rn
 aw:Bool
structure Fam where
 m:List (Int × Mem)
 mark:Int
structure Cls where
 pa:Int
 lf:Bool
 sh:Bool
 tot:Int
 lim:Option Rn
 fam:Fam
 tr:List En
 un:Int
abbrev Pk:=List (Int × Cls)
def nevC:Int:=9223372036854775808
def capC:Int:=4611686018427387904
def startR (r:Rn)(t y:Int):Rn:={ r with x:=max (min t nevC) r.x,A:=r.A ++ [(max (min t nevC) r.x,min y capC)] }
def rn0 (c:Int × Int × Int):Rn:=⟨c.1,c.2.1,c.2.2,0,[]⟩
def fam0:Fam:=⟨[],0⟩
def lowV:List En→Option Int
 | []=>none
 | e :: L=>some (match lowV L with
  | none=>e.2
  | some m=>min e.2 m)
theorem lowV_none {L:List En}:lowV L=none↔L=[]:=by
 cases L <;> simp [lowV]
theorem lowV_spec:∀ {L:List En} {m:Int},lowV L=some m→(∃ e∈L,e.2=m)∧∀ e∈L,m≤e.2
 | [],m,h=>by cases h
 | e :: L,m,h=>by
  unfold lowV at h
  cases hl:lowV L with
  | none =>
   rw [hl] at h
   have h:=Option.some.inj h
   dsimp only at h
   obtain rfl:=lowV_none.1 hl
   exact⟨⟨e,.head _,h⟩,fun x hx=>by rw [List.mem_singleton.1 hx,h];exact Int.le_refl _⟩
  | some k =>
   rw [hl] at h
   have h:=Option.some.inj h
   dsimp only at h
   obtain⟨⟨y,hy,hyk⟩,hk⟩:=lowV_spec hl
   refine⟨?_,fun x hx=>?_⟩
   ·by_cases hc:e.2≤k
    ·exact⟨e,.head _,by omega⟩
    ·exact⟨y,.tail _ hy,by omega⟩
   ·rcases List.mem_cons.1 hx with rfl | hx
    ·omega
    ·have:=hk x hx;omega
def withinV (L:List En)(v:Int):Option Int:=(L.find? fun e=>decide (e.2≤v)).map (·.1.2)
def updP (P:Pk)(id:Int)(f:Cls→Cls):Pk:=match lookM P id with
 | none=>P
 | some c=>putM P id (f c)
theorem look_upd (P:Pk)(id:Int)(f:Cls→Cls)(j:Int):lookM (updP P id f) j=if j=id then (lookM P id).map f else lookM P j:=by
 unfold updP
 cases h:lookM P id with
 | none =>
  by_cases e:j=id
  ·subst e;rw [if_pos rfl];exact h
  ·rw [if_neg e]
 | some c =>
  by_cases e:j=id
  ·subst e;rw [if_pos rfl];exact look_put_same _ _ _
  ·rw [if_neg e];exact look_put_other _ e _
theorem rising_upd {P:Pk} (h:Rising P)(id:Int)(f:Cls→Cls):Rising (updP P id f):=by
 unfold updP
 cases lookM P id with
 | none=>exact h
 | some c=>exact rising_put _ _ h
def paP (P:Pk)(id:Int):Option Int:=(lookM P id).map (·.pa)
def famP (P:Pk)(id:Int):Option Fam:=(lookM P id).map (·.fam)
def memP (P:Pk)(id:Int):Option Mem:=(paP P id).bind fun q=>(famP P q).bind fun f=>lookM f.m id
def awP (P:Pk)(id:Int):Bool:=decide (0 < id) && (match memP P id with
 | none=>false
 | some m=>m.aw)
def vP (P:Pk)(id:Int):Int:=if 0 < id then (match memP P id with
 | none=>0
 | some m=>m.v) else 0
theorem memP_congr {P Q:Pk} {id:Int} (h1:paP Q id=paP P id)(h2:∀ q,paP P id=some q→(famP Q q).bind (fun f=>lookM f.m id)=(famP P q).bind (fun f=>lookM f.m id)):memP Q id=memP P id:=by
 unfold memP
 rw [h1]
 cases h:paP P id with
 | none=>rfl
 | some q=>exact h2 q h
theorem awP_congr {P Q:Pk} {id:Int} (h:memP Q id=memP P id):awP Q id=awP P id:=by unfold awP;rw [h]
theorem vP_congr {P Q:Pk} {id:Int} (h:memP Q id=memP P id):vP Q id=vP P id:=by unfold vP;rw [h]
theorem paP_upd {P:Pk} {id:Int} {f:Cls→Cls} (hf:∀ c,(f c).pa=c.pa)(j:Int):paP (updP P id f) j=paP P j:=by
 unfold paP
 rw [look_upd]
 by_cases e:j=id
 ·subst e
  rw [if_pos rfl]
  cases lookM P j with
  | none=>rfl
  | some c=>exact congrArg some (hf c)
 ·rw [if_neg e]
theorem famP_upd {P:Pk} {id:Int} {f:Cls→Cls} (hf:∀ c,(f c).fam=c.fam)(j:Int):famP (updP P id f) j=famP P j:=by
 unfold famP
 rw [look_upd]
 by_cases e:j=id
 ·subst e
  rw [if_pos rfl]
  cases lookM P j with
  | none=>rfl
  | some c=>exact congrArg some (hf c)
 ·rw [if_neg e]
theorem memP_upd {P:Pk} {id:Int} {f:Cls→Cls} (h1:∀ c,(f c).pa=c.pa)(h2:∀ c,(f c).fam=c.fam)(j:Int):memP (updP P id f) j=memP P j :=
 memP_congr (paP_upd h1 j) fun q _=>by rw [famP_upd h2]
section
variable (ow : Option Rn → Int → Int)
def fitC (c:Cls):Int:=if c.lf=true then ow c.lim c.tot else match lowV c.tr with
 | none=>nevC
 | some l=>max (ow c.lim c.tot) l
def fitP (P:Pk)(id:Int):Int:=match lookM P id with
 | none=>0
 | some c=>fitC ow c
def noteP (P:Pk)(id:Int):Pk:=match paP P id with
 | none=>P
 | some q=>updP P q fun p=>{ p with tr:=if awP P id=true then putI p.tr id (vP P id) (fitP ow P id) else dropI p.tr id }
end
structure WfP (dp:Int→Nat)(P:Pk):Prop where
 rise:Rising P
 root:∃ c,lookM P 0=some c∧c.lf=false
 par:∀ id c,lookM P id=some c→id≠0→∃ p,lookM P c.pa=some p∧p.lf=false∧dp id=dp c.pa+1
 pos:∀ id c,lookM P id=some c→0≤id
 inv:∀ id c,lookM P id=some c→InvE c.tr
 kids:∀ id c e,lookM P id=some c→e∈c.tr→0 < e.1.2∧paP P e.1.2=some id
def NotedBut (ow:Option Rn→Int→Int)(P:Pk)(X:Int→Prop):Prop:=∀ id c p,0 < id→¬ X id→lookM P id=some c→lookM P c.pa=some p→getE p.tr id=if awP P id=true then some ((vP P id,id),fitC ow c) else none
structure Mild (f:Cls→Cls):Prop where
 pa:∀ c,(f c).pa=c.pa
 lf:∀ c,(f c).lf=c.lf
 tr:∀ c,(f c).tr=c.tr
theorem WfP.mild {dp:Int→Nat} {P:Pk} (h:WfP dp P)(id:Int) {f:Cls→Cls} (hf:Mild f):WfP dp (updP P id f):=by
 have look:∀ j c',lookM (updP P id f) j=some c'→∃ c,lookM P j=some c∧c'.pa=c.pa∧c'.lf=c.lf∧c'.tr=c.tr:=fun j c' hj=>by
  rw [look_upd] at hj
  by_cases e:j=id
  ·subst e
   rw [if_pos rfl] at hj
   obtain⟨c,hc,rfl⟩:=Option.map_eq_some_iff.1 hj
   exact⟨c,hc,hf.pa c,hf.lf c,hf.tr c⟩
  ·rw [if_neg e] at hj
   exact⟨c',hj,rfl,rfl,rfl⟩
 have back:∀ j c,lookM P j=some c→∃ c',lookM (updP P id f) j=some c'∧c'.lf=c.lf:=fun j c hj=>by
  rw [look_upd]
  by_cases e:j=id
  ·subst e
   rw [if_pos rfl,hj]
   exact⟨f c,rfl,hf.lf c⟩
  ·rw [if_neg e]
   exact⟨c,hj,rfl⟩
 refine⟨rising_upd h.rise _ _,?_,fun j c' hj hne=>?_,fun j c' hj=>?_,fun j c' hj=>?_,fun j c' e hj he=>?_⟩
 ·obtain⟨c,hc,hl⟩:=h.root
  obtain⟨c',h1,h2⟩:=back 0 c hc
  exact⟨c',h1,h2.trans hl⟩
 ·obtain⟨c,hc,h1,h2,h3⟩:=look j c' hj
  obtain⟨p,hp,hl,hd⟩:=h.par j c hc hne
  obtain⟨p',h4,h5⟩:=back c.pa p hp
  rw [h1]
  exact⟨p',h4,h5.trans hl,hd⟩
 ·obtain⟨c,hc,_⟩:=look j c' hj
  exact h.pos j c hc
 ·obtain⟨c,hc,_,_,h3⟩:=look j c' hj
  rw [h3]
  exact h.inv j c hc
 ·obtain⟨c,hc,_,_,h3⟩:=look j c' hj
  rw [h3] at he
  rw [paP_upd hf.pa]
  exact h.kids j c e hc he
theorem paP_some {P:Pk} {id q:Int} (h:paP P id=some q):∃ c,lookM P id=some c∧c.pa=q:=by
 obtain⟨c,hc,e⟩:=Option.map_eq_some_iff.1 h
 exact⟨c,hc,e⟩
theorem paP_of {P:Pk} {id:Int} {c:Cls} (h:lookM P id=some c):paP P id=some c.pa:=by unfold paP;rw [h];rfl
theorem note_step {ow:Option Rn→Int→Int} {dp:Int→Nat} {P:Pk} {X:Int→Prop} (hW:WfP dp P)(h:NotedBut ow P X) {id:Int} {c:Cls} (hid:0 < id)(hc:lookM P id=some c) :
  WfP dp (noteP ow P id)∧NotedBut ow (noteP ow P id) (fun j=>(X j∧j≠id)∨j=c.pa)∧(∀ j,memP (noteP ow P id) j=memP P j)∧(∀ j,paP (noteP ow P id) j=paP P j):=by
 obtain⟨p,hp,hpl,hdp⟩:=hW.par id c hc (by omega)
 have hne:c.pa≠id:=fun e=>by rw [e] at hdp;omega
 have hpa:=paP_of hc
 obtain⟨t,ht⟩:∃ t,t=(if awP P id=true then putI p.tr id (vP P id) (fitP ow P id) else dropI p.tr id):=⟨_,rfl⟩
 have hN:noteP ow P id=updP P c.pa fun p=>{ p with tr:=if awP P id=true then putI p.tr id (vP P id) (fitP ow P id) else dropI p.tr id }:=by unfold noteP;rw [hpa]
 have hlook:∀ j,lookM (noteP ow P id) j=if j=c.pa then some { p with tr:=t } else lookM P j:=fun j=>by
  rw [hN,look_upd,hp,ht]
  rfl
 have hpaj:∀ j,paP (noteP ow P id) j=paP P j:=fun j=>by rw [hN];exact paP_upd (by intro c;rfl) j
 have hmem:∀ j,memP (noteP ow P id) j=memP P j:=fun j=>by rw [hN];exact memP_upd (by intro c;rfl) (by intro c;rfl) j
 have hit:InvE t:=by
  have:=hW.inv _ _ hp
  rw [ht]
  split
  ·exact this.put _ _ _
  ·exact this.drop _
 refine⟨⟨?_,?_,fun j c' hj hne'=>?_,fun j c' hj=>?_,fun j c' hj=>?_,fun j c' e hj he=>?_⟩,fun j c' p' hj hX hcj hpj=>?_,hmem,hpaj⟩
 ·rw [hN];exact rising_upd hW.rise _ _
 ·obtain⟨r,hr,hl⟩:=hW.root
  rw [hlook]
  by_cases e:0=c.pa
  ·rw [if_pos e];exact⟨_,rfl,hpl⟩
  ·rw [if_neg e];exact⟨r,hr,hl⟩
 ·have:∃ k,lookM P j=some k∧k.pa=c'.pa:=by
   rw [hlook] at hj
   by_cases e:j=c.pa
   ·rw [if_pos e] at hj;cases hj;exact⟨p,by rw [e];exact hp,rfl⟩
   ·rw [if_neg e] at hj;exact⟨c',hj,rfl⟩
  obtain⟨k,hk,hkp⟩:=this
  obtain⟨q,hq,hql,hqd⟩:=hW.par j k hk hne'
  rw [← hkp,hlook]
  by_cases e:k.pa=c.pa
  ·rw [if_pos e];exact⟨_,rfl,hpl,hqd⟩
  ·rw [if_neg e];exact⟨q,hq,hql,hqd⟩
 ·rw [hlook] at hj
  by_cases e:j=c.pa
  ·rw [e];exact hW.pos _ _ hp
  ·rw [if_neg e] at hj;exact hW.pos _ _ hj
 ·rw [hlook] at hj
  by_cases e:j=c.pa
  ·rw [if_pos e] at hj;cases hj;exact hit
  ·rw [if_neg e] at hj;exact hW.inv _ _ hj
 ·rw [hpaj]
  rw [hlook] at hj
  by_cases e2:j=c.pa
  ·rw [if_pos e2] at hj
   cases hj
   dsimp only at he
   rw [ht] at he
   rw [e2]
   have key:e.1.2=id∨e∈p.tr:=by
    split at he
    ·rcases mem_put.1 he with rfl | he
     ·exact .inl rfl
     ·exact .inr he.1
    ·exact .inr (mem_drop.1 he).1
   rcases key with key | key
   ·rw [key];exact⟨hid,hpa⟩
   ·exact hW.kids _ _ _ hp key
  ·rw [if_neg e2] at hj
   exact hW.kids _ _ _ hj he
 ·rw [awP_congr (hmem j),vP_congr (hmem j)]
  have hjpa:j≠c.pa:=fun e=>hX (.inr e)
  rw [hlook,if_neg hjpa] at hcj
  rw [hlook] at hpj
  have hio:=hW.inv _ _ hp
  by_cases e:c'.pa=c.pa
  ·rw [if_pos e] at hpj
   cases hpj
   dsimp only
   by_cases e2:j=id
   ·subst e2
    rw [hc] at hcj
    cases hcj
    rw [ht]
    have hft:fitP ow P j=fitC ow c:=by unfold fitP;rw [hc]
    by_cases ha:awP P j=true
    ·rw [if_pos ha,if_pos ha,get_put hio,if_pos rfl,hft]
    ·rw [if_neg ha,if_neg ha,get_drop hio,if_pos rfl]
   ·have h1:=h j c' p hj (fun hx=>hX (.inl ⟨hx,e2⟩)) hcj (by rw [e];exact hp)
    rw [← h1,ht]
    split
    ·rw [get_put hio,if_neg e2]
    ·rw [get_drop hio,if_neg e2]
  ·rw [if_neg e] at hpj
   by_cases e2:j=id
   ·subst e2
    rw [hc] at hcj
    cases hcj
    exact absurd rfl e
   ·exact h j c' p' hj (fun hx=>hX (.inl ⟨hx,e2⟩)) hcj hpj
end
section
def statP (P:Pk)(j:Int):Option (Int × Bool × Bool × Int):=(lookM P j).map fun c=>(c.pa,c.lf,c.sh,c.un)
theorem pa_of_stat {P Q:Pk} {j:Int} (h:statP Q j=statP P j):paP Q j=paP P j:=by
 have e:∀ R:Pk,paP R j=(statP R j).map (·.1):=fun R=>by
  unfold paP statP
  cases lookM R j <;> rfl
 rw [e,e,h]
theorem stat_back {P Q:Pk} {j:Int} {c':Cls} (h:statP Q j=statP P j)(hc:lookM Q j=some c'):∃ c,lookM P j=some c∧c'.pa=c.pa∧c'.lf=c.lf∧c'.sh=c.sh∧c'.un=c.un:=by
 unfold statP at h
 rw [hc] at h
 cases hp:lookM P j with
 | none=>rw [hp] at h;cases h
 | some c =>
  rw [hp] at h
  have h:=Option.some.inj h
  simp only [Prod.mk.injEq] at h
  exact⟨c,rfl,h.1,h.2.1,h.2.2.1,h.2.2.2⟩
theorem stat_upd {P:Pk} {q:Int} {f:Cls→Cls} (hf:∀ c,(f c).pa=c.pa∧(f c).lf=c.lf∧(f c).sh=c.sh∧(f c).un=c.un)(j:Int):statP (updP P q f) j=statP P j:=by
 unfold statP
 rw [look_upd]
 by_cases e:j=q
 ·subst e
  rw [if_pos rfl]
  cases lookM P j with
  | none=>rfl
  | some c =>
   obtain⟨h1,h2,h3,h4⟩:=hf c
   show some ((f c).pa,(f c).lf,(f c).sh,(f c).un)=_
   rw [h1,h2,h3,h4];rfl
 ·rw [if_neg e]
theorem NotedBut.weak {ow:Option Rn→Int→Int} {P:Pk} {X Y:Int→Prop} (h:NotedBut ow P X)(hXY:∀ j,0 < j→X j→Y j):NotedBut ow P Y :=
 fun id c p hid hY hc hp=>h id c p hid (fun hX=>hY (hXY id hid hX)) hc hp
theorem NotedBut.upd {ow:Option Rn→Int→Int} {P:Pk} {X:Int→Prop} {q:Int} {f:Cls→Cls} (h:NotedBut ow P X)(hf:Mild f)(hm:∀ j,¬ X j→memP (updP P q f) j=memP P j)(hc:X q∨∀ c,fitC ow (f c)=fitC ow c):NotedBut ow (updP P q f) X:=by
 intro id c' p' hid hX hc' hp'
 obtain⟨c,hcc,hfit,hpa⟩:∃ c,lookM P id=some c∧fitC ow c'=fitC ow c∧c'.pa=c.pa:=by
  rw [look_upd] at hc'
  by_cases e:id=q
  ·rw [if_pos e] at hc'
   obtain⟨c,h1,rfl⟩:=Option.map_eq_some_iff.1 hc'
   refine⟨c,e ▸ h1,?_,hf.pa c⟩
   rcases hc with hc | hc
   ·exact absurd (e ▸ hc) hX
   ·exact hc c
  ·rw [if_neg e] at hc'
   exact⟨c',hc',rfl,rfl⟩
 obtain⟨p,hpp,htr⟩:∃ p,lookM P c.pa=some p∧p'.tr=p.tr:=by
  rw [hpa,look_upd] at hp'
  by_cases e:c.pa=q
  ·rw [if_pos e] at hp'
   obtain⟨p,h1,rfl⟩:=Option.map_eq_some_iff.1 hp'
   exact⟨p,e ▸ h1,hf.tr p⟩
  ·rw [if_neg e] at hp'
   exact⟨p',hp',rfl⟩
 rw [htr,awP_congr (hm id hX),vP_congr (hm id hX),hfit]
 exact h id c p hid hX hcc hpp
inductive Up (P:Pk):Int→List Int→Prop
 | root:Up P 0 []
 | step {id q:Int} {l:List Int}:0 < id→paP P id=some q→Up P q l→Up P id (id :: l)
theorem Up.congr {P Q:Pk} (h:∀ j,paP Q j=paP P j):∀ {id:Int} {l:List Int},Up P id l→Up Q id l
 | _,_,.root=>.root
 | _,_,.step h1 h2 h3=>.step h1 ((h _).trans h2) (h3.congr h)
theorem Up.pos {P:Pk}:∀ {id:Int} {l:List Int},Up P id l→∀ j∈l,0 < j
 | _,_,.root,j,hj=>by cases hj
 | _,_,.step h1 h2 h3,j,hj=>by
  rcases List.mem_cons.1 hj with rfl | hj
  ·exact h1
  ·exact h3.pos j hj
theorem Up.is {P:Pk}:∀ {id:Int} {l:List Int},Up P id l→∀ j∈l,∃ q,paP P j=some q∧(q=0∨q∈l)
 | _,_,.root,j,hj=>by cases hj
 | _,_,.step h1 h2 h3,j,hj=>by
  rcases List.mem_cons.1 hj with rfl | hj
  ·refine⟨_,h2,?_⟩
   cases h3 with
   | root=>exact .inl rfl
   | step k1 k2 k3=>exact .inr (.tail _ (.head _))
  ·obtain⟨q,hq,h⟩:=h3.is j hj
   exact⟨q,hq,h.imp id fun h=>.tail _ h⟩
theorem Up.dp {dp:Int→Nat} {P:Pk} (hW:WfP dp P):∀ {id:Int} {l:List Int},Up P id l→∀ j∈l,dp j≤dp id
 | _,_,.root,j,hj=>by cases hj
 | _,_,.step h1 h2 h3,j,hj=>by
  rcases List.mem_cons.1 hj with rfl | hj
  ·exact Nat.le_refl _
  ·have:=h3.dp hW j hj
   obtain⟨c,hc,rfl⟩:=paP_some h2
   obtain⟨p,_,_,hd⟩:=hW.par _ c hc (by omega)
   omega
theorem Up.fresh {dp:Int→Nat} {P:Pk} (hW:WfP dp P) {id:Int} {l:List Int} (h:Up P id (id :: l)):id ∉ l:=by
 cases h with
 | step h1 h2 h3 =>
  intro hm
  have:=h3.dp hW id hm
  obtain⟨c,hc,rfl⟩:=paP_some h2
  obtain⟨p,_,_,hd⟩:=hW.par _ c hc (by omega)
  omega
theorem Up.fresh_head {dp:Int→Nat} {P:Pk} (hW:WfP dp P) {id k:Int} {l:List Int} (h:Up P id (k :: l)):k ∉ l:=by
 have e:k=id:=by cases h;rfl
 subst e
 exact h.fresh hW
def kf (P:Pk)(q j:Int):Bool:=((famP P q).bind fun f=>lookM f.m j).isSome
theorem kf_upd {P:Pk} {id:Int} {f:Cls→Cls} (hf:∀ c j,(lookM (f c).fam.m j).isSome=(lookM c.fam.m j).isSome)(q j:Int):kf (updP P id f) q j=kf P q j:=by
 unfold kf famP
 rw [look_upd]
 by_cases e:q=id
 ·subst e
  rw [if_pos rfl]
  cases lookM P q with
  | none=>rfl
  | some c=>exact hf c j
 ·rw [if_neg e]
def KeepK (g:Fam→Fam):Prop:=∀ f j,(lookM (g f).m j).isSome=(lookM f.m j).isSome
structure Moved (ow:Option Rn→Int→Int)(dp:Int→Nat)(X:Int→Prop)(P P':Pk):Prop where
 wf:WfP dp P→WfP dp P'
 noted:NotedBut ow P X→NotedBut ow P' X
 stat:∀ j,statP P' j=statP P j
 mem:∀ j,¬ X j→memP P' j=memP P j
 keys:∀ q j,kf P' q j=kf P q j
theorem Moved.refl (ow:Option Rn→Int→Int)(dp:Int→Nat)(X:Int→Prop)(P:Pk):Moved ow dp X P P:=⟨id,id,fun _=>rfl,fun _ _=>rfl,fun _ _=>rfl⟩
theorem Moved.trans {ow:Option Rn→Int→Int} {dp:Int→Nat} {X:Int→Prop} {P Q R:Pk} (h:Moved ow dp X P Q)(k:Moved ow dp X Q R):Moved ow dp X P R :=
 ⟨fun w=>k.wf (h.wf w),fun n=>k.noted (h.noted n),fun j=>(k.stat j).trans (h.stat j),fun j hj=>(k.mem j hj).trans (h.mem j hj),fun q j=>(k.keys q j).trans (h.keys q j)⟩
theorem Moved.pa {ow:Option Rn→Int→Int} {dp:Int→Nat} {X:Int→Prop} {P Q:Pk} (h:Moved ow dp X P Q)(j:Int):paP Q j=paP P j:=pa_of_stat (h.stat j)
def shP (P:Pk)(id:Int):Bool:=match lookM P id with
 | none=>false
 | some c=>c.sh
def lfP (P:Pk)(id:Int):Bool:=match lookM P id with
 | none=>false
 | some c=>c.lf
theorem sh_of_stat {P Q:Pk} {j:Int} (h:statP Q j=statP P j):shP Q j=shP P j:=by
 have e:∀ R:Pk,shP R j=((statP R j).map (·.2.2.1)).getD false:=fun R=>by
  unfold shP statP
  cases lookM R j <;> rfl
 rw [e,e,h]
theorem lf_of_stat {P Q:Pk} {j:Int} (h:statP Q j=statP P j):lfP Q j=lfP P j:=by
 have e:∀ R:Pk,lfP R j=((statP R j).map (·.2.1)).getD false:=fun R=>by
  unfold lfP statP
  cases lookM R j <;> rfl
 rw [e,e,h]
def updF (P:Pk)(id:Int)(g:Fam→Fam):Pk:=match paP P id with
 | none=>P
 | some q=>updP P q fun p=>{ p with fam:=g p.fam }
def OnlyM (id:Int)(g:Fam→Fam):Prop:=∀ f j,j≠id→lookM (g f).m j=lookM f.m j
theorem updF_moved {ow:Option Rn→Int→Int} {dp:Int→Nat} {X:Int→Prop} {P:Pk} {id:Int} {g:Fam→Fam} (hg:OnlyM id g)(hk:KeepK g)(hX:X id):Moved ow dp X P (updF P id g):=by
 unfold updF
 cases hq:paP P id with
 | none=>exact Moved.refl _ _ _ _
 | some q =>
  dsimp only
  have hmild:Mild fun p:Cls=>{ p with fam:=g p.fam }:=⟨fun _=>rfl,fun _=>rfl,fun _=>rfl⟩
  have hm:∀ j,¬ X j→memP (updP P q fun p=>{ p with fam:=g p.fam }) j=memP P j:=fun j hj=>by
   refine memP_congr (paP_upd hmild.pa j) fun r hr=>?_
   unfold famP
   rw [look_upd]
   by_cases e:r=q
   ·subst e
    rw [if_pos rfl]
    cases lookM P r with
    | none=>rfl
    | some p =>
     show lookM (g p.fam).m j=lookM p.fam.m j
     exact hg _ _ fun e=>hj (e ▸ hX)
   ·rw [if_neg e]
  exact⟨fun w=>w.mild q hmild,fun n=>n.upd hmild hm (.inr fun _=>rfl),fun j=>stat_upd (by intro c;exact⟨rfl,rfl,rfl,rfl⟩) j,hm,fun q j=>kf_upd (fun c j=>hk c.fam j) q j⟩
theorem memP_is {P:Pk} {id:Int} {c p:Cls} (hc:lookM P id=some c)(hp:lookM P c.pa=some p):memP P id=lookM p.fam.m id:=by
 unfold memP
 rw [paP_of hc]
 show (famP P c.pa).bind _=_
 unfold famP
 rw [hp];rfl
theorem memP_updF {P:Pk} {id:Int} {g:Fam→Fam} {c p:Cls} (hc:lookM P id=some c)(hp:lookM P c.pa=some p):memP (updF P id g) id=lookM (g p.fam).m id:=by
 have h1:updF P id g=updP P c.pa fun p=>{ p with fam:=g p.fam }:=by unfold updF;rw [paP_of hc]
 unfold memP
 rw [h1,paP_upd (by intro c;rfl) id,paP_of hc]
 show (famP _ c.pa).bind _=_
 unfold famP
 rw [look_upd,if_pos rfl,hp];rfl
theorem upd_moved {ow:Option Rn→Int→Int} {dp:Int→Nat} {X:Int→Prop} {P:Pk} {id:Int} {f:Cls→Cls} (hf:Mild f)(hs:∀ c,(f c).sh=c.sh∧(f c).un=c.un∧(f c).fam=c.fam)(hX:X id):Moved ow dp X P (updP P id f) :=
 ⟨fun w=>w.mild id hf,fun n=>n.upd hf (fun j _=>memP_upd hf.pa (fun c=>(hs c).2.2) j) (.inl hX),fun j=>stat_upd (fun c=>⟨hf.pa c,hf.lf c,(hs c).1,(hs c).2.1⟩) j,fun j _=>memP_upd hf.pa (fun c=>(hs c).2.2) j,fun q j=>kf_upd (fun c j=>by rw [(hs c).2.2]) q j⟩
theorem notes_all {ow : Option Rn → Int → Int} {dp : Int → Nat} : ∀ {l : List Int} {id : Int} {P : Pk}, Up P id l → WfP dp P → NotedBut ow P (· ∈ l) → WfP dp (l.foldl (noteP ow) P) ∧ NotedBut ow (l.foldl (noteP ow) P) (fun _ => False) ∧ (∀ j, memP (l.foldl (noteP ow) P) j = memP P j) ∧ (∀ j, paP (l.foldl (noteP ow) P) j = paP P j)
  | [], id, P, hU, hW, hN => ⟨hW, hN.weak (fun j _ h => (by cases h)), fun _ => rfl, fun _ => rfl⟩
  | k :: l, id, P, hU, hW, hN => by
    cases hU with
    | step h1 h2 h3 =>
      obtain ⟨c, hc, hcq⟩ := paP_some h2
      obtain ⟨a1, a2, a3, a4⟩ := note_step (ow := ow) hW hN h1 hc
      have hU2 := h3.congr a4
      rw [hcq] at a2
      have hN2 : NotedBut ow (noteP ow P k) (· ∈ l) := a2.weak fun j hj h => by
        rcases h with ⟨hm, hne⟩ | h
        · rcases List.mem_cons.1 hm with hm | hm
          · exact absurd hm hne
          · exact hm
        · cases h3 with
          | root => omega
          | step k1 k2 k3 => rw [h]; exact .head _
      obtain ⟨b1, b2, b3, b4⟩ := notes_all hU2 a1 hN2
      exact ⟨b1, b2, fun j => (b3 j).trans (a3 j), fun j => (b4 j).trans (a4 j)⟩
theorem note_stat (ow:Option Rn→Int→Int)(P:Pk)(id j:Int):statP (noteP ow P id) j=statP P j:=by
 unfold noteP
 cases paP P id with
 | none=>rfl
 | some q=>exact stat_upd (by intro c;exact⟨rfl,rfl,rfl,rfl⟩) j
theorem notes_stat (ow:Option Rn→Int→Int):∀ (l:List Int)(P:Pk)(j:Int),statP (l.foldl (noteP ow) P) j=statP P j
 | [],_,_=>rfl
 | k :: l,P,j=>(notes_stat ow l _ j).trans (note_stat ow P k j)
theorem note_keys (ow:Option Rn→Int→Int)(P:Pk)(id q j:Int):kf (noteP ow P id) q j=kf P q j:=by
 unfold noteP
 cases paP P id with
 | none=>rfl
 | some q=>exact kf_upd (f:=fun p=>{ p with tr:=if awP P id=true then putI p.tr id (vP P id) (fitP ow P id) else dropI p.tr id }) (fun c j=>rfl) _ j
theorem notes_keys (ow:Option Rn→Int→Int):∀ (l:List Int)(P:Pk)(q j:Int),kf (l.foldl (noteP ow) P) q j=kf P q j
 | [],_,_,_=>rfl
 | k :: l,P,q,j=>(notes_keys ow l _ q j).trans (note_keys ow P k q j)
end
section
def leastL:List Int→Int
 | []=>0
 | [a]=>a
 | a :: b :: l=>min a (leastL (b :: l))
def greatL:List Int→Int
 | []=>0
 | [a]=>a
 | a :: b :: l=>max a (greatL (b :: l))
def upV (f:Fam):List Int:=(f.m.filter fun q=>q.2.aw).map fun q=>q.2.v
def startV (f:Fam)(m:Mem):Int:=if upV f=[] then max m.v f.mark else max m.v (leastL (upV f)+(greatL (upV f) - leastL (upV f)) / 2)
def wakeF (id:Int)(f:Fam):Fam:=match lookM f.m id with
 | none=>f
 | some m=>if m.aw=true then f else ⟨putM f.m id ⟨m.tot,startV f m,startR m.rn (startV f m) m.tot,true⟩,max f.mark (startV f m)⟩
def sleepF (id:Int)(f:Fam):Fam:=match lookM f.m id with
 | none=>f
 | some m=>⟨putM f.m id { m with aw:=false },f.mark⟩
section
variable (rc : Rn → Int → Int)
def gainF (id n:Int)(f:Fam):Fam:=match lookM f.m id with
 | none=>f
 | some m=>if m.aw=true then ⟨putM f.m id { m with tot:=m.tot+min n (capC - m.tot),v:=rc m.rn (m.tot+min n (capC - m.tot)) },max f.mark (rc m.rn (m.tot+min n (capC - m.tot)))⟩
  else ⟨putM f.m id { m with tot:=m.tot+min n (capC - m.tot) },f.mark⟩
end
theorem only_wake (id:Int):OnlyM id (wakeF id):=fun f j hj=>by
 unfold wakeF
 cases lookM f.m id with
 | none=>rfl
 | some m =>
  dsimp only
  by_cases h:m.aw=true
  ·rw [if_pos h]
  ·rw [if_neg h];exact look_put_other _ hj _
theorem only_sleep (id:Int):OnlyM id (sleepF id):=fun f j hj=>by
 unfold sleepF
 cases lookM f.m id with
 | none=>rfl
 | some m=>exact look_put_other _ hj _
theorem only_gain (rc:Rn→Int→Int)(id n:Int):OnlyM id (gainF rc id n):=fun f j hj=>by
 unfold gainF
 cases lookM f.m id with
 | none=>rfl
 | some m =>
  dsimp only
  by_cases h:m.aw=true
  ·rw [if_pos h];exact look_put_other _ hj _
  ·rw [if_neg h];exact look_put_other _ hj _
theorem put_keeps {α:Type} {M:List (Int × α)} {id:Int} {m m':α} (h:lookM M id=some m)(j:Int):(lookM (putM M id m') j).isSome=(lookM M j).isSome:=by
 by_cases e:j=id
 ·subst e;rw [look_put_same,h];rfl
 ·rw [look_put_other _ e]
theorem keep_wake (id:Int):KeepK (wakeF id):=fun f j=>by
 unfold wakeF
 cases h:lookM f.m id with
 | none=>rfl
 | some m =>
  dsimp only
  by_cases ha:m.aw=true
  ·rw [if_pos ha]
  ·rw [if_neg ha];exact put_keeps h j
theorem keep_sleep (id:Int):KeepK (sleepF id):=fun f j=>by
 unfold sleepF
 cases h:lookM f.m id with
 | none=>rfl
 | some m=>exact put_keeps h j
theorem keep_gain (rc:Rn→Int→Int)(id n:Int):KeepK (gainF rc id n):=fun f j=>by
 unfold gainF
 cases h:lookM f.m id with
 | none=>rfl
 | some m =>
  dsimp only
  by_cases ha:m.aw=true
  ·rw [if_pos ha];exact put_keeps h j
  ·rw [if_neg ha];exact put_keeps h j
theorem wake_is {id:Int} {f:Fam} {m:Mem} (h:lookM f.m id=some m):∃ m',lookM (wakeF id f).m id=some m'∧m'.aw=true:=by
 unfold wakeF
 rw [h]
 dsimp only
 by_cases ha:m.aw=true
 ·rw [if_pos ha];exact⟨m,h,ha⟩
 ·rw [if_neg ha];exact⟨_,look_put_same _ _ _,rfl⟩
theorem sleep_is {id:Int} {f:Fam}:(lookM (sleepF id f).m id).map (·.aw)=(lookM f.m id).map (fun _=>false):=by
 unfold sleepF
 cases h:lookM f.m id with
 | none =>
  dsimp only
  rw [h];rfl
 | some m =>
  dsimp only
  rw [look_put_same];rfl
theorem gain_is {rc:Rn→Int→Int} {id n:Int} {f:Fam}:(lookM (gainF rc id n f).m id).map (·.aw)=(lookM f.m id).map (·.aw):=by
 unfold gainF
 cases h:lookM f.m id with
 | none =>
  dsimp only
  rw [h]
 | some m =>
  dsimp only
  by_cases ha:m.aw=true
  ·rw [if_pos ha,look_put_same];rfl
  ·rw [if_neg ha,look_put_same];rfl
theorem awP_map {P Q:Pk} {id:Int} (h:(memP Q id).map (·.aw)=(memP P id).map (·.aw)):awP Q id=awP P id:=by
 have e:∀ R:Pk,awP R id=(decide (0 < id) && (((memP R id).map (·.aw)).getD false)):=fun R=>by
  unfold awP
  cases memP R id <;> rfl
 rw [e,e,h]
section
variable (ow : Option Rn → Int → Int) (rc : Rn → Int → Int)
def wake1 (now:Int)(P:Pk)(id:Int):Pk:=if awP P id=true∨shP P id=false then P else updP (updF P id (wakeF id)) id fun c=>{ c with lim:=c.lim.map fun r=>startR r now c.tot }
def wakeP (now leaf:Int)(l:List Int)(P:Pk):Pk:=if lfP P leaf=true∧shP P leaf=true then l.foldl (noteP ow) (l.foldl (wake1 now) P) else P
def sent1 (n:Int)(P:Pk)(id:Int):Pk:=updF (updP P id fun c=>{ c with tot:=c.tot+min n (capC - c.tot) }) id (gainF rc id n)
def trP (P:Pk)(id:Int):List En:=match lookM P id with
 | none=>[]
 | some c=>c.tr
def sent2 (sl:Bool)(P:Pk)(id:Int):Pk:=noteP ow (if sl=true∧(lfP P id=true∨trP P id=[]) then updF P id (sleepF id) else P) id
def sentP (leaf n:Int)(more:Bool)(l:List Int)(P:Pk):Pk:=if lfP P leaf=true then l.foldl (sent2 ow (!more && awP (l.foldl (sent1 rc n) P) leaf)) (l.foldl (sent1 rc n) P) else P
end
section
variable {ow : Option Rn → Int → Int} {rc : Rn → Int → Int} {dp : Int → Nat}
theorem wake1_moved {X:Int→Prop} {P:Pk} {now id:Int} (hX:X id):Moved ow dp X P (wake1 now P id):=by
 unfold wake1
 by_cases h:awP P id=true∨shP P id=false
 ·rw [if_pos h];exact Moved.refl _ _ _ _
 ·rw [if_neg h]
  exact (updF_moved (only_wake id) (keep_wake id) hX).trans (upd_moved ⟨fun _=>rfl,fun _=>rfl,fun _=>rfl⟩ (by intro c;exact⟨rfl,rfl,rfl⟩) hX)
theorem sent1_moved {X:Int→Prop} {P:Pk} {n id:Int} (hX:X id):Moved ow dp X P (sent1 rc n P id) :=
 (upd_moved (f:=fun c:Cls=>{ c with tot:=c.tot+min n (capC - c.tot) }) ⟨fun _=>rfl,fun _=>rfl,fun _=>rfl⟩ (by intro c;exact⟨rfl,rfl,rfl⟩) hX).trans (updF_moved (only_gain rc id n) (keep_gain rc id n) hX)
def MemsP (P:Pk):Prop:=∀ id,0 < id→(lookM P id).isSome=true→(memP P id).isSome=shP P id
theorem awP_pos {P:Pk} {id:Int} (h:awP P id=true):0 < id:=by
 unfold awP at h
 simp only [Bool.and_eq_true,decide_eq_true_eq] at h
 exact h.1
theorem wake1_is {P:Pk} {now id:Int} (hW:WfP dp P)(hid:0 < id)(hs:(lookM P id).isSome=true)(hm:(memP P id).isSome=shP P id)(hsh:shP P id=true):awP (wake1 now P id) id=true∧(memP (wake1 now P id) id).isSome=true:=by
 unfold wake1
 by_cases h:awP P id=true∨shP P id=false
 ·rw [if_pos h]
  rcases h with h | h
  ·exact⟨h,by rw [hm,hsh]⟩
  ·rw [hsh] at h;cases h
 ·rw [if_neg h]
  obtain⟨c,hc⟩:=Option.isSome_iff_exists.1 hs
  obtain⟨p,hp,_,_⟩:=hW.par id c hc (by omega)
  rw [hsh] at hm
  obtain⟨m,hm⟩:=Option.isSome_iff_exists.1 hm
  rw [memP_is hc hp] at hm
  obtain⟨m',h1,h2⟩:=wake_is hm
  have h3:=memP_updF (g:=wakeF id) hc hp
  rw [h1] at h3
  have h4:memP (updP (updF P id (wakeF id)) id fun c=>{ c with lim:=c.lim.map fun r=>startR r now c.tot }) id=some m':=by
   rw [memP_upd (by intro c;rfl) (by intro c;rfl) id];exact h3
  refine⟨?_,by rw [h4];rfl⟩
  unfold awP
  rw [h4]
  simp [hid,h2]
theorem wakes_all {now : Int} : ∀ {l : List Int} {id : Int} {P : Pk} {X : Int → Prop}, Up P id l → WfP dp P → (∀ j ∈ l, X j) → (∀ j ∈ l, (lookM P j).isSome = true ∧ (memP P j).isSome = shP P j ∧ shP P j = true) →
    Moved ow dp X P (l.foldl (wake1 now) P) ∧ ∀ j ∈ l, awP (l.foldl (wake1 now) P) j = true ∧ (memP (l.foldl (wake1 now) P) j).isSome = true
  | [], id, P, X, hU, hW, hX, hl => ⟨Moved.refl _ _ _ _, fun j hj => by cases hj⟩
  | k :: l, id, P, X, hU, hW, hX, hl => by
    have hfr := hU.fresh_head hW
    cases hU with
    | step h1 h2 h3 =>
      obtain ⟨a1, a2, a3⟩ := hl k (.head _)
      have hm1 : Moved ow dp X P (wake1 now P k) := wake1_moved (hX k (.head _))
      have hmo : Moved ow dp (· = k) P (wake1 now P k) := wake1_moved rfl
      obtain ⟨b1, b2⟩ := wake1_is (now := now) hW h1 a1 a2 a3
      have look_is : ∀ j, (lookM (wake1 now P k) j).isSome = (lookM P j).isSome := fun j => by
        have := hm1.stat j
        unfold statP at this
        cases e1 : lookM (wake1 now P k) j <;> cases e2 : lookM P j <;> rw [e1, e2] at this <;> first | rfl | cases this
      have hl2 : ∀ j ∈ l, (lookM (wake1 now P k) j).isSome = true ∧ (memP (wake1 now P k) j).isSome = shP (wake1 now P k) j ∧ shP (wake1 now P k) j = true := fun j hj => by
        obtain ⟨c1, c2, c3⟩ := hl j (.tail _ hj)
        have hne : j ≠ k := fun e => hfr (e ▸ hj)
        rw [look_is, hmo.mem j hne, sh_of_stat (hm1.stat j)]
        exact ⟨c1, c2, c3⟩
      obtain ⟨d1, d2⟩ := wakes_all (X := X) (h3.congr hm1.pa) (hm1.wf hW) (fun j hj => hX j (.tail _ hj)) hl2
      obtain ⟨e1, _⟩ := wakes_all (X := (· ∈ l)) (h3.congr hm1.pa) (hm1.wf hW) (fun j hj => hj) hl2
      refine ⟨hm1.trans d1, fun j hj => ?_⟩
      rcases List.mem_cons.1 hj with rfl | hj
      · have := e1.mem j hfr
        show awP (l.foldl (wake1 now) (wake1 now P j)) j = true ∧ (memP (l.foldl (wake1 now) (wake1 now P j)) j).isSome = true
        rw [awP_congr this, this]
        exact ⟨b1, b2⟩
      · exact d2 j hj
end
end
section
structure AwkP (P:Pk)(wt:Int→Bool):Prop where
 leaf:∀ id,0 < id→(lookM P id).isSome=true→lfP P id=true→awP P id=(shP P id && wt id)
 inner:∀ id,0 < id→(lookM P id).isSome=true→lfP P id=false→(awP P id=true↔∃ k,paP P k=some id∧awP P k=true)
 innersh:∀ id,0 < id→(lookM P id).isSome=true→lfP P id=false→shP P id=true
 mems:MemsP P
structure PInv (ow:Option Rn→Int→Int)(dp:Int→Nat)(P:Pk)(wt:Int→Bool):Prop where
 wf:WfP dp P
 noted:NotedBut ow P fun _=>False
 awk:AwkP P wt
theorem look_of_stat {P Q:Pk} {j:Int} (h:statP Q j=statP P j):(lookM Q j).isSome=(lookM P j).isSome:=by
 unfold statP at h
 cases e1:lookM Q j <;> cases e2:lookM P j <;> rw [e1,e2] at h <;> first | rfl | cases h
theorem lookSome_of_pa {P:Pk} {j q:Int} (h:paP P j=some q):(lookM P j).isSome=true:=by
 obtain⟨c,hc,_⟩:=paP_some h
 rw [hc];rfl
section
variable {ow : Option Rn → Int → Int} {rc : Rn → Int → Int} {dp : Int → Nat}
theorem Up.look {P:Pk} {id:Int} {l:List Int} (h:Up P id l):∀ j∈l,(lookM P j).isSome=true:=fun j hj=>by
 obtain⟨q,hq,_⟩:=h.is j hj
 exact lookSome_of_pa hq
theorem Up.pred {P:Pk}:∀ {id:Int} {l:List Int},Up P id l→∀ j∈l,j≠id→∃ k∈l,paP P k=some j
 | _,_,.root,j,hj,_=>by cases hj
 | _,_,@Up.step _ i q l h1 h2 h3,j,hj,hne=>by
  rcases List.mem_cons.1 hj with hj | hj
  ·exact absurd hj hne
  ·by_cases e:j=q
   ·exact⟨i,.head _,e ▸ h2⟩
   ·obtain⟨k,hk,h⟩:=h3.pred j hj e
    exact⟨k,.tail _ hk,h⟩
theorem lfP_of {P:Pk} {id:Int} {c:Cls} (h:lookM P id=some c):lfP P id=c.lf:=by unfold lfP;rw [h]
theorem shP_of {P:Pk} {id:Int} {c:Cls} (h:lookM P id=some c):shP P id=c.sh:=by unfold shP;rw [h]
theorem inner_of_kid {P:Pk} (hW:WfP dp P) {k j:Int} (h:paP P k=some j)(hk:k≠0):lfP P j=false:=by
 obtain⟨c,hc,rfl⟩:=paP_some h
 obtain⟨p,hp,hl,_⟩:=hW.par k c hc hk
 rw [lfP_of hp,hl]
theorem Up.inner {P:Pk} (hW:WfP dp P) {id:Int} {l:List Int} (h:Up P id l):∀ j∈l,j≠id→lfP P j=false:=fun j hj hne=>by
 obtain⟨k,hk,hp⟩:=h.pred j hj hne
 have:=h.pos k hk
 exact inner_of_kid hW hp (by omega)
theorem wake_inv {P : Pk} {wt : Int → Bool} (h : PInv ow dp P wt) {leaf now : Int} {l : List Int} (hU : Up P leaf l) (hlf : lfP P leaf = true) (hl0 : 0 < leaf) :
    PInv ow dp (wakeP ow now leaf l P) (fun j => if j = leaf then true else wt j) ∧ (∀ j, statP (wakeP ow now leaf l P) j = statP P j) ∧ ∀ q j, kf (wakeP ow now leaf l P) q j = kf P q j := by
  obtain ⟨l', rfl⟩ : ∃ l', l = leaf :: l' := by
    cases hU with
    | root => omega
    | step h1 h2 h3 => exact ⟨_, rfl⟩
  unfold wakeP
  by_cases hsh : shP P leaf = true
  rotate_left
  · rw [if_neg (fun hh => hsh hh.2)]
    refine ⟨⟨h.wf, h.noted, ⟨fun id hid hs hf => ?_, h.awk.inner, h.awk.innersh, h.awk.mems⟩⟩, fun _ => rfl, fun _ _ => rfl⟩
    rw [h.awk.leaf id hid hs hf]
    by_cases e : id = leaf
    · subst e
      have : shP P id = false := by simpa using hsh
      rw [this]; rfl
    · rw [if_neg e]
  rw [if_pos ⟨hlf, hsh⟩]
  have hall : ∀ j ∈ leaf :: l', (lookM P j).isSome = true ∧ (memP P j).isSome = shP P j ∧ shP P j = true := fun j hj => by
    have hs := hU.look j hj
    refine ⟨hs, h.awk.mems j (hU.pos j hj) hs, ?_⟩
    by_cases e : j = leaf
    · rw [e]; exact hsh
    · exact h.awk.innersh j (hU.pos j hj) hs (hU.inner h.wf j hj e)
  obtain ⟨m1, a1⟩ := wakes_all (ow := ow) (now := now) (X := (· ∈ leaf :: l')) hU h.wf (fun j hj => hj) hall
  generalize hP1 : List.foldl (wake1 now) P (leaf :: l') = P1 at m1 a1
  have hW1 := m1.wf h.wf
  have hN1 : NotedBut ow P1 (· ∈ leaf :: l') := m1.noted (h.noted.weak fun j _ h => h.elim)
  obtain ⟨b1, b2, b3, b4⟩ := notes_all (hU.congr m1.pa) hW1 hN1
  have bs := notes_stat ow (leaf :: l') P1
  have bk := notes_keys ow (leaf :: l') P1
  generalize List.foldl (noteP ow) P1 (leaf :: l') = P2 at b1 b2 b3 b4 bs bk
  have hst : ∀ j, statP P2 j = statP P j := fun j => (bs j).trans (m1.stat j)
  have hky : ∀ q j, kf P2 q j = kf P q j := fun q j => (bk q j).trans (m1.keys q j)
  have haw : ∀ j, awP P2 j = awP P1 j := fun j => awP_congr (b3 j)
  have hfar : ∀ j, j ∉ leaf :: l' → awP P2 j = awP P j := fun j hj => (haw j).trans (awP_congr (m1.mem j hj))
  have hon : ∀ j ∈ leaf :: l', awP P2 j = true := fun j hj => (haw j).trans (a1 j hj).1
  refine ⟨⟨b1, b2, ⟨fun id hid hs hf => ?_, fun id hid hs hf => ?_, fun id hid hs hf => ?_, fun id hid hs => ?_⟩⟩, hst, hky⟩
  · rw [look_of_stat (hst id)] at hs
    rw [lf_of_stat (hst id)] at hf
    rw [sh_of_stat (hst id)]
    by_cases hm : id ∈ leaf :: l'
    · have e : id = leaf := by
        by_cases e : id = leaf
        · exact e
        · rw [hU.inner h.wf id hm e] at hf; cases hf
      rw [hon id hm, if_pos e, e, hsh]; rfl
    · have e : id ≠ leaf := fun e => hm (e ▸ .head _)
      rw [hfar id hm, if_neg e]
      exact h.awk.leaf id hid hs hf
  · rw [look_of_stat (hst id)] at hs
    rw [lf_of_stat (hst id)] at hf
    by_cases hm : id ∈ leaf :: l'
    · have e : id ≠ leaf := fun e => by rw [e, hlf] at hf; cases hf
      obtain ⟨k, hk, hp⟩ := hU.pred id hm e
      exact ⟨fun _ => ⟨k, by rw [pa_of_stat (hst k)]; exact hp, hon k hk⟩, fun _ => hon id hm⟩
    · rw [hfar id hm, h.awk.inner id hid hs hf]
      have key : ∀ k, paP P k = some id → k ∉ leaf :: l' := fun k hp hk => by
        obtain ⟨q, hq, h0⟩ := hU.is k hk
        rw [hp] at hq
        cases hq
        rcases h0 with h0 | h0
        · omega
        · exact hm h0
      constructor
      · rintro ⟨k, hp, hk⟩
        exact ⟨k, by rw [pa_of_stat (hst k)]; exact hp, by rw [hfar k (key k hp)]; exact hk⟩
      · rintro ⟨k, hp, hk⟩
        rw [pa_of_stat (hst k)] at hp
        exact ⟨k, hp, by rw [← hfar k (key k hp)]; exact hk⟩
  · rw [look_of_stat (hst id)] at hs
    rw [lf_of_stat (hst id)] at hf
    rw [sh_of_stat (hst id)]
    exact h.awk.innersh id hid hs hf
  · rw [look_of_stat (hst id)] at hs
    rw [sh_of_stat (hst id), b3 id]
    by_cases hm : id ∈ leaf :: l'
    · rw [(a1 id hm).2, (hall id hm).2.2]
    · rw [m1.mem id hm]
      exact h.awk.mems id hid hs
theorem sent1_aw {P : Pk} {n id : Int} (j : Int) : (memP (sent1 rc n P id) j).map (·.aw) = (memP P j).map (·.aw) := by
  have hm : Moved (fun _ _ => 0) (fun _ => 0) (· = id) P (sent1 rc n P id) := sent1_moved rfl
  by_cases e : j = id
  · subst e
    unfold sent1
    have h0 : ∀ i, memP (updP P j fun c => { c with tot := c.tot + min n (capC - c.tot) }) i = memP P i := memP_upd (by intro c; rfl) (by intro c; rfl)
    rw [← h0 j]
    generalize updP P j (fun c => { c with tot := c.tot + min n (capC - c.tot) }) = Q
    cases hc : paP Q j with
    | none => unfold updF; rw [hc]
    | some q =>
      have h1 : updF Q j (gainF rc j n) = updP Q q fun p => { p with fam := gainF rc j n p.fam } := by unfold updF; rw [hc]
      unfold memP
      rw [h1, paP_upd (by intro c; rfl) j, hc]
      show ((famP _ q).bind _).map _ = ((famP Q q).bind _).map _
      unfold famP
      rw [look_upd, if_pos rfl]
      cases lookM Q q with
      | none => rfl
      | some p => exact gain_is
  · rw [hm.mem j e]
theorem sents_all {n:Int}:∀ (l:List Int)(P:Pk) {X:Int→Prop},(∀ j∈l,X j)→Moved ow dp X P (l.foldl (sent1 rc n) P)∧∀ j,(memP (l.foldl (sent1 rc n) P) j).map (·.aw)=(memP P j).map (·.aw)
 | [],P,X,hX=>⟨Moved.refl _ _ _ _,fun _=>rfl⟩
 | k :: l,P,X,hX=>by
  obtain⟨h1,h2⟩:=sents_all l (sent1 rc n P k) (X:=X) fun j hj=>hX j (.tail _ hj)
  exact⟨(sent1_moved (hX k (.head _))).trans h1,fun j=>(h2 j).trans (sent1_aw j)⟩
structure SlpW (ow:Option Rn→Int→Int)(dp:Int→Nat)(P Q:Pk)(l:List Int):Prop where
 wf:WfP dp Q
 noted:NotedBut ow Q fun _=>False
 stat:∀ j,statP Q j=statP P j
 mem:∀ j,j ∉ l→memP Q j=memP P j
 is:∀ j,(memP Q j).isSome=(memP P j).isSome
 leaf:∀ j∈l,lfP P j=true→awP Q j=false
 inner:∀ i,0 < i→(lookM Q i).isSome=true→lfP Q i=false→(awP Q i=true↔∃ k,paP Q k=some i∧awP Q k=true)
 keys:∀ q j,kf Q q j=kf P q j
theorem sleeps_all : ∀ {l : List Int} {id : Int} {P : Pk}, Up P id l → WfP dp P → NotedBut ow P (· ∈ l) → (∀ j ∈ l, awP P j = true) →
    (∀ i, 0 < i → (lookM P i).isSome = true → lfP P i = false → i ∉ l → (awP P i = true ↔ ∃ k, paP P k = some i ∧ awP P k = true)) → SlpW ow dp P (l.foldl (sent2 ow true) P) l
  | [], id, P, hU, hW, hN, ha, hI => ⟨hW, hN.weak (fun j _ h => (by cases h)), fun _ => rfl, fun _ _ => rfl, fun _ => rfl, fun j hj => (by cases hj), fun i hi hs hf => hI i hi hs hf (by simp), fun _ _ => rfl⟩
  | k :: l, id, P, hU, hW, hN, ha, hI => by
    have hfr := hU.fresh_head hW
    have hdp := hU.dp hW
    have hU0 := hU
    cases hU with
    | step h1 h2 h3 =>
      obtain ⟨c, hc, hcq⟩ := paP_some h2
      obtain ⟨p, hp, hpl, hpd⟩ := hW.par k c hc (by omega)
      obtain ⟨cnd, hcnd⟩ : ∃ b : Bool, b = true ↔ (lfP P k = true ∨ trP P k = []) := ⟨decide (lfP P k = true ∨ trP P k = []), by simp⟩
      -- the one sleeps, or not
      obtain ⟨Pa, hPa⟩ : ∃ Q, Q = (if cnd = true then updF P k (sleepF k) else P) := ⟨_, rfl⟩
      have hstep : sent2 ow true P k = noteP ow Pa k := by
        unfold sent2
        rw [hPa]
        by_cases hb : cnd = true
        · rw [if_pos hb, if_pos ⟨rfl, hcnd.1 hb⟩]
        · rw [if_neg hb, if_neg (fun h => hb (hcnd.2 h.2))]
      have hm : ∀ {X : Int → Prop}, X k → Moved ow dp X P Pa := fun hX => by
        rw [hPa]
        split
        · exact updF_moved (only_sleep k) (keep_sleep k) hX
        · exact Moved.refl _ _ _ _
      have hWa := (hm (X := (· = k)) rfl).wf hW
      have hNa : NotedBut ow Pa (· ∈ k :: l) := (hm (X := (· ∈ k :: l)) (.head _)).noted hN
      have hsa := (hm (X := (· = k)) rfl).stat
      have hma := (hm (X := (· = k)) rfl).mem
      have hkk := (hm (X := (· = k)) rfl).keys
      have hka : (memP Pa k).map (·.aw) = if cnd = true then (memP P k).map (fun _ => false) else (memP P k).map (·.aw) := by
        rw [hPa]
        by_cases hb : cnd = true
        · rw [if_pos hb, if_pos hb, memP_updF hc hp, memP_is hc hp]
          exact sleep_is
        · rw [if_neg hb, if_neg hb]
      have hawk : awP Pa k = !cnd := by
        have e : ∀ R : Pk, awP R k = (((memP R k).map (·.aw)).getD false) := fun R => by
          unfold awP
          rw [decide_eq_true h1]
          cases memP R k <;> rfl
        have h0 := ha k (.head _)
        rw [e] at h0 ⊢
        rw [hka]
        cases hmk : memP P k with
        | none => rw [hmk] at h0; cases h0
        | some m =>
          rw [hmk] at h0
          cases cnd with
          | true => rfl
          | false => exact h0
      have hisa : ∀ j, (memP Pa j).isSome = (memP P j).isSome := fun j => by
        by_cases e : j = k
        · subst e
          have := congrArg Option.isSome hka
          rw [Option.isSome_map] at this
          rw [this]
          split <;> rw [Option.isSome_map]
        · rw [hma j e]
      have hca : ∃ ca, lookM Pa k = some ca := Option.isSome_iff_exists.1 (by rw [look_of_stat (hsa k), hc]; rfl)
      obtain ⟨ca, hca⟩ := hca
      obtain ⟨c0, hc0, hcpa, _⟩ := stat_back (hsa k) hca
      rw [hc] at hc0
      cases hc0
      -- it is noted
      obtain ⟨a1, a2, a3, a4⟩ := note_step (ow := ow) hWa hNa h1 hca
      have asx := note_stat ow Pa k
      have akx := note_keys ow Pa k
      rw [hcpa, hcq] at a2
      rw [← hstep] at a1 a2 a3 a4 asx akx
      have hst1 : ∀ j, statP (sent2 ow true P k) j = statP P j := fun j => (asx j).trans (hsa j)
      have hmem1 : ∀ j, j ≠ k → memP (sent2 ow true P k) j = memP P j := fun j hj => (a3 j).trans (hma j hj)
      have haw1 : ∀ j, j ≠ k → awP (sent2 ow true P k) j = awP P j := fun j hj => awP_congr (hmem1 j hj)
      have hawk1 : awP (sent2 ow true P k) k = !cnd := (awP_congr (a3 k)).trans hawk
      generalize hP1 : sent2 ow true P k = P1 at a1 a2 a3 a4 asx akx hst1 hmem1 haw1 hawk1
      have hN1 : NotedBut ow P1 (· ∈ l) := a2.weak fun j hj h => by
        rcases h with ⟨hm, hne⟩ | h
        · rcases List.mem_cons.1 hm with hm | hm
          · exact absurd hm hne
          · exact hm
        · cases h3 with
          | root => omega
          | step k1 k2 k3 => rw [h]; exact .head _
      have hpa1 : ∀ j, paP P1 j = paP P j := fun j => pa_of_stat (hst1 j)
      have hne_l : ∀ j ∈ l, j ≠ k := fun j hj e => hfr (e ▸ hj)
      have hI1 : ∀ i, 0 < i → (lookM P1 i).isSome = true → lfP P1 i = false → i ∉ l → (awP P1 i = true ↔ ∃ j, paP P1 j = some i ∧ awP P1 j = true) := fun i hi hs hf hil => by
        rw [look_of_stat (hst1 i)] at hs
        rw [lf_of_stat (hst1 i)] at hf
        by_cases hik : i = k
        · subst hik
          rw [hawk1]
          have htr : trP P i = c.tr := by unfold trP; rw [hc]
          have hkid : ∀ j, paP P j = some i → 0 < j → j ≠ i ∧ awP P1 j = awP P j ∧ getE c.tr j = (if awP P j = true then some ((vP P j, j), fitP ow P j) else none) := fun j hj hj0 => by
            obtain ⟨cj, hcj, hcp⟩ := paP_some hj
            obtain ⟨pj, _, _, hdj⟩ := hW.par j cj hcj (by omega)
            rw [hcp] at hdj
            have hji : j ≠ i := fun e => by rw [e] at hdj; omega
            have hjl : j ∉ i :: l := fun hm => by have := hdp j hm; omega
            have hn := hN j cj c hj0 hjl hcj (by rw [hcp]; exact hc)
            refine ⟨hji, haw1 j hji, ?_⟩
            rw [hn]
            unfold fitP
            rw [hcj]
          constructor
          · intro hb
            have hnc : ¬ cnd = true := by simpa using hb
            have hne : trP P i ≠ [] := fun h => hnc (hcnd.2 (.inr h))
            rw [htr] at hne
            obtain ⟨e, he⟩ := List.exists_mem_of_ne_nil _ hne
            obtain ⟨he0, hep⟩ := hW.kids i c e hc he
            obtain ⟨_, k2, k3⟩ := hkid _ hep he0
            rw [getE_mem (hW.inv i c hc).ids he] at k3
            refine ⟨e.1.2, by rw [hpa1]; exact hep, ?_⟩
            rw [k2]
            by_cases hx : awP P e.1.2 = true
            · exact hx
            · rw [if_neg hx] at k3; cases k3
          · rintro ⟨j, hj, haj⟩
            rw [hpa1] at hj
            have hj0 := awP_pos haj
            obtain ⟨k1, k2, k3⟩ := hkid j hj hj0
            rw [k2] at haj
            rw [if_pos haj] at k3
            have hnc : ¬ cnd = true := fun hb => by
              rcases hcnd.1 hb with h | h
              · rw [hf] at h; cases h
              · rw [htr] at h
                rw [h] at k3
                cases k3
            simpa using hnc
        · rw [haw1 i hik, hI i hi hs hf (fun hm => by
            rcases List.mem_cons.1 hm with hm | hm
            · exact hik hm
            · exact hil hm)]
          have hnk : paP P k ≠ some i := fun e => by
            rw [h2] at e
            cases e
            cases h3 with
            | root => omega
            | step k1 k2 k3 => exact hil (.head _)
          constructor
          · rintro ⟨j, hj, haj⟩
            exact ⟨j, by rw [hpa1]; exact hj, by rw [haw1 j (fun e => hnk (e ▸ hj))]; exact haj⟩
          · rintro ⟨j, hj, haj⟩
            rw [hpa1] at hj
            exact ⟨j, hj, by rw [← haw1 j (fun e => hnk (e ▸ hj))]; exact haj⟩
      have hrec := sleeps_all (h3.congr hpa1) a1 hN1 (fun j hj => by rw [haw1 j (hne_l j hj)]; exact ha j (.tail _ hj)) hI1
      have hfold : (k :: l).foldl (sent2 ow true) P = l.foldl (sent2 ow true) P1 := by rw [← hP1]; rfl
      rw [hfold]
      refine ⟨hrec.wf, hrec.noted, fun j => (hrec.stat j).trans (hst1 j), fun j hj => ?_, fun j => (hrec.is j).trans ((congrArg Option.isSome (a3 j)).trans (hisa j)), fun j hj hf => ?_, hrec.inner, fun q j => (hrec.keys q j).trans ((akx q j).trans (hkk q j))⟩
      · rw [hrec.mem j (fun h => hj (.tail _ h)), hmem1 j (fun e => hj (e ▸ .head _))]
      · rcases List.mem_cons.1 hj with rfl | hj
        · rw [awP_congr (hrec.mem j hfr), hawk1]
          have := hcnd.2 (.inl hf)
          rw [this]; rfl
        · exact hrec.leaf j hj (by rw [lf_of_stat (hst1 j)]; exact hf)
theorem sent_inv {P : Pk} {wt : Int → Bool} (h : PInv ow dp P wt) {leaf n : Int} {more : Bool} {l : List Int} (hU : Up P leaf l) (hlf : lfP P leaf = true) (hl0 : 0 < leaf) (hwt : wt leaf = true) :
    PInv ow dp (sentP ow rc leaf n more l P) (fun j => if j = leaf then more else wt j) ∧ (∀ j, statP (sentP ow rc leaf n more l P) j = statP P j) ∧ ∀ q j, kf (sentP ow rc leaf n more l P) q j = kf P q j := by
  obtain ⟨l', rfl⟩ : ∃ l', l = leaf :: l' := by
    cases hU with
    | root => omega
    | step h1 h2 h3 => exact ⟨_, rfl⟩
  unfold sentP
  rw [if_pos hlf]
  obtain ⟨m1, g1⟩ := sents_all (ow := ow) (rc := rc) (dp := dp) (n := n) (leaf :: l') P (X := (· ∈ leaf :: l')) fun j hj => hj
  generalize List.foldl (sent1 rc n) P (leaf :: l') = P1 at m1 g1
  have hW1 := m1.wf h.wf
  have hN1 : NotedBut ow P1 (· ∈ leaf :: l') := m1.noted (h.noted.weak fun j _ h => h.elim)
  have haw : ∀ j, awP P1 j = awP P j := fun j => awP_map (g1 j)
  have his : ∀ j, (memP P1 j).isSome = (memP P j).isSome := fun j => by
    have := congrArg Option.isSome (g1 j)
    rwa [Option.isSome_map, Option.isSome_map] at this
  have hU1 := hU.congr m1.pa
  have hls := hU.look leaf (.head _)
  have hleaf := h.awk.leaf leaf hl0 hls hlf
  rw [hwt, Bool.and_true] at hleaf
  have hI : ∀ i, 0 < i → (lookM P1 i).isSome = true → lfP P1 i = false → (awP P1 i = true ↔ ∃ k, paP P1 k = some i ∧ awP P1 k = true) := fun i hi hs hf => by
    rw [look_of_stat (m1.stat i)] at hs
    rw [lf_of_stat (m1.stat i)] at hf
    rw [haw i, h.awk.inner i hi hs hf]
    constructor
    · rintro ⟨k, hk, ha⟩; exact ⟨k, by rw [m1.pa]; exact hk, by rw [haw]; exact ha⟩
    · rintro ⟨k, hk, ha⟩; exact ⟨k, by rw [← m1.pa]; exact hk, by rw [← haw]; exact ha⟩
  cases hsl : (!more && awP P1 leaf) with
  | false =>
    have hfun : sent2 ow false = noteP ow := by
      funext Q i
      unfold sent2
      rw [if_neg (fun h => by cases h.1)]
    rw [hfun]
    obtain ⟨b1, b2, b3, b4⟩ := notes_all hU1 hW1 hN1
    have bs := notes_stat ow (leaf :: l') P1
    have bk := notes_keys ow (leaf :: l') P1
    generalize List.foldl (noteP ow) P1 (leaf :: l') = P2 at b1 b2 b3 b4 bs bk
    have hst : ∀ j, statP P2 j = statP P j := fun j => (bs j).trans (m1.stat j)
    have hky : ∀ q j, kf P2 q j = kf P q j := fun q j => (bk q j).trans (m1.keys q j)
    have hA : ∀ j, awP P2 j = awP P j := fun j => (awP_congr (b3 j)).trans (haw j)
    refine ⟨⟨b1, b2, ⟨fun id hid hs hf => ?_, fun id hid hs hf => ?_, fun id hid hs hf => ?_, fun id hid hs => ?_⟩⟩, hst, hky⟩
    · rw [look_of_stat (hst id)] at hs
      rw [lf_of_stat (hst id)] at hf
      rw [hA, sh_of_stat (hst id), h.awk.leaf id hid hs hf]
      by_cases e : id = leaf
      · subst e
        rw [if_pos rfl, hwt]
        cases more with
        | true => rfl
        | false =>
          rw [haw, hleaf] at hsl
          have : shP P id = false := by simpa using hsl
          rw [this]; rfl
      · rw [if_neg e]
    · have := hI id hid (by rw [look_of_stat (bs id)] at hs; exact hs) (by rw [lf_of_stat (bs id)] at hf; exact hf)
      rw [awP_congr (b3 id), this]
      constructor
      · rintro ⟨k, hk, ha⟩; exact ⟨k, by rw [b4]; exact hk, by rw [awP_congr (b3 k)]; exact ha⟩
      · rintro ⟨k, hk, ha⟩; exact ⟨k, by rw [← b4]; exact hk, by rw [← awP_congr (b3 k)]; exact ha⟩
    · rw [look_of_stat (hst id)] at hs
      rw [lf_of_stat (hst id)] at hf
      rw [sh_of_stat (hst id)]
      exact h.awk.innersh id hid hs hf
    · rw [look_of_stat (hst id)] at hs
      rw [sh_of_stat (hst id), b3 id, his]
      exact h.awk.mems id hid hs
  | true =>
    simp only [Bool.and_eq_true, Bool.not_eq_true'] at hsl
    obtain ⟨hmore, hal⟩ := hsl
    have hall : ∀ {i : Int} {m : List Int}, Up P1 i m → (∀ x, m.head? = some x → awP P1 x = true) → ∀ j ∈ m, awP P1 j = true := by
      intro i m hu
      induction hu with
      | root => intro _ j hj; cases hj
      | @step i q m k1 k2 k3 ih =>
        intro hh j hj
        have hi := hh i rfl
        rcases List.mem_cons.1 hj with rfl | hj
        · exact hi
        · refine ih (fun x hx => ?_) j hj
          have hxq : x = q := by
            cases k3 with
            | root => cases hx
            | step _ _ _ => cases hx; rfl
          rw [hxq] at hx ⊢
          have hq0 : 0 < q := k3.pos q (List.mem_of_mem_head? hx)
          have hqs : (lookM P1 q).isSome = true := k3.look q (List.mem_of_mem_head? hx)
          exact (hI q hq0 hqs (inner_of_kid hW1 k2 (by omega))).2 ⟨i, k2, hi⟩
    have hS := sleeps_all hU1 hW1 hN1 (hall hU1 fun x hx => by cases hx; exact hal) fun i hi hs hf _ => hI i hi hs hf
    generalize List.foldl (sent2 ow true) P1 (leaf :: l') = P2 at hS
    have hst : ∀ j, statP P2 j = statP P j := fun j => (hS.stat j).trans (m1.stat j)
    refine ⟨⟨hS.wf, hS.noted, ⟨fun id hid hs hf => ?_, hS.inner, fun id hid hs hf => ?_, fun id hid hs => ?_⟩⟩, hst, fun q j => (hS.keys q j).trans (m1.keys q j)⟩
    · rw [look_of_stat (hst id)] at hs
      have hf2 := hf
      rw [lf_of_stat (hst id)] at hf
      rw [sh_of_stat (hst id)]
      by_cases e : id = leaf
      · subst e
        rw [if_pos rfl, hmore, Bool.and_false]
        exact hS.leaf id (.head _) (by rw [lf_of_stat (m1.stat id)]; exact hf)
      · have hm : id ∉ leaf :: l' := fun hm => by rw [hU.inner h.wf id hm e] at hf; cases hf
        rw [if_neg e, awP_congr (hS.mem id hm), haw]
        exact h.awk.leaf id hid hs hf
    · rw [look_of_stat (hst id)] at hs
      rw [lf_of_stat (hst id)] at hf
      rw [sh_of_stat (hst id)]
      exact h.awk.innersh id hid hs hf
    · rw [look_of_stat (hst id)] at hs
      rw [sh_of_stat (hst id), hS.is, his]
      exact h.awk.mems id hid hs
end
end
section
def mem0 (c:Int × Int × Int):Mem:=⟨0,0,rn0 c,false⟩
def addF (id:Int)(c:Int × Int × Int)(f:Fam):Fam:={ f with m:=putM f.m id (mem0 c) }
def cls0 (pa:Int)(lf sh:Bool)(lim:Option Rn):Cls:=⟨pa,lf,sh,0,lim,fam0,[],0⟩
theorem only_add (id:Int)(c:Int × Int × Int):OnlyM id (addF id c):=fun f j hj=>look_put_other _ hj _
def putP (P:Pk)(id pa:Int)(lf sh:Bool)(share:Int × Int × Int)(lim:Option Rn):Pk :=
 updP (putM P id (cls0 pa lf sh lim)) pa fun p=>{ p with fam:=if sh=true then addF id share p.fam else p.fam,un:=p.un+1 }
structure PAll (ow:Option Rn→Int→Int)(dp:Int→Nat)(P:Pk)(wt:Int→Bool):Prop extends PInv ow dp P wt where
 fams:∀ q j,kf P q j=true→0 < j∧paP P j=some q
section
variable {ow : Option Rn → Int → Int} {rc : Rn → Int → Int} {dp : Int → Nat}
theorem PAll.wake {P:Pk} {wt:Int→Bool} (h:PAll ow dp P wt) {leaf now:Int} {l:List Int} (hU:Up P leaf l)(hlf:lfP P leaf=true)(hl0:0 < leaf) :
  PAll ow dp (wakeP ow now leaf l P) (fun j=>if j=leaf then true else wt j)∧∀ j,statP (wakeP ow now leaf l P) j=statP P j:=by
 obtain⟨h1,h2,h3⟩:=wake_inv (now:=now) h.toPInv hU hlf hl0
 exact⟨⟨h1,fun q j hk=>by rw [h3] at hk;rw [pa_of_stat (h2 j)];exact h.fams q j hk⟩,h2⟩
theorem PAll.sent {P:Pk} {wt:Int→Bool} (h:PAll ow dp P wt) {leaf n:Int} {more:Bool} {l:List Int} (hU:Up P leaf l)(hlf:lfP P leaf=true)(hl0:0 < leaf)(hwt:wt leaf=true) :
  PAll ow dp (sentP ow rc leaf n more l P) (fun j=>if j=leaf then more else wt j)∧∀ j,statP (sentP ow rc leaf n more l P) j=statP P j:=by
 obtain⟨h1,h2,h3⟩:=sent_inv (rc:=rc) (n:=n) (more:=more) h.toPInv hU hlf hl0 hwt
 exact⟨⟨h1,fun q j hk=>by rw [h3] at hk;rw [pa_of_stat (h2 j)];exact h.fams q j hk⟩,h2⟩
theorem InvE.nil':InvE []:=⟨.nil,.nil⟩
theorem kf_of {P:Pk} {q j:Int} {p:Cls} (h:lookM P q=some p):kf P q j=(lookM p.fam.m j).isSome:=by unfold kf famP;rw [h];rfl
theorem put_inv {P:Pk} {wt:Int→Bool} (h:PAll ow dp P wt) {id pa:Int} {lf sh:Bool} {share:Int × Int × Int} {lim:Option Rn} {p:Cls} (hid:0 < id)(hn:lookM P id=none)(hp:lookM P pa=some p)(hpl:p.lf=false)(hsh:lf=false→sh=true) :
  PAll ow (fun j=>if j=id then dp pa+1 else dp j) (putP P id pa lf sh share lim) (fun j=>if j=id then false else wt j) ∧
   (∀ j,lookM (putP P id pa lf sh share lim) j=if j=id then some (cls0 pa lf sh lim) else if j=pa then some { p with fam:=if sh=true then addF id share p.fam else p.fam,un:=p.un+1 } else lookM P j):=by
 have hne:pa≠id:=fun e=>by rw [e,hn] at hp;cases hp
 have hlook:∀ j,lookM (putP P id pa lf sh share lim) j=if j=id then some (cls0 pa lf sh lim) else if j=pa then some { p with fam:=if sh=true then addF id share p.fam else p.fam,un:=p.un+1 } else lookM P j:=fun j=>by
  unfold putP
  rw [look_upd,look_put_other _ hne,hp]
  by_cases e:j=id
  ·subst e
   rw [if_neg (fun e=>hne e.symm),look_put_same,if_pos rfl]
  ·rw [if_neg e,look_put_other _ e]
   by_cases e2:j=pa
   ·rw [if_pos e2,if_pos e2];rfl
   ·rw [if_neg e2,if_neg e2]
 refine⟨?_,hlook⟩
 have hris:Rising (putP P id pa lf sh share lim):=rising_upd (rising_put _ _ h.wf.rise) _ _
 generalize putP P id pa lf sh share lim=Q at hlook hris
 have hback:∀ j c',j≠id→lookM Q j=some c'→∃ c,lookM P j=some c∧c'.pa=c.pa∧c'.lf=c.lf∧c'.sh=c.sh∧c'.tr=c.tr∧c'.tot=c.tot∧c'.lim=c.lim:=fun j c' hj hc=>by
  rw [hlook,if_neg hj] at hc
  by_cases e2:j=pa
  ·rw [if_pos e2] at hc
   cases hc
   exact⟨p,by rw [e2];exact hp,rfl,rfl,rfl,rfl,rfl,rfl⟩
  ·rw [if_neg e2] at hc
   exact⟨c',hc,rfl,rfl,rfl,rfl,rfl,rfl⟩
 have hfwd:∀ j c,lookM P j=some c→∃ c',lookM Q j=some c'∧c'.pa=c.pa∧c'.lf=c.lf∧c'.sh=c.sh∧c'.tr=c.tr:=fun j c hc=>by
  have hj:j≠id:=fun e=>by rw [e,hn] at hc;cases hc
  rw [hlook,if_neg hj]
  by_cases e2:j=pa
  ·rw [if_pos e2]
   rw [e2,hp] at hc
   cases hc
   exact⟨_,rfl,rfl,rfl,rfl,rfl⟩
  ·rw [if_neg e2]
   exact⟨c,hc,rfl,rfl,rfl,rfl⟩
 have hpa:∀ j,j≠id→paP Q j=paP P j:=fun j hj=>by
  cases hc:lookM P j with
  | none =>
   cases hq:lookM Q j with
   | none=>unfold paP;rw [hc,hq]
   | some c'=>obtain⟨c,h1,_⟩:=hback j c' hj hq;rw [hc] at h1;cases h1
  | some c =>
   obtain⟨c',h1,h2,_⟩:=hfwd j c hc
   rw [paP_of h1,paP_of hc,h2]
 have hpaid:paP Q id=some pa:=by
  have:=hlook id
  rw [if_pos rfl] at this
  exact paP_of this
 have hmem:∀ j,0 < j→j≠id→memP Q j=memP P j:=fun j hj0 hj=>by
  refine memP_congr (hpa j hj) fun q hq=>?_
  obtain⟨cj,hcj,hcq⟩:=paP_some hq
  have hqid:q≠id:=fun e=>by
   obtain⟨pj,hpj,_⟩:=h.wf.par j cj hcj (by omega)
   rw [hcq,e,hn] at hpj
   cases hpj
  unfold famP
  rw [hlook,if_neg hqid]
  by_cases e2:q=pa
  ·rw [if_pos e2,e2,hp]
   show lookM _ j=lookM p.fam.m j
   dsimp only
   split
   ·exact only_add id share _ j hj
   ·rfl
  ·rw [if_neg e2]
 have hmid:memP Q id=if sh=true then some (mem0 share) else lookM p.fam.m id:=by
  have h1:=hlook id
  rw [if_pos rfl] at h1
  have h2:=hlook pa
  rw [if_neg hne,if_pos rfl] at h2
  rw [memP_is h1 h2]
  dsimp only
  by_cases e:sh=true
  ·rw [if_pos e,if_pos e];exact look_put_same _ _ _
  ·rw [if_neg e,if_neg e]
 have hold:lookM p.fam.m id=none:=by
  cases e:lookM p.fam.m id with
  | none=>rfl
  | some m =>
   obtain⟨_,h2⟩:=h.fams pa id (by rw [kf_of hp,e];rfl)
   unfold paP at h2
   rw [hn] at h2
   cases h2
 rw [hold] at hmid
 have hself:lookM Q id=some (cls0 pa lf sh lim):=by rw [hlook,if_pos rfl]
 have hawid:awP Q id=false:=by
  unfold awP
  rw [hmid]
  by_cases e:sh=true
  ·rw [if_pos e];simp [mem0]
  ·rw [if_neg e];simp
 have haw:∀ j,j≠id→awP Q j=awP P j:=fun j hj=>by
  by_cases h0:0 < j
  ·exact awP_congr (hmem j h0 hj)
  ·unfold awP;rw [decide_eq_false h0];rfl
 have hv:∀ j,j≠id→vP Q j=vP P j:=fun j hj=>by
  by_cases h0:0 < j
  ·exact vP_congr (hmem j h0 hj)
  ·unfold vP;rw [if_neg h0,if_neg h0]
 have hsome:∀ j,j≠id→(lookM Q j).isSome=(lookM P j).isSome:=fun j hj=>by
  cases hc:lookM P j with
  | none =>
   cases hq:lookM Q j with
   | none=>rfl
   | some c'=>obtain⟨c,h1,_⟩:=hback j c' hj hq;rw [hc] at h1;cases h1
  | some c=>obtain⟨c',h1,_⟩:=hfwd j c hc;rw [h1];rfl
 have hlf':∀ j,j≠id→lfP Q j=lfP P j:=fun j hj=>by
  cases hc:lookM P j with
  | none =>
   have:=hsome j hj
   rw [hc] at this
   unfold lfP
   rw [hc,show lookM Q j=none by simpa using this]
  | some c=>obtain⟨c',h1,_,h2,_⟩:=hfwd j c hc;rw [lfP_of h1,lfP_of hc,h2]
 have hsh':∀ j,j≠id→shP Q j=shP P j:=fun j hj=>by
  cases hc:lookM P j with
  | none =>
   have:=hsome j hj
   rw [hc] at this
   unfold shP
   rw [hc,show lookM Q j=none by simpa using this]
  | some c=>obtain⟨c',h1,_,_,h2,_⟩:=hfwd j c hc;rw [shP_of h1,shP_of hc,h2]
 have hnokid:∀ k,paP Q k=some id→k=0:=fun k hk=>by
  by_cases e:k=id
  ·rw [e,hpaid] at hk
   exact absurd (Option.some.inj hk) hne
  ·rw [hpa k e] at hk
   obtain⟨c,hc,hcp⟩:=paP_some hk
   by_cases h0:k=0
   ·exact h0
   ·obtain⟨pk,hpk,_⟩:=h.wf.par k c hc h0
    rw [hcp,hn] at hpk
    cases hpk
 have hd0:∀ j c,lookM P j=some c→(if j=id then dp pa+1 else dp j)=dp j:=fun j c hc=>if_neg fun e=>by rw [e,hn] at hc;cases hc
 refine⟨⟨⟨hris,?_,fun j c' hj h0=>?_,fun j c' hj=>?_,fun j c' hj=>?_,fun j c' e hj he=>?_⟩,fun j c' p' hj0 _ hj hpj=>?_,⟨fun j hj hs hf=>?_,fun j hj hs hf=>?_,fun j hj hs hf=>?_,fun j hj hs=>?_⟩⟩,fun q j hk=>?_⟩
 ·obtain⟨r,hr,hl⟩:=h.wf.root
  obtain⟨r',h1,_,h2,_⟩:=hfwd 0 r hr
  exact⟨r',h1,h2.trans hl⟩
 ·by_cases e:j=id
  ·rw [e,hself] at hj
   cases hj
   obtain⟨p',h1,_,h2,_⟩:=hfwd pa p hp
   refine⟨p',h1,h2.trans hpl,?_⟩
   show (if j=id then dp pa+1 else dp j)=(if pa=id then _ else _)+1
   rw [if_pos e,if_neg hne]
   rfl
  ·obtain⟨c,hc,h1,_⟩:=hback j c' e hj
   obtain⟨q,hq,hql,hqd⟩:=h.wf.par j c hc h0
   obtain⟨q',h2,_,h3,_⟩:=hfwd c.pa q hq
   rw [h1]
   refine⟨q',h2,h3.trans hql,?_⟩
   rw [if_neg e,hd0 c.pa q hq]
   exact hqd
 ·by_cases e:j=id
  ·rw [e];omega
  ·obtain⟨c,hc,_⟩:=hback j c' e hj
   exact h.wf.pos j c hc
 ·by_cases e:j=id
  ·rw [e,hself] at hj
   cases hj
   exact InvE.nil'
  ·obtain⟨c,hc,_,_,_,h1,_⟩:=hback j c' e hj
   rw [h1]
   exact h.wf.inv j c hc
 ·by_cases e2:j=id
  ·rw [e2,hself] at hj
   cases hj
   cases he
  ·obtain⟨c,hc,_,_,_,h1,_⟩:=hback j c' e2 hj
   rw [h1] at he
   obtain⟨k1,k2⟩:=h.wf.kids j c e hc he
   exact⟨k1,by rw [hpa _ (fun e3=>by unfold paP at k2;rw [e3,hn] at k2;cases k2)];exact k2⟩
 ·by_cases e:j=id
  ·subst e
   rw [hawid]
   rw [hself] at hj
   cases hj
   obtain⟨p2,h1,_,_,_,h2⟩:=hfwd pa p hp
   have hpp:p'=p2:=by
    have:=hpj.symm.trans h1
    exact Option.some.inj this
   rw [hpp,h2]
   refine (getE_none.2 fun e he he2=>?_)
   obtain⟨_,k2⟩:=h.wf.kids pa p e hp he
   unfold paP at k2
   rw [he2,hn] at k2
   cases k2
  ·obtain⟨c,hc,h1,h2,_,h4,h5,h6⟩:=hback j c' e hj
   rw [h1] at hpj
   have hpid:c.pa≠id:=fun e3=>by
    obtain⟨q,hq,_⟩:=h.wf.par j c hc (by omega)
    rw [e3,hn] at hq
    cases hq
   obtain⟨p0,hp0,_,_,_,h7,_⟩:=hback c.pa p' hpid hpj
   rw [h7,haw j e,hv j e,show fitC ow c'=fitC ow c by unfold fitC;rw [h2,h4,h5,h6]]
   exact h.noted j c p0 hj0 (fun h=>h) hc hp0
 ·by_cases e:j=id
  ·rw [e,hawid,if_pos rfl,Bool.and_false]
  ·rw [hsome j e] at hs
   rw [hlf' j e] at hf
   rw [haw j e,hsh' j e,if_neg e]
   exact h.awk.leaf j hj hs hf
 ·by_cases e:j=id
  ·subst e
   rw [hawid]
   constructor
   ·intro h;cases h
   ·rintro ⟨k,hk,ha⟩
    have:=awP_pos ha
    have:=hnokid k hk
    omega
  ·rw [hsome j e] at hs
   rw [hlf' j e] at hf
   rw [haw j e,h.awk.inner j hj hs hf]
   constructor
   ·rintro ⟨k,hk,ha⟩
    have hki:k≠id:=fun e2=>by unfold paP at hk;rw [e2,hn] at hk;cases hk
    exact⟨k,by rw [hpa k hki];exact hk,by rw [haw k hki];exact ha⟩
   ·rintro ⟨k,hk,ha⟩
    have hki:k≠id:=fun e2=>by rw [e2,hawid] at ha;cases ha
    exact⟨k,by rw [← hpa k hki];exact hk,by rw [← haw k hki];exact ha⟩
 ·by_cases e:j=id
  ·subst e
   rw [lfP_of hself] at hf
   rw [shP_of hself]
   exact hsh hf
  ·rw [hsome j e] at hs
   rw [hlf' j e] at hf
   rw [hsh' j e]
   exact h.awk.innersh j hj hs hf
 ·by_cases e:j=id
  ·subst e
   rw [hmid,shP_of hself]
   show (if sh=true then _ else _:Option Mem).isSome=sh
   cases sh <;> rfl
  ·rw [hsome j e] at hs
   rw [hmem j hj e,hsh' j e]
   exact h.awk.mems j hj hs
 ·by_cases eq:q=id
  ·rw [eq,kf_of hself] at hk
   cases hk
  ·cases hq:lookM Q q with
   | none=>unfold kf famP at hk;rw [hq] at hk;cases hk
   | some c' =>
    by_cases e:j=id
    ·by_cases e2:q=pa
     ·rw [e,e2];exact⟨hid,hpaid⟩
     ·rw [e] at hk
      have h1:kf P q id=true:=by
       rw [hlook,if_neg eq,if_neg e2] at hq
       rw [kf_of hq]
       have h2:lookM Q q=some c':=by rw [hlook,if_neg eq,if_neg e2];exact hq
       rwa [kf_of h2] at hk
      obtain⟨_,h2⟩:=h.fams q id h1
      unfold paP at h2
      rw [hn] at h2
      cases h2
    ·have h1:kf P q j=true:=by
      by_cases e2:q=pa
      ·have h2:=hlook q
       rw [if_neg eq,if_pos e2] at h2
       rw [kf_of h2] at hk
       rw [e2,kf_of hp]
       dsimp only at hk
       split at hk
       ·rwa [only_add id share _ j e] at hk
       ·exact hk
      ·have h2:=hlook q
       rw [if_neg eq,if_neg e2] at h2
       unfold kf famP at hk ⊢
       rw [h2] at hk
       exact hk
     obtain⟨h2,h3⟩:=h.fams q j h1
     exact⟨h2,by rw [hpa j e];exact h3⟩
end
end
end Go.Proofs.YtmmeopjemkjllaaGreat
