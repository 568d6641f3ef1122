/- Lemmas of the claim. No conditions beyond those that each states. -/
import Derived.Test.YtmmeopjemkjllaaGreatPU8
import Derived.Deep.Slices
import Derived.Deep.Fields
import Derived.ChangeSame
import Derived.ChangeOld
import Derived.Lib.SmallJoins
set_option linter.unusedVariables false
set_option linter.unusedSimpArgs false
set_option maxRecDepth 100000
set_option maxHeartbeats 8000000
namespace Go.Proofs.YtmmeopjemkjllaaGreat
section
open Go.ChangeShapes Go.WideShapes Go.Deep
def KindsFit:List (Option IntKind)→List Value→Prop
 | [],[]=>True
 | some k :: ks,v :: vs=>(∃ n,v=.int k n∧(Lit.int k n).wf=true)∧KindsFit ks vs
 | none :: ks,v :: vs=>(∃ b,v=.bool b)∧KindsFit ks vs
 | _,_=>False
def IsRows (ks:List (Option IntKind))(w:World)(a:Option Addr)(len cap:Nat)(z:List (List Value)):Prop :=
 len≤cap∧cap≤maxLen∧z.length=len∧(∀ row∈z,KindsFit ks row) ∧
 (len=0∨∃ b off,a=some ⟨b,off,none⟩∧b < w.heap.size∧∀ i row,z[i]?=some row→∀ j v,row[j]?=some v→w.cell? ⟨b,off+(i*ks.length+j),none⟩=some v)
section
variable {H : Type} {enc : TypeId × Value → H} {P : Program} {w : World} {base : Nat} {spare : Nat → Bool} {held : Bool}
theorem list_of {α:Type} [Inhabited α] (R:Nat→α→Prop)(n:Nat)(h:∀ i,i < n→∃ x,R i x):∃ z:List α,z.length=n∧∀ i x,z[i]?=some x→R i x:=by
 induction n with
 | zero=>exact⟨[],rfl,fun i x hx=>by simp at hx⟩
 | succ n ih =>
  obtain⟨z,hz,hr⟩:=ih fun i hi=>h i (by omega)
  obtain⟨x,hx⟩:=h n (by omega)
  refine⟨z ++ [x],by simp [hz],fun i y hy=>?_⟩
  by_cases hi:i < n
  ·exact hr i y (by rw [List.getElem?_append_left (by omega)] at hy;exact hy)
  ·rw [List.getElem?_append_right (by omega)] at hy
   have:i - z.length=0:=by
    have:=(List.getElem?_eq_some_iff.1 hy).1
    simp at this;omega
   rw [this] at hy
   simp at hy
   subst hy
   obtain rfl:i=n:=by omega
   exact hx
end
end
section
open Go.ChangeShapes Go.WideShapes Go.Deep
mutual
inductive FlatAt (P:Program):TypeId→List (Option IntKind)→Prop
 | int {t:TypeId} {k:IntKind} (h:P.underlying t=some (.int k)):FlatAt P t [some k]
 | bool {t:TypeId} (h:P.underlying t=some .bool):FlatAt P t [none]
 | str {t:TypeId} {fs:Array Field} {ks:List (Option IntKind)} (h:P.underlying t=some (.struct fs)) (hf:FlatFs P fs.toList 0 ks) (hc:P.cellsOf t=ks.length):FlatAt P t ks
inductive FlatFs (P:Program):List Field→Nat→List (Option IntKind)→Prop
 | nil {off:Nat}:FlatFs P [] off []
 | cons {f:Field} {fs:List Field} {off:Nat} {ks ks':List (Option IntKind)} (ho:f.offset=off) (hf:FlatAt P f.type ks) (hc:P.cellsOf f.type=ks.length) (hr:FlatFs P fs (off+ks.length) ks'):FlatFs P (f :: fs) off (ks ++ ks')
end
theorem kinds_append:∀ {k1 k2:List (Option IntKind)} {l1 l2:List Value},KindsFit k1 l1→KindsFit k2 l2→KindsFit (k1 ++ k2) (l1 ++ l2)
 | [],_,[],_,_,h=>h
 | some _ :: _,_,_ :: _,_,h1,h2=>⟨h1.1,kinds_append h1.2 h2⟩
 | none :: _,_,_ :: _,_,h1,h2=>⟨h1.1,kinds_append h1.2 h2⟩
 | [],_,_ :: _,_,h1,_=>h1.elim
 | some _ :: _,_,[],_,h1,_=>h1.elim
 | none :: _,_,[],_,h1,_=>h1.elim
theorem kinds_cons {k:IntKind} {ks:List (Option IntKind)}:∀ {row:List Value},KindsFit (some k :: ks) row→∃ n r,row=.int k n :: r∧(Lit.int k n).wf=true∧KindsFit ks r
 | _ :: r,⟨⟨n,e,hw⟩,h⟩=>⟨n,r,by rw [e],hw,h⟩
theorem kinds_nil:∀ {row:List Value},KindsFit [] row→row=[]
 | [],_=>rfl
section
variable {H : Type} {enc : TypeId × Value → H} {P : Program} {w : World} {base : Nat} {spare : Nat → Bool} {held : Bool}
mutual
theorem flat_row {t:TypeId} {ks:List (Option IntKind)}:FlatAt P t ks→∀ {fuel:Nat} {cs:List Value} {x:DataW H × List MemPlace},DataW.trod enc P w base spare held fuel t cs=some x→KindsFit ks cs
 | .int h,fuel,cs,x,ht=>by
  obtain⟨m,e1,_,hw⟩:=DataW.trod_int h ht
  subst e1
  exact⟨⟨m,rfl,hw⟩,trivial⟩
 | .bool h,fuel,cs,x,ht=>by
  obtain⟨m,e1,_⟩:=DataW.trod_bool h ht
  subst e1
  exact⟨⟨m,rfl⟩,trivial⟩
 | .str h hf hc,fuel,cs,x,ht=>by
  obtain⟨xs,n,_,_,hlen,hxl,hget⟩:=DataW.trod_struct h ht
  have:=flat_fs hf (n:=n) (cs:=cs) (fun i f hi=>by
   have hi':=hi
   simp only [Array.getElem?_toList] at hi'
   have hlt:i < xs.length:=by rw [hxl];exact (Array.getElem?_eq_some_iff.1 hi').1
   exact⟨_,(hget i f hi').trans (List.getElem?_eq_getElem hlt)⟩) (by omega)
  rw [List.drop_zero,List.take_of_length_le (by omega)] at this
  exact this
theorem flat_fs {fs:List Field} {off:Nat} {ks:List (Option IntKind)}:FlatFs P fs off ks→∀ {n:Nat} {cs:List Value},(∀ (i:Nat)(f:Field),fs[i]?=some f→∃ y,DataW.trod enc P w base spare held n f.type ((cs.drop f.offset).take (P.cellsOf f.type))=some y)→off+ks.length≤cs.length→KindsFit ks ((cs.drop off).take ks.length)
 | .nil,n,cs,_,_=>by simp [KindsFit]
 | @FlatFs.cons _ f fs off ks ks' ho hf hc hr,n,cs,h,hl=>by
  obtain⟨y,hy⟩:=h 0 f rfl
  rw [ho,hc] at hy
  have h1:=flat_row hf hy
  rw [List.length_append] at hl
  have h2:=flat_fs hr (n:=n) (cs:=cs) (fun i f' hi=>h (i+1) f' (by simpa using hi)) (by omega)
  have e:(cs.drop off).take (ks ++ ks').length=(cs.drop off).take ks.length ++ (cs.drop (off+ks.length)).take ks'.length:=by
   rw [List.length_append,List.take_add,List.drop_drop]
  rw [e]
  exact kinds_append h1 h2
end
theorem rows_flat {t e:TypeId} {ks:List (Option IntKind)} {a:Option Addr} {len cap:Nat} {d:DataW H} {p:List MemPlace} (ht:P.underlying t=some (.slice e))(he:FlatAt P e ks)(hC:P.cellsOf e=ks.length)(hpos:ks.length≠0)
  (h:DataW.Trod enc P w base spare held t (.slice a len cap) d p):∃ z,IsRows ks w a len cap z:=by
 obtain⟨fuel,hf⟩:=h
 rcases open_slice ht hf with hcs | ⟨x,l,c,m,n,D,Pl,hcs,_,hlc,hcm,hm,_,hi⟩
 ·have hcs:=hcs.1
  simp [Value.cells] at hcs
  obtain⟨rfl,rfl,rfl⟩:=hcs
  exact⟨[],by omega,by unfold maxLen;omega,rfl,(by intro r hr;simp at hr),.inl rfl⟩
 ·simp [Value.cells] at hcs
  obtain⟨rfl,rfl,rfl⟩:=hcs
  have hlm:len≤m:=by rw [hm];split <;> omega
  obtain⟨z,hz,hr⟩:=list_of (fun i row=>KindsFit ks row∧∀ j v,row[j]?=some v→w.cell? (x.add (i*ks.length+j))=some v) len (fun i hil=>by
   obtain⟨cs',hc,ht'⟩:=hi i (by omega)
   rw [hC] at hc
   obtain⟨_,hcl,hat⟩:=World.cells?_some hc
   refine⟨cs',flat_row he ht',fun j v hv=>?_⟩
   have hj:j < ks.length:=by have:=(List.getElem?_eq_some_iff.1 hv).1;omega
   rw [← hv,← hat j hj,Go.Deep.add_add])
  refine⟨z,hlc,hcm,hz,fun row hrow=>?_,?_⟩
  ·obtain⟨i,hi,rfl⟩:=List.mem_iff_getElem.1 hrow
   exact (hr i _ (List.getElem?_eq_getElem hi)).1
  ·by_cases h0:len=0
   ·exact .inl h0
   ·right
    obtain⟨cs',hc,ht'⟩:=hi 0 (by omega)
    rw [hC] at hc
    obtain⟨_,hcl,hat⟩:=World.cells?_some hc
    have h1:=hat 0 (by omega)
    rw [List.getElem?_eq_getElem (show 0 < cs'.length by omega)] at h1
    have hx:(x.add (0*ks.length)).add 0=x:=by simp [Addr.add]
    rw [hx] at h1
    have hsp:x.spot=none:=by
     unfold World.cell? at h1
     split at h1
     ·split at h1
      ·cases h1
      ·rename_i hns;simpa using hns
     ·cases h1
    have hlt:x.block < w.heap.size:=World.block_lt_of_cell? w _ h1
    obtain⟨b,off,sp⟩:=x
    simp only at hsp hlt
    subst hsp
    refine⟨b,off,rfl,hlt,fun i row hrow j v hv=>?_⟩
    have:=(hr i row hrow).2 j v hv
    rwa [Addr.add_lit] at this
end
end
end Go.Proofs.YtmmeopjemkjllaaGreat
