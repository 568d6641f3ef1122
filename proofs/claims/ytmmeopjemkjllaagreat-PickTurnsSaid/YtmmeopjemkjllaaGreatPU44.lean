/- Lemmas of the claim. No conditions beyond those that each states. -/
import Derived.Test.YtmmeopjemkjllaaGreatPU43
set_option linter.unusedVariables false
set_option linter.unusedSimpArgs false
set_option maxRecDepth 100000
set_option maxHeartbeats 8000000
namespace Go.Proofs.YtmmeopjemkjllaaGreat
section
open Go.RowKit Go.Maps
open Go.ChangeShapes Go.WideShapes Go.Deep
theorem tcvs_of {w:World} {a:Option Addr} {len cap:Nat} {z:List (List Value)} (h:IsRows [some .u64,some .u64,some .u64] w a len cap z) :
  len≤9223372036854775807∧∃ l,CvsAt w a len l:=by
 obtain⟨h1,h2,h3,h4,h5⟩:=h
 have h2':cap≤9223372036854775807:=by unfold maxLen at h2;exact h2
 refine⟨Nat.le_trans h1 h2',?_⟩
 obtain⟨l,hl,hr⟩:=list_of (fun i (q:Int × Int × Int)=>z[i]?=some [.int .u64 q.1,.int .u64 q.2.1,.int .u64 q.2.2]∧U q.1∧U q.2.1∧U q.2.2) len (fun i hi=>by
  have hf:=h4 _ (List.getElem_mem (l:=z) (n:=i) (by omega))
  obtain⟨x0,r0,e0,w0,f1⟩:=kinds_cons hf
  obtain⟨x1,r1,e1,w1,f2⟩:=kinds_cons f1
  obtain⟨x2,r2,e2,w2,f3⟩:=kinds_cons f2
  obtain rfl:=kinds_nil f3
  exact⟨(x0,x1,x2),by rw [List.getElem?_eq_getElem (by omega),e0,e1,e2],gu64_U w0,gu64_U w1,gu64_U w2⟩)
 refine⟨l,hl,fun q hq=>?_,?_⟩
 ·obtain⟨i,hi,rfl⟩:=List.mem_iff_getElem.1 hq
  exact (hr i _ (List.getElem?_eq_getElem hi)).2
 ·rcases h5 with h5 | ⟨b,off,e,hb,hc⟩
  ·exact .inl h5
  ·refine .inr ⟨b,off,e,hb,fun i q hq=>?_⟩
   have hx:=(hr i q hq).1
   exact⟨hc i _ hx 0 _ rfl,by rw [Nat.add_assoc];exact hc i _ hx 1 _ rfl,by rw [Nat.add_assoc];exact hc i _ hx 2 _ rfl⟩
theorem tnums_of {w:World} {a:Option Addr} {len cap:Nat} {z:List (List Value)} (h:IsRows [some .u64] w a len cap z) :
  len≤9223372036854775807∧∃ l,NumsAt w a len l:=by
 obtain⟨h1,h2,h3,h4,h5⟩:=h
 have h2':cap≤9223372036854775807:=by unfold maxLen at h2;exact h2
 refine⟨Nat.le_trans h1 h2',?_⟩
 obtain⟨l,hl,hr⟩:=list_of (fun i (q:Int)=>z[i]?=some [.int .u64 q]∧U q) len (fun i hi=>by
  have hf:=h4 _ (List.getElem_mem (l:=z) (n:=i) (by omega))
  obtain⟨x0,r0,e0,w0,f1⟩:=kinds_cons hf
  obtain rfl:=kinds_nil f1
  exact⟨x0,by rw [List.getElem?_eq_getElem (by omega),e0],gu64_U w0⟩)
 refine⟨l,hl,fun q hq=>?_,?_⟩
 ·obtain⟨i,hi,rfl⟩:=List.mem_iff_getElem.1 hq
  exact (hr i _ (List.getElem?_eq_getElem hi)).2
 ·rcases h5 with h5 | ⟨b,off,e,hb,hc⟩
  ·exact .inl h5
  ·refine .inr ⟨b,off,e,hb,fun i q hq=>?_⟩
   have:=hc i _ (hr i q hq).1 0 _ rfl
   simpa using this
end
end Go.Proofs.YtmmeopjemkjllaaGreat
