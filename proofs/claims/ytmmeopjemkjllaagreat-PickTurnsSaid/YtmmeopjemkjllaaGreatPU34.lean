/- Lemmas of the claim. No conditions beyond those that each states. -/
import Derived.Test.YtmmeopjemkjllaaGreatPU33
import Derived.ArgAppend
import Derived.Deep.Upon
import Derived.Test.YtmmeopjemkjllaaGreatPU10
set_option linter.unusedVariables false
set_option linter.unusedSimpArgs false
set_option maxRecDepth 100000
set_option maxHeartbeats 8000000
namespace Go.Proofs.YtmmeopjemkjllaaGreat
section
open Go.RowKit Go.Maps
attribute [local go_sem ↓] Go.wp_at_zero Go.wp_at_succ
attribute [local go_sem] quietR quietAtR quietUponR midAt midUpon
theorem wpList_append_runH {P:Program} {w w':World} {ops:Array Oper} {rest:List Oper} {o:Oper} {a:Act} {Q:Exit→Act→World→Prop} (hgd:o.guard=none)(s x:Operand)(t:TypeId)
  (ho:o.op=.call { callee:=.builtin .append,args:=#[s,x],argTypes:=#[t,t] }) (va vx v:Value) (hs:a.eval s=va) (hx:a.eval x=vx)
  (hr:(Builtin.append_ #[t,t] o.type #[va,vx]).run P w=.ok v w') (h:wpList P ops Q rest (a.put o.dst v) w'):wpList P ops Q (o :: rest) a w :=
 wpList_plain hgd fun K hK=>by
  unfold Oper.wp execOp
  simp only [ho,resolve,invoke,builtin,Sem.run_bind,Sem.run_pure,Result.andThen_ok,List.map_toArray,List.map_cons,List.map_nil,hs,hx,hr]
  exact hK _ _ h
def dep (M:Mp)(x:Int):Nat:=((lookM M x).map fun c=>c.2.toNat).getD 0
end
section
open Go.RowKit Go.Maps Go.Sort Go.Shelf
attribute [local go_sem ↓] Go.wp_at_zero Go.wp_at_succ
attribute [local go_sem] quietR quietAtR quietUponR midAt midUpon
theorem grown_setH (W:World)(q o:Nat)(v:Value):W.grownBy (W.setCell ⟨q,o,none⟩ v) (some q) :=
 ⟨rfl,rfl,rfl,by simp [World.setCell],fun k hk hne=>Below.heap_setCell W ⟨q,o,none⟩ v k (by show k≠q;rintro rfl;exact hne rfl)⟩
theorem grown_transH {w w1 w':World} {r:Option Nat} (h:w.grownBy w1 r)(k:w1.grownBy w' r):w.grownBy w' r :=
 ⟨k.os.trans h.os,k.tape.trans h.tape,k.output.trans h.output,Nat.le_trans h.size k.size,fun b hb hn=>(k.block b (Nat.lt_of_lt_of_le hb h.size) hn).trans (h.block b hb hn)⟩
theorem grown_setCells (b:Nat):∀ (vs:List Value)(o:Nat)(w:World),w.grownBy (w.setCells b o vs) (some b)
 | [],_,w=>⟨rfl,rfl,rfl,Nat.le_refl _,fun _ _ _=>rfl⟩
 | v :: r,o,w=>by unfold World.setCells;exact grown_transH (grown_setH w b o v) (grown_setCells b r (o+1) _)
end
end Go.Proofs.YtmmeopjemkjllaaGreat
