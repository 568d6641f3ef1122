/- Lemmas of the claim. No conditions beyond those that each states. -/
import Derived.Test.YtmmeopjemkjllaaGreatPU9
import Derived.Test.YtmmeopjemkjllaaGreatPU2
import Derived.Deep.DrawnRows
set_option linter.unusedVariables false
set_option linter.unusedSimpArgs false
set_option maxRecDepth 100000
set_option maxHeartbeats 8000000
namespace Go.Proofs.YtmmeopjemkjllaaGreat
section
open Go.RowKit
def ptrV (t:RB):Value:=.pointer ((adr t).map fun a=>⟨a,0,none⟩)
def kyV (k:Ky):Value:=.agg #[.int .u64 k.1,.int .i64 k.2]
def nodeC (k:Ky)(v:Int)(s:Ky)(c:Bool)(l r:RB):Array Value:=#[.int .u64 k.1,.int .i64 k.2,.int .u64 v,.int .u64 s.1,.int .i64 s.2,.bool c,ptrV l,ptrV r]
def RBAt (w:World):RB→Prop
 | .nil=>True
 | .node a k v s c l r=>Blk w a 193 (nodeC k v s c l r)∧RBAt w l∧RBAt w r
theorem Blk.fr {S:Nat→Prop} {w w':World} {g:Nat} {t:TypeId} {cs:Array Value} (h:Blk w g t cs)(hf:Fr S w w')(hn:¬ S g):Blk w' g t cs:=(hf.block g h.lt hn).trans h
theorem RBAt.lt {w:World}:∀ {t:RB},RBAt w t→∀ a∈addrs t,a < w.heap.size
 | .nil,_,a,ha=>by cases ha
 | .node b k v s c l r,h,a,ha=>by
  rcases List.mem_cons.1 ha with rfl | ha
  ·exact h.1.lt
  ·rcases List.mem_append.1 ha with ha | ha
   ·exact RBAt.lt h.2.1 a ha
   ·exact RBAt.lt h.2.2 a ha
theorem RBAt.typed {w:World} {g:Nat} {t:TypeId} {cs:Array Value} (hB:Blk w g t cs)(ht:t≠193):∀ {x:RB},RBAt w x→g ∉ addrs x
 | .nil,_=>by intro h;cases h
 | .node b k v s c l r,h=>by
  intro hm
  rcases List.mem_cons.1 hm with rfl | hm
  ·have:=hB.symm.trans h.1
   simp only [Option.some.injEq,Obj.cells.injEq] at this
   exact ht this.2.1
  ·rcases List.mem_append.1 hm with hm | hm
   ·exact RBAt.typed hB ht h.2.1 hm
   ·exact RBAt.typed hB ht h.2.2 hm
theorem RBAt.kept {w w':World}:∀ {t:RB},RBAt w t→(∀ a∈addrs t,w'.heap[a]?=w.heap[a]?)→RBAt w' t
 | .nil,_,_=>trivial
 | .node a k v s c l r,h,hk=>⟨(hk a (.head _)).trans h.1,RBAt.kept h.2.1 fun b hb=>hk b (.tail _ (List.mem_append.2 (.inl hb))),RBAt.kept h.2.2 fun b hb=>hk b (.tail _ (List.mem_append.2 (.inr hb)))⟩
theorem RBAt.later {w w':World} {t:RB} (h:RBAt w t)(hb:Below w.heap.size w w'):RBAt w' t:=h.kept fun a ha=>hb.block a (h.lt a ha)
theorem RBAt.fr {S:Nat→Prop} {w w':World} {t:RB} (h:RBAt w t)(hf:Fr S w w')(hn:∀ a∈addrs t,¬ S a):RBAt w' t:=h.kept fun a ha=>hf.block a (h.lt a ha) (hn a ha)
attribute [local go_sem ↓] Go.wp_at_zero Go.wp_at_succ
attribute [local go_sem] quietR quietAtR quietUponR midAt midUpon
theorem ret_bool {a b:Bool} (h:a=b):Ending.returned (.bool a)=.returned (.bool b):=by rw [h]
theorem less_any (x y:Ky)(w:World):Calls Tryz.prog 172 #[.agg #[.int .u64 x.1,.int .i64 x.2],.agg #[.int .u64 y.1,.int .i64 y.2]] w fun e w'=>e=.returned (.bool (lessK x y))∧Below w.heap.size w w':=by
 obtain⟨x1,x2⟩:=x
 obtain⟨y1,y2⟩:=y
 dsimp only
 have hb:=((Below.refl w.heap.size w).alloc (Nat.le_refl _) (.cells #[.int .u64 x1,.int .i64 x2] 147)).alloc (by simp) (.cells #[.int .u64 y1,.int .i64 y2] 147)
 have HB:=Lib.hid hb
 clear hb
 by_cases h1:x1 < y1
 ·go_enter Tryz.func172,Tryz.ntmps172
  go_wp2
  go_ret
  exact⟨ret_bool (lessK_iff.2 (.inl h1)).symm,HB.out⟩
 ·by_cases h2:x1=y1
  ·subst h2
   by_cases h3:x2 < y2
   ·have he:(x1 == x1)=true:=by simp
    go_enter Tryz.func172,Tryz.ntmps172
    go_wp2
    go_ret
    exact⟨ret_bool ((lessK_iff (x:=(x1,x2)) (y:=(x1,y2))).2 (.inr ⟨rfl,h3⟩)).symm,HB.out⟩
   ·have he:(x1 == x1)=true:=by simp
    have e:lessK (x1,x2) (x1,y2)=false:=by
     cases e:lessK (x1,x2) (x1,y2)
     ·rfl
     ·have:=lessK_iff.1 e;dsimp only at this;omega
    have e':=Lib.hid e
    clear e
    go_enter Tryz.func172,Tryz.ntmps172
    go_wp2
    go_ret
    exact⟨ret_bool e'.out.symm,HB.out⟩
  ·have he:(x1 == y1)=false:=by simpa using h2
   have e:lessK (x1,x2) (y1,y2)=false:=by
    cases e:lessK (x1,x2) (y1,y2)
    ·rfl
    ·have:=lessK_iff.1 e;dsimp only at this;omega
   have e':=Lib.hid e
   clear e
   go_enter Tryz.func172,Tryz.ntmps172
   go_wp2
   go_ret
   exact⟨ret_bool e'.out.symm,HB.out⟩
theorem is_any (t:RB)(w:World)(h:RBAt w t):Calls Tryz.prog 153 #[ptrV t] w fun e w'=>e=.returned (.bool (isR t))∧w=w':=by
 cases t with
 | nil =>
  unfold ptrV adr
  go_enter Tryz.func153,Tryz.ntmps153
  go_wp2
  go_ret
  exact⟨rfl,rfl⟩
 | node a k v s c l r =>
  have c5:=h.1.cell 5
  unfold nodeC at c5
  simp only [lTA,lCZ,lCS] at c5
  unfold ptrV adr
  clear h
  go_enter Tryz.func153,Tryz.ntmps153
  go_wp2
  go_ret
  exact⟨rfl,rfl⟩
theorem own_any (k:Ky)(v:Int)(w:World):Calls Tryz.prog 78 #[.agg #[.int .u64 k.1,.int .i64 k.2],.int .u64 v] w fun e w'=>e=.returned (.agg #[.int .u64 (ownK k v).1,.int .i64 (ownK k v).2])∧Below w.heap.size w w':=by
 obtain⟨k1,k2⟩:=k
 unfold ownK
 dsimp only
 go_enter Tryz.func78,Tryz.ntmps78
 go_wp2
 refine bodyPost_ret (v:=.agg #[.int .u64 v,.int .i64 k2]) (by simp [results,Tryz.results78,go_sem]) rfl ⟨rfl,?_⟩
 go_grown
def LessH (w:World)(h:Ky)(e:Ending)(w':World):Prop:=e=.returned (.agg #[.int .u64 h.1,.int .i64 h.2])∧Below w.heap.size w w'
theorem lesser_any (a b:Ky)(w:World):Calls Tryz.prog 79 #[.agg #[.int .u64 a.1,.int .i64 a.2],.agg #[.int .u64 b.1,.int .i64 b.2]] w (LessH w (lessH a b)):=by
 obtain⟨a1,a2⟩:=a
 obtain⟨b1,b2⟩:=b
 dsimp only
 by_cases h:(a1,a2)=(b1,b2)∨lessK (a1,a2) (b1,b2)=true
 ·have e:lessH (a1,a2) (b1,b2)=(a1,a2):=if_pos h
  rw [e]
  clear e
  have h2:(a1=b1∧a2=b2)∨a1 < b1∨(a1=b1∧a2 < b2):=by
   rcases h with h | h
   ·cases h;exact .inl ⟨rfl,rfl⟩
   ·exact .inr (lessK_iff.1 h)
  have h3:¬ (a1=b1∧b2 < a2):=by omega
  have h4:a1≤b1:=by omega
  have H:=Lib.hid (And.intro h2 h3)
  clear h h2 h3
  go_enter Tryz.func79,Tryz.ntmps79
  go_wp2
  all_goals first
   | (exfalso;have:=H.out;omega)
   | (refine bodyPost_ret (v:=.agg #[.int .u64 a1,.int .i64 a2]) (by (simp [results,Tryz.results79,go_sem];try omega)) rfl ⟨rfl,?_⟩;go_grown)
 ·have e:lessH (a1,a2) (b1,b2)=(b1,b2):=if_neg h
  rw [e]
  clear e
  have h2:b1 < a1∨(a1=b1∧b2 < a2):=by
   apply Classical.byContradiction
   intro hn
   by_cases h3:a1=b1∧a2=b2
   ·exact h (.inl (by rw [h3.1,h3.2]))
   ·exact h (.inr (lessK_iff.2 (by dsimp only;omega)))
  have H:=Lib.hid h2
  clear h h2
  go_enter Tryz.func79,Tryz.ntmps79
  go_wp2
  all_goals first
   | (exfalso;have:=H.out;omega)
   | (refine bodyPost_ret (v:=.agg #[.int .u64 b1,.int .i64 b2]) (by (simp [results,Tryz.results79,go_sem];try omega)) rfl ⟨rfl,?_⟩;go_grown)
end
end Go.Proofs.YtmmeopjemkjllaaGreat
