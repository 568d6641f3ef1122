/- Lemmas of the claim. No conditions beyond those that each states. -/
import Derived.Test.YtmmeopjemkjllaaGreatPT34
import Derived.ArgAppend
import Derived.Deep.Upon
import Derived.Test.YtmmeopjemkjllaaGreatPT11
set_option linter.unusedVariables false
set_option linter.unusedSimpArgs false
set_option maxRecDepth 100000
set_option maxHeartbeats 8000000
namespace Go.Proofs.YtmmeopjemkjllaaGreat
section
open Go.RowKit Go.Maps
attribute [local go_sem ↓] Go.wp_at_zero Go.wp_at_succ
attribute [local go_sem] quietR quietAtR quietUponR midAt midUpon
theorem wpList_append_runH {P:Program} {w w':World} {ops:Array Oper} {rest:List Oper} {o:Oper} {a:Act} {Q:Exit→Act→World→Prop} (hgd:o.guard=none)(s x:Operand)(t:TypeId)
  (ho:o.op=.call { callee:=.builtin .append,args:=#[s,x],argTypes:=#[t,t] }) (va vx v:Value) (hs:a.eval s=va) (hx:a.eval x=vx)
  (hr:(Builtin.append_ #[t,t] o.type #[va,vx]).run P w=.ok v w') (h:wpList P ops Q rest (a.put o.dst v) w'):wpList P ops Q (o :: rest) a w :=
 wpList_plain hgd fun K hK=>by
  unfold Oper.wp execOp
  simp only [ho,resolve,invoke,builtin,Sem.run_bind,Sem.run_pure,Result.andThen_ok,List.map_toArray,List.map_cons,List.map_nil,hs,hx,hr]
  exact hK _ _ h
theorem app_one (ty : TypeId) {A : List Int} {x : Int} {w : World} {v : Value} {base b : Nat} (hc : w.cell? ⟨b, 0, none⟩ = some (.int .i64 x)) (hown : w.ownsRow base 3 1 v A.length (A.map (Value.int .i64))) (hb : base ≤ w.heap.size) (hl : A.length ≤ 3000000) :
    ∃ v' w', (Builtin.append_ #[51, 51] ty #[v, .slice (some ⟨b, 0, none⟩) 1 1]).run Tryz.prog w = .ok v' w' ∧ w'.ownsRow base 3 1 v' (A ++ [x]).length ((A ++ [x]).map (Value.int .i64)) ∧ w.grownBy w' v.ownBlock := by
  obtain ⟨i0, hi0, hz0, hz1, hz2⟩ := info_parts info_int
  obtain ⟨v', w', hr, ho, hg, _⟩ := run_append_own (P := Tryz.prog) (w := w) base 51 ty 3 i0 _ 1 8 Tryz.underlying51 hi0 hz0 hz1 hz2 rfl (by decide) v A.length _ hown ⟨b, 0, none⟩ 1 1 ([x].map (Value.int .i64)) (by simp) (fun j u hj => by
        match j with
        | 0 => simp at hj; subst hj; simpa [Addr.add_lit] using hc
        | j + 1 => simp at hj) (by intro u hu; obtain ⟨x, _, rfl⟩ := List.mem_map.1 hu; rfl) (by unfold maxLen; omega) (by omega) hb
  exact ⟨v', w', hr, by simpa using ho, hg⟩
theorem pathF_le (M:Mp):∀ (n:Nat)(id:Int),(pathF M n id).length≤n
 | 0,_=>Nat.le_refl _
 | n+1,id=>by
  unfold pathF
  cases lookM M id with
  | none=>simp
  | some c=>have:=pathF_le M n c.1.pa;simp;omega
theorem InvT.path_step {M:Mp} (h:InvT M) {id:Int} {c:Cl} (e:lookM M id=some c):pathM M id=id :: pathM M c.1.pa:=by
 unfold pathM
 rw [pathF_some e 7,h.pathF_more 7 8 fun c' hc'=>by
  have o:=h.ok _ _ e
  have:=o.d8
  rcases o.up with ⟨h0,_⟩ | ⟨p,hp,_,hd⟩
  ·rw [h0,h.zero] at hc';cases hc'
  ·rw [hp] at hc';cases hc';omega]
def dep (M:Mp)(x:Int):Nat:=((lookM M x).map fun c=>c.2.toNat).getD 0
theorem InvT.dep_lt {M:Mp} (h:InvT M) {id:Int} {c:Cl} (e:lookM M id=some c):dep M c.1.pa < dep M id:=by
 have o:=h.ok _ _ e
 have:=o.d1
 unfold dep
 rw [e]
 rcases o.up with ⟨h0,h1⟩ | ⟨p,hp,_,hd⟩
 ·rw [h0,h.zero];simp;omega
 ·rw [hp];have:=(h.ok _ _ hp).d1;simp;omega
theorem InvT.pa_wf {M:Mp} (h:InvT M) {id:Int} {c:Cl} (e:lookM M id=some c):(Lit.int .i64 c.1.pa).wf=true:=(h.ok _ _ e).wf.1.2.1
def PathJ (w:World)(g:Nat)(M:Mp)(id:Int)(a':Act)(w':World):Prop :=
 ∃ (A:List Int) (cur:Int) (v u2 u3 u6 u7 u8 u9 u10 u11 u12 u13 u14 u15 u16 u17 u18 u19 u20 u21:Value),a'={ tmps:=#[.pointer (some ⟨g,0,none⟩),.int .i64 cur,u2,u3,.slice none 0 0,v,u6,u7,u8,u9,u10,u11,u12,u13,u14,u15,u16,u17,u18,u19,u20,u21],defers:=[] }∧Below w.heap.size w w'∧w'.ownsRow w.heap.size 3 1 v A.length (A.map (Value.int .i64))∧A ++ pathM M cur=pathM M id∧(Lit.int .i64 cur).wf=true
theorem tpath_any (id:Int)(base g ma mu:Nat)(U:List (Int × Value))(M:Mp)(w:World)(hid:(Lit.int .i64 id).wf=true)(h:TreeX w base g ma mu U M) :
  Calls Tryz.prog 29 #[.pointer (some ⟨g,0,none⟩),.int .i64 id] w (IdsW w (pathM M id)):=by
 have H:=Lib.hid h
 clear h
 go_enter Tryz.func29,Tryz.ntmps29
 go_wp2
 refine wp_scope_jumps 0 (PathJ w g M id) (fun a' _=>dep M (Go.RowKit.intOf (a'.tmps.getD 1 undef))) rfl ?_ ?_
 ·go_wp2_with fail
  go_step3
  have hget:=tget_any id base g ma mu U M w hid (H.out.later (Below.refl w.heap.size w))
  unfold GetW getS spV spC at hget
  have HS:=Lib.hid (And.intro (Below.refl w.heap.size w) (And.intro (show w.ownsRow w.heap.size 3 1 (.slice none 0 0) ([]:List Int).length (([]:List Int).map (Value.int .i64)) from World.ownsRow_nil _ _ _ _) (show ([]:List Int) ++ pathM M id=pathM M id from rfl)))
  cases e:lookM M id with
  | none =>
   rw [e] at hget
   unfold cl0 sp0 at hget
   dsimp only [Option.getD,Option.isSome] at hget
   have HE:=Lib.hid e
   clear e
   go_wp2_with fail
   refine hget.mono ?_
   clear hget
   rintro e w1 ⟨rfl,hb1⟩
   have hw1:=HS.out.1.trans (hb1.mono HS.out.1.size)
   have ho1:=owns_laterH HS.out.2.1 hb1
   have hb2:=(Below.refl w1.heap.size w1).alloc (Nat.le_refl _) (.cells #[.int .i64 0,.int .i64 0,.bool false,.int .u64 0,.int .u64 0,.int .u64 0,.int .u64 0,.int .u64 0,.int .u64 0,.int .u64 0,.int .u64 0,.int .u64 0,.int .i64 0,.int .i64 0] 32)
   have HF:=Lib.hid (And.intro (owns_laterH ho1 hb2) (hw1.trans (hb2.mono hw1.size)))
   clear hw1 ho1 hb2 hb1
   go_wp2_with fail
   simp only [Exit.jump]
   go_ret
   have hA:=HS.out.2.2
   have hz:pathM M id=[]:=pathF_none HE.out 8
   exact⟨_,rfl,by rw [hz];exact HF.out.1,HF.out.2⟩
  | some c =>
   have HP:=Lib.hid (And.intro (H.out.inv.path_step e) (And.intro (H.out.inv.dep_lt e) (H.out.inv.pa_wf e)))
   rw [e] at hget
   obtain⟨⟨i1,pa,i3,⟨F1,L1,R1⟩,⟨F2,L2,R2⟩,⟨F3,L3,R3⟩,i4,i5⟩,d⟩:=c
   dsimp only [Option.getD,Option.isSome] at hget HP
   clear e
   go_wp2_with fail
   refine hget.mono ?_
   clear hget
   rintro e w1 ⟨rfl,hb1⟩
   have hw1:=HS.out.1.trans (hb1.mono HS.out.1.size)
   have ho1:=owns_laterH HS.out.2.1 hb1
   have hb2:=(Below.refl w1.heap.size w1).alloc (Nat.le_refl _) (.cells #[.int .i64 i1,.int .i64 pa,.bool i3,.int .u64 F1,.int .u64 L1,.int .u64 R1,.int .u64 F2,.int .u64 L2,.int .u64 R2,.int .u64 F3,.int .u64 L3,.int .u64 R3,.int .i64 i4,.int .i64 i5] 32)
   have hX:=Blk.new w1 32 #[.int .i64 i1,.int .i64 pa,.bool i3,.int .u64 F1,.int .u64 L1,.int .u64 R1,.int .u64 F2,.int .u64 L2,.int .u64 R2,.int .u64 F3,.int .u64 L3,.int .u64 R3,.int .i64 i4,.int .i64 i5]
   have ho2:=owns_laterH ho1 hb2
   have hw2:=hw1.trans (hb2.mono hw1.size)
   have hvlt:=fun k hk=>(ho1.lt k hk).2
   have hx1:=hX.lt
   go_upto_region 3 with fail
   generalize w1.alloc (.cells #[.int .i64 i1,.int .i64 pa,.bool i3,.int .u64 F1,.int .u64 L1,.int .u64 R1,.int .u64 F2,.int .u64 L2,.int .u64 R2,.int .u64 F3,.int .u64 L3,.int .u64 R3,.int .i64 i4,.int .i64 i5] 32)=w2 at hX ho2 hw2 hx1 ⊢
   have hb3:=(Below.refl w2.heap.size w2).alloc (Nat.le_refl _) (.cells #[.int .i64 id] 3)
   have k2:=Blk.new w2 3 #[.int .i64 id]
   have hX3:=hX.below hb3 hX.lt
   have ho3:=owns_laterH ho2 hb3
   have hw3:=hw2.trans (hb3.mono hw2.size)
   have hAl:([]:List Int).length≤8:=by
    have h8:=pathF_le M 8 id
    have hA:=congrArg List.length HS.out.2.2
    unfold pathM at hA
    simp only [List.length_append,List.length_nil] at hA ⊢
    omega
   obtain⟨v',w',hr,ho',hg⟩:=app_one 51 (A:=[]) (k2.cell 0) ho3 hw3.size (by omega)
   have hX4:=hX3.grown hg (fun e=>by have:=hvlt _ e.symm;omega)
   have k1:=hX4.cell 1
   simp only [lTA,lCZ,lCS] at k1
   have hw4:=hw3.grown hg hw3.size fun k hk=>(ho3.lt k hk).1
   have HF:=Lib.hid (And.intro ho' hw4)
   clear hw1 ho1 hb2 hb1 hX ho2 hw2 hvlt hb3 k2 hX3 ho3 hw3 hAl ho' hg hX4 hw4 hx1
   go_wp2_with (at_builtin;refine wpList_append_runH rfl _ _ _ rfl _ _ _ rfl rfl hr ?_;clear hr)
   go_step3
   change _∧PathJ w g M id _ _
   refine⟨rfl,?_⟩
   unfold PathJ
   refine⟨[] ++ [id],pa,v',_,_,_,_,_,_,_,_,_,_,_,_,_,_,_,_,_,_,rfl,HF.out.2,HF.out.1,?_,HP.out.2.2⟩
   rw [HP.out.1];rfl
 ·rintro a' w' ⟨A,cur,v,u2,u3,u6,u7,u8,u9,u10,u11,u12,u13,u14,u15,u16,u17,u18,u19,u20,u21,rfl,hbc,hoc,hac,hcc⟩
  have hget:=tget_any cur base g ma mu U M w' hcc (H.out.later hbc)
  unfold GetW getS spV spC at hget
  have HS:=Lib.hid (And.intro hbc (And.intro hoc hac))
  clear hbc hoc hac
  cases e:lookM M cur with
  | none =>
   rw [e] at hget
   unfold cl0 sp0 at hget
   dsimp only [Option.getD,Option.isSome] at hget
   have HE:=Lib.hid e
   clear e
   go_wp2_with fail
   refine hget.mono ?_
   clear hget
   rintro e w1 ⟨rfl,hb1⟩
   have hw1:=HS.out.1.trans (hb1.mono HS.out.1.size)
   have ho1:=owns_laterH HS.out.2.1 hb1
   have hb2:=(Below.refl w1.heap.size w1).alloc (Nat.le_refl _) (.cells #[.int .i64 0,.int .i64 0,.bool false,.int .u64 0,.int .u64 0,.int .u64 0,.int .u64 0,.int .u64 0,.int .u64 0,.int .u64 0,.int .u64 0,.int .u64 0,.int .i64 0,.int .i64 0] 32)
   have HF:=Lib.hid (And.intro (owns_laterH ho1 hb2) (hw1.trans (hb2.mono hw1.size)))
   clear hw1 ho1 hb2 hb1
   go_wp2_with fail
   simp only [Exit.jump]
   go_ret
   have hA:=HS.out.2.2
   have hz:pathM M cur=[]:=pathF_none HE.out 8
   rw [hz,List.append_nil] at hA;exact⟨_,rfl,by rw [← hA];exact HF.out.1,HF.out.2⟩
  | some c =>
   have HP:=Lib.hid (And.intro (H.out.inv.path_step e) (And.intro (H.out.inv.dep_lt e) (H.out.inv.pa_wf e)))
   rw [e] at hget
   obtain⟨⟨i1,pa,i3,⟨F1,L1,R1⟩,⟨F2,L2,R2⟩,⟨F3,L3,R3⟩,i4,i5⟩,d⟩:=c
   dsimp only [Option.getD,Option.isSome] at hget HP
   clear e
   go_wp2_with fail
   refine hget.mono ?_
   clear hget
   rintro e w1 ⟨rfl,hb1⟩
   have hw1:=HS.out.1.trans (hb1.mono HS.out.1.size)
   have ho1:=owns_laterH HS.out.2.1 hb1
   have hb2:=(Below.refl w1.heap.size w1).alloc (Nat.le_refl _) (.cells #[.int .i64 i1,.int .i64 pa,.bool i3,.int .u64 F1,.int .u64 L1,.int .u64 R1,.int .u64 F2,.int .u64 L2,.int .u64 R2,.int .u64 F3,.int .u64 L3,.int .u64 R3,.int .i64 i4,.int .i64 i5] 32)
   have hX:=Blk.new w1 32 #[.int .i64 i1,.int .i64 pa,.bool i3,.int .u64 F1,.int .u64 L1,.int .u64 R1,.int .u64 F2,.int .u64 L2,.int .u64 R2,.int .u64 F3,.int .u64 L3,.int .u64 R3,.int .i64 i4,.int .i64 i5]
   have ho2:=owns_laterH ho1 hb2
   have hw2:=hw1.trans (hb2.mono hw1.size)
   have hvlt:=fun k hk=>(ho1.lt k hk).2
   have hx1:=hX.lt
   go_upto_region 3 with fail
   generalize w1.alloc (.cells #[.int .i64 i1,.int .i64 pa,.bool i3,.int .u64 F1,.int .u64 L1,.int .u64 R1,.int .u64 F2,.int .u64 L2,.int .u64 R2,.int .u64 F3,.int .u64 L3,.int .u64 R3,.int .i64 i4,.int .i64 i5] 32)=w2 at hX ho2 hw2 hx1 ⊢
   have hb3:=(Below.refl w2.heap.size w2).alloc (Nat.le_refl _) (.cells #[.int .i64 cur] 3)
   have k2:=Blk.new w2 3 #[.int .i64 cur]
   have hX3:=hX.below hb3 hX.lt
   have ho3:=owns_laterH ho2 hb3
   have hw3:=hw2.trans (hb3.mono hw2.size)
   have hAl:A.length≤8:=by
    have h8:=pathF_le M 8 id
    have hA:=congrArg List.length HS.out.2.2
    unfold pathM at hA
    simp only [List.length_append,List.length_nil] at hA ⊢
    omega
   obtain⟨v'',w'',hr,ho',hg⟩:=app_one 51 (A:=A) (k2.cell 0) ho3 hw3.size (by omega)
   have hX4:=hX3.grown hg (fun e=>by have:=hvlt _ e.symm;omega)
   have k1:=hX4.cell 1
   simp only [lTA,lCZ,lCS] at k1
   have hw4:=hw3.grown hg hw3.size fun k hk=>(ho3.lt k hk).1
   have HF:=Lib.hid (And.intro ho' hw4)
   clear hw1 ho1 hb2 hb1 hX ho2 hw2 hvlt hb3 k2 hX3 ho3 hw3 hAl ho' hg hX4 hw4 hx1
   go_wp2_with (at_builtin;refine wpList_append_runH rfl _ _ _ rfl _ _ _ rfl rfl hr ?_;clear hr)
   go_step3
   change _∧(PathJ w g M id _ _∧_)
   refine⟨rfl,?_,?_⟩
   unfold PathJ
   refine⟨A ++ [cur],pa,v'',_,_,_,_,_,_,_,_,_,_,_,_,_,_,_,_,_,_,rfl,HF.out.2,HF.out.1,?_,HP.out.2.2⟩
   ·rw [← HS.out.2.2,HP.out.1,List.append_assoc];rfl
   ·exact HP.out.2.1
end
section
open Go.RowKit Go.Maps Go.Sort Go.Shelf
attribute [local go_sem ↓] Go.wp_at_zero Go.wp_at_succ
attribute [local go_sem] quietR quietAtR quietUponR midAt midUpon
def BsW (w : World) (l : List Int) (x : Int) (e : Ending) (w' : World) : Prop := ∃ b, e = .returned (.tuple #[.int .i64 ((l.countP (· < x) : Nat)), .bool b]) ∧ Below w.heap.size w w'
theorem bs_any (base : Nat) (v : Value) (l : List Int) (x : Int) (w : World) (h : w.ownsRow base 3 1 v l.length (l.map (Value.int .i64))) (hl : l.length ≤ 1000) (hs : l.Pairwise (· < ·)) :
    Calls Tryz.prog 132 #[v, .int .i64 x] w (BsW w l x) := by
  rcases h.2 with ⟨rfl, h0⟩ | ⟨g, cap, cur, rfl, h1, h2, h3, h4⟩
  · obtain rfl : l = [] := List.eq_nil_of_length_eq_zero h0
    clear h
    go_enter Tryz.func132, Tryz.ntmps132
    go_wp2
    go_loopw [7, 8] (fun v7 v8 W => v7 = .int .i64 0 ∧ v8 = .int .i64 0 ∧ W = w) (fun _ _ _ => 0)
    case atStart => exact ⟨rfl, rfl, rfl⟩
    case round =>
      obtain ⟨rfl, rfl, rfl⟩ := hrel
      go_wp2
      go_ret2
      exact ⟨_, rfl, Below.refl _ _⟩
  · refine (AnyG.slices_BinarySearch_int bsI g 0 l.length cap l x w (Nat.le_refl _) (by omega) (fun j hj => ?_) (by rw [List.take_length]; exact hs.imp (fun h => by omega))).mono ?_
    · rw [Nat.zero_add, h.cellAt j (by omega), List.getElem?_map, List.getElem?_eq_getElem hj, List.getD_eq_getElem?_getD]
      simp [List.getElem?_eq_getElem hj]
    · rintro e w' ⟨rfl, q, rfl⟩
      rw [List.take_length]
      exact ⟨_, rfl, below_drewN (Below.refl _ _) q⟩
def setLH (cur:Array Value):Nat→List Value→Array Value
 | _,[]=>cur
 | o,v :: r=>setLH (cur.setIfInBounds o v) (o+1) r
theorem setL_size:∀ (vs:List Value)(o:Nat)(cur:Array Value),(setLH cur o vs).size=cur.size
 | [],_,_=>rfl
 | v :: r,o,cur=>by unfold setLH;rw [setL_size r];simp
theorem setL_at:∀ (vs:List Value)(o:Nat)(cur:Array Value)(k:Nat),k < cur.size→(setLH cur o vs)[k]?=if o≤k∧k < o+vs.length then vs[k - o]? else cur[k]?
 | [],o,cur,k,hk=>by unfold setLH;rw [if_neg (by simp)]
 | v :: r,o,cur,k,hk=>by
  unfold setLH
  rw [setL_at r (o+1) _ k (by simpa using hk)]
  by_cases h1:o+1≤k∧k < o+1+r.length
  ·rw [if_pos h1,if_pos (by simp;omega)]
   obtain⟨j,hj⟩:∃ j,k - o=j+1:=⟨k - o - 1,by omega⟩
   rw [hj,show k - (o+1)=j by omega];rfl
  ·rw [if_neg h1,Array.getElem?_setIfInBounds]
   by_cases h2:o=k
   ·subst h2
    rw [if_pos rfl,if_pos hk,if_pos (by simp)]
    simp
   ·rw [if_neg h2,if_neg (by simp;omega)]
theorem Blk.setCells {b:Nat} {t:TypeId}:∀ (vs:List Value)(o:Nat) {w:World} {cur:Array Value},Blk w b t cur→Blk (w.setCells b o vs) b t (setLH cur o vs)
 | [],_,_,_,h=>h
 | v :: r,o,w,cur,h=>by unfold World.setCells setLH;exact Blk.setCells r (o+1) (h.set_ o v)
theorem grown_setH (W:World)(q o:Nat)(v:Value):W.grownBy (W.setCell ⟨q,o,none⟩ v) (some q) :=
 ⟨rfl,rfl,rfl,by simp [World.setCell],fun k hk hne=>Below.heap_setCell W ⟨q,o,none⟩ v k (by show k≠q;rintro rfl;exact hne rfl)⟩
theorem grown_transH {w w1 w':World} {r:Option Nat} (h:w.grownBy w1 r)(k:w1.grownBy w' r):w.grownBy w' r :=
 ⟨k.os.trans h.os,k.tape.trans h.tape,k.output.trans h.output,Nat.le_trans h.size k.size,fun b hb hn=>(k.block b (Nat.lt_of_lt_of_le hb h.size) hn).trans (h.block b hb hn)⟩
theorem grown_setCells (b:Nat):∀ (vs:List Value)(o:Nat)(w:World),w.grownBy (w.setCells b o vs) (some b)
 | [],_,w=>⟨rfl,rfl,rfl,Nat.le_refl _,fun _ _ _=>rfl⟩
 | v :: r,o,w=>by unfold World.setCells;exact grown_transH (grown_setH w b o v) (grown_setCells b r (o+1) _)
theorem grown_weakH {w w':World} {r:Option Nat} (h:w.grownBy w' none):w.grownBy w' r:=⟨h.os,h.tape,h.output,h.size,fun k hk _=>h.block k hk (by simp)⟩
theorem grown_drewH (w:World) {r:Option Nat}:w.grownBy w.drew r:=⟨rfl,rfl,rfl,Nat.le_refl _,fun _ _ _=>rfl⟩
theorem row_ofList {W:World} {base g cap:Nat} {cur:Array Value} {l:List Int} (hB:Blk W g 3 cur)(hg:base≤g)(hc:l.length≤cap)(hm:cap≤maxLen)(hs:cur.size=cap)(h:∀ k,k < l.length→cur[k]?=(l.map (Value.int .i64))[k]?) :
  W.ownsRow base 3 1 (.slice (some ⟨g,0,none⟩) l.length cap) l.length (l.map (Value.int .i64)):=by
 refine⟨by simp,.inr ⟨g,cap,cur,rfl,hg,hB,hc,hm,by omega,?_⟩⟩
 apply List.ext_getElem?
 intro k
 by_cases hk:k < l.length
 ·rw [List.getElem?_take_of_lt (by omega),Array.getElem?_toList];exact h k hk
 ·rw [List.getElem?_eq_none (by rw [List.length_take];omega),List.getElem?_eq_none (by simp;omega)]
def InsW (w:World)(base:Nat)(v:Value)(l:List Int)(e:Ending)(w':World):Prop :=
 ∃ v',e=.returned v'∧w'.ownsRow base 3 1 v' l.length (l.map (Value.int .i64))∧w.grownBy w' v.ownBlock∧(v'.ownBlock=v.ownBlock∨v'.ownBlock=some w.heap.size)
theorem ins_len (l:List Int)(x:Int) {j:Nat} (hj:j≤l.length):(l.take j ++ [x] ++ l.drop j).length=l.length+1:=by simp;omega
theorem ins_at (l:List Int)(x:Int) {j:Nat} (hj:j≤l.length)(k:Nat):(l.take j ++ [x] ++ l.drop j)[k]?=if k < j then l[k]? else if k=j then some x else l[k - 1]?:=by
 have hlt:(l.take j).length=j:=by rw [List.length_take];omega
 rw [List.append_assoc]
 by_cases h1:k < j
 ·rw [if_pos h1,List.getElem?_append_left (by omega),List.getElem?_take_of_lt h1]
 ·rw [if_neg h1,List.getElem?_append_right (by omega),hlt]
  by_cases h2:k=j
  ·rw [if_pos h2,h2];simp
  ·rw [if_neg h2]
   obtain⟨i,hi⟩:∃ i,k - j=i+1:=⟨k - j - 1,by omega⟩
   rw [hi,List.singleton_append,List.getElem?_cons_succ,List.getElem?_drop,show j+i=k - 1 by omega]
theorem one_int (l:List Int):∀ u∈l.map (Value.int .i64),u.oneCell'=true:=by
 intro u hu
 obtain⟨x,_,rfl⟩:=List.mem_map.1 hu
 rfl
theorem ins_any (base:Nat)(v:Value)(l:List Int)(x:Int)(vb j:Nat)(w:World)(hj:j≤l.length)(h:w.ownsRow base 3 1 v l.length (l.map (Value.int .i64)))(hl:l.length≤1000)(hx:Blk w vb 3 #[.int .i64 x])(hne:v.ownBlock≠some vb)(hb:base≤w.heap.size) :
  Calls Tryz.prog 133 #[v,.int .i64 j,.slice (some ⟨vb,0,none⟩) 1 1] w (InsW w base v (l.take j ++ [x] ++ l.drop j)):=by
 have hvs:∀ i u,([Value.int .i64 x]:List Value)[i]?=some u→w.cell? ⟨vb,0+i,none⟩=some u:=fun i u hi=>by
  match i with
  | 0=>rw [hx.cell];simpa using hi
  | i+1=>simp at hi
 have h1v:∀ u∈[Value.int .i64 x],u.oneCell'=true:=fun u hu=>by simp at hu;subst hu;rfl
 have hlen:=ins_len l x hj
 have key:∀ k,(l.map (Value.int .i64))[k]?=(l[k]?).map (Value.int .i64):=fun k=>List.getElem?_map
 have keyI:∀ k,((l.take j ++ [x] ++ l.drop j).map (Value.int .i64))[k]?=(if k < j then l[k]? else if k=j then some x else l[k - 1]?).map (Value.int .i64):=fun k=>by rw [List.getElem?_map,ins_at l x hj]
 rcases h.2 with ⟨rfl,h0⟩ | ⟨g,cap,cur,rfl,hg,hB,hc,hm,hsz,htk⟩
 ·obtain rfl:l=[]:=List.eq_nil_of_length_eq_zero h0
  obtain rfl:j=0:=by simpa using hj
  have hcon:=Any2.slices_Insert_int_end_grow insI none 0 0 vb 0 1 1 [] [.int .i64 x] w (by omega) (by omega) (by omega) (by omega) rfl rfl (fun _=>rfl) (fun a e=>by cases e) hvs h1v
  try simp only [show insI_ren.t 3=3 from rfl] at hcon
  refine hcon.mono ?_
  clear hcon
  rintro e w' ⟨rfl,rfl⟩
  refine⟨_,rfl,?_,grown_weakH (grown_transH (grown_drewH w) (World.grownBy_alloc _ _ none)),.inr rfl⟩
  have hge:=grownCap_ge w (0+1) 0 3
  have hle:=grownCap_le_maxLen w (0+1) 0 3 (by simp [maxLen])
  refine row_ofList (l:=[x]) (Blk.new w.drew 3 _) hb (by simpa using hge) hle (by simp only [Builtin.zeroCells,Value.cells];simp;simp only [Nat.zero_add] at hge;omega) fun k hk=>?_
  obtain rfl:k=0:=by simp at hk;omega
  rw [Array.getElem?_append_left (by simp)]
  rfl
 ·have hsz:cur.size=cap:=by omega
  have hcur:∀ k,k < l.length→cur[k]?=(l[k]?).map (Value.int .i64):=fun k hk=>by
   rw [← key,← htk,List.getElem?_take_of_lt (by omega),Array.getElem?_toList]
  have hB':Blk w g 3 cur:=hB
  have hcs:∀ i u,(l.map (Value.int .i64))[i]?=some u→w.cell? ⟨g,0+i,none⟩=some u:=fun i u hi=>by
   have hil:i < l.length:=by have:=(List.getElem?_eq_some_iff.1 hi).1;simpa using this
   rw [Nat.zero_add,hB'.cell,hcur i hil,← key];exact hi
  have hsp:∀ i,i < cap→(w.cell? ⟨g,0+i,none⟩).isSome=true:=fun i hi=>by
   rw [Nat.zero_add,hB'.cell,Array.getElem?_eq_getElem (by omega)];rfl
  have hgv:g≠vb:=fun e=>hne (by simp [Value.ownBlock,e])
  by_cases hroom:l.length+1≤cap
  ·by_cases hjl:j < l.length
   ·have hcon:=Any2.slices_Insert_int_shift insI g 0 l.length cap j vb 0 1 1 (l.map (Value.int .i64)) [.int .i64 x] w hjl (by omega) hroom (by unfold maxLen at hm;omega) (Ne.symm hgv) (by simp) rfl hcs (fun i hi=>hsp i (by omega)) (fun i _=>hB'.frozen _) hvs (one_int l) h1v 3 3 1 cap (by unfold World.shape?;rw [show w.heap[vb]?=_ from hx];rfl) (by unfold World.shape?;rw [show w.heap[g]?=_ from hB];show some (_,cur.size)=_;rw [hsz]) (by omega) (hx.frozen _) (hx.frozen _)
    try simp only [show insI_ren.t 3=3 from rfl] at hcon
    refine hcon.mono ?_
    clear hcon
    rintro e w' ⟨rfl,rfl⟩
    have hB2:=((hB'.drew).setCells ((l.map (Value.int .i64)).drop j) (0+(j+1))).setCells [.int .i64 x] (0+j)
    have hgr:w.grownBy ((w.drew.setCells g (0+(j+1)) ((l.map (Value.int .i64)).drop j)).setCells g (0+j) [.int .i64 x]) (some g):=grown_transH (grown_transH (grown_drewH w) (grown_setCells g _ _ _)) (grown_setCells g _ _ _)
    refine⟨_,rfl,?_,hgr,.inl rfl⟩
    have hrow:=row_ofList (l:=l.take j ++ [x] ++ l.drop j) hB2 hg (by omega) hm (by rw [setL_size,setL_size,hsz]) fun k hk=>by
     rw [setL_at _ _ _ _ (by rw [setL_size];omega),setL_at _ _ _ _ (by omega),keyI]
     by_cases c1:k < j
     ·rw [if_neg (by simp;omega),if_neg (by simp;omega),if_pos c1,hcur k (by omega)]
     ·rw [if_neg c1]
      by_cases c2:k=j
      ·subst c2
       rw [if_pos (by simp),if_pos rfl]
       simp
      ·rw [if_neg (by simp;omega),if_pos (by simp;omega),if_neg c2,List.getElem?_drop,key]
       congr 2
       omega
    rwa [hlen] at hrow ⊢
   ·obtain rfl:j=l.length:=by omega
    have hcon:=Any2.slices_Insert_int_end_room insI g 0 l.length cap vb 0 1 1 [.int .i64 x] w (by omega) hroom (by unfold maxLen at hm;omega) rfl (fun i hi=>by rw [Nat.add_assoc];exact hsp _ (by omega)) (fun i _=>hB'.frozen _) hvs h1v
    try simp only [show insI_ren.t 3=3 from rfl] at hcon
    refine hcon.mono ?_
    clear hcon
    rintro e w' ⟨rfl,rfl⟩
    have hB2:=hB'.setCells [.int .i64 x] (0+l.length)
    refine⟨_,rfl,?_,grown_setCells g _ _ _,.inl rfl⟩
    have hrow:=row_ofList (l:=l.take l.length ++ [x] ++ l.drop l.length) hB2 hg (by omega) hm (by rw [setL_size,hsz]) fun k hk=>by
     rw [setL_at _ _ _ _ (by omega),keyI]
     by_cases c1:k < l.length
     ·rw [if_neg (by simp;omega),if_pos c1,hcur k c1]
     ·obtain rfl:k=l.length:=by omega
      rw [if_pos (by simp),if_neg (by omega),if_pos rfl]
      simp
    rwa [hlen] at hrow ⊢
  ·have hcap:cap=l.length:=by omega
   have hge:=grownCap_ge w (l.length+1) cap 3
   have hle:=grownCap_le_maxLen w (l.length+1) cap 3 (by unfold maxLen;omega)
   by_cases hjl:j < l.length
   ·have hcon:=Any2.slices_Insert_int_grow insI g 0 l.length cap j vb 0 1 1 (l.map (Value.int .i64)) [.int .i64 x] w hjl (by omega) hc (by omega) (by omega) (by simp) rfl hcs hvs (one_int l) h1v
    try simp only [show insI_ren.t 3=3 from rfl] at hcon
    refine hcon.mono ?_
    clear hcon
    rintro e w' ⟨rfl,rfl⟩
    have hA:=Blk.new w 3 (((l.map (Value.int .i64)).take j).toArray ++ Builtin.zeroCells (Value.int .i64 0).cells (l.length+1 - j) ++ Builtin.zeroCells (Value.int .i64 0).cells (grownCap w (l.length+1) cap 3 - (l.length+1)))
    have hAs:(((l.map (Value.int .i64)).take j).toArray ++ Builtin.zeroCells (Value.int .i64 0).cells (l.length+1 - j) ++ Builtin.zeroCells (Value.int .i64 0).cells (grownCap w (l.length+1) cap 3 - (l.length+1))).size=grownCap w (l.length+1) cap 3:=by simp [Builtin.zeroCells,Value.cells];omega
    have hAt:∀ k,k < j→(((l.map (Value.int .i64)).take j).toArray ++ Builtin.zeroCells (Value.int .i64 0).cells (l.length+1 - j) ++ Builtin.zeroCells (Value.int .i64 0).cells (grownCap w (l.length+1) cap 3 - (l.length+1)))[k]?=(l[k]?).map (Value.int .i64):=fun k hk=>by
     rw [Array.append_assoc,Array.getElem?_append_left (by simp;omega),List.getElem?_toArray,List.getElem?_take_of_lt hk,key]
    generalize (((l.map (Value.int .i64)).take j).toArray ++ Builtin.zeroCells (Value.int .i64 0).cells (l.length+1 - j) ++ Builtin.zeroCells (Value.int .i64 0).cells (grownCap w (l.length+1) cap 3 - (l.length+1)))=ar at hA hAs hAt
    have hB2:=(((hA.drew).setCells [.int .i64 x] j).drew).setCells ((l.map (Value.int .i64)).drop j) (j+1)
    refine⟨_,rfl,?_,?_,.inr rfl⟩
    ·have hrow:=row_ofList (l:=l.take j ++ [x] ++ l.drop j) hB2 hb (by rw [hlen];exact hge) hle (by rw [setL_size,setL_size,hAs]) fun k hk=>by
      rw [setL_at _ _ _ _ (by rw [setL_size];omega),setL_at _ _ _ _ (by omega),keyI]
      by_cases c1:k < j
      ·rw [if_neg (by simp;omega),if_neg (by simp;omega),if_pos c1,hAt k c1]
      ·rw [if_neg c1]
       by_cases c2:k=j
       ·subst c2
        rw [if_neg (by omega),if_pos (by simp),if_pos rfl]
        simp
       ·rw [if_pos (by simp;omega),if_neg c2,List.getElem?_drop,key]
        congr 2
        omega
     rw [hlen] at hrow ⊢
     exact hrow
    ·refine grown_weakH ⟨?_,?_,?_,?_,?_⟩
     all_goals
      have g1:=grown_transH (grown_transH (grown_transH (grown_drewH (w.alloc (.cells ar 3))) (grown_setCells w.heap.size [.int .i64 x] j _)) (grown_drewH _)) (grown_setCells w.heap.size ((l.map (Value.int .i64)).drop j) (j+1) _)
      have g0:=World.grownBy_alloc w (.cells ar 3) none
     ·exact g1.os.trans g0.os
     ·exact g1.tape.trans g0.tape
     ·exact g1.output.trans g0.output
     ·exact Nat.le_trans g0.size g1.size
     ·exact fun k hk _=>(g1.block k (Nat.lt_of_lt_of_le hk g0.size) (by intro e;cases e;omega)).trans (g0.block k hk (by simp))
   ·obtain rfl:j=l.length:=by omega
    have hcon:=Any2.slices_Insert_int_end_grow insI (some ⟨g,0,none⟩) l.length cap vb 0 1 1 (l.map (Value.int .i64)) [.int .i64 x] w (by omega) hc (by omega) (by omega) (by simp) rfl (fun e=>by cases e) (fun a e i u hi=>by cases e;simpa [Addr.add_lit] using hcs i u hi) hvs h1v
    try simp only [show insI_ren.t 3=3 from rfl] at hcon
    refine hcon.mono ?_
    clear hcon
    rintro e w' ⟨rfl,rfl⟩
    refine⟨_,rfl,?_,grown_weakH (grown_transH (grown_drewH w) (World.grownBy_alloc _ _ none)),.inr rfl⟩
    have hrow:=row_ofList (l:=l.take l.length ++ [x] ++ l.drop l.length) (Blk.new w.drew 3 ((l.map (Value.int .i64) ++ [Value.int .i64 x]).toArray ++ Builtin.zeroCells (Value.int .i64 0).cells (grownCap w (l.length+1) cap 3 - (l.length+1)))) hb (by rw [hlen];exact hge) hle (by simp [Builtin.zeroCells,Value.cells];omega) fun k hk=>by
     rw [Array.getElem?_append_left (by simp;omega),List.getElem?_toArray,keyI]
     by_cases c1:k < l.length
     ·rw [if_pos c1,List.getElem?_append_left (by simpa using c1),key]
     ·obtain rfl:k=l.length:=by omega
      rw [if_neg (by omega),if_pos rfl,List.getElem?_append_right (by simp)]
      simp
    rw [hlen] at hrow ⊢
    exact hrow
end
section
open Go.RowKit Go.Maps
def upd {α:Type} (f:Int→α)(k:Int)(v:α):Int→α:=fun j=>if j=k then v else f j
structure TreeY (W:World)(base g ma mu:Nat)(U:List (Int × Value))(M:Mp)(rv:Int→Value)(kd:Int→List Int):Prop where
 blk:Blk W g 101 #[.map (some ma),.map (some mu)]
 all:MapI Tryz.prog 3 W ma (mapV clV M)
 und:MapI Tryz.prog 3 W mu U
 rows:∀ k,W.ownsRow base 3 1 (rv k) (kd k).length ((kd k).map (Value.int .i64))
 apart:∀ k k' b,k≠k'→(rv k).ownBlock=some b→(rv k').ownBlock=some b→False
 ne:ma≠mu
theorem row_blkH {w:World} {base sz n g:Nat} {e t:TypeId} {v:Value} {xs:List Value} {cs:Array Value} (h:w.ownsRow base e sz v n xs)(hb:Blk w g t cs)(hne:e≠t):v.ownBlock≠some g:=by
 rcases h.2 with ⟨rfl,_⟩ | ⟨g',c,cur,rfl,_,h2,_⟩
 ·simp [Value.ownBlock]
 ·intro e'
  have e':g'=g:=by simpa [Value.ownBlock] using e'
  subst e'
  have:=h2.symm.trans hb
  simp only [Option.some.injEq,Obj.cells.injEq] at this
  exact hne this.2.1
section
variable {W W' : World} {base g ma mu : Nat} {U U' : List (Int × Value)} {M M' : Mp} {rv : Int → Value} {kd : Int → List Int}
theorem TreeX.y (h:TreeX W base g ma mu U M):TreeY W base g ma mu U M (rowV U) (kids M):=⟨h.blk,h.all,h.und,h.rows,h.apart,h.ne⟩
theorem TreeY.later (h:TreeY W base g ma mu U M rv kd)(hb:Below W.heap.size W W'):TreeY W' base g ma mu U M rv kd :=
 ⟨h.blk.below hb h.blk.lt,h.all.kept (grown_noneH hb) (by simp),h.und.kept (grown_noneH hb) (by simp),fun k=>owns_laterH (h.rows k) hb,h.apart,h.ne⟩
theorem TreeY.all_turn (h:TreeY W base g ma mu U M rv kd)(hm:MapI Tryz.prog 3 W' ma (mapV clV M'))(hg:W.grownBy W' (some ma)):TreeY W' base g ma mu U M' rv kd :=
 ⟨h.blk.grown hg (by simpa using blk_map h.blk h.all),hm,h.und.kept hg (by simpa using h.ne.symm),fun k=>(h.rows k).kept hg (row_map (h.rows k) h.all),h.apart,h.ne⟩
theorem TreeY.und_turn (h:TreeY W base g ma mu U M rv kd)(hm:MapI Tryz.prog 3 W' mu U')(hg:W.grownBy W' (some mu)):TreeY W' base g ma mu U' M rv kd :=
 ⟨h.blk.grown hg (by simpa using blk_map h.blk h.und),h.all.kept hg (by simpa using h.ne),hm,fun k=>(h.rows k).kept hg (row_map (h.rows k) h.und),h.apart,h.ne⟩
theorem TreeY.row_new (h:TreeY W base g ma mu U M rv kd) {pa:Int} {v':Value} {l':List Int} (ho:W'.ownsRow base 3 1 v' l'.length (l'.map (Value.int .i64)))(hg:W.grownBy W' (rv pa).ownBlock)(hat:v'.ownBlock=(rv pa).ownBlock∨v'.ownBlock=some W.heap.size∨v'.ownBlock=none) :
  TreeY W' base g ma mu U M (upd rv pa v') (upd kd pa l'):=by
 have hrow:=h.rows pa
 refine⟨h.blk.grown hg (fun e=>row_blkH hrow h.blk (by decide) e.symm),h.all.kept hg ?_,h.und.kept hg ?_,fun k=>?_,fun k k' b hne h1 h2=>?_,h.ne⟩
 ·rcases row_map hrow h.all with e | e
  ·rw [e];simp
  ·exact fun e2=>e e2.symm
 ·rcases row_map hrow h.und with e | e
  ·rw [e];simp
  ·exact fun e2=>e e2.symm
 ·unfold upd
  by_cases e:k=pa
  ·rw [if_pos e,if_pos e];exact ho
  ·rw [if_neg e,if_neg e]
   refine (h.rows k).kept hg ?_
   cases hv:(rv k).ownBlock with
   | none=>exact .inl rfl
   | some b=>exact .inr fun e2=>h.apart k pa b e hv e2.symm
 ·unfold upd at h1 h2
  have key:∀ k2,k2≠pa→v'.ownBlock=some b→(rv k2).ownBlock=some b→False:=fun k2 hk2 e1 e2=>by
   rcases hat with hat | hat | hat
   ·exact h.apart k2 pa b hk2 e2 (by rw [← hat];exact e1)
   ·have:=((h.rows k2).lt b e2).2
    rw [hat] at e1
    cases e1
    omega
   ·rw [hat] at e1;cases e1
  by_cases e:k=pa
  ·rw [if_pos e] at h1
   rw [if_neg (by rw [← e];exact hne.symm)] at h2
   exact key k' (by rw [← e];exact hne.symm) h1 h2
  ·rw [if_neg e] at h1
   by_cases e2:k'=pa
   ·rw [if_pos e2] at h2
    exact key k e h2 h1
   ·rw [if_neg e2] at h2
    exact h.apart k k' b hne h1 h2
theorem rowV_put (U:List (Int × Value))(k:Int)(v:Value):rowV (putM U k v)=upd (rowV U) k v:=by
 funext j
 unfold rowV upd
 by_cases e:j=k
 ·subst e;rw [look_put_same,if_pos rfl];rfl
 ·rw [look_put_other v e,if_neg e]
theorem rowV_del (U:List (Int × Value))(k:Int):rowV (delM U k)=upd (rowV U) k (.slice none 0 0):=by
 funext j
 unfold rowV upd
 by_cases e:j=k
 ·subst e;rw [look_del_same,if_pos rfl];rfl
 ·rw [look_del_other e,if_neg e]
theorem kids_upd {M : Mp} (hr : Rising M) {id : Int} {c : Cl} (hn : lookM M id = none) : kids (putM M id c) = upd (kids M) c.1.pa ((kids M c.1.pa).take ((kids M c.1.pa).countP (· < id)) ++ [id] ++ (kids M c.1.pa).drop ((kids M c.1.pa).countP (· < id))) := by
  funext j
  unfold upd
  by_cases e : j = c.1.pa
  · subst e; rw [if_pos rfl, kids_ins hr hn]
  · rw [if_neg e, kids_put_other (fun e2 => e e2.symm) hn]
theorem TreeY.x (h:TreeY W base g ma mu U M (rowV U) (kids M))(gb:base≤g)(ab:base≤ma)(ub:base≤mu)(hk:∀ q∈U,0≤q.1∧q.1≤65535)(hi:InvT M):TreeX W base g ma mu U M :=
 ⟨h.blk,h.all,h.und,h.rows,h.apart,gb,ab,ub,h.ne,hk,hi⟩
end
def ActW (w:World)(base g ma mu:Nat)(U:List (Int × Value))(r:Int × Mp)(e:Ending)(w':World):Prop :=
 ∃ U',e=.returned (.int .i64 r.1)∧TreeX w' base g ma mu U' r.2∧Fr (own ma mu U) w w'∧∀ b,own ma mu U' b→own ma mu U b∨w.heap.size≤b
theorem ActW.same {w w':World} {base g ma mu:Nat} {U:List (Int × Value)} {M:Mp} {r:Int × Mp} {er:Int} {e:Ending} (h:TreeX w base g ma mu U M)(hb:Below w.heap.size w w')(he:e=.returned (.int .i64 er))(hr:r=(er,M)):ActW w base g ma mu U r e w':=by
 subst hr
 exact⟨U,he,h.later hb,Fr.of_below hb,fun b hb=>.inl hb⟩
structure ActY (S:Nat→Prop)(w W:World)(base g ma mu:Nat)(U:List (Int × Value))(M:Mp)(rv:Int→Value)(kd:Int→List Int)(t:TypeId)(cs:Array Value):Prop where
 tree:TreeY W base g ma mu U M rv kd
 box:Blk W w.heap.size t cs
 fr:Fr S w W
section
variable {S : Nat → Prop} {w W W' : World} {base g ma mu : Nat} {U U' : List (Int × Value)} {M M' : Mp} {rv : Int → Value} {kd : Int → List Int} {t : TypeId} {cs : Array Value}
theorem ActY.later (h:ActY S w W base g ma mu U M rv kd t cs)(hb:Below W.heap.size W W'):ActY S w W' base g ma mu U M rv kd t cs :=
 ⟨h.tree.later hb,h.box.below hb h.box.lt,h.fr.trans (Fr.of_below hb)⟩
theorem ActY.all_turn (h:ActY S w W base g ma mu U M rv kd t cs)(hS:S ma)(hm:MapI Tryz.prog 3 W' ma (mapV clV M'))(hg:W.grownBy W' (some ma)):ActY S w W' base g ma mu U M' rv kd t cs :=
 ⟨h.tree.all_turn hm hg,h.box.grown hg (by simpa using blk_map h.box h.tree.all),h.fr.trans (Fr.of_grown hg fun b e=>by cases e;exact hS)⟩
theorem ActY.und_turn (h:ActY S w W base g ma mu U M rv kd t cs)(hS:S mu)(hm:MapI Tryz.prog 3 W' mu U')(hg:W.grownBy W' (some mu)):ActY S w W' base g ma mu U' M rv kd t cs :=
 ⟨h.tree.und_turn hm hg,h.box.grown hg (by simpa using blk_map h.box h.tree.und),h.fr.trans (Fr.of_grown hg fun b e=>by cases e;exact hS)⟩
theorem ActY.row_new (h:ActY S w W base g ma mu U M rv kd t cs) {pa:Int} {v':Value} {l':List Int} (ht:3≠t)(hS:∀ b,(rv pa).ownBlock=some b→S b)(ho:W'.ownsRow base 3 1 v' l'.length (l'.map (Value.int .i64)))(hg:W.grownBy W' (rv pa).ownBlock)(hat:v'.ownBlock=(rv pa).ownBlock∨v'.ownBlock=some W.heap.size∨v'.ownBlock=none) :
  ActY S w W' base g ma mu U M (upd rv pa v') (upd kd pa l') t cs :=
 ⟨h.tree.row_new ho hg hat,h.box.grown hg (fun e=>row_blkH (h.tree.rows pa) h.box ht e.symm),h.fr.trans (Fr.of_grown hg hS)⟩
end
end
section
open Go.RowKit Go.Maps Go.Sort Go.Shelf
theorem heap_putRowI {w:World} {g n:Nat} {cur:Array Value} {e:TypeId} {fr:Nat × Nat} (d:Array Int)(hb:w.heap[g]?=some (.cells cur e fr)) :
  (putRow (Value.int .i64) (Sort.ahead w n) g 0 d).heap[g]?=some (.cells (putCells (Value.int .i64) 0 d cur) e fr):=by
 simp [putRow,mapBlock,Sort.ahead,Array.getElem?_modify,hb,onCells]
theorem grown_putRowI {w:World} {g n:Nat} (d:Array Int):w.grownBy (putRow (Value.int .i64) (Sort.ahead w n) g 0 d) (some g):=by
 refine⟨rfl,rfl,rfl,by simp,fun k hk hne=>?_⟩
 have:g≠k:=fun e=>hne (by rw [e])
 simp [putRow,mapBlock,Sort.ahead,Array.getElem?_modify,this]
theorem put_atI (cur:Array Value)(ts:List Int)(k:Nat)(h:ts.length≤cur.size)(hk:k < ts.length):(putCells (Value.int .i64) 0 ts.toArray cur)[k]?=(ts[k]?).map (Value.int .i64):=by
 simp [putCells,hk,show k < cur.size by omega]
theorem dgives (x id:Int)(vb:Nat)(W:World)(h:W.cell? ⟨vb,0,none⟩=some (.int .i64 id)):FnGives Tryz.prog 135 #[.pointer (some ⟨vb,0,none⟩)] #[.int .i64 x] (.bool (decide (x=id))) W:=by
 show Calls Tryz.prog 135 #[.int .i64 x,.pointer (some ⟨vb,0,none⟩)] W _
 go_enter Tryz.func135,Tryz.ntmps135
 go_wp2
 go_ret
 exact⟨by show Ending.returned (Value.bool (x == id))=_;rw [show (x == id)=decide (x=id) by by_cases h:x=id <;> simp [h]],0,rfl⟩
theorem holds_row {w:World} {g:Nat} {cur:Array Value} {l:List Int} {e:TypeId} {fr:Nat × Nat} (hb:w.heap[g]?=some (.cells cur e fr))(h:cur.toList.take l.length=l.map (Value.int .i64))(hs:l.length≤cur.size)(hfr:fr=(0,0)):Holds (Value.int .i64) w g 0 l.toArray:=by
 subst hfr
 exact holds_of_block_i hb (by simpa using h)
def DelW (w:World)(base:Nat)(v:Value)(l:List Int)(e:Ending)(w':World):Prop :=
 ∃ v',e=.returned v'∧w'.ownsRow base 3 1 v' l.length (l.map (Value.int .i64))∧w.grownBy w' v.ownBlock∧v'.ownBlock=v.ownBlock
theorem delf_any (base:Nat)(v:Value)(l:List Int)(id:Int)(vb:Nat)(w:World)(h:w.ownsRow base 3 1 v l.length (l.map (Value.int .i64)))(hl:l.length≤1000)(h0:l≠[])(hx:Blk w vb 3 #[.int .i64 id])(hne:v.ownBlock≠some vb) :
  Calls Tryz.prog 134 #[v,.func (.func 135) #[] #[.pointer (some ⟨vb,0,none⟩)]] w (DelW w base v (l.filter fun x=>!decide (x=id))):=by
 rcases h.2 with ⟨rfl,hz⟩ | ⟨g,cap,cur,rfl,hg,hB,hc,hm,hsz,htk⟩
 ·exact absurd (List.eq_nil_of_length_eq_zero hz) h0
 ·have hsz:cur.size=cap:=by omega
  have hgv:vb≠g:=fun e=>hne (by simp [Value.ownBlock,e])
  have hxc:w.cell? ⟨vb,0,none⟩=some (.int .i64 id):=hx.cell 0
  rw [Nat.mul_one] at htk
  have pred:PredAt Tryz.prog 135 #[.pointer (some ⟨vb,0,none⟩)] (Value.int .i64) (fun x=>decide (x=id)) w:=fun W x hb=>dgives x id vb W ((hb.cell (p:=⟨vb,0,none⟩) hx.lt).trans hxc)
  have over:PredOver Tryz.prog 135 #[.pointer (some ⟨vb,0,none⟩)] (Value.int .i64) (fun x=>decide (x=id)) g 0 l.toArray.size w:=fun n os dk x hdk=>dgives x id vb _ (by
   have h1:(putRow (Value.int .i64) (Sort.ahead w n) g 0 dk).heap[vb]?=w.heap[vb]?:=(grown_putRowI (w:=w) (n:=n) dk).block vb hx.lt (by intro e;cases e;exact hgv rfl)
   have hlt:vb < (putRow (Value.int .i64) (Sort.ahead w n) g 0 dk).heap.size:=Nat.lt_of_lt_of_le hx.lt (grown_putRowI (w:=w) (n:=n) dk).size
   have h2:=Sort.heap_grow_old (putRow (Value.int .i64) (Sort.ahead w n) g 0 dk) os hlt
   exact (World.cell?_of_block (a:=⟨vb,0,none⟩) (h2.trans h1)).trans hxc)
  have hcon:=AnyE.slices_DeleteFunc delI (Value.int .i64) (fun _=>rfl) (fun x=>decide (x=id)) 135 #[.pointer (some ⟨vb,0,none⟩)] (enters_of Tryz.func135 (by kernel_rfl) rfl) 0 Tryz.zeroValue3 g 0 cap l.toArray w pred over (holds_row hB htk (by omega) rfl) (by simp;omega) (by simpa using hc)
  change Calls Tryz.prog 134 _ _ _ at hcon
  simp only [List.size_toArray] at hcon
  refine hcon.mono ?_
  rintro e w' ⟨rfl,q,rfl⟩
  have hFl:(l.filter fun x=>!decide (x=id)).length≤l.length:=List.length_filter_le _ _
  have hB2:Blk (putRow (Value.int .i64) (Sort.ahead w q) g 0 ((l.filter fun x=>!decide (x=id)) ++ List.replicate (l.length - (l.filter fun x=>!decide (x=id)).length) 0).toArray) g 3 _:=heap_putRowI _ hB
  refine⟨_,rfl,?_,grown_putRowI _,rfl⟩
  refine row_ofList hB2 hg (by omega) hm (by simp [putCells,hsz]) fun k hk=>?_
  rw [put_atI _ _ _ (by simp;omega) (by simp;omega),List.getElem?_append_left hk,List.getElem?_map]
end
end Go.Proofs.YtmmeopjemkjllaaGreat
