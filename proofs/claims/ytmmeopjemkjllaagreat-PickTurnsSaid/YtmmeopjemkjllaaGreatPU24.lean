/- Lemmas of the claim. No conditions beyond those that each states. -/
import Derived.Test.YtmmeopjemkjllaaGreatPU14
import Derived.Test.YtmmeopjemkjllaaGreatPU21
import Derived.Test.YtmmeopjemkjllaaGreatPU6
set_option linter.unusedVariables false
set_option linter.unusedSimpArgs false
set_option maxRecDepth 100000
set_option maxHeartbeats 8000000
namespace Go.Proofs.YtmmeopjemkjllaaGreat
section
open Go.RowKit Go.Maps
attribute [local go_sem ↓] Go.wp_at_zero Go.wp_at_succ
attribute [local go_sem] quietR quietAtR quietUponR midAt midUpon plain plainUpon
theorem put_len_new {α:Type} {k:Int} (v:α):∀ {M:List (Int × α)},lookM M k=none→(putM M k v).length=M.length+1
 | [],_=>rfl
 | p :: r,h=>by
  unfold lookM at h
  split at h
  ·cases h
  ·rename_i hne
   unfold putM
   split
   ·rfl
   ·first | rw [if_neg hne] | skip
    simp only [List.length_cons,put_len_new v h]
theorem del_len {α:Type} {k:Int} {v:α}:∀ {M:List (Int × α)},Rising M→lookM M k=some v→(delM M k).length+1=M.length
 | [],_,h=>by cases h
 | p :: r,hr,h=>by
  have hp:=List.pairwise_cons.1 hr
  unfold lookM at h
  by_cases e:p.1=k
  ·have:delM (p :: r) k=r:=by
    unfold delM
    rw [List.filter_cons_of_neg (by simpa using e)]
    rw [List.filter_eq_self]
    intro x hx
    have:=hp.1 x hx
    simp only [Bool.not_eq_true',decide_eq_false_iff_not]
    omega
   rw [this];rfl
  ·rw [if_neg e] at h
   have:delM (p :: r) k=p :: delM r k:=by
    unfold delM
    rw [List.filter_cons_of_pos (by simpa using e)]
   rw [this]
   simp only [List.length_cons,del_len hp.2 h]
structure AugAt (w:World)(q g m:Nat)(t:RB)(M:List (Int × Ky)):Prop where
 aug:Blk w q 121 #[.pointer (some ⟨g,0,none⟩),.map (some m)]
 tr:RbT w g t
 map:MapI Tryz.prog 3 w m (mapV kyV M)
 inv:InvE (listT t)
 look:∀ i,lookM M i=(getE (listT t) i).map (·.1)
 len:M.length=(listT t).length
def ownA (q g m:Nat)(t:RB)(b:Nat):Prop:=b=q∨b=g∨b=m∨b∈addrs t
section
variable {w w' : World} {q g m : Nat} {t : RB} {M : List (Int × Ky)}
theorem AugAt.later (h:AugAt w q g m t M)(hb:Below w.heap.size w w'):AugAt w' q g m t M :=
 ⟨h.aug.below hb h.aug.lt,h.tr.later hb,h.map.heap (hb.block m h.map.lt),h.inv,h.look,h.len⟩
theorem AugAt.lt (h:AugAt w q g m t M):∀ b,ownA q g m t b→b < w.heap.size:=by
 rintro b (rfl | rfl | rfl | hb)
 ·exact h.aug.lt
 ·exact h.tr.tree.lt
 ·exact h.map.lt
 ·exact h.tr.rb.lt b hb
end
theorem blk_mapA {w:World} {g m:Nat} {t K:TypeId} {cs:Array Value} {N:List (Int × Value)} (h:Blk w g t cs)(hm:MapI Tryz.prog K w m N):g≠m:=by
 obtain⟨es,clock,h1,F,hs,hD⟩:=hm
 intro e
 subst e
 have:=h.symm.trans h1
 cases this
theorem node_mapA {w:World} {m:Nat} {K:TypeId} {N:List (Int × Value)} (hm:MapI Tryz.prog K w m N):∀ {t:RB},RBAt w t→m ∉ addrs t
 | .nil,_=>by intro h;cases h
 | .node b k v s c l r,h=>by
  intro hmm
  rcases List.mem_cons.1 hmm with rfl | hmm
  ·exact blk_mapA h.1 hm rfl
  ·rcases List.mem_append.1 hmm with hmm | hmm
   ·exact node_mapA hm h.2.1 hmm
   ·exact node_mapA hm h.2.2 hmm
theorem of_any (q g:Nat)(v:Value)(w:World)(h:Blk w q 121 #[.pointer (some ⟨g,0,none⟩),v]) :
  Calls Tryz.prog 97 #[.pointer (some ⟨q,0,none⟩)] w fun e w'=>e=.returned (.pointer (some ⟨g,0,none⟩))∧w=w':=by
 have c0:=h.cell 0
 simp only [lTA,lCZ,lCS] at c0
 clear h
 go_enter Tryz.func97,Tryz.ntmps97
 go_wp2
 go_ret
 exact⟨rfl,rfl⟩
def NewAW (w:World)(e:Ending)(w':World):Prop:=∃ q g m,e=.returned (.pointer (some ⟨q,0,none⟩))∧AugAt w' q g m .nil []∧Below w.heap.size w w'∧∀ b,ownA q g m .nil b→w.heap.size≤b
theorem augnew_any (w:World):Calls Tryz.prog 32 #[] w (NewAW w):=by
 have hmm:=@run_makeMap Tryz.prog
 have hnw:=rbnew_any w
 go_enter Tryz.func32,Tryz.ntmps32
 go_wp2_with fail
 refine hnw.mono ?_
 clear hnw
 rintro e w1 ⟨g,rfl,hg,hT,hb⟩
 have H:=Lib.hid (And.intro hg (And.intro hT hb))
 clear hg hT hb
 go_wp2_with fail
 go_ret
 have hm:=(MapI.made (P:=Tryz.prog) (K:=3) w1)
 have hb1:=(Below.refl w1.heap.size w1).alloc (Nat.le_refl _) (.map #[] 0)
 have hb2:=hb1.alloc (by simp) (.cells #[.pointer (some ⟨g,0,none⟩),.map (some w1.heap.size)] 121)
 have hq:=Blk.new (w1.alloc (.map #[] 0)) 121 #[.pointer (some ⟨g,0,none⟩),.map (some w1.heap.size)]
 rw [World.size_alloc] at hq
 refine⟨_,_,_,rfl,⟨hq,H.out.2.1.later hb2,hm.heap (Below.heap_alloc _ _ _ (by simp)),InvE.nil,fun _=>rfl,rfl⟩,H.out.2.2.trans (hb2.mono H.out.2.2.size),?_⟩
 have:=H.out.2.2.size
 rintro b (rfl | rfl | rfl | hb)
 ·omega
 ·exact H.out.1
 ·omega
 ·cases hb
theorem alen_any (q g m:Nat)(t:RB)(M:List (Int × Ky))(w:World)(h:AugAt w q g m t M) :
  Calls Tryz.prog 58 #[.pointer (some ⟨q,0,none⟩)] w fun e w'=>e=.returned (.int .i64 (listT t).length)∧w=w':=by
 have h1:=of_any q g _ w h.aug
 have h2:=rblen_any g t w h.tr
 clear h
 go_enter Tryz.func58,Tryz.ntmps58
 go_wp2_with fail
 refine h1.mono ?_
 clear h1
 rintro e w1 ⟨rfl,rfl⟩
 go_wp2_with fail
 refine h2.mono ?_
 clear h2
 rintro e w1 ⟨rfl,rfl⟩
 go_wp2_with fail
 go_ret
 exact⟨rfl,rfl⟩
end
section
open Go.RowKit Go.Maps
attribute [local go_sem ↓] Go.wp_at_zero Go.wp_at_succ
attribute [local go_sem] quietR quietAtR quietUponR midAt midUpon plain plainUpon
theorem kyV_zero:kyV (0,0)=.agg #[.int .u64 0,.int .i64 0]:=rfl
theorem AugAt.look_ok {w:World} {q g m:Nat} {t:RB} {M:List (Int × Ky)} (h:AugAt w q g m t M) {i:Int} (hi:(Lit.int .i64 i).wf=true) :
  (Instr.lookup 119 (.map (some m)) (.int .i64 i) true).run Tryz.prog w=.ok (.tuple #[((getE (listT t) i).map fun e=>kyV e.1).getD (kyV (0,0)),.bool (getE (listT t) i).isSome]) w:=by
 have:=h.map.look_ok (k:=i) (E:=147) (T:=119) (z:=kyV (0,0)) Tryz.underlying3 Tryz.underlying119 (by exact Tryz.zeroValue147 _) hi
 rw [look_map,h.look i] at this
 rw [this]
 cases getE (listT t) i <;> rfl
theorem fr_grown {w w':World} {m:Nat} (h:w.grownBy w' (some m)):Fr (fun b=>b=m) w w':=⟨h.os,h.tape,h.output,h.size,fun b hb hn=>h.block b hb fun e=>hn (Option.some.inj e)⟩
theorem Fr.trans2 {S T:Nat→Prop} {w w1 w':World} (h:Fr S w w1)(k:Fr T w1 w')(hs:∀ b,b < w.heap.size→T b→S b):Fr S w w' :=
 ⟨k.os.trans h.os,k.tape.trans h.tape,k.output.trans h.output,Nat.le_trans h.size k.size,fun b hb hn=>(k.block b (Nat.lt_of_lt_of_le hb h.size) fun ht=>hn (hs b hb ht)).trans (h.block b hb hn)⟩
theorem AugAt.turn {w w':World} {q g m:Nat} {t:RB} {M M':List (Int × Ky)} (h:AugAt w q g m t M)(hg:w.grownBy w' (some m)):Blk w' q 121 #[.pointer (some ⟨g,0,none⟩),.map (some m)]∧RbT w' g t :=
 ⟨h.aug.fr (fr_grown hg) (blk_mapA h.aug h.map),h.tr.fr (fr_grown hg) (blk_mapA h.tr.tree h.map) fun a ha e=>node_mapA h.map h.tr.rb (e ▸ ha)⟩
def ADropW (w:World)(q g m:Nat)(t:RB)(i:Int)(e:Ending)(w':World):Prop :=
 ∃ t' M',e=.returned (.bool (getE (listT t) i).isSome)∧AugAt w' q g m t' M'∧listT t'=dropI (listT t) i∧(∀ b∈addrs t',b∈addrs t∨w.heap.size≤b)∧Fr (ownA q g m t) w w'
theorem adrop_any (q g m:Nat)(i:Int)(t:RB)(M:List (Int × Ky))(w:World)(h:AugAt w q g m t M)(hi:(Lit.int .i64 i).wf=true)(hfew:(listT t).length < 1000000) :
  Calls Tryz.prog 91 #[.pointer (some ⟨q,0,none⟩),.int .i64 i] w (ADropW w q g m t i):=by
 have h1:=of_any q g _ w h.aug
 have hl:=h.look_ok hi
 have c1:=h.aug.cell 1
 simp only [lTA,lCZ,lCS] at c1
 have H:=Lib.hid h
 clear h
 cases he:getE (listT t) i with
 | none =>
  rw [he] at hl
  simp only [Option.map_none,Option.getD_none,Option.isSome_none,kyV_zero] at hl
  have HE:=Lib.hid he
  clear he
  go_enter Tryz.func91,Tryz.ntmps91
  go_wp2_with fail
  refine h1.mono ?_
  clear h1
  rintro e w1 ⟨rfl,rfl⟩
  go_wp2_with fail
  go_ret
  have hb:Below w.heap.size w (w.alloc (.cells #[.int .u64 0,.int .i64 0] 147)):=(Below.refl _ _).alloc (Nat.le_refl _) _
  exact⟨t,M,by rw [HE.out];rfl,H.out.later hb,(dropI_not (getE_none.1 HE.out)).symm,fun b hb=>.inl hb,Fr.of_below hb⟩
 | some e =>
  obtain⟨⟨a,i2⟩,b⟩:=e
  have hs:=getE_some he
  obtain rfl:i2=i:=hs.2
  rw [he] at hl
  simp only [Option.map_some,Option.getD_some,Option.isSome_some,kyV] at hl
  have HS:=Lib.hid (And.intro hs.1 he)
  have hfew2:=Lib.hid hfew
  clear he hs hfew
  go_enter Tryz.func91,Tryz.ntmps91
  go_wp2_with fail
  refine h1.mono ?_
  clear h1
  rintro e w1 ⟨rfl,rfl⟩
  go_upto_region 6 with fail
  clear hl c1
  have hb0:=(Below.refl w.heap.size w).alloc (Nat.le_refl _) (.cells #[.int .u64 a,.int .i64 i2] 147)
  have hk0:=Blk.new w 147 #[.int .u64 a,.int .i64 i2]
  obtain⟨kb,hkb⟩:∃ q,q=w.heap.size:=⟨_,rfl⟩
  rw [← hkb] at hk0 ⊢
  have H1:=Lib.hid (And.intro (H.out.later hb0) (And.intro hk0 hb0))
  clear hkb hb0 hk0
  generalize w.alloc (.cells #[.int .u64 a,.int .i64 i2] 147)=W1 at H1 ⊢
  have c1:=H1.out.1.aug.cell 1
  simp only [lTA,lCZ,lCS] at c1
  have hdel:=fun ty=>H1.out.1.map.drop (k:=i2) (E:=147) (T:=119) Tryz.underlying3 Tryz.underlying119 hi ty
  obtain⟨W2,hr,hm2,htn⟩:=hdel 0
  rw [del_map] at hm2
  obtain⟨hq2,ht2⟩:=H1.out.1.turn (M':=M) htn.grown
  have hf2:Fr (ownA q g m t) w W2:=(Fr.of_below H1.out.2.2).trans ((fr_grown htn.grown).weak fun b _ hb=>.inr (.inr (.inl hb)))
  have hk2:=H1.out.2.1.grown htn.grown (fun e=>by have:=blk_mapA H1.out.2.1 H1.out.1.map;exact this (Option.some.inj e))
  have H2:=Lib.hid (And.intro hq2 (And.intro ht2 (And.intro hm2 (And.intro hk2 hf2))))
  clear hdel htn hm2 hq2 ht2 hf2 hk2
  go_upto_region 7 with fail
  clear hr c1
  have oq:=fun e=>(over_cell (w:=W2) (e:=e) (o:=0) H2.out.1.lt).trans (H2.out.1.cell 0)
  have ok0:=fun e=>(over_cell (w:=W2) (e:=e) (o:=0) H2.out.2.2.2.1.lt).trans (H2.out.2.2.2.1.cell 0)
  have ok1:=fun e=>(over_cell (w:=W2) (e:=e) (o:=1) H2.out.2.2.2.1.lt).trans (H2.out.2.2.2.1.cell 1)
  simp only [lTA,lCZ,lCS] at oq ok0 ok1
  refine wp_region_over_tail 5 (by kernel_rfl) (by kernel_rfl) ?_
  simp only [List.take_succ_cons,List.take_zero,List.drop_succ_cons,List.drop_zero]
  repeat (first | go_big_quiet_skip | (go_big_quiet_want;go_big_quiet_op;go_big_quiet_on))
  refine wpQuiet_nil ?_
  rintro W3 ⟨e,he⟩
  have hb3:=over_below W2 e
  rw [← he] at hb3
  have H3:=Lib.hid (And.intro (H2.out.1.below hb3 H2.out.1.lt) (And.intro (H2.out.2.1.later hb3) (And.intro (H2.out.2.2.1.heap (hb3.block m H2.out.2.2.1.lt)) (H2.out.2.2.2.2.trans (Fr.of_below hb3)))))
  clear oq ok0 ok1 he hb3 H2
  have hdr:=rbdrop_any g t (a,i2) b W3 H3.out.2.1 HS.out.1 hfew2.out
  go_wp2_with fail
  refine hdr.mono ?_
  clear hdr
  rintro e W4 ⟨t',rfl,hT,hlist,hsub,hf4⟩
  have hgm:=blk_mapA H3.out.2.1.tree H3.out.2.2.1
  have hmt:=node_mapA H3.out.2.2.1 H3.out.2.1.rb
  have hnot:∀ x,ownR g t x→x≠q∧x≠m:=by
   rintro x (rfl | hx)
   ·refine⟨fun e=>?_,hgm⟩
    have h1:=H3.out.1
    rw [← e] at h1
    have:=h1.symm.trans H3.out.2.1.tree
    simp only [Option.some.injEq,Obj.cells.injEq] at this
    exact absurd this.2.1 (by decide)
   ·exact⟨fun e=>RBAt.typed H3.out.1 (by decide) H3.out.2.1.rb (e ▸ hx),fun e=>hmt (e ▸ hx)⟩
  have hlist':=hlist.trans (del_drop H.out.inv HS.out.1)
  have hlk:lookM M i2=some (a,i2):=by rw [H.out.look i2,HS.out.2];rfl
  have hA:AugAt W4 q g m t' (delM M i2):=by
   refine⟨H3.out.1.fr hf4 fun hs=>(hnot q hs).1 rfl,hT,H3.out.2.2.1.heap (hf4.block m H3.out.2.2.1.lt fun hs=>(hnot m hs).2 rfl),by rw [hlist'];exact H.out.inv.drop i2,fun j=>?_,?_⟩
   ·rw [hlist',get_drop H.out.inv]
    by_cases hj:j=i2
    ·subst hj
     rw [look_del_same,if_pos rfl];rfl
    ·rw [look_del_other hj,if_neg hj]
     exact H.out.look j
   ·have e1:(delM M i2).length+1=M.length:=del_len (k:=i2) (v:=(a,i2)) (M:=M) (by
     have:=H.out.map.rising (int_keyed Tryz.underlying3)
     have h2:Rising (mapV kyV M):=this
     unfold Rising mapV at h2
     rw [List.pairwise_map] at h2
     exact h2) hlk
    have e2:(dropI (listT t) i2).length+1=(listT t).length:=drop_length H.out.inv.ids HS.out.1
    rw [show listT t'=dropI (listT t) i2 from hlist']
    have e3:=H.out.len
    omega
  have HF:=Lib.hid (And.intro hA (And.intro hlist' (And.intro hsub (H3.out.2.2.2.trans (hf4.weak fun x _ hx=>hx.elim (fun e=>.inr (.inl e)) fun hx=>.inr (.inr (.inr hx)))))))
  clear hT hlist hsub hf4 hgm hmt hnot hlist' hlk hA H3
  go_wp2_with fail
  go_ret
  exact⟨t',_,by rw [HS.out.2];rfl,HF.out.1,HF.out.2.1,fun x hx=>.inl (HF.out.2.2.1 x hx),HF.out.2.2.2⟩
def APutW (w:World)(q g m:Nat)(t:RB)(i a b:Int)(e:Ending)(w':World):Prop :=
 ∃ t' M',e=.returned (.tuple #[])∧AugAt w' q g m t' M'∧listT t'=putI (listT t) i a b∧(∀ x∈addrs t',x∈addrs t∨w.heap.size≤x)∧Fr (ownA q g m t) w w'
theorem aput_any (q g m:Nat)(i a b:Int)(t:RB)(M:List (Int × Ky))(w:World)(h:AugAt w q g m t M)(hi:(Lit.int .i64 i).wf=true)(hfew:(listT t).length < 900000) :
  Calls Tryz.prog 90 #[.pointer (some ⟨q,0,none⟩),.int .i64 i,.int .u64 a,.int .u64 b] w (APutW w q g m t i a b):=by
 have h1:=of_any q g _ w h.aug
 have hdr:=adrop_any q g m i t M w h hi (by omega)
 have HFEW:=Lib.hid hfew
 have HI:=Lib.hid h.inv
 clear h hfew
 go_enter Tryz.func90,Tryz.ntmps90
 go_wp2_with fail
 refine h1.mono ?_
 clear h1
 rintro e w1 ⟨rfl,rfl⟩
 go_wp2_with fail
 refine hdr.mono ?_
 clear hdr
 rintro e W1 ⟨t1,M1,rfl,hA,hlist,hsub,hf⟩
 have H1:=Lib.hid (And.intro hA (And.intro hlist (And.intro hsub hf)))
 clear hA hlist hsub hf
 go_upto_region 3 with fail
 have hb0:=(Below.refl W1.heap.size W1).alloc (Nat.le_refl _) (.cells #[.int .u64 a,.int .i64 i] 147)
 have hk0:=Blk.new W1 147 #[.int .u64 a,.int .i64 i]
 obtain⟨kb,hkb⟩:∃ q,q=W1.heap.size:=⟨_,rfl⟩
 have hlo:w.heap.size≤kb:=by rw [hkb];exact H1.out.2.2.2.size
 have hko:∀ x,ownA q g m t1 x→x≠kb:=fun x hx e=>by have:=H1.out.1.lt x hx;omega
 rw [← hkb] at hk0 ⊢
 have H2:=Lib.hid (And.intro (H1.out.1.later hb0) (And.intro hk0 (H1.out.2.2.2.trans (Fr.of_below hb0))))
 have HK:=Lib.hid (And.intro hlo hko)
 clear hkb hb0 hk0 hlo hko
 generalize W1.alloc (.cells #[.int .u64 a,.int .i64 i] 147)=W2 at H2 ⊢
 have oq:=fun e=>(over_cell (w:=W2) (e:=e) (o:=0) H2.out.1.aug.lt).trans (H2.out.1.aug.cell 0)
 have ok0:=fun e=>(over_cell (w:=W2) (e:=e) (o:=0) H2.out.2.1.lt).trans (H2.out.2.1.cell 0)
 have ok1:=fun e=>(over_cell (w:=W2) (e:=e) (o:=1) H2.out.2.1.lt).trans (H2.out.2.1.cell 1)
 simp only [lTA,lCZ,lCS] at oq ok0 ok1
 refine wp_region_over_tail 6 (by kernel_rfl) (by kernel_rfl) ?_
 simp only [List.take_succ_cons,List.take_zero,List.drop_succ_cons,List.drop_zero]
 repeat (first | go_big_quiet_skip | (go_big_quiet_want;go_big_quiet_op;go_big_quiet_on))
 refine wpQuiet_nil ?_
 rintro W3 ⟨e,he⟩
 have hb3:=over_below W2 e
 rw [← he] at hb3
 have H3:=Lib.hid (And.intro (H2.out.1.later hb3) (And.intro (H2.out.2.1.below hb3 H2.out.2.1.lt) (H2.out.2.2.trans (Fr.of_below hb3))))
 clear oq ok0 ok1 he hb3 H2
 have hle:(listT t1).length≤(listT t).length:=by rw [H1.out.2.1];exact drop_le _ _
 have hpt:=rbput_any g t1 (a,i) b W3 H3.out.1.tr (fun z hz e=>by
  rw [H1.out.2.1] at hz
  exact (mem_drop.1 hz).2 (by rw [e])) (by have:=HFEW.out;omega)
 clear hle
 go_wp2_with fail
 refine hpt.mono ?_
 clear hpt
 rintro e W4 ⟨t',rfl,hT,hlist,hsub,hf4⟩
 have hnot:∀ x,ownR g t1 x→x≠q∧x≠m∧x≠kb:=by
  rintro x (rfl | hx)
  ·refine⟨fun e=>?_,blk_mapA H3.out.1.tr.tree H3.out.1.map,HK.out.2 _ (.inr (.inl rfl))⟩
   have h1:=H3.out.1.aug
   rw [← e] at h1
   have:=h1.symm.trans H3.out.1.tr.tree
   simp only [Option.some.injEq,Obj.cells.injEq] at this
   exact absurd this.2.1 (by decide)
  ·exact⟨fun e=>RBAt.typed H3.out.1.aug (by decide) H3.out.1.tr.rb (e ▸ hx),fun e=>node_mapA H3.out.1.map H3.out.1.tr.rb (e ▸ hx),HK.out.2 x (.inr (.inr (.inr hx)))⟩
 have hq4:=H3.out.1.aug.fr hf4 fun hs=>(hnot q hs).1 rfl
 have hm4:=H3.out.1.map.heap (hf4.block m H3.out.1.map.lt fun hs=>(hnot m hs).2.1 rfl)
 have hk4:=H3.out.2.1.fr hf4 fun hs=>(hnot kb hs).2.2 rfl
 have hlist':listT t'=putI (listT t) i a b:=by rw [hlist,H1.out.2.1];rfl
 have hnew:lookM M1 i=none:=by
  rw [H1.out.1.look i,H1.out.2.1,get_drop HI.out,if_pos rfl];rfl
 have hln:=H1.out.1.len
 have hlt1:M1.length < 1000000:=by
  have:(listT t1).length≤(listT t).length:=by rw [H1.out.2.1];exact drop_le _ _
  have:=HFEW.out
  omega
 have hsub':∀ x∈addrs t',x∈addrs t∨w.heap.size≤x:=fun x hx=>by
  rcases hsub x hx with hx | hx
  ·exact H1.out.2.2.1 x hx
  ·exact .inr (by have:=H3.out.2.2.size;omega)
 have hfr:Fr (ownA q g m t) w W4:=by
  refine H3.out.2.2.trans2 hf4 fun x hlt hx=>?_
  rcases hx with rfl | hx
  ·exact .inr (.inl rfl)
  ·rcases H1.out.2.2.1 x hx with hx | hx
   ·exact .inr (.inr (.inr hx))
   ·exact absurd hlt (by omega)
 have H4:=Lib.hid (And.intro hq4 (And.intro hT (And.intro hm4 (And.intro hk4 hfr))))
 have HL:=Lib.hid (And.intro hlist' (And.intro hnew (And.intro hlt1 (And.intro hsub' hln))))
 have hlist1:listT t'=insE (listT t1) ((a,i),b):=hlist
 have HL1:=Lib.hid hlist1
 clear hT hlist hsub hf4 hnot hq4 hm4 hk4 hlist' hnew hln hlt1 hsub' hfr H3 hlist1
 go_upto_region 4 with fail
 have oq:=fun e=>(over_cell (w:=W4) (e:=e) (o:=1) H4.out.1.lt).trans (H4.out.1.cell 1)
 have ok0:=fun e=>(over_cell (w:=W4) (e:=e) (o:=0) H4.out.2.2.2.1.lt).trans (H4.out.2.2.2.1.cell 0)
 have ok1:=fun e=>(over_cell (w:=W4) (e:=e) (o:=1) H4.out.2.2.2.1.lt).trans (H4.out.2.2.2.1.cell 1)
 simp only [lTA,lCZ,lCS] at oq ok0 ok1
 refine wp_region_over_tail 6 (by kernel_rfl) (by kernel_rfl) ?_
 simp only [List.take_succ_cons,List.take_zero,List.drop_succ_cons,List.drop_zero]
 repeat (first | go_big_quiet_skip | (go_big_quiet_want;go_big_quiet_op;go_big_quiet_on))
 refine wpQuiet_nil ?_
 rintro W5 ⟨e,he⟩
 have hb5:=over_below W4 e
 rw [← he] at hb5
 have hm5:=H4.out.2.2.1.heap (hb5.block m H4.out.2.2.1.lt)
 obtain⟨W6,hr,hm6,htn⟩:=hm5.store (k:=i) (E:=147) (T:=119) Tryz.underlying3 Tryz.underlying119 hi (by rw [mapV_length];have:=HL.out.2.2.1;unfold maxLen;omega) (kyV (a,i))
 rw [put_map] at hm6
 have hq5:=H4.out.1.below hb5 H4.out.1.lt
 have hT5:=H4.out.2.1.later hb5
 have hq6:=hq5.fr (fr_grown htn.grown) (blk_mapA hq5 hm5)
 have hT6:=hT5.fr (fr_grown htn.grown) (blk_mapA hT5.tree hm5) fun x hx e=>node_mapA hm5 hT5.rb (e ▸ hx)
 have hf6:Fr (ownA q g m t) w W6:=(H4.out.2.2.2.2.trans (Fr.of_below hb5)).trans2 (fr_grown htn.grown) fun x _ hx=>.inr (.inr (.inl hx))
 have hA6:AugAt W6 q g m t' (putM M1 i (a,i)):=by
  refine⟨hq6,hT6,hm6,by rw [HL.out.1];exact HI.out.put i a b,fun j=>?_,?_⟩
  ·rw [HL.out.1,get_put HI.out]
   by_cases hj:j=i
   ·subst hj
    rw [look_put_same,if_pos rfl];rfl
   ·rw [look_put_other _ hj,if_neg hj,H1.out.1.look j,H1.out.2.1,get_drop HI.out,if_neg hj]
  ·rw [put_len_new _ HL.out.2.1,HL1.out,ins_length,HL.out.2.2.2.2]
 have HF:=Lib.hid (And.intro hA6 hf6)
 unfold kyV at hr
 clear oq ok0 ok1 he hb5 hm5 hm6 htn hq5 hT5 hq6 hT6 hf6 hA6 H4
 go_wp2_with fail
 go_returns
 exact⟨t',_,rfl,HF.out.1,HL.out.1,HL.out.2.2.2.1,HF.out.2⟩
end
section
open Go.RowKit Go.Maps
attribute [local go_sem ↓] Go.wp_at_zero Go.wp_at_succ
attribute [local go_sem] quietR quietAtR quietUponR midAt midUpon plain plainUpon
theorem within1_any (B:Nat)(v:Int)(h:Ky)(w:World)(hB:Blk w B 28 #[.int .u64 v]) :
  Calls Tryz.prog 99 #[.agg #[.int .u64 h.1,.int .i64 h.2],.pointer (some ⟨B,0,none⟩)] w fun e w'=>e=.returned (.bool (decide (h.1≤v)))∧Below w.heap.size w w':=by
 have hb0:=(Below.refl w.heap.size w).alloc (Nat.le_refl _) (.cells #[.int .u64 h.1,.int .i64 h.2] 116)
 have c0:=(hB.below hb0 hB.lt).cell 0
 simp only [lTA,lCZ,lCS] at c0
 have HB:=Lib.hid hb0
 clear hb0 hB
 by_cases hle:h.1≤v
 ·rw [decide_eq_true hle]
  go_enter Tryz.func99,Tryz.ntmps99
  go_wp2
  go_ret
  exact⟨rfl,HB.out⟩
 ·rw [decide_eq_false hle]
  go_enter Tryz.func99,Tryz.ntmps99
  go_wp2
  go_ret
  exact⟨rfl,HB.out⟩
theorem ok_nil (B:Nat)(W:World):(binOp .eql 151 (.func (.func 99) #[] #[.pointer (some ⟨B,0,none⟩)]) .nilFunc).run Tryz.prog W=.ok (.bool false) W:=by kernel_rfl
theorem within_l0 (v0:Int)(a:Nat)(k:Ky)(v:Int)(s:Ky)(c:Bool)(r:RB):withinT v0 (.node a k v s c .nil r)=if v≤v0 then some k else withinT v0 r:=rfl
theorem within_l1 (v0:Int)(a:Nat)(k:Ky)(v:Int)(s:Ky)(c:Bool)(b:Nat)(k2:Ky)(v2:Int)(sl:Ky)(c2:Bool)(l2 r2 r:RB):withinT v0 (.node a k v s c (.node b k2 v2 sl c2 l2 r2) r)=if sl.1≤v0 then withinT v0 (.node b k2 v2 sl c2 l2 r2) else if v≤v0 then some k else withinT v0 r:=rfl
def FindW (w:World)(o:Option Ky)(e:Ending)(w':World):Prop:=e=.returned (.tuple #[.agg #[.int .u64 (o.getD (0,0)).1,.int .i64 (o.getD (0,0)).2],.bool o.isSome])∧Below w.heap.size w w'
structure FndS (W0 W:World)(g B:Nat)(p:Value)(n v0:Int)(T:Nat)(u:RB):Prop where
 tree:Blk W g 165 (treeC p n)
 box:Blk W B 28 #[.int .u64 v0]
 res:Blk W T 147 #[.int .u64 0,.int .i64 0]
 rb:RBAt W u
 below:Below W0.heap.size W0 W
theorem FndS.later {W0 W W':World} {g B:Nat} {p:Value} {n v0:Int} {T:Nat} {u:RB} (h:FndS W0 W g B p n v0 T u)(hb:Below W.heap.size W W'):FndS W0 W' g B p n v0 T u :=
 ⟨h.tree.below hb h.tree.lt,h.box.below hb h.box.lt,h.res.below hb h.res.lt,h.rb.later hb,h.below.trans (hb.mono h.below.size)⟩
theorem find_any (g B:Nat)(n v0:Int)(t:RB)(w:World)(hg:Blk w g 165 (treeC (ptrV t) n))(hr:RBAt w t)(hB:Blk w B 28 #[.int .u64 v0]) :
  Calls Tryz.prog 98 #[.pointer (some ⟨g,0,none⟩),.func (.func 99) #[] #[.pointer (some ⟨B,0,none⟩)]] w (FindW w (withinT v0 t)):=by
 have hb0:=(Below.refl w.heap.size w).alloc (Nat.le_refl _) (.cells #[.int .u64 0,.int .i64 0] 147)
 have h0:FndS w (w.alloc (.cells #[.int .u64 0,.int .i64 0] 147)) g B (ptrV t) n v0 w.heap.size t:=⟨hg.below hb0 hg.lt,hB.below hb0 hB.lt,Blk.new w _ _,hr.later hb0,hb0⟩
 have hnone:=none_any g _ _ _ h0.tree
 have hok:=ok_nil B
 have H0:=Lib.hid h0
 have c2:=h0.tree.cell 2
 unfold treeC at c2
 simp only [lTA,lCZ,lCS] at c2
 clear hg hr hB hb0 h0
 go_enter Tryz.func98,Tryz.ntmps98
 go_upto_region 1 with fail
 generalize w.alloc (.cells #[.int .u64 0,.int .i64 0] 147)=W0 at H0 hnone c2 ⊢
 obtain⟨T,hT⟩:∃ T,T=w.heap.size:=⟨_,rfl⟩
 rw [← hT] at H0 ⊢
 have HT:=Lib.hid hT
 clear hT
 go_wp2_with fail
 refine hnone.mono ?_
 clear hnone
 rintro e w1 ⟨rfl,rfl⟩
 go_wp2_with fail
 clear c2 hok
 go_loopg [6] (sizeT t) (fun k v6 wr=>∃ u,sizeT u=k∧v6=ptrV u∧withinT v0 u=withinT v0 t∧FndS w wr g B (ptrV t) n v0 T u)
 case atStart=>exact⟨t,rfl,rfl,rfl,H0.out⟩
 case round =>
  clear H0
  obtain⟨u,hsz,rfl,hfu,hus⟩:=hrel
  have HF:=Lib.hid hfu
  have HU:=Lib.hid hus
  clear hfu
  cases u with
  | nil =>
   have e1:ptrV .nil=.pointer none:=rfl
   rw [e1]
   have HF2:=Lib.hid (show withinT v0 t=none from HF.out.symm.trans rfl)
   clear e1 hsz hus
   have s0:=HU.out.res.cell 0;have s1:=HU.out.res.cell 1;have f0:=HU.out.res.frozen 0;have f1:=HU.out.res.frozen 1
   simp only [lTA,lCZ,lCS] at s0 s1
   have hres:=(HU.out.res.set_ 0 (.int .u64 0)).set_ 1 (.int .i64 0)
   have hb9:=(HU.out.below.setCell (p:=⟨T,0,none⟩) (Nat.le_of_eq HT.out.symm) (.int .u64 0)).setCell (p:=⟨T,1,none⟩) (Nat.le_of_eq HT.out.symm) (.int .i64 0)
   have e0:=hres.cell 0;have e1:=hres.cell 1
   simp at e0 e1
   have HB9:=Lib.hid hb9
   clear hb9 hres
   go_wp2_with fail
   exact bodyPost_ret (v:=.tuple #[.agg #[.int .u64 0,.int .i64 0],.bool false]) (by simp [results,Tryz.results98,go_sem,e0,e1]) rfl ⟨by rw [HF2.out];rfl,HB9.out⟩
  | node a k v s c l r =>
   have e1:ptrV (.node a k v s c l r)=.pointer (some ⟨a,0,none⟩):=rfl
   rw [e1]
   have HSZ:=Lib.hid hsz
   have a6:=HU.out.rb.1.cell 6
   unfold nodeC at a6
   simp only [lTA,lCZ,lCS] at a6
   clear hus hsz e1
   cases l with
   | nil =>
    have e1:ptrV .nil=.pointer none:=rfl
    rw [e1] at a6
    go_upto_region 8 with fail
    clear a6 e1
    have og:=fun e=>(over_cell (w:=wr) (e:=e) (o:=0) HU.out.tree.lt).trans (HU.out.tree.cell 0)
    have oa0:=fun e=>(over_cell (w:=wr) (e:=e) (o:=0) HU.out.rb.1.lt).trans (HU.out.rb.1.cell 0)
    have oa1:=fun e=>(over_cell (w:=wr) (e:=e) (o:=1) HU.out.rb.1.lt).trans (HU.out.rb.1.cell 1)
    have oa2:=fun e=>(over_cell (w:=wr) (e:=e) (o:=2) HU.out.rb.1.lt).trans (HU.out.rb.1.cell 2)
    unfold treeC at og
    unfold nodeC at oa0 oa1 oa2
    simp only [lTA,lCZ,lCS] at og oa0 oa1 oa2
    have hcl:=fun e=>within1_any B v0 (ownK k v) (over wr e) (HU.out.later (over_below wr e)).box
    refine wp_region_over (by kernel_rfl) (by kernel_rfl) ?_
    repeat (first | go_big_quiet_skip | (go_big_quiet_want;go_big_quiet_op;first | go_big_quiet_on | (apply Exists.intro;refine⟨fun e=>?_,?_⟩;(focus (first | (go_at_call 78;with_reducible exact calls_over (own_any k v _)) | (go_at_call 99;with_reducible exact calls_over (hcl _))));go_big_quiet_on)))
    refine wpQuiet_nil ?_
    rintro W3 ⟨e,he⟩
    have hb3:=over_below wr e
    rw [← he] at hb3
    have H3:=Lib.hid (HU.out.later hb3)
    clear he og oa0 oa1 oa2 hb3 hcl HU
    have HU:=H3
    clear H3
    have hov:(ownK k v).1=v:=rfl
    rw [hov]
    clear hov
    by_cases hv:v≤v0
    ·have HF2:=Lib.hid (show withinT v0 t=some k by rw [← HF.out];rw [within_l0,if_pos hv])
     rw [decide_eq_true hv]
     clear hv
     have a0:=HU.out.rb.1.cell 0;have a1:=HU.out.rb.1.cell 1
     unfold nodeC at a0 a1
     simp only [lTA,lCZ,lCS] at a0 a1
     have s0:=HU.out.res.cell 0;have s1:=HU.out.res.cell 1;have f0:=HU.out.res.frozen 0;have f1:=HU.out.res.frozen 1
     simp only [lTA,lCZ,lCS] at s0 s1
     have hres:=(HU.out.res.set_ 0 (.int .u64 k.1)).set_ 1 (.int .i64 k.2)
     have hb9:=(HU.out.below.setCell (p:=⟨T,0,none⟩) (Nat.le_of_eq HT.out.symm) (.int .u64 k.1)).setCell (p:=⟨T,1,none⟩) (Nat.le_of_eq HT.out.symm) (.int .i64 k.2)
     have e0:=hres.cell 0;have e1:=hres.cell 1
     simp at e0 e1
     have HB9:=Lib.hid hb9
     clear hb9 hres
     go_wp2_with fail
     exact bodyPost_ret (v:=.tuple #[.agg #[.int .u64 k.1,.int .i64 k.2],.bool true]) (by simp [results,Tryz.results98,go_sem,e0,e1]) rfl ⟨by rw [HF2.out];rfl,HB9.out⟩
    ·have HF2:=Lib.hid (show withinT v0 r=withinT v0 t by rw [← HF.out];rw [within_l0,if_neg hv])
     rw [decide_eq_false hv]
     clear hv
     have a7:=HU.out.rb.1.cell 7
     unfold nodeC at a7
     simp only [lTA,lCZ,lCS] at a7
     go_wp2_with fail
     go_roundg (sizeT r)
     case measure=>have:=HSZ.out;simp only [sizeT] at this;omega
     case rel=>exact⟨r,rfl,rfl,HF2.out,{ HU.out with rb:=HU.out.rb.2.2 }⟩
   | node b kl vl sl cl ll rl =>
    have e1:ptrV (.node b kl vl sl cl ll rl)=.pointer (some ⟨b,0,none⟩):=rfl
    rw [e1] at a6
    have b3:=HU.out.rb.2.1.1.cell 3;have b4:=HU.out.rb.2.1.1.cell 4
    unfold nodeC at b3 b4
    simp only [lTA,lCZ,lCS] at b3 b4
    have hcl:=within1_any B v0 sl wr HU.out.box
    go_wp2_with fail
    refine hcl.mono ?_
    clear hcl a6 b3 b4
    rintro e W4 ⟨rfl,hb4⟩
    have H4:=Lib.hid (HU.out.later hb4)
    clear hb4 HU e1
    have HU:=H4
    clear H4
    by_cases hs:sl.1≤v0
    ·have HF2:=Lib.hid (show withinT v0 (.node b kl vl sl cl ll rl)=withinT v0 t by rw [← HF.out];rw [within_l1,if_pos hs])
     rw [decide_eq_true hs]
     clear hs
     have a6:=HU.out.rb.1.cell 6
     unfold nodeC at a6
     simp only [lTA,lCZ,lCS] at a6
     go_wp2_with fail
     go_roundg (sizeT (.node b kl vl sl cl ll rl))
     case measure=>have:=HSZ.out;simp only [sizeT] at this ⊢;omega
     case rel=>exact⟨_,rfl,rfl,HF2.out,{ HU.out with rb:=HU.out.rb.2.1 }⟩
    ·rw [decide_eq_false hs]
     go_upto_region 8 with fail
     have og:=fun e=>(over_cell (w:=W4) (e:=e) (o:=0) HU.out.tree.lt).trans (HU.out.tree.cell 0)
     have oa0:=fun e=>(over_cell (w:=W4) (e:=e) (o:=0) HU.out.rb.1.lt).trans (HU.out.rb.1.cell 0)
     have oa1:=fun e=>(over_cell (w:=W4) (e:=e) (o:=1) HU.out.rb.1.lt).trans (HU.out.rb.1.cell 1)
     have oa2:=fun e=>(over_cell (w:=W4) (e:=e) (o:=2) HU.out.rb.1.lt).trans (HU.out.rb.1.cell 2)
     unfold treeC at og
     unfold nodeC at oa0 oa1 oa2
     simp only [lTA,lCZ,lCS] at og oa0 oa1 oa2
     have hcl:=fun e=>within1_any B v0 (ownK k v) (over W4 e) (HU.out.later (over_below W4 e)).box
     refine wp_region_over (by kernel_rfl) (by kernel_rfl) ?_
     repeat (first | go_big_quiet_skip | (go_big_quiet_want;go_big_quiet_op;first | go_big_quiet_on | (apply Exists.intro;refine⟨fun e=>?_,?_⟩;(focus (first | (go_at_call 78;with_reducible exact calls_over (own_any k v _)) | (go_at_call 99;with_reducible exact calls_over (hcl _))));go_big_quiet_on)))
     refine wpQuiet_nil ?_
     rintro W3 ⟨e,he⟩
     have hb3:=over_below W4 e
     rw [← he] at hb3
     have H3:=Lib.hid (HU.out.later hb3)
     clear he og oa0 oa1 oa2 hb3 hcl HU
     have HU:=H3
     clear H3
     have hov:(ownK k v).1=v:=rfl
     rw [hov]
     clear hov
     by_cases hv:v≤v0
     ·have HF2:=Lib.hid (show withinT v0 t=some k by rw [← HF.out];rw [within_l1,if_neg (show ¬ sl.1≤v0 by omega),if_pos hv])
      rw [decide_eq_true hv]
      clear hv
      have a0:=HU.out.rb.1.cell 0;have a1:=HU.out.rb.1.cell 1
      unfold nodeC at a0 a1
      simp only [lTA,lCZ,lCS] at a0 a1
      have s0:=HU.out.res.cell 0;have s1:=HU.out.res.cell 1;have f0:=HU.out.res.frozen 0;have f1:=HU.out.res.frozen 1
      simp only [lTA,lCZ,lCS] at s0 s1
      have hres:=(HU.out.res.set_ 0 (.int .u64 k.1)).set_ 1 (.int .i64 k.2)
      have hb9:=(HU.out.below.setCell (p:=⟨T,0,none⟩) (Nat.le_of_eq HT.out.symm) (.int .u64 k.1)).setCell (p:=⟨T,1,none⟩) (Nat.le_of_eq HT.out.symm) (.int .i64 k.2)
      have e0:=hres.cell 0;have e1:=hres.cell 1
      simp at e0 e1
      have HB9:=Lib.hid hb9
      clear hb9 hres
      go_wp2_with fail
      exact bodyPost_ret (v:=.tuple #[.agg #[.int .u64 k.1,.int .i64 k.2],.bool true]) (by simp [results,Tryz.results98,go_sem,e0,e1]) rfl ⟨by rw [HF2.out];rfl,HB9.out⟩
     ·have HF2:=Lib.hid (show withinT v0 r=withinT v0 t by rw [← HF.out];rw [within_l1,if_neg (show ¬ sl.1≤v0 by omega),if_neg hv])
      rw [decide_eq_false hv]
      clear hv
      have a7:=HU.out.rb.1.cell 7
      unfold nodeC at a7
      simp only [lTA,lCZ,lCS] at a7
      go_wp2_with fail
      go_roundg (sizeT r)
      case measure=>have:=HSZ.out;simp only [sizeT] at this;omega
      case rel=>exact⟨r,rfl,rfl,HF2.out,{ HU.out with rb:=HU.out.rb.2.2 }⟩
def OptW (w:World)(o:Option Int)(e:Ending)(w':World):Prop:=e=.returned (.tuple #[.int .i64 (o.getD 0),.bool o.isSome])∧Below w.heap.size w w'
theorem awithin_any (q g m:Nat)(v0:Int)(t:RB)(M:List (Int × Ky))(w:World)(h:AugAt w q g m t M) :
  Calls Tryz.prog 52 #[.pointer (some ⟨q,0,none⟩),.int .u64 v0] w (OptW w (withinV (listT t) v0)):=by
 have hb0:=(Below.refl w.heap.size w).alloc (Nat.le_refl _) (.cells #[.int .u64 v0] 28)
 have hB:=Blk.new w 28 #[.int .u64 v0]
 have h0:=h.later hb0
 have h1:=of_any q g _ _ h0.aug
 have h2:=find_any g w.heap.size _ v0 t _ h0.tr.tree h0.tr.rb hB
 have ho:withinV (listT t) v0=(withinT v0 t).map (·.2):=by
  rw [within_ok v0 t h.tr.well.2.2.1]
  unfold withinV
  cases (listT t).find? fun e=>decide (e.2≤v0) <;> rfl
 rw [ho]
 clear ho
 unfold FindW at h2
 generalize withinT v0 t=o at h2 ⊢
 obtain⟨k,hk⟩:∃ k,o.getD (0,0)=k:=⟨_,rfl⟩
 rw [hk] at h2
 have e3:(o.map (·.2)).getD 0=k.2:=by rw [← hk];cases o <;> rfl
 have e4:(o.map (·.2)).isSome=o.isSome:=by cases o <;> rfl
 have HE3:=Lib.hid (And.intro e3 e4)
 have HB0:=Lib.hid hb0
 clear e3 e4 hk h hB h0 hb0
 go_enter Tryz.func52,Tryz.ntmps52
 go_wp2_with fail
 refine h1.mono ?_
 clear h1
 rintro e w1 ⟨rfl,rfl⟩
 go_wp2_with fail
 refine h2.mono ?_
 clear h2
 rintro e w2 ⟨rfl,hb⟩
 have HB:=Lib.hid (HB0.out.trans (hb.mono HB0.out.size))
 clear hb
 go_wp2_with fail
 go_ret2
 refine⟨by rw [HE3.out.1,HE3.out.2];rfl,?_⟩
 exact HB.out.alloc HB.out.size _
theorem lowV_root {t:RB} {a:Nat} {k:Ky} {v:Int} {s:Ky} {c:Bool} {l r:RB} (h:SumOk t)(he:t=.node a k v s c l r):lowV (listT t)=some s.1:=by
 have hl:=SumOk.least h he
 obtain⟨e,hem,hes⟩:=List.mem_map.1 hl.1
 cases hv:lowV (listT t) with
 | none=>rw [lowV_none.1 hv] at hem;cases hem
 | some m =>
  obtain⟨⟨y,hy,hym⟩,hmin⟩:=lowV_spec hv
  have h1:=hmin e hem
  have h2:=hl.2 (ownE y) (List.mem_map.2 ⟨y,hy,rfl⟩)
  have h3:e.2=s.1:=by rw [← hes];rfl
  have h4:(ownE y).1=m:=hym
  have h5:¬ (ownE y).1 < s.1:=fun hlt=>by rw [lessK_iff.2 (.inl hlt)] at h2;cases h2
  congr 1
  omega
def AllW (w:World)(o:Option Ky)(e:Ending)(w':World):Prop:=e=.returned (.tuple #[.agg #[.int .u64 (o.getD (0,0)).1,.int .i64 (o.getD (0,0)).2],.bool o.isSome])∧Below w.heap.size w w'
def sumT:RB→Option Ky
 | .nil=>none
 | .node _ _ _ s _ _ _=>some s
theorem all_any (g:Nat)(n:Int)(t:RB)(w:World)(hg:Blk w g 165 (treeC (ptrV t) n))(hr:RBAt w t) :
  Calls Tryz.prog 111 #[.pointer (some ⟨g,0,none⟩)] w (AllW w (sumT t)):=by
 have hb0:=(Below.refl w.heap.size w).alloc (Nat.le_refl _) (.cells #[.int .u64 0,.int .i64 0] 116)
 have hR0:=Blk.new w 116 #[.int .u64 0,.int .i64 0]
 have hg0:=hg.below hb0 hg.lt
 have hr0:=hr.later hb0
 have hnone:=none_any g _ _ _ hg0
 have c2:=hg0.cell 2
 unfold treeC at c2
 simp only [lTA,lCZ,lCS] at c2
 have H0:=Lib.hid (And.intro hb0 (And.intro hR0 hr0))
 clear hg hr hb0 hR0 hg0 hr0
 go_enter Tryz.func111,Tryz.ntmps111
 go_upto_region 1 with fail
 generalize w.alloc (.cells #[.int .u64 0,.int .i64 0] 116)=W0 at H0 hnone c2 ⊢
 obtain⟨T,hT⟩:∃ T,T=w.heap.size:=⟨_,rfl⟩
 rw [← hT] at H0 ⊢
 have HT:=Lib.hid hT
 clear hT
 cases t with
 | nil =>
  have e1:ptrV .nil=.pointer none:=rfl
  rw [e1] at c2
  have hb1:=(Below.refl W0.heap.size W0).alloc (Nat.le_refl _) (.cells #[.int .u64 0,.int .i64 0] 116)
  have hR1:=H0.out.2.1.below hb1 H0.out.2.1.lt
  have s0:=hR1.cell 0;have s1:=hR1.cell 1;have f0:=hR1.frozen 0;have f1:=hR1.frozen 1
  simp only [lTA,lCZ,lCS] at s0 s1
  have hres:=(hR1.set_ 0 (.int .u64 0)).set_ 1 (.int .i64 0)
  have hbw:Below T w (W0.alloc (.cells #[.int .u64 0,.int .i64 0] 116)):=H0.out.1.trans (hb1.mono (by rw [HT.out];exact H0.out.1.size))
  have hb9:=(hbw.setCell (p:=⟨T,0,none⟩) (Nat.le_refl _) (.int .u64 0)).setCell (p:=⟨T,1,none⟩) (Nat.le_refl _) (.int .i64 0)
  have e0:=hres.cell 0;have e1:=hres.cell 1
  simp at e0 e1
  have HB9:=Lib.hid hb9
  clear hb9 hres hbw hb1 hR1
  go_wp2_with fail
  refine hnone.mono ?_
  clear hnone
  rintro e w1 ⟨rfl,rfl⟩
  go_wp2_with fail
  exact bodyPost_ret (v:=.tuple #[.agg #[.int .u64 0,.int .i64 0],.bool false]) (by simp [results,Tryz.results111,go_sem,e0,e1]) rfl ⟨rfl,by rw [← HT.out];exact HB9.out⟩
 | node a k v s c l r =>
  have e1:ptrV (.node a k v s c l r)=.pointer (some ⟨a,0,none⟩):=rfl
  rw [e1] at c2
  have b3:=H0.out.2.2.1.cell 3;have b4:=H0.out.2.2.1.cell 4
  unfold nodeC at b3 b4
  have s0:=H0.out.2.1.cell 0;have s1:=H0.out.2.1.cell 1;have f0:=H0.out.2.1.frozen 0;have f1:=H0.out.2.1.frozen 1
  simp only [lTA,lCZ,lCS] at s0 s1 b3 b4
  have hres:=(H0.out.2.1.set_ 0 (.int .u64 s.1)).set_ 1 (.int .i64 s.2)
  have hb9:=(H0.out.1.setCell (p:=⟨T,0,none⟩) (Nat.le_refl _) (.int .u64 s.1)).setCell (p:=⟨T,1,none⟩) (Nat.le_refl _) (.int .i64 s.2)
  have e0:=hres.cell 0;have e9:=hres.cell 1
  simp at e0 e9
  have HB9:=Lib.hid hb9
  clear hb9 hres e1
  go_wp2_with fail
  refine hnone.mono ?_
  clear hnone
  rintro e w1 ⟨rfl,rfl⟩
  go_wp2_with fail
  exact bodyPost_ret (v:=.tuple #[.agg #[.int .u64 s.1,.int .i64 s.2],.bool true]) (by simp [results,Tryz.results111,go_sem,e0,e9]) rfl ⟨rfl,by rw [← HT.out];exact HB9.out⟩
def LowW (w:World)(o:Option Int)(e:Ending)(w':World):Prop:=e=.returned (.tuple #[.int .u64 (o.getD 0),.bool o.isSome])∧Below w.heap.size w w'
theorem alowest_any (q g m:Nat)(t:RB)(M:List (Int × Ky))(w:World)(h:AugAt w q g m t M) :
  Calls Tryz.prog 68 #[.pointer (some ⟨q,0,none⟩)] w (LowW w (lowV (listT t))):=by
 have h1:=of_any q g _ _ h.aug
 have h2:=all_any g _ t w h.tr.tree h.tr.rb
 have ho:lowV (listT t)=(sumT t).map (·.1):=by
  cases t with
  | nil=>rfl
  | node a k v s c l r=>exact lowV_root h.tr.well.2.2.1 rfl
 rw [ho]
 clear ho h
 unfold AllW at h2
 generalize sumT t=o at h2 ⊢
 obtain⟨k,hk⟩:∃ k,o.getD (0,0)=k:=⟨_,rfl⟩
 rw [hk] at h2
 have e3:(o.map (·.1)).getD 0=k.1:=by rw [← hk];cases o <;> rfl
 have e4:(o.map (·.1)).isSome=o.isSome:=by cases o <;> rfl
 have HE3:=Lib.hid (And.intro e3 e4)
 clear e3 e4 hk
 go_enter Tryz.func68,Tryz.ntmps68
 go_wp2_with fail
 refine h1.mono ?_
 clear h1
 rintro e w1 ⟨rfl,rfl⟩
 go_wp2_with fail
 refine h2.mono ?_
 clear h2
 rintro e w2 ⟨rfl,hb⟩
 have HB:=Lib.hid hb
 clear hb
 go_wp2_with fail
 go_ret2
 exact⟨by rw [HE3.out.1,HE3.out.2];rfl,HB.out.alloc HB.out.size _⟩
end
end Go.Proofs.YtmmeopjemkjllaaGreat
