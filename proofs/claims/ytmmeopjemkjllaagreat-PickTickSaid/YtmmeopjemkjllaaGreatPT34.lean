/- Lemmas of the claim. No conditions beyond those that each states. -/
import Derived.Test.YtmmeopjemkjllaaGreatPT33
import Derived.Maps.RangeWalk
import Derived.BigRegionIn
import Derived.Stop.RegionWithIn
set_option linter.unusedVariables false
set_option linter.unusedSimpArgs false
set_option maxRecDepth 100000
set_option maxHeartbeats 8000000
namespace Go.Proofs.YtmmeopjemkjllaaGreat
section
open Go.RowKit Go.Maps
attribute [local go_sem ↓] Go.wp_at_zero Go.wp_at_succ
attribute [local go_sem] quietR quietAtR quietUponR midAt midUpon
attribute [local irreducible] TStep HStep
theorem put_look {α:Type} {id:Int} {c:α}:∀ {M:List (Int × α)},Rising M→lookM M id=some c→putM M id c=M
 | [],_,h=>by cases h
 | p :: r,hr,hl=>by
  have h1:=(List.pairwise_cons.1 hr).1
  unfold lookM at hl
  unfold putM
  by_cases hp:p.1=id
  ·rw [if_pos hp] at hl
   cases hl
   subst hp
   rw [if_neg (by omega),if_pos rfl]
  ·rw [if_neg hp] at hl
   have:=h1 _ (mem_of_look hl)
   dsimp only at this
   rw [if_neg (by omega),if_neg hp,put_look (List.pairwise_cons.1 hr).2 hl]
theorem ActY.other {S:Nat→Prop} {w W W':World} {base g ma mu:Nat} {U:List (Int × Value)} {M:Mp} {rv:Int→Value} {kd:Int→List Int} {t t':TypeId} {cs cs':Array Value} {B:Nat} (h:ActY S w W base g ma mu U M rv kd t cs)(hC:Blk W B t' cs')(h1:t'≠t)(h2:t'≠101)(h3:3≠t')(hg:W.grownBy W' (some B))(hB:w.heap.size≤B):ActY S w W' base g ma mu U M rv kd t cs:=by
 have hne:∀ {b:Nat} {t2:TypeId} {c2:Array Value},Blk W b t2 c2→t'≠t2→some b≠some B:=fun hb ht e=>by
  cases e
  have:=hC.symm.trans hb
  simp only [Option.some.injEq,Obj.cells.injEq] at this
  exact ht this.2.1
 refine⟨⟨h.tree.blk.grown hg (hne h.tree.blk h2),h.tree.all.kept hg ?_,h.tree.und.kept hg ?_,fun k=>(h.tree.rows k).kept hg ?_,h.tree.apart,h.tree.ne⟩,h.box.grown hg (hne h.box h1),?_⟩
 ·intro e;cases e;exact blk_map hC h.tree.all rfl
 ·intro e;cases e;exact blk_map hC h.tree.und rfl
 ·exact .inr (row_blkH (h.tree.rows k) hC h3)
 ·exact⟨hg.os.trans h.fr.os,hg.tape.trans h.fr.tape,hg.output.trans h.fr.output,Nat.le_trans h.fr.size hg.size,fun b hb hn=>(hg.block b (Nat.lt_of_lt_of_le hb h.fr.size) (by intro e;cases e;omega)).trans (h.fr.block b hb hn)⟩
theorem run_neC (i p:Int)(l:Bool)(k b d:Int)(x y:Cv × Cv × Cv):∃ r,(∀ W,(binOp .neq 107 (.agg #[.int .i64 i,.int .i64 p,.bool l,.int .u64 x.1.1,.int .u64 x.1.2.1,.int .u64 x.1.2.2,.int .u64 x.2.1.1,.int .u64 x.2.1.2.1,.int .u64 x.2.1.2.2,.int .u64 x.2.2.1,.int .u64 x.2.2.2.1,.int .u64 x.2.2.2.2,.int .i64 k,.int .i64 b,.int .i64 d]) (.agg #[.int .i64 i,.int .i64 p,.bool l,.int .u64 y.1.1,.int .u64 y.1.2.1,.int .u64 y.1.2.2,.int .u64 y.2.1.1,.int .u64 y.2.1.2.1,.int .u64 y.2.1.2.2,.int .u64 y.2.2.1,.int .u64 y.2.2.2.1,.int .u64 y.2.2.2.2,.int .i64 k,.int .i64 b,.int .i64 d])).run Tryz.prog W=.ok (.bool r) W)∧(r=false→x=y):=by
 obtain⟨⟨a1,a2,a3⟩,⟨a4,a5,a6⟩,a7,a8,a9⟩:=x
 obtain⟨⟨b1,b2,b3⟩,⟨b4,b5,b6⟩,b7,b8,b9⟩:=y
 dsimp only
 by_cases e1:a1=b1
 rotate_left
 ·exact⟨true,fun W=>by go_simp <;> simp [e1],fun h=>by cases h⟩
 subst e1
 by_cases e2:a2=b2
 rotate_left
 ·exact⟨true,fun W=>by go_simp <;> simp [e2],fun h=>by cases h⟩
 subst e2
 by_cases e3:a3=b3
 rotate_left
 ·exact⟨true,fun W=>by go_simp <;> simp [e3],fun h=>by cases h⟩
 subst e3
 by_cases e4:a4=b4
 rotate_left
 ·exact⟨true,fun W=>by go_simp <;> simp [e4],fun h=>by cases h⟩
 subst e4
 by_cases e5:a5=b5
 rotate_left
 ·exact⟨true,fun W=>by go_simp <;> simp [e5],fun h=>by cases h⟩
 subst e5
 by_cases e6:a6=b6
 rotate_left
 ·exact⟨true,fun W=>by go_simp <;> simp [e6],fun h=>by cases h⟩
 subst e6
 by_cases e7:a7=b7
 rotate_left
 ·exact⟨true,fun W=>by go_simp <;> simp [e7],fun h=>by cases h⟩
 subst e7
 by_cases e8:a8=b8
 rotate_left
 ·exact⟨true,fun W=>by go_simp <;> simp [e8],fun h=>by cases h⟩
 subst e8
 by_cases e9:a9=b9
 rotate_left
 ·exact⟨true,fun W=>by go_simp <;> simp [e9],fun h=>by cases h⟩
 subst e9
 exact⟨false,fun W=>by go_simp,fun _=>rfl⟩
theorem tchange_any (s:Sp)(base g ma mu:Nat)(U:List (Int × Value))(M:Mp)(w:World)(hw:WfSp s)(h:TreeX w base g ma mu U M) :
  Calls Tryz.prog 105 #[.pointer (some ⟨g,0,none⟩),spV s] w (ActW w base g ma mu U (changeM M s)):=by
 have hid:(Lit.int .i64 s.id).wf=true:=hw.1.1
 have hb0:=(Below.refl w.heap.size w).alloc (Nat.le_refl _) (.cells (spC s) 32)
 have h0:ActY (own ma mu U) w (w.alloc (.cells (spC s) 32)) base g ma mu U M (rowV U) (kids M) 32 (spC s):=⟨(h.later hb0).y,Blk.new w _ _,Fr.of_below hb0⟩
 have hn:=htnone_no g ma _ _ (h.later hb0).blk
 unfold spV
 unfold spC at *
 have H0:=Lib.hid h0;have HX:=Lib.hid h;have HB0:=Lib.hid hb0;have HW:=Lib.hid hw
 clear h h0 hb0 hw
 go_enter Tryz.func105,Tryz.ntmps105
 go_wp2_with fail
 refine hn.mono ?_
 clear hn
 rintro e w1 ⟨rfl,rfl⟩
 go_upto_region 3 with fail
 generalize w.alloc (.cells #[.int .i64 s.id,.int .i64 s.pa,.bool s.lf,.int .u64 s.r.1,.int .u64 s.r.2.1,.int .u64 s.r.2.2,.int .u64 s.s.1,.int .u64 s.s.2.1,.int .u64 s.s.2.2,.int .u64 s.u.1,.int .u64 s.u.2.1,.int .u64 s.u.2.2,.int .i64 s.pk,.int .i64 s.by_] 32)=w1 at H0 HB0 ⊢
 have H1:=H0;have HB1:=HB0
 clear H0 HB0
 have l1:=H1.out.tree.blk.lt;have l2:=H1.out.box.lt
 have o0:=fun e=>(over_cell (w:=w1) (e:=e) (o:=0) l1).trans (H1.out.tree.blk.cell 0)
 have b0:=fun e=>(over_cell (w:=w1) (e:=e) (o:=0) l2).trans (H1.out.box.cell 0)
 simp only [lTA,lCZ,lCS] at o0 b0
 have lk:=fun e=>((HX.out.later HB1.out).later (over_below w1 e)).look hid
 cases hlk:lookM M s.id with
 | none =>
  rw [hlk] at lk
  unfold clV clC cl0 sp0 at lk
  dsimp only [Option.getD,Option.isSome] at lk
  have HC:=Lib.hid hlk
  clear hlk
  refine wp_region_alloc (w:=w1) 10 _ _ 5 (.cells #[.int .i64 0,.int .i64 0,.bool false,.int .u64 0,.int .u64 0,.int .u64 0,.int .u64 0,.int .u64 0,.int .u64 0,.int .u64 0,.int .u64 0,.int .u64 0,.int .i64 0,.int .i64 0,.int .i64 0] 107) (by kernel_rfl) rfl rfl rfl (fun _ _=>by kernel_rfl) (by kernel_rfl) ?_
  simp only [List.take_succ_cons,List.take_zero,List.drop_succ_cons,List.drop_zero]
  repeat (refine wpQuietR_step (fun K hK=>?_);go_simp;(refine hK _ ?_;clear hK K))
  refine wpQuietR_nil ?_
  intro B W2 hB hb2 hO
  have bN:Blk W2 B 107 #[.int .i64 0,.int .i64 0,.bool false,.int .u64 0,.int .u64 0,.int .u64 0,.int .u64 0,.int .u64 0,.int .u64 0,.int .u64 0,.int .u64 0,.int .u64 0,.int .i64 0,.int .i64 0,.int .i64 0]:=hO
  have hb3:Below w1.heap.size w1 (W2.setCells B 0 [.int .i64 0,.int .i64 0,.bool false,.int .u64 0,.int .u64 0,.int .u64 0,.int .u64 0,.int .u64 0,.int .u64 0,.int .u64 0,.int .u64 0,.int .u64 0,.int .i64 0,.int .i64 0,.int .i64 0]):=hb2.grown (grown_setCells B _ _ W2) hb2.size (fun q e=>by cases e;exact hB)
  refine plain_store 107 _ _ B [.int .i64 0,.int .i64 0,.bool false,.int .u64 0,.int .u64 0,.int .u64 0,.int .u64 0,.int .u64 0,.int .u64 0,.int .u64 0,.int .u64 0,.int .u64 0,.int .i64 0,.int .i64 0,.int .i64 0] 107 #[.int .i64 0,.int .i64 0,.bool false,.int .u64 0,.int .u64 0,.int .u64 0,.int .u64 0,.int .u64 0,.int .u64 0,.int .u64 0,.int .u64 0,.int .u64 0,.int .i64 0,.int .i64 0,.int .i64 0] bN (by simp) rfl (by kernel_rfl) (by kernel_rfl) (by kernel_rfl) (by kernel_rfl) ⟨hb3,?_⟩
  generalize W2.setCells B 0 [.int .i64 0,.int .i64 0,.bool false,.int .u64 0,.int .u64 0,.int .u64 0,.int .u64 0,.int .u64 0,.int .u64 0,.int .u64 0,.int .u64 0,.int .u64 0,.int .i64 0,.int .i64 0,.int .i64 0]=W3 at hb3 ⊢
  clear o0 b0 lk bN hO hb2 l1 l2
  have HB3:=Lib.hid (HB1.out.trans (hb3.mono HB1.out.size))
  clear hb3 H1 HB1
  go_wp2_with fail
  go_ret
  exact ActW.same HX.out HB3.out rfl (by unfold changeM;rw [HC.out])
 | some c =>
  rw [hlk] at lk
  unfold clV clC at lk
  dsimp only [Option.getD,Option.isSome] at lk
  have HC:=Lib.hid hlk
  clear hlk
  refine wp_region_alloc (w:=w1) 10 _ _ 5 (.cells #[.int .i64 0,.int .i64 0,.bool false,.int .u64 0,.int .u64 0,.int .u64 0,.int .u64 0,.int .u64 0,.int .u64 0,.int .u64 0,.int .u64 0,.int .u64 0,.int .i64 0,.int .i64 0,.int .i64 0] 107) (by kernel_rfl) rfl rfl rfl (fun _ _=>by kernel_rfl) (by kernel_rfl) ?_
  simp only [List.take_succ_cons,List.take_zero,List.drop_succ_cons,List.drop_zero]
  repeat (refine wpQuietR_step (fun K hK=>?_);go_simp;(refine hK _ ?_;clear hK K))
  refine wpQuietR_nil ?_
  intro B W2 hB hb2 hO
  have bN:Blk W2 B 107 #[.int .i64 0,.int .i64 0,.bool false,.int .u64 0,.int .u64 0,.int .u64 0,.int .u64 0,.int .u64 0,.int .u64 0,.int .u64 0,.int .u64 0,.int .u64 0,.int .i64 0,.int .i64 0,.int .i64 0]:=hO
  have hb3:Below w1.heap.size w1 (W2.setCells B 0 [.int .i64 c.1.id,.int .i64 c.1.pa,.bool c.1.lf,.int .u64 c.1.r.1,.int .u64 c.1.r.2.1,.int .u64 c.1.r.2.2,.int .u64 c.1.s.1,.int .u64 c.1.s.2.1,.int .u64 c.1.s.2.2,.int .u64 c.1.u.1,.int .u64 c.1.u.2.1,.int .u64 c.1.u.2.2,.int .i64 c.1.pk,.int .i64 c.1.by_,.int .i64 c.2]):=hb2.grown (grown_setCells B _ _ W2) hb2.size (fun q e=>by cases e;exact hB)
  have bC:=bN.setCells [.int .i64 c.1.id,.int .i64 c.1.pa,.bool c.1.lf,.int .u64 c.1.r.1,.int .u64 c.1.r.2.1,.int .u64 c.1.r.2.2,.int .u64 c.1.s.1,.int .u64 c.1.s.2.1,.int .u64 c.1.s.2.2,.int .u64 c.1.u.1,.int .u64 c.1.u.2.1,.int .u64 c.1.u.2.2,.int .i64 c.1.pk,.int .i64 c.1.by_,.int .i64 c.2] 0
  rw [setL_all _ _ (by simp)] at bC
  refine plain_store 107 _ _ B [.int .i64 c.1.id,.int .i64 c.1.pa,.bool c.1.lf,.int .u64 c.1.r.1,.int .u64 c.1.r.2.1,.int .u64 c.1.r.2.2,.int .u64 c.1.s.1,.int .u64 c.1.s.2.1,.int .u64 c.1.s.2.2,.int .u64 c.1.u.1,.int .u64 c.1.u.2.1,.int .u64 c.1.u.2.2,.int .i64 c.1.pk,.int .i64 c.1.by_,.int .i64 c.2] 107 #[.int .i64 0,.int .i64 0,.bool false,.int .u64 0,.int .u64 0,.int .u64 0,.int .u64 0,.int .u64 0,.int .u64 0,.int .u64 0,.int .u64 0,.int .u64 0,.int .i64 0,.int .i64 0,.int .i64 0] bN (by simp) rfl (by kernel_rfl) (by kernel_rfl) (by kernel_rfl) (by kernel_rfl) ⟨hb3,?_⟩
  generalize W2.setCells B 0 [.int .i64 c.1.id,.int .i64 c.1.pa,.bool c.1.lf,.int .u64 c.1.r.1,.int .u64 c.1.r.2.1,.int .u64 c.1.r.2.2,.int .u64 c.1.s.1,.int .u64 c.1.s.2.1,.int .u64 c.1.s.2.2,.int .u64 c.1.u.1,.int .u64 c.1.u.2.1,.int .u64 c.1.u.2.2,.int .i64 c.1.pk,.int .i64 c.1.by_,.int .i64 c.2]=W3 at hb3 bC ⊢
  clear o0 b0 lk bN hO hb2 l1 l2
  have hBw:w1.heap.size≤B:=hB
  have H3:=Lib.hid (And.intro (H1.out.later hb3) bC)
  have HB3:=Lib.hid (HB1.out.trans (hb3.mono HB1.out.size))
  have hBw2:w.heap.size < B:=Nat.lt_of_lt_of_le H1.out.box.lt hB
  clear hb3 H1 HB1 bC hB hBw
  go_upto_region 6 with fail
  have b0:=H3.out.1.box.cell 0;have b1:=H3.out.1.box.cell 1;have b2:=H3.out.1.box.cell 2;have b3:=H3.out.1.box.cell 3;have b4:=H3.out.1.box.cell 4;have b5:=H3.out.1.box.cell 5;have b6:=H3.out.1.box.cell 6;have b7:=H3.out.1.box.cell 7;have b8:=H3.out.1.box.cell 8;have b9:=H3.out.1.box.cell 9;have b10:=H3.out.1.box.cell 10;have b11:=H3.out.1.box.cell 11;have b12:=H3.out.1.box.cell 12;have b13:=H3.out.1.box.cell 13
  simp only [lTA,lCZ,lCS] at b0 b1 b2 b3 b4 b5 b6 b7 b8 b9 b10 b11 b12 b13
  have c0:=H3.out.2.cell 0;have c1:=H3.out.2.cell 1;have c2:=H3.out.2.cell 2;have c3:=H3.out.2.cell 3;have c4:=H3.out.2.cell 4;have c5:=H3.out.2.cell 5;have c6:=H3.out.2.cell 6;have c7:=H3.out.2.cell 7;have c8:=H3.out.2.cell 8;have c9:=H3.out.2.cell 9;have c10:=H3.out.2.cell 10;have c11:=H3.out.2.cell 11;have c12:=H3.out.2.cell 12;have c13:=H3.out.2.cell 13;have c14:=H3.out.2.cell 14
  simp only [lTA,lCZ,lCS] at c0 c1 c2 c3 c4 c5 c6 c7 c8 c9 c10 c11 c12 c13 c14
  have f0:=H3.out.2.frozen 0;have f1:=H3.out.2.frozen 1;have f2:=H3.out.2.frozen 2;have f3:=H3.out.2.frozen 3;have f4:=H3.out.2.frozen 4;have f5:=H3.out.2.frozen 5;have f6:=H3.out.2.frozen 6;have f7:=H3.out.2.frozen 7;have f8:=H3.out.2.frozen 8;have f9:=H3.out.2.frozen 9;have f10:=H3.out.2.frozen 10;have f11:=H3.out.2.frozen 11;have f12:=H3.out.2.frozen 12;have f13:=H3.out.2.frozen 13;have f14:=H3.out.2.frozen 14
  go_region
  have hgr:W3.grownBy (W3.setCells B 3 [.int .u64 s.r.1,.int .u64 s.r.2.1,.int .u64 s.r.2.2,.int .u64 s.s.1,.int .u64 s.s.2.1,.int .u64 s.s.2.2,.int .u64 s.u.1,.int .u64 s.u.2.1,.int .u64 s.u.2.2]).drew (some B):=grown_transH (grown_setCells B _ _ W3) (grown_drewH _)
  have hC4:=(H3.out.2.setCells [.int .u64 s.r.1,.int .u64 s.r.2.1,.int .u64 s.r.2.2,.int .u64 s.s.1,.int .u64 s.s.2.1,.int .u64 s.s.2.2,.int .u64 s.u.1,.int .u64 s.u.2.1,.int .u64 s.u.2.2] 3).drew
  rw [show setLH #[.int .i64 c.1.id,.int .i64 c.1.pa,.bool c.1.lf,.int .u64 c.1.r.1,.int .u64 c.1.r.2.1,.int .u64 c.1.r.2.2,.int .u64 c.1.s.1,.int .u64 c.1.s.2.1,.int .u64 c.1.s.2.2,.int .u64 c.1.u.1,.int .u64 c.1.u.2.1,.int .u64 c.1.u.2.2,.int .i64 c.1.pk,.int .i64 c.1.by_,.int .i64 c.2] 3 [.int .u64 s.r.1,.int .u64 s.r.2.1,.int .u64 s.r.2.2,.int .u64 s.s.1,.int .u64 s.s.2.1,.int .u64 s.s.2.2,.int .u64 s.u.1,.int .u64 s.u.2.1,.int .u64 s.u.2.2]=#[.int .i64 c.1.id,.int .i64 c.1.pa,.bool c.1.lf,.int .u64 s.r.1,.int .u64 s.r.2.1,.int .u64 s.r.2.2,.int .u64 s.s.1,.int .u64 s.s.2.1,.int .u64 s.s.2.2,.int .u64 s.u.1,.int .u64 s.u.2.1,.int .u64 s.u.2.2,.int .i64 c.1.pk,.int .i64 c.1.by_,.int .i64 c.2] by kernel_rfl] at hC4
  have h4:=H3.out.1.other H3.out.2 (by decide) (by decide) (by decide) hgr (Nat.le_of_lt hBw2)
  have H4:=Lib.hid (And.intro h4 hC4)
  have hw4:w.heap.size≤(W3.setCells B 3 [.int .u64 s.r.1,.int .u64 s.r.2.1,.int .u64 s.r.2.2,.int .u64 s.s.1,.int .u64 s.s.2.1,.int .u64 s.s.2.2,.int .u64 s.u.1,.int .u64 s.u.2.1,.int .u64 s.u.2.2]).drew.heap.size:=Nat.le_trans H3.out.1.fr.size hgr.size
  have HB4:=Lib.hid (show Below w.heap.size w (W3.setCells B 3 [.int .u64 s.r.1,.int .u64 s.r.2.1,.int .u64 s.r.2.2,.int .u64 s.s.1,.int .u64 s.s.2.1,.int .u64 s.s.2.2,.int .u64 s.u.1,.int .u64 s.u.2.1,.int .u64 s.u.2.2]).drew from HB3.out.grown hgr HB3.out.size fun q e=>by cases e;exact Nat.le_of_lt hBw2)
  clear hgr hC4 h4 hw4 H3 HB3 b0 b1 b2 b3 b4 b5 b6 b7 b8 b9 b10 b11 b12 b13 c0 c1 c2 c3 c4 c5 c6 c7 c8 c9 c10 c11 c12 c13 c14 f0 f1 f2 f3 f4 f5 f6 f7 f8 f9 f10 f11 f12 f13 f14
  change Exit.then _ _ Exit.normal _ (W3.setCells B 3 [.int .u64 s.r.1,.int .u64 s.r.2.1,.int .u64 s.r.2.2,.int .u64 s.s.1,.int .u64 s.s.2.1,.int .u64 s.s.2.2,.int .u64 s.u.1,.int .u64 s.u.2.1,.int .u64 s.u.2.2]).drew
  generalize (W3.setCells B 3 [.int .u64 s.r.1,.int .u64 s.r.2.1,.int .u64 s.r.2.2,.int .u64 s.s.1,.int .u64 s.s.2.1,.int .u64 s.s.2.2,.int .u64 s.u.1,.int .u64 s.u.2.1,.int .u64 s.u.2.2]).drew=W4 at H4 HB4 ⊢
  have oc:=HX.out.inv.ok s.id c HC.out
  have hwf:WfSp (withC c.1 s):=⟨oc.wf.1,HW.out.2⟩
  have hmay:=fun W=>spmay_any (withC c.1 s) W hwf
  unfold MayW spV spC at hmay
  have hmsd:∀ x:Sp,x=withC c.1 s→mayS x=mayS (withC c.1 s):=fun x h=>by rw [h]
  obtain⟨ms,hms⟩:∃ b,mayS (withC c.1 s)=b:=⟨_,rfl⟩
  rw [hms] at hmay
  have HMS:=Lib.hid hms
  clear oc hwf hmsd hms
  unfold withC at hmay
  dsimp only at hmay
  have c0:=H4.out.2.cell 0;have c1:=H4.out.2.cell 1;have c2:=H4.out.2.cell 2;have c3:=H4.out.2.cell 3;have c4:=H4.out.2.cell 4;have c5:=H4.out.2.cell 5;have c6:=H4.out.2.cell 6;have c7:=H4.out.2.cell 7;have c8:=H4.out.2.cell 8;have c9:=H4.out.2.cell 9;have c10:=H4.out.2.cell 10;have c11:=H4.out.2.cell 11;have c12:=H4.out.2.cell 12;have c13:=H4.out.2.cell 13;have c14:=H4.out.2.cell 14
  simp only [lTA,lCZ,lCS] at c0 c1 c2 c3 c4 c5 c6 c7 c8 c9 c10 c11 c12 c13 c14
  go_wp2_with fail
  refine (hmay _).mono ?_
  clear hmay c0 c1 c2 c3 c4 c5 c6 c7 c8 c9 c10 c11 c12 c13 c14
  rintro e W5 ⟨er,rfl,her,hb5⟩
  have H5:=Lib.hid (And.intro (H4.out.1.later hb5) (H4.out.2.below hb5 H4.out.2.lt))
  have HB5:=Lib.hid (HB4.out.trans (hb5.mono HB4.out.size))
  clear hb5 H4 HB4
  cases ms with
  | false =>
   have hne:(er != 0)=true:=by simpa using her
   have HR:=Lib.hid (show changeM M s=(130,M) by unfold changeM;rw [HC.out];dsimp only;rw [if_pos HMS.out])
   clear her
   go_wp2_with fail
   go_ret
   exact ActW.same HX.out HB5.out rfl HR.out
  | true =>
   obtain rfl:er=0:=by simpa using her
   have HR:=Lib.hid (show changeM M s=(0,putM M s.id (withC c.1 s,c.2)) by unfold changeM;rw [HC.out];dsimp only;rw [if_neg (by rw [HMS.out];simp)])
   clear her
   go_upto_region 9 with fail
   have l1:=H5.out.1.tree.blk.lt;have l2:=H5.out.1.box.lt;have l3:=H5.out.2.lt
   have o0:=fun e=>(over_cell (w:=W5) (e:=e) (o:=0) l1).trans (H5.out.1.tree.blk.cell 0)
   have b0:=fun e=>(over_cell (w:=W5) (e:=e) (o:=0) l2).trans (H5.out.1.box.cell 0)
   have q0:=fun e=>(over_cell (w:=W5) (e:=e) (o:=0) l3).trans (H5.out.2.cell 0);have q1:=fun e=>(over_cell (w:=W5) (e:=e) (o:=1) l3).trans (H5.out.2.cell 1);have q2:=fun e=>(over_cell (w:=W5) (e:=e) (o:=2) l3).trans (H5.out.2.cell 2);have q3:=fun e=>(over_cell (w:=W5) (e:=e) (o:=3) l3).trans (H5.out.2.cell 3);have q4:=fun e=>(over_cell (w:=W5) (e:=e) (o:=4) l3).trans (H5.out.2.cell 4);have q5:=fun e=>(over_cell (w:=W5) (e:=e) (o:=5) l3).trans (H5.out.2.cell 5);have q6:=fun e=>(over_cell (w:=W5) (e:=e) (o:=6) l3).trans (H5.out.2.cell 6);have q7:=fun e=>(over_cell (w:=W5) (e:=e) (o:=7) l3).trans (H5.out.2.cell 7);have q8:=fun e=>(over_cell (w:=W5) (e:=e) (o:=8) l3).trans (H5.out.2.cell 8);have q9:=fun e=>(over_cell (w:=W5) (e:=e) (o:=9) l3).trans (H5.out.2.cell 9);have q10:=fun e=>(over_cell (w:=W5) (e:=e) (o:=10) l3).trans (H5.out.2.cell 10);have q11:=fun e=>(over_cell (w:=W5) (e:=e) (o:=11) l3).trans (H5.out.2.cell 11);have q12:=fun e=>(over_cell (w:=W5) (e:=e) (o:=12) l3).trans (H5.out.2.cell 12);have q13:=fun e=>(over_cell (w:=W5) (e:=e) (o:=13) l3).trans (H5.out.2.cell 13);have q14:=fun e=>(over_cell (w:=W5) (e:=e) (o:=14) l3).trans (H5.out.2.cell 14)
   simp only [lTA,lCZ,lCS] at q0 q1 q2 q3 q4 q5 q6 q7 q8 q9 q10 q11 q12 q13 q14
   simp only [lTA,lCZ,lCS] at o0 b0
   have lk:=fun e=>((HX.out.later HB5.out).later (over_below W5 e)).look1 hid
   rw [HC.out] at lk
   unfold clV clC at lk
   dsimp only [Option.getD] at lk
   obtain⟨bn,hbn,hbf⟩:=run_neC c.1.id c.1.pa c.1.lf c.1.pk c.1.by_ c.2 (s.r,s.s,s.u) (c.1.r,c.1.s,c.1.u)
   dsimp only at hbn
   have HBF:=Lib.hid hbf
   clear hbf
   refine wp_region_over (by kernel_rfl) (by kernel_rfl) ?_
   repeat (first | go_big_quiet_skip | (go_big_quiet_want;go_big_quiet_op;go_big_quiet_on))
   refine wpQuiet_nil ?_
   rintro W6 ⟨e6,he6⟩
   have hb6:=over_below W5 e6
   rw [← he6] at hb6
   clear he6 o0 b0 q0 q1 q2 q3 q4 q5 q6 q7 q8 q9 q10 q11 q12 q13 q14 l1 l2 l3 lk hbn
   have H6:=Lib.hid (And.intro (H5.out.1.later hb6) (H5.out.2.below hb6 H5.out.2.lt))
   have HB6:=Lib.hid (HB5.out.trans (hb6.mono HB5.out.size))
   clear hb6 H5 HB5
   cases bn with
   | false =>
    have he:=HBF.out rfl
    simp only [Prod.mk.injEq] at he
    have hcc:withC c.1 s=c.1:=by
     obtain⟨⟨x1,x2,x3,x4,x5,x6,x7,x8⟩,x9⟩:=c
     unfold withC
     dsimp only at he ⊢
     rw [he.1,he.2.1,he.2.2]
    have HR2:=Lib.hid (show changeM M s=(0,M) by rw [HR.out,hcc,put_look HX.out.inv.rise HC.out])
    clear he hcc
    go_wp2_with fail
    go_ret
    exact ActW.same HX.out HB6.out rfl HR2.out
   | true =>
    go_upto_region 10 with fail
    have l1:=H6.out.1.tree.blk.lt;have l2:=H6.out.1.box.lt;have l3:=H6.out.2.lt
    have o0:=fun e=>(over_cell (w:=W6) (e:=e) (o:=0) l1).trans (H6.out.1.tree.blk.cell 0)
    have b0:=fun e=>(over_cell (w:=W6) (e:=e) (o:=0) l2).trans (H6.out.1.box.cell 0)
    have q0:=fun e=>(over_cell (w:=W6) (e:=e) (o:=0) l3).trans (H6.out.2.cell 0);have q1:=fun e=>(over_cell (w:=W6) (e:=e) (o:=1) l3).trans (H6.out.2.cell 1);have q2:=fun e=>(over_cell (w:=W6) (e:=e) (o:=2) l3).trans (H6.out.2.cell 2);have q3:=fun e=>(over_cell (w:=W6) (e:=e) (o:=3) l3).trans (H6.out.2.cell 3);have q4:=fun e=>(over_cell (w:=W6) (e:=e) (o:=4) l3).trans (H6.out.2.cell 4);have q5:=fun e=>(over_cell (w:=W6) (e:=e) (o:=5) l3).trans (H6.out.2.cell 5);have q6:=fun e=>(over_cell (w:=W6) (e:=e) (o:=6) l3).trans (H6.out.2.cell 6);have q7:=fun e=>(over_cell (w:=W6) (e:=e) (o:=7) l3).trans (H6.out.2.cell 7);have q8:=fun e=>(over_cell (w:=W6) (e:=e) (o:=8) l3).trans (H6.out.2.cell 8);have q9:=fun e=>(over_cell (w:=W6) (e:=e) (o:=9) l3).trans (H6.out.2.cell 9);have q10:=fun e=>(over_cell (w:=W6) (e:=e) (o:=10) l3).trans (H6.out.2.cell 10);have q11:=fun e=>(over_cell (w:=W6) (e:=e) (o:=11) l3).trans (H6.out.2.cell 11);have q12:=fun e=>(over_cell (w:=W6) (e:=e) (o:=12) l3).trans (H6.out.2.cell 12);have q13:=fun e=>(over_cell (w:=W6) (e:=e) (o:=13) l3).trans (H6.out.2.cell 13);have q14:=fun e=>(over_cell (w:=W6) (e:=e) (o:=14) l3).trans (H6.out.2.cell 14)
    simp only [lTA,lCZ,lCS] at q0 q1 q2 q3 q4 q5 q6 q7 q8 q9 q10 q11 q12 q13 q14
    simp only [lTA,lCZ,lCS] at o0 b0
    refine wp_region_over_tail 7 (by kernel_rfl) (by kernel_rfl) ?_
    simp only [List.take_succ_cons,List.take_zero,List.drop_succ_cons,List.drop_zero]
    repeat (first | go_big_quiet_skip | (go_big_quiet_want;go_big_quiet_op;go_big_quiet_on))
    refine wpQuiet_nil ?_
    rintro W7 ⟨e7,he7⟩
    have hb7:=over_below W6 e7
    rw [← he7] at hb7
    clear he7 o0 b0 q0 q1 q2 q3 q4 q5 q6 q7 q8 q9 q10 q11 q12 q13 q14 l1 l2 l3
    have h7:=H6.out.1.later hb7
    obtain⟨W8,hr8,hm8,ht8⟩:=h7.tree.all.store (T:=98) (E:=107) (k:=s.id) Tryz.underlying3 Tryz.underlying98 hid (by rw [mapV_length];have:=HX.out.inv.few;unfold maxLen;omega) (clV (withC c.1 s,c.2))
    rw [put_map] at hm8
    have H8:=Lib.hid (h7.all_turn (.inl rfl) hm8 ht8.grown)
    unfold clV clC withC at hr8
    dsimp only at hr8
    clear h7 hb7 hm8 ht8 H6 HB6
    go_wp2_with fail
    go_ret
    have hinv:=HX.out.inv.change HW.out
    have hk:kids (putM M s.id (withC c.1 s,c.2))=kids M:=by
     funext k
     exact kids_put_same (c:=(withC c.1 s,c.2)) (c0:=c) rfl HX.out.inv.rise HC.out
    refine⟨U,by rw [HR.out];rfl,?_,H8.out.fr,fun b hb=>.inl hb⟩
    rw [HR.out] at hinv ⊢
    have htree:=H8.out.tree
    rw [← hk] at htree
    exact htree.x HX.out.gb HX.out.ab HX.out.ub HX.out.keys hinv
end
section
open Go.RowKit Go.Maps
theorem Went.refl (W:World)(S:Nat→Prop):Went W W S S:=⟨Fr.refl _ _,fun b h=>.inl h⟩
theorem Went.trans {W W1 W2:World} {S S1 S2:Nat→Prop} (h:Went W W1 S S1)(k:Went W1 W2 S1 S2):Went W W2 S S2 :=
 ⟨⟨k.fr.os.trans h.fr.os,k.fr.tape.trans h.fr.tape,k.fr.output.trans h.fr.output,Nat.le_trans h.fr.size k.fr.size,fun b hb hn=>(k.fr.block b (Nat.lt_of_lt_of_le hb h.fr.size) fun h1=>(h.own b h1).elim hn fun h2=>by omega).trans (h.fr.block b hb hn)⟩,
  fun b hb=>(k.own b hb).elim (h.own b) fun h2=>.inr (Nat.le_trans h.fr.size h2)⟩
def Sx (w0:World)(A:Nat→Prop)(W:World)(P:Ob):Prop:=∃ S,P W S∧Went w0 W A S
section
variable {w0 W W' : World} {A : Nat → Prop} {P P1 P2 P3 Q R : Ob} {φ : Ending → Prop} {f : FuncId} {args : Array Value} {prog : Program}
theorem Sx.start (h:P W A):Sx W A W P:=⟨A,h,Went.refl _ _⟩
theorem Sx.done (h:Sx w0 A W Q):∃ A',Q W A'∧Went w0 W A A':=h
theorem Sx.later (hP:Good P)(h:Sx w0 A W P)(hb:Below W.heap.size W W'):Sx w0 A W' P:=by
 obtain⟨S,hp,hw⟩:=h
 exact⟨S,hP.kept hp hb.size fun b hb2=>hb.block b (hP.lt hp b hb2),hw.trans ⟨Fr.of_below hb,fun b h=>.inl h⟩⟩
theorem Sx.weak (h:Sx w0 A W P)(hw:∀ {S},P W S→Q W S):Sx w0 A W Q:=by
 obtain⟨S,hp,h⟩:=h
 exact⟨S,hw hp,h⟩
theorem Sx.swap (h:Sx w0 A W (Star P (Star Q R))):Sx w0 A W (Star Q (Star P R)):=h.weak Star.swap
theorem Star.under {S:Nat→Prop} (h:Star P Q W S)(hw:∀ {B},Q W B→R W B):Star P R W S:=by
 obtain⟨A,B,hS,hd,hp,hq⟩:=h
 exact⟨A,B,hS,hd,hp,hw hq⟩
theorem Star.over {S:Nat→Prop} (h:Star P Q W S)(hw:∀ {B},P W B→R W B):Star R Q W S:=by
 obtain⟨A,B,hS,hd,hp,hq⟩:=h
 exact⟨A,B,hS,hd,hw hp,hq⟩
theorem Sx.swap2 (h:Sx w0 A W (Star P1 (Star P (Star Q R)))):Sx w0 A W (Star P1 (Star Q (Star P R))):=h.weak fun h=>h.under Star.swap
theorem Sx.swap3 (h:Sx w0 A W (Star P1 (Star P2 (Star P (Star Q R))))):Sx w0 A W (Star P1 (Star P2 (Star Q (Star P R)))):=h.weak fun h=>h.under fun h=>h.under Star.swap
theorem Sx.first (h:Sx w0 A W (Star P Q)):∃ S,P W S:=by
 obtain⟨_,⟨A,B,_,_,hp,_⟩,_⟩:=h
 exact⟨A,hp⟩
theorem Sx.rest (h:Sx w0 A W (Star P Q)):Sx w0 A W Q:=by
 obtain⟨S,⟨A,B,hS,_,_,hq⟩,hw⟩:=h
 exact⟨B,hq,hw.fr,fun b hb=>hw.own b ((hS b).2 (.inr hb))⟩
theorem Sx.act (hP:Good P)(hR:Good R)(h:Sx w0 A W (Star P R))(ha:Acts φ P Q f args prog W):Calls prog f args W fun e W'=>φ e∧Sx w0 A W' (Star Q R):=by
 obtain⟨S,⟨A,B,hS,hd,hp,hr⟩,hw0⟩:=h
 refine (ha A hp).mono fun e W' ⟨h1,A',hq,hw⟩=>⟨h1,?_⟩
 obtain⟨S',hs,hw2⟩:=Star.step hP hR hS hd hp hr hq hw
 exact⟨S',hs,hw0.trans hw2⟩
theorem Sx.act0 (h:Sx w0 A W P)(ha:Acts φ P Q f args prog W):Calls prog f args W fun e W'=>φ e∧Sx w0 A W' Q:=by
 obtain⟨S,hp,hw0⟩:=h
 exact (ha S hp).mono fun e W' ⟨h1,A',hq,hw⟩=>⟨h1,A',hq,hw0.trans hw⟩
theorem Sx.made {S:Nat→Prop} (hP:Good P)(hQ:Good Q)(h:Sx w0 A W P)(hb:Below W.heap.size W W')(hq:Q W' S)(hlo:∀ b,S b→W.heap.size≤b):Sx w0 A W' (Star Q P):=by
 obtain⟨B,hp,hw⟩:=h
 refine⟨fun b=>S b∨B b,⟨S,B,fun b=>Iff.rfl,fun b h1 h2=>?_,hq,hP.kept hp hb.size fun b hb2=>hb.block b (hP.lt hp b hb2)⟩,(hw.trans ⟨Fr.of_below hb,fun b h=>.inl h⟩).fr,fun b hb2=>?_⟩
 ·have:=hlo b h1;have:=hP.lt hp b h2;omega
 ·rcases hb2 with h1 | h1
  ·exact .inr (Nat.le_trans hw.fr.size (hlo b h1))
  ·exact hw.own b h1
theorem Sx.new {Z:Nat→Ob} (hP:Good P)(hZ:∀ q,Good (Z q))(h:Sx w0 A W P) {e:Ending} (hn:NewO W Z e W'):∃ q,e=.returned (.pointer (some ⟨q,0,none⟩))∧Sx w0 A W' (Star (Z q) P):=by
 obtain⟨q,he,hb,S,hq,hlo⟩:=hn
 exact⟨q,he,h.made hP (hZ q) hb hq hlo⟩
theorem Sx.alloc (hR:Good R)(h:Sx w0 A W R)(cs:Array Value)(t:TypeId):Sx w0 A (W.alloc (.cells cs t)) (Star (BoxO W.heap.size t cs) R) :=
 h.made (S:=fun b=>b=W.heap.size) hR (good_box _ t cs) ((Below.refl W.heap.size W).alloc (Nat.le_refl _) _) ⟨Blk.new W t cs,fun b=>Iff.rfl⟩ fun b hb=>by rw [hb];exact Nat.le_refl _
theorem Sx.box {B:Nat} {t:TypeId} {cs:Array Value} (h:Sx w0 A W (Star (BoxO B t cs) R)):Blk W B t cs:=by
 obtain⟨S,h,_⟩:=h.first
 exact h
theorem Sx.set {B i:Nat} {t:TypeId} {cs cs':Array Value} {u:Value} (hR:Good R)(h:Sx w0 A W (Star (BoxO B t cs) R))(he:cs.setIfInBounds i u=cs'):Sx w0 A (W.setCell ⟨B,i,none⟩ u) (Star (BoxO B t cs') R):=by
 obtain⟨S,⟨A1,B1,hS,hd,⟨hp,hA1⟩,hr⟩,hw0⟩:=h
 have hg:W.grownBy (W.setCell ⟨B,i,none⟩ u) (some B):=⟨rfl,rfl,rfl,by simp [World.setCell],fun k hk hne=>Below.heap_setCell W ⟨B,i,none⟩ u k (by show k≠B;rintro rfl;exact hne rfl)⟩
 have hq:BoxO B t cs' (W.setCell ⟨B,i,none⟩ u) A1:=⟨by rw [← he];exact hp.set_ i u,hA1⟩
 obtain⟨S',hs,hw2⟩:=Star.step (good_box B t cs) hR hS hd ⟨hp,hA1⟩ hr hq ⟨Fr.of_grown hg fun b e=>by cases e;exact (hA1 B).2 rfl,fun b h=>.inl h⟩
 exact⟨S',hs,hw0.trans hw2⟩
end
def StarL {α:Type} (f:α→Ob):List α→Ob
 | []=>Emp
 | a :: l=>Star (f a) (StarL f l)
theorem good_starL {α:Type} {f:α→Ob} (hf:∀ a,Good (f a)):∀ l:List α,Good (StarL f l)
 | []=>good_emp
 | a :: l=>(hf a).star (good_starL hf l)
theorem starL_congr {α:Type} {f g:α→Ob} {W:World}:∀ {l:List α} {S:Nat→Prop},(∀ a∈l,∀ S,f a W S→g a W S)→StarL f l W S→StarL g l W S
 | [],S,_,h=>h
 | a :: l,S,h,⟨A,B,hS,hd,hp,hq⟩=>⟨A,B,hS,hd,h a (.head _) A hp,starL_congr (fun b hb=>h b (.tail _ hb)) hq⟩
section
variable {α : Type} {f : Int × α → Ob} {W : World}
theorem del_none {M:List (Int × α)} {k:Int} (h:lookM M k=none):delM M k=M:=by
 unfold delM
 refine List.filter_eq_self.2 fun p hp=>?_
 simpa using look_none.1 h p hp
theorem del_head {r:List (Int × α)} {p:Int × α} (hR:Rising (p :: r)):delM r p.1=r:=by
 refine del_none (look_none.2 fun q hq=>?_)
 have:=(List.pairwise_cons.1 hR).1 q hq
 omega
theorem starL_put {k:Int} {v:α}:∀ {M:List (Int × α)} {S:Nat→Prop},Rising M→(StarL f (putM M k v) W S↔Star (f (k,v)) (StarL f (delM M k)) W S)
 | [],S,_=>Iff.rfl
 | p :: r,S,hR=>by
  have hRr:=(List.pairwise_cons.1 hR).2
  unfold putM
  by_cases h1:k < p.1
  ·rw [if_pos h1]
   have:delM (p :: r) k=p :: r:=del_none (look_none.2 fun q hq=>by
    rcases List.mem_cons.1 hq with rfl | hq
    ·omega
    ·have:=(List.pairwise_cons.1 hR).1 q hq;omega)
   rw [this]
   exact Iff.rfl
  ·rw [if_neg h1]
   by_cases h2:p.1=k
   ·rw [if_pos h2]
    have:delM (p :: r) k=r:=by
     unfold delM
     rw [List.filter_cons_of_neg (by simp [h2])]
     rw [← h2]
     exact del_head hR
    rw [this]
    exact Iff.rfl
   ·rw [if_neg h2]
    have:delM (p :: r) k=p :: delM r k:=by
     unfold delM
     rw [List.filter_cons_of_pos (by simp [h2])]
    rw [this]
    constructor
    ·exact fun h=>Star.swap (h.under fun h=>(starL_put hRr).1 h)
    ·exact fun h=>(Star.swap h).under fun h=>(starL_put hRr).2 h
theorem starL_look {k:Int} {v:α} {M:List (Int × α)} {S:Nat→Prop} (hR:Rising M)(hv:lookM M k=some v):StarL f M W S↔Star (f (k,v)) (StarL f (delM M k)) W S:=by
 rw [← starL_put hR,put_look hR hv]
theorem starL_mem {k:Int} {v:α} {M:List (Int × α)} {S:Nat→Prop} (hR:Rising M)(hv:lookM M k=some v)(h:StarL f M W S):∃ B,f (k,v) W B:=by
 obtain⟨A,B,_,_,hp,_⟩:=(starL_look hR hv).1 h
 exact⟨A,hp⟩
end
end
section
open Go.RowKit Go.Maps
def MapO (mb:Nat)(L:List (Int × Value)):Ob:=fun W S=>MapI Tryz.prog 3 W mb L∧∀ b,S b↔b=mb
theorem good_map (mb:Nat)(L:List (Int × Value)):Good (MapO mb L) :=
 ⟨fun ⟨h,hS⟩ b hb=>by rw [(hS b).1 hb];exact h.lt,fun ⟨h,hS⟩ _ hk=>⟨h.heap (hk mb ((hS mb).2 rfl)),hS⟩⟩
def ptV {α:Type} (ps:Int→Nat)(M:List (Int × α)):List (Int × Value):=M.map fun q=>(q.1,.pointer (some ⟨ps q.1,0,none⟩))
theorem look_pt {α:Type} (ps:Int→Nat)(k:Int):∀ M:List (Int × α),lookM (ptV ps M) k=(lookM M k).map fun _=>.pointer (some ⟨ps k,0,none⟩)
 | []=>rfl
 | p :: r=>by
  have:=look_pt ps k r
  unfold ptV at this ⊢
  rw [List.map_cons]
  unfold lookM
  by_cases e:p.1=k
  ·rw [if_pos e,if_pos e,e];rfl
  ·rw [if_neg e,if_neg e,this]
theorem rising_pt {α:Type} {ps:Int→Nat} {M:List (Int × α)}:Rising (ptV ps M)↔Rising M:=by
 unfold Rising ptV
 rw [List.pairwise_map]
theorem put_pt {α:Type} {ps ps':Int→Nat} {k:Int} {v:α}:∀ {M:List (Int × α)},Rising M→(∀ q∈M,q.1≠k→ps' q.1=ps q.1)→ptV ps' (putM M k v)=putM (ptV ps M) k (.pointer (some ⟨ps' k,0,none⟩))
 | [],_,_=>rfl
 | p :: r,hR,h=>by
  have hr:∀ q∈r,q.1≠k→ps' q.1=ps q.1:=fun q hq=>h q (.tail _ hq)
  have ih:=put_pt (v:=v) (List.pairwise_cons.1 hR).2 hr
  have hgt:=(List.pairwise_cons.1 hR).1
  have hptr:(∀ q∈r,q.1≠k)→ptV ps' r=ptV ps r:=fun hn=>List.map_congr_left fun q hq=>by rw [hr q hq (hn q hq)]
  show ptV ps' (putM (p :: r) k v)=putM ((p.1,.pointer (some ⟨ps p.1,0,none⟩)) :: ptV ps r) k _
  unfold putM
  dsimp only
  by_cases h1:k < p.1
  ·rw [if_pos h1,if_pos h1]
   have h2:=hptr fun q hq=>by have:=hgt q hq;omega
   have h3:=h p (.head _) (by omega)
   show (k,Value.pointer (some ⟨ps' k,0,none⟩)) :: (p.1,.pointer (some ⟨ps' p.1,0,none⟩)) :: ptV ps' r=_
   rw [h2,h3]
  ·rw [if_neg h1,if_neg h1]
   by_cases h2:p.1=k
   ·rw [if_pos h2,if_pos h2]
    have h3:=hptr fun q hq=>by have:=hgt q hq;omega
    show (k,Value.pointer (some ⟨ps' k,0,none⟩)) :: ptV ps' r=_
    rw [h3]
   ·rw [if_neg h2,if_neg h2]
    show (p.1,Value.pointer (some ⟨ps' p.1,0,none⟩)) :: ptV ps' (putM r k v)=_
    rw [ih,h p (.head _) h2]
theorem del_pt {α:Type} {ps:Int→Nat} {k:Int} (M:List (Int × α)):ptV ps (delM M k)=delM (ptV ps M) k:=by
 unfold ptV delM
 rw [List.filter_map]
 rfl
def memB (p:Nat)(m:Mem):Ob:=fun W S=>∃ r,Star (BoxO p 139 #[.int .u64 m.tot,.int .u64 m.v,.pointer (some ⟨r,0,none⟩),.bool m.aw]) (RunO r m.rn) W S
theorem good_mem (p:Nat)(m:Mem):Good (memB p m) :=
 ⟨fun ⟨r,h⟩ b hb=>((good_box _ _ _).star (good_run r m.rn)).lt h b hb,fun ⟨r,h⟩ hs hk=>⟨r,((good_box _ _ _).star (good_run r m.rn)).kept h hs hk⟩⟩
def FamX (f mb:Nat)(ps:Int→Nat)(F:Fam):Ob:=Star (BoxO f 112 #[.map (some mb),.int .u64 F.mark]) (Star (MapO mb (ptV ps F.m)) (StarL (fun q=>memB (ps q.1) q.2) F.m))
theorem good_famX (f mb:Nat)(ps:Int→Nat)(F:Fam):Good (FamX f mb ps F):=(good_box _ _ _).star ((good_map _ _).star (good_starL (fun q=>good_mem _ _) _))
def FamO (f:Nat)(F:Fam):Ob:=fun W S=>∃ mb ps,FamX f mb ps F W S
theorem good_fam (f:Nat)(F:Fam):Good (FamO f F) :=
 ⟨fun ⟨mb,ps,h⟩ b hb=>(good_famX _ _ _ _).lt h b hb,fun ⟨mb,ps,h⟩ hs hk=>⟨mb,ps,(good_famX _ _ _ _).kept h hs hk⟩⟩
section
variable {W : World} {f mb : Nat} {ps : Int → Nat} {F : Fam} {S : Nat → Prop}
theorem FamX.map (h:FamX f mb ps F W S):MapI Tryz.prog 3 W mb (ptV ps F.m):=by
 obtain⟨_,B,_,_,_,C,_,_,_,hm,_⟩:=h
 exact hm.1
theorem FamX.box (h:FamX f mb ps F W S):Blk W f 112 #[.map (some mb),.int .u64 F.mark]:=by
 obtain⟨_,B,_,_,hp,_⟩:=h
 exact hp.1
theorem FamX.rising (h:FamX f mb ps F W S):Rising F.m:=rising_pt.1 (h.map.rising (int_keyed Tryz.underlying3))
theorem FamX.mem (h:FamX f mb ps F W S) {id:Int} {m:Mem} (hm:lookM F.m id=some m):∃ r,Blk W (ps id) 139 #[.int .u64 m.tot,.int .u64 m.v,.pointer (some ⟨r,0,none⟩),.bool m.aw]:=by
 have hr:=h.rising
 obtain⟨_,B,_,_,hp,_,D,_,_,_,hl⟩:=h
 obtain⟨B',r,_,_,_,_,hb,_⟩:=starL_mem hr hm hl
 exact⟨r,hb.1⟩
def mpV (ps:Int→Nat)(F:Fam)(id:Int):Value:=match lookM F.m id with
 | none=>.pointer none
 | some _=>.pointer (some ⟨ps id,0,none⟩)
theorem vat_any (id:Int)(hid:(Lit.int .i64 id).wf=true)(h:FamX f mb ps F W S) :
  Calls Tryz.prog 84 #[.pointer (some ⟨f,0,none⟩),.int .i64 id] W fun e W'=>e=.returned (mpV ps F id)∧W=W':=by
 have hq:=h.map.look (k:=id) (E:=136) (T:=110) (z:=.pointer none) Tryz.underlying3 Tryz.underlying110 (by exact Tryz.zeroValue136 _) hid
 rw [look_pt] at hq
 have hz:((lookM F.m id).map fun _=>Value.pointer (some ⟨ps id,0,none⟩)).getD (.pointer none)=mpV ps F id:=by
  unfold mpV
  cases lookM F.m id <;> rfl
 rw [hz] at hq
 have c0:=h.box.cell 0
 simp only [lTA,lCZ,lCS] at c0
 clear h hz
 go_enter Tryz.func84,Tryz.ntmps84
 go_wp2_with fail
 go_ret
 exact⟨rfl,rfl⟩
def fvF (F:Fam)(id:Int):Int:=match lookM F.m id with
 | none=>0
 | some m=>m.v
def fawF (F:Fam)(id:Int):Bool:=match lookM F.m id with
 | none=>false
 | some m=>m.aw
theorem vv_any (id:Int)(hid:(Lit.int .i64 id).wf=true)(h:FamX f mb ps F W S) :
  Calls Tryz.prog 76 #[.pointer (some ⟨f,0,none⟩),.int .i64 id] W fun e W'=>e=.returned (.int .u64 (fvF F id))∧W=W':=by
 have ha:=vat_any id hid h
 unfold mpV at ha
 unfold fvF
 cases hl:lookM F.m id with
 | none =>
  rw [hl] at ha
  dsimp only at ha ⊢
  clear h
  go_enter Tryz.func76,Tryz.ntmps76
  go_wp2_with (go_at_call 84;refine ha.mono ?_;rintro e w1 ⟨rfl,rfl⟩)
  go_ret
  exact⟨rfl,rfl⟩
 | some m =>
  rw [hl] at ha
  obtain⟨r,hb⟩:=h.mem hl
  have c1:=hb.cell 1
  simp only [lTA,lCZ,lCS] at c1
  dsimp only at ha ⊢
  clear h hb
  go_enter Tryz.func76,Tryz.ntmps76
  go_wp2_with (go_at_call 84;refine ha.mono ?_;rintro e w1 ⟨rfl,rfl⟩)
  go_ret
  exact⟨rfl,rfl⟩
theorem vawake_any (id:Int)(hid:(Lit.int .i64 id).wf=true)(h:FamX f mb ps F W S) :
  Calls Tryz.prog 71 #[.pointer (some ⟨f,0,none⟩),.int .i64 id] W fun e W'=>e=.returned (.bool (fawF F id))∧W=W':=by
 have ha:=vat_any id hid h
 unfold mpV at ha
 unfold fawF
 cases hl:lookM F.m id with
 | none =>
  rw [hl] at ha
  dsimp only at ha ⊢
  clear h
  go_enter Tryz.func71,Tryz.ntmps71
  go_wp2_with (go_at_call 84;refine ha.mono ?_;rintro e w1 ⟨rfl,rfl⟩)
  go_ret
  exact⟨rfl,rfl⟩
 | some m =>
  rw [hl] at ha
  obtain⟨r,hb⟩:=h.mem hl
  have c3:=hb.cell 3
  simp only [lTA,lCZ,lCS] at c3
  dsimp only at ha ⊢
  clear h hb
  go_enter Tryz.func71,Tryz.ntmps71
  go_wp2_with (go_at_call 84;refine ha.mono ?_;rintro e w1 ⟨rfl,rfl⟩)
  go_ret
  exact⟨rfl,rfl⟩
end
end
section
open Go.RowKit Go.Maps
def famC (mb:Nat)(mark:Int):Array Value:=#[.map (some mb),.int .u64 mark]
def memC (m:Mem)(r:Nat):Array Value:=#[.int .u64 m.tot,.int .u64 m.v,.pointer (some ⟨r,0,none⟩),.bool m.aw]
def RestF (mb:Nat)(ps:Int→Nat)(F:Fam)(id:Int):Ob:=Star (MapO mb (ptV ps F.m)) (StarL (fun q=>memB (ps q.1) q.2) (delM F.m id))
theorem good_restF (mb:Nat)(ps:Int→Nat)(F:Fam)(id:Int):Good (RestF mb ps F id):=(good_map _ _).star (good_starL (fun q=>good_mem _ _) _)
def FocX (f mb:Nat)(ps:Int→Nat)(id:Int)(r:Nat)(cs:Array Value)(x:Rn)(mark:Int)(F:Fam):Ob:=Star (BoxO (ps id) 139 cs) (Star (RunO r x) (Star (BoxO f 112 (famC mb mark)) (RestF mb ps F id)))
section
variable {w0 W : World} {A : Nat → Prop} {f mb r : Nat} {ps : Int → Nat} {F : Fam} {id mark : Int} {m m' : Mem} {S : Nat → Prop} {cs : Array Value} {x : Rn}
theorem good_foc2:Good (Star (BoxO f 112 (famC mb mark)) (RestF mb ps F id)):=(good_box _ _ _).star (good_restF _ _ _ _)
theorem good_foc1:Good (Star (RunO r x) (Star (BoxO f 112 (famC mb mark)) (RestF mb ps F id))):=(good_run _ _).star good_foc2
theorem good_foc:Good (FocX f mb ps id r cs x mark F):=(good_box _ _ _).star good_foc1
theorem Star.assoc {P Q R:Ob} {W:World} {S:Nat→Prop} (h:Star (Star P Q) R W S):Star P (Star Q R) W S:=by
 obtain⟨A,B,hS,hd,⟨C,D,hA,hd2,hp,hq⟩,hr⟩:=h
 refine⟨C,fun b=>D b∨B b,fun b=>by rw [hS,hA];exact or_assoc,fun b hc=>?_,hp,D,B,fun b=>Iff.rfl,fun b hdd=>hd b ((hA b).2 (.inr hdd)),hq,hr⟩
 rintro (h | h)
 ·exact hd2 b hc h
 ·exact hd b ((hA b).2 (.inl hc)) h
theorem Star.unassoc {P Q R:Ob} {W:World} {S:Nat→Prop} (h:Star P (Star Q R) W S):Star (Star P Q) R W S:=by
 obtain⟨C,E,hS,hd,hp,D,B,hE,hd2,hq,hr⟩:=h
 refine⟨fun b=>C b∨D b,B,fun b=>by rw [hS,hE];exact or_assoc.symm,fun b hc hb=>?_,⟨C,D,fun b=>Iff.rfl,fun b hc hdd=>hd b hc ((hE b).2 (.inl hdd)),hp,hq⟩,hr⟩
 rcases hc with hc | hc
 ·exact hd b hc ((hE b).2 (.inr hb))
 ·exact hd2 b hc hb
theorem Sx.focus (h:Sx w0 A W (FamX f mb ps F))(hm:lookM F.m id=some m):∃ r,Sx w0 A W (FocX f mb ps id r (memC m r) m.rn F.mark F):=by
 obtain⟨S,hf,hw⟩:=h
 have hR:=hf.rising
 have h1:Star (BoxO f 112 (famC mb F.mark)) (Star (MapO mb (ptV ps F.m)) (Star (memB (ps id) m) (StarL (fun q=>memB (ps q.1) q.2) (delM F.m id)))) W S :=
  hf.under fun h=>h.under fun h=>(starL_look hR hm).1 h
 have h2:Star (memB (ps id) m) (Star (BoxO f 112 (famC mb F.mark)) (RestF mb ps F id)) W S:=Star.swap (h1.under Star.swap)
 obtain⟨A1,B,hS,hd,⟨r,hp⟩,hq⟩:=h2
 exact⟨r,S,Star.assoc ⟨A1,B,hS,hd,hp,hq⟩,hw⟩
theorem Sx.unfocus (h:Sx w0 A W (FocX f mb ps id r (memC m' r) m'.rn mark F))(hm:lookM F.m id=some m):Sx w0 A W (FamO f ⟨putM F.m id m',mark⟩):=by
 refine h.weak fun {S} h=>?_
 have hR:Rising F.m:=by
  obtain⟨_,_,_,_,_,_,_,_,_,_,_,_,_,_,_,_,_,_,_,hmm,_⟩:=h
  exact rising_pt.1 (hmm.1.rising (int_keyed Tryz.underlying3))
 obtain⟨A1,B,hS,hd,hp,hq⟩:=Star.unassoc h
 have h2:Star (memB (ps id) m') (Star (BoxO f 112 (famC mb mark)) (RestF mb ps F id)) W S:=⟨A1,B,hS,hd,⟨r,hp⟩,hq⟩
 have h1:Star (BoxO f 112 (famC mb mark)) (Star (MapO mb (ptV ps F.m)) (Star (memB (ps id) m') (StarL (fun q=>memB (ps q.1) q.2) (delM F.m id)))) W S:=(Star.swap h2).under Star.swap
 refine⟨mb,ps,h1.under fun h=>(h.under fun h=>(starL_put hR).2 h).over fun h=>?_⟩
 have:ptV ps (putM F.m id m')=ptV ps F.m:=by
  rw [put_pt (ps:=ps) hR fun _ _ _=>rfl]
  exact put_look (rising_pt.2 hR) (by rw [look_pt,hm];rfl)
 rw [this]
 exact h
end
theorem fo_sleep {W:World} {f:Nat} {F:Fam} (id:Int)(hid:(Lit.int .i64 id).wf=true) :
  Acts (fun e=>e=.returned (.tuple #[])) (FamO f F) (FamO f (sleepF id F)) 59 #[.pointer (some ⟨f,0,none⟩),.int .i64 id] Tryz.prog W:=fun A ⟨mb,ps,h⟩=>by
 have ha:=vat_any id hid h
 unfold mpV at ha
 unfold sleepF
 cases hl:lookM F.m id with
 | none =>
  rw [hl] at ha
  dsimp only at ha ⊢
  have H:=Lib.hid h
  clear h
  go_enter Tryz.func59,Tryz.ntmps59
  go_wp2_with (go_at_call 84;refine ha.mono ?_;rintro e w1 ⟨rfl,rfl⟩)
  go_returns
  exact⟨rfl,A,⟨mb,ps,H.out⟩,Went.refl _ _⟩
 | some m =>
  rw [hl] at ha
  obtain⟨r,hs⟩:=(Sx.start (P:=FamX f mb ps F) h).focus hl
  have f3:=hs.box.frozen 3
  have c3:=hs.box.cell 3
  unfold memC at c3
  simp only [lTA,lCZ,lCS] at c3
  dsimp only at ha ⊢
  have H:=Lib.hid hs
  have HL:=Lib.hid hl
  clear h hs hl
  go_enter Tryz.func59,Tryz.ntmps59
  go_wp2_with (go_at_call 84;refine ha.mono ?_;rintro e w1 ⟨rfl,rfl⟩)
  go_returns
  exact⟨rfl,(Sx.unfocus (m':={ m with aw:=false }) (H.out.set good_foc1 rfl) HL.out).done⟩
end
section
open Go.RowKit Go.Maps Go.Shelf
attribute [local go_sem] Oper.semAt_some
def KpU (n0:Nat)(A B:World):Prop:=Below n0 A B∧KeepsWalks A B
abbrev AwX (M:List (Int × Mem)):={x:Int // ∃ m,lookM M x=some m∧m.aw=true}
abbrev encUp {M:List (Int × Mem)} (ps:Int→Nat)(x:AwX M):Array Value:=#[.int .i64 x.1,.pointer (some ⟨ps x.1,0,none⟩)]
def Awk (M:List (Int × Mem))(ss:List Int):Prop:=ss.Nodup∧∀ x,x∈ss↔∃ m,lookM M x=some m∧m.aw=true
def CameA (M:List (Int × Mem))(left:Lit→Bool)(ss:List Int):Prop:=ss.Nodup∧∀ x,x∈ss↔((∃ m,lookM M x=some m∧m.aw=true)∧left (.int .i64 x)=false)
theorem CameA.start {M:List (Int × Mem)} {ps:Int→Nat}:CameA M (Maps.has (toD (ptV ps M))) []:=⟨List.nodup_nil,fun x=>by
 rw [toD_has,look_pt]
 constructor
 ·intro h;cases h
 ·rintro ⟨⟨m,hm,_⟩,h⟩
  rw [hm] at h;cases h⟩
theorem CameA.step {M:List (Int × Mem)} {left:Lit→Bool} {ss:List Int} (h:CameA M left ss) {x:Int} {m:Mem} (hlk:left (.int .i64 x)=true)(hm:lookM M x=some m) :
  CameA M (fun z=>left z && !z.sameKey (.int .i64 x)) (if m.aw=true then ss ++ [x] else ss):=by
 have hnew:x ∉ ss:=fun hx=>by have:=((h.2 x).1 hx).2;rw [hlk] at this;cases this
 by_cases ha:m.aw=true
 ·rw [if_pos ha]
  refine⟨List.nodup_append.2 ⟨h.1,by simp,fun a ha b hb=>by simp at hb;subst hb;exact fun e=>hnew (e ▸ ha)⟩,fun y=>?_⟩
  by_cases hy:y=x
  ·subst hy;simp [hm,ha,Lit.sameKey]
  ·simp [h.2 y,hy,Lit.sameKey]
 ·rw [if_neg ha]
  refine⟨h.1,fun y=>?_⟩
  by_cases hy:y=x
  ·subst hy;simp [hm,ha,hnew]
  ·simp [h.2 y,hy,Lit.sameKey]
theorem CameA.done {M:List (Int × Mem)} {left:Lit→Bool} {ss:List Int} (h:CameA M left ss)(hl:∀ kl,left kl=false):Awk M ss:=⟨h.1,fun x=>by rw [h.2 x,hl];simp⟩
def MemsR (w:World)(n0:Nat)(ps:Int→Nat)(M:List (Int × Mem)):Prop:=∀ id m,lookM M id=some m→∃ r,Blk w (ps id) 139 (memC m r)∧ps id < n0
theorem MemsR.below {w w':World} {n0:Nat} {ps:Int→Nat} {M:List (Int × Mem)} (h:MemsR w n0 ps M)(hb:Below n0 w w'):MemsR w' n0 ps M:=fun id m hm=>by
 obtain⟨r,hB,hlt⟩:=h id m hm
 exact⟨r,hB.below hb hlt,hlt⟩
theorem up_stops (n n0 B f mb:Nat)(mark:Value)(ps:Int→Nat)(M:List (Int × Mem))(w:World)(hB:Blk w B 59 #[.pointer (some ⟨f,0,none⟩)])(hf:Blk w f 112 #[.map (some mb),mark])(hm:MapI Tryz.prog 3 w mb (ptV ps M))(hc:MemsR w n0 ps M)(hn0:n0≤w.heap.size) :
  SeqStopsK Fence.wide n Tryz.prog 150 #[.pointer (some ⟨B,0,none⟩)] (encUp (M:=M) ps) (KpU n0) (fun ss=>Awk M (ss.map (·.1))) (fun _=>True) M.length w:=fun l J Jx W hW hJ hJx hY h0=>by
 have c0:=(hB.below hW hB.lt).cell 0
 have c1:=(hf.below hW hf.lt).cell 0
 have hm':=hm.heap (hW.block mb hm.lt)
 have hc':=hc.below (hW.mono hn0)
 simp only [lTA,lCZ,lCS] at c0 c1
 have HN:=Lib.hid (Nat.le_trans hn0 hW.size)
 have HC:=Lib.hid hc'
 have HY:=Lib.hid hY
 have HJ:=Lib.hid hJ
 have H0:=Lib.hid h0
 clear hB hf hm hc hW hn0 hY hJ h0 hc' hJx
 unfold MapI at hm'
 have ku:Keyed Tryz.prog 3:=int_keyed Tryz.underlying3
 refine callsIn_of_wp Tryz.func150 rfl trivial ?_ rfl
 simp only [Tryz.ntmps150,List.size_toArray,List.length_cons,List.length_nil,Nat.reduceAdd,Nat.reduceSub,Array.replicate_succ,Array.replicate_zero,List.push_toArray,List.append_toArray,List.nil_append,List.cons_append]
 gi_wp2_with (first
  | (gi_at_range;refine wpListIn_range_own _ rfl _ 110 rfl 3 136 ku Tryz.underlying110 _ mb _ _ rfl hm' ?_;intro w0 hrg0 hg0 hs0)
  | gi_in)
 try go_frame
 gi_loopw [3,4] (fun _ _ wr=>∃ (left:Lit→Bool)(cnt:Nat)(ss:List (AwX M)),wr.ranges Tryz.prog 3 asIs mb W.heap.size (ptV ps M).length (toD (ptV ps M)) left cnt∧ss.length+cnt≤M.length∧CameA M left (ss.map (·.1))∧J ss wr∧Below n0 W wr)
  (fun _ _ wr=>wr.rangeLeft mb W.heap.size)
 case atStart =>
  exact⟨_,_,[],hrg0,by simp [size_toD,ptV],CameA.start,HJ.out [] W w0 none H0.out hg0 (fun r e=>by cases e),⟨hg0.os,hg0.tape,hg0.output,hg0.size,fun k hk=>hg0.block k (Nat.lt_of_lt_of_le hk HN.out) (by simp)⟩⟩
 case round =>
  obtain⟨left,cnt,ss,hrg,hcs,hC,hJs,hBW⟩:=hrel
  have HB:=Lib.hid hBW
  have HX:=Lib.hid (And.intro hcs hC)
  clear hBW hcs hC
  gi_wp2_with (first
   | (gi_at_next;refine wpListIn_next_ranges _ rfl _ rfl 3 ku asIs (Value.int .i64) id (fun key kl hk=>by obtain⟨x,hx,_⟩:=Maps.keyOf_int_inv Tryz.underlying3 hk;exact⟨x,hx⟩) (fun v _ _=>⟨v,rfl⟩) mb W.heap.size _ _ _ _ rfl hrg ?_ ?_)
   | gi_in)
  ·intro hc0 hl0
   gi_wp2
   go_end0
   exact⟨⟨_,rfl⟩,.inl ⟨ss,HX.out.2.done hl0,hJs⟩⟩
  ·intro x c kl yd yp w2 cnt2 hkey hlk hv hat hrg2 hlt hg2 hs2 hen
   obtain⟨x',ex,rfl,hxw⟩:=Maps.keyOf_int_inv Tryz.underlying3 hkey
   obtain rfl:x=x':=by simpa using ex
   obtain⟨m,hm,hcv⟩:∃ m,lookM M x=some m∧c=.pointer (some ⟨ps x,0,none⟩):=by
    have e:yd=.held c:=by
     simp only [asIs,Option.some.injEq] at hv
     exact (congrArg Prod.fst hv).symm
    have h1:=hat (.held (.bool true))
    have h2:=hat (.held (.bool false))
    rw [toD_at,look_pt,e] at h1 h2
    cases hl:lookM M x with
    | none =>
     rw [hl] at h1 h2
     have:Value.bool true=Value.bool false:=by simpa using h1.trans h2.symm
     cases this
    | some m =>
     rw [hl] at h1
     exact⟨m,rfl,by simpa using h1.symm⟩
   subst hcv
   have hJ2:J ss w2:=HJ.out ss wr w2 (some W.heap.size) hJs hg2 (fun r e=>by cases e;exact⟨Nat.le_refl _,hrg.iter_walk⟩)
   have hB2:Below n0 W w2:=HB.out.trans ⟨hg2.os,hg2.tape,hg2.output,hg2.size,fun k hk=>hg2.block k (by have:=HN.out;have:=HB.out.size;omega) (by intro e;cases e;exact absurd HN.out (by omega))⟩
   obtain⟨r,hBl,hplt⟩:=HC.out x m hm
   have o3:=(hBl.below hB2 hplt).cell 3
   unfold memC at o3
   simp only [lTA,lCZ,lCS] at o3
   have HC2:=Lib.hid (HX.out.2.step hlk hm)
   have HB2:=Lib.hid hB2
   have hlt1:ss.length < M.length:=by have:=HX.out.1;omega
   clear hBl hB2
   by_cases ha:m.aw=true
   ·rw [ha] at o3
    rw [if_pos ha] at HC2
    obtain⟨fn,tmps,assign,body,hy,hR⟩:=HY.out ss ⟨x,m,hm,ha⟩ w2 hJ2 hlt1
    dsimp only [encUp] at hy
    clear hs2 hv hat
    gi_wp2
    refine⟨room_wideE,hR.mono ?_⟩
    rintro e W3 (⟨rfl,hJ3,hk3⟩ | ⟨rfl,hJx3⟩)
    ·gi_wp2
     have hrg3:=hrg2.of_walks hk3.2
     go_roundw
     case rel=>exact⟨_,cnt2,ss ++ [⟨x,m,hm,ha⟩],hrg3,by have:=HX.out.1;simp;omega,by rw [List.map_append];exact HC2.out,hJ3,HB2.out.trans hk3.1⟩
     case measure=>rw [hrg3.left_eq,hrg.left_eq];exact hlt
    ·gi_wp2
     refine bodyPost_ret (results_none rfl _ _ _) rfl ?_
     exact⟨⟨_,rfl⟩,.inr ⟨ss ++ [⟨x,m,hm,ha⟩],trivial,hJx3⟩⟩
   ·rw [Bool.eq_false_iff.2 ha] at o3
    rw [if_neg ha] at HC2
    clear hs2 hm hv hat
    gi_wp2
    refine⟨fun _ hf=>(by cases hf),?_⟩
    gi_wp2
    go_roundw
    case rel=>exact⟨_,cnt2,ss,hrg2,by have:=HX.out.1;omega,HC2.out,hJ2,HB2.out⟩
    case measure=>rw [hrg2.left_eq,hrg.left_eq];exact hlt
end
section
open Go.RowKit Go.Maps
attribute [local go_sem ↓] Go.wp_at_zero Go.wp_at_succ
attribute [local go_sem] quietR quietAtR quietUponR midAt midUpon
theorem meets_any (B1 B2:Nat)(a b v:Int)(w:World)(h1:Blk w B1 28 #[.int .u64 a])(h2:Blk w B2 28 #[.int .u64 b])(hne:¬ B1=B2) :
  Calls Tryz.prog 120 #[.int .u64 v,.pointer (some ⟨B1,0,none⟩),.pointer (some ⟨B2,0,none⟩)] w fun e w'=>e=.returned (.tuple #[])∧w'=((w.setCell ⟨B1,0,none⟩ (.int .u64 (min a v))).setCell ⟨B2,0,none⟩ (.int .u64 (max b v))).drew:=by
 have c1:=h1.cell 0;have c2:=h2.cell 0
 have f1:=h1.frozen 0;have f2:=h2.frozen 0
 simp only [lTA,lCZ,lCS] at c1 c2
 have hne2:¬ B2=B1:=fun e=>hne e.symm
 clear h1 h2
 go_enter Tryz.func120,Tryz.ntmps120
 go_region
 go_returns
 exact⟨rfl,rfl⟩
end
section
open Go.RowKit Go.Maps Go.Shelf
section
attribute [local go_sem] Oper.semAt_some
theorem up_any (f:Nat)(w:World) :
  Calls Tryz.prog 121 #[.pointer (some ⟨f,0,none⟩)] w fun e w'=>e=.returned (.func (.func 150) #[] #[.pointer (some ⟨w.heap.size,0,none⟩)])∧w.alloc (.cells #[.pointer (some ⟨f,0,none⟩)] 59)=w':=by
 go_enter Tryz.func121,Tryz.ntmps121
 go_wp2
 go_ret
 exact⟨rfl,rfl⟩
def loU (F:Fam)(xs:List Int):Int:=xs.foldl (fun a x=>min a (fvF F x)) 9223372036854775808
def hiU (F:Fam)(xs:List Int):Int:=xs.foldl (fun a x=>max a (fvF F x)) 0
def startU (F:Fam)(m:Mem)(xs:List Int):Int:=if hiU F xs < loU F xs then max m.v F.mark else max m.v (loU F xs+(hiU F xs - loU F xs) / 2)
theorem fold_bound (F:Fam)(hv:∀ x m,lookM F.m x=some m→0≤m.v∧m.v≤9223372036854775808):∀ (xs:List Int)(a b:Int),0≤a→a≤9223372036854775808→0≤b→b≤9223372036854775808 →
  (0≤xs.foldl (fun a x=>min a (fvF F x)) a∧xs.foldl (fun a x=>min a (fvF F x)) a≤9223372036854775808)∧(0≤xs.foldl (fun a x=>max a (fvF F x)) b∧xs.foldl (fun a x=>max a (fvF F x)) b≤9223372036854775808)
 | [],a,b,h1,h2,h3,h4=>⟨⟨h1,h2⟩,⟨h3,h4⟩⟩
 | x :: xs,a,b,h1,h2,h3,h4=>by
  have hx:0≤fvF F x∧fvF F x≤9223372036854775808:=by
   unfold fvF
   cases hl:lookM F.m x with
   | none=>exact⟨by decide,by decide⟩
   | some m=>exact hv x m hl
  exact fold_bound F hv xs _ _ (by dsimp only;omega) (by dsimp only;omega) (by dsimp only;omega) (by dsimp only;omega)
def loX (F:Fam)(pre:List (AwX F.m)):Int:=loU F (pre.map (·.1))
def hiX (F:Fam)(pre:List (AwX F.m)):Int:=hiU F (pre.map (·.1))
def StartW (w:World)(F:Fam)(m:Mem)(e:Ending)(w':World):Prop:=∃ xs,Awk F.m xs∧e=.returned (.int .u64 (startU F m xs))∧Below w.heap.size w w'
theorem vstart_any (f mb:Nat)(ps:Int→Nat)(F:Fam)(id:Int)(m:Mem)(w:World)(S:Nat→Prop)(h:FamX f mb ps F w S)(hm:lookM F.m id=some m)(hv:∀ x m,lookM F.m x=some m→0≤m.v∧m.v≤9223372036854775808) :
  Calls Tryz.prog 87 #[.pointer (some ⟨f,0,none⟩),.pointer (some ⟨ps id,0,none⟩)] w (StartW w F m):=by
 have hmr:MemsR w w.heap.size ps F.m:=fun id m hm=>by
  obtain⟨r,hb⟩:=h.mem hm
  exact⟨r,hb,hb.lt⟩
 have hfb:=h.box
 have hmp:=h.map
 clear h
 refine (callsIn_wide (n:=9)).1 ?_
 refine callsIn_of_wp_marks Tryz.func87 rfl trivial ?_ rfl
 simp only [Tryz.ntmps87,List.size_toArray,List.length_cons,List.length_nil,Nat.reduceAdd,Nat.reduceSub,Array.replicate_succ,Array.replicate_zero,List.push_toArray,List.append_toArray,List.nil_append,List.cons_append]
 gi_wp2_with (refine⟨trivial,?_⟩;gi_at_call 121;refine (callsIn_wide.2 (up_any f _)).mono ?_;rintro e w' ⟨rfl,rfl⟩)
 obtain⟨W0,hW0,bL,bH,bF,bU,hB0,hsz⟩:∃ W0,((((w.alloc (.cells #[.int .u64 9223372036854775808] 28)).alloc (.cells #[.int .u64 0] 28)).alloc (.cells #[.func (.func 120) #[] #[.pointer (some ⟨w.heap.size,0,none⟩),.pointer (some ⟨w.heap.size+1,0,none⟩)]] 182)).alloc (.cells #[.pointer (some ⟨f,0,none⟩)] 59))=W0∧Blk W0 w.heap.size 28 #[.int .u64 9223372036854775808]∧Blk W0 (w.heap.size+1) 28 #[.int .u64 0]∧Blk W0 (w.heap.size+1+1) 182 #[.func (.func 120) #[] #[.pointer (some ⟨w.heap.size,0,none⟩),.pointer (some ⟨w.heap.size+1,0,none⟩)]]∧Blk W0 (w.heap.size+1+1+1) 59 #[.pointer (some ⟨f,0,none⟩)]∧Below w.heap.size w W0∧W0.heap.size=w.heap.size+4:=by
  refine⟨_,rfl,?_⟩
  have b1:=Blk.new w 28 #[.int .u64 9223372036854775808]
  have s1:(w.alloc (.cells #[.int .u64 9223372036854775808] 28)).heap.size=w.heap.size+1:=by simp
  have l1:=(Below.refl w.heap.size w).alloc (Nat.le_refl _) (.cells #[.int .u64 9223372036854775808] 28)
  generalize w.alloc (.cells #[.int .u64 9223372036854775808] 28)=V1 at b1 s1 l1 ⊢
  have b2:=Blk.new V1 28 #[.int .u64 0]
  have s2:(V1.alloc (.cells #[.int .u64 0] 28)).heap.size=w.heap.size+1+1:=by simp [s1]
  have l2:=l1.alloc (by omega) (.cells #[.int .u64 0] 28)
  have b1:=b1.alloc (.cells #[.int .u64 0] 28)
  rw [s1] at b2
  generalize V1.alloc (.cells #[.int .u64 0] 28)=V2 at b1 b2 s2 l2 ⊢
  have b3:=Blk.new V2 182 #[.func (.func 120) #[] #[.pointer (some ⟨w.heap.size,0,none⟩),.pointer (some ⟨w.heap.size+1,0,none⟩)]]
  generalize hO:Obj.cells #[.func (.func 120) #[] #[.pointer (some ⟨w.heap.size,0,none⟩),.pointer (some ⟨w.heap.size+1,0,none⟩)]] 182=O at b3 ⊢
  have s3:(V2.alloc O).heap.size=w.heap.size+1+1+1:=by simp [s2]
  have l3:=l2.alloc (by omega) O
  have b1:=b1.alloc O
  have b2:=b2.alloc O
  rw [s2] at b3
  generalize V2.alloc O=V3 at b1 b2 b3 s3 l3 ⊢
  have b4:=Blk.new V3 59 #[.pointer (some ⟨f,0,none⟩)]
  rw [s3] at b4
  exact⟨b1.alloc _,b2.alloc _,b3.alloc _,b4,l3.alloc (by omega) _,by simp [s3]⟩
 try simp only [World.size_alloc]
 rw [hW0]
 clear hW0
 obtain⟨B1,hB1⟩:∃ B1,B1=w.heap.size:=⟨_,rfl⟩
 obtain⟨B2,hB2⟩:∃ B2,B2=w.heap.size+1:=⟨_,rfl⟩
 obtain⟨B3,hB3⟩:∃ B3,B3=w.heap.size+1+1:=⟨_,rfl⟩
 obtain⟨B4,hB4⟩:∃ B4,B4=w.heap.size+1+1+1:=⟨_,rfl⟩
 rw [← hB1] at bL
 rw [← hB2] at bH
 rw [← hB3,← hB2,← hB1] at bF
 rw [← hB4] at bU
 rw [← hB4,← hB3,← hB2,← hB1]
 have n12:¬ B1=B2:=by omega
 have n13:¬ B1=B3:=by omega
 have n23:¬ B2=B3:=by omega
 have HE:=Lib.hid (And.intro hB1 (And.intro hB2 (And.intro hB3 (And.intro hB4 hsz))))
 clear hB1 hB2 hB3 hB4 hsz
 refine wpIn_rangeFunc_ownH rfl (by omega) (gf:=150) (lb:=#[.pointer (some ⟨B4,0,none⟩)]) rfl trivial (enters_of Tryz.func150 (by kernel_rfl) rfl)
  (up_stops _ w.heap.size B4 f mb _ ps F.m W0 bU (hfb.below hB0 hfb.lt) (hmp.heap (hB0.block mb hmp.lt)) (hmr.below hB0) hB0.size) (fun h k=>⟨belowK_t h.1 k.1,walksK_t h.2 k.2⟩) (fun W l o o' h1 h2 h3 h4=>⟨belowK_b (w:=W0) hB0.size W l o o' h1 h2 h3 h4,walksK_b (w:=W0) W l o o' h1 h2 h3 h4⟩) (Below.refl _ _) (fun _=>rfl)
  (fun (pre:List (AwX F.m)) W=>(Blk W B1 28 #[.int .u64 (loX F pre)]∧Blk W B2 28 #[.int .u64 (hiX F pre)]∧Blk W B3 182 #[.func (.func 120) #[] #[.pointer (some ⟨B1,0,none⟩),.pointer (some ⟨B2,0,none⟩)]])∧Below w.heap.size w W)
  (fun c pre W=>False)
  (OwnFrom.and (fun s X Y row hs hg hr=>⟨blk_own (β:=Unit) _ _ _ _ () X Y row hs.1 hg hr,blk_own (β:=Unit) _ _ _ _ () X Y row hs.2.1 hg hr,blk_own (β:=Unit) _ _ _ _ () X Y row hs.2.2 hg hr⟩) (ownFrom_below (Nat.le_refl _) hB0.size))
  (fun c s X Y row hs hg hr=>hs)
  ⟨⟨bL,bH,bF⟩,hB0⟩
  (fun (x:AwX F.m) a' W=>a'={ tmps:=#[.pointer (some ⟨f,0,none⟩),.pointer (some ⟨ps id,0,none⟩),undef,undef,.int .u64 0,.pointer (some ⟨B1,0,none⟩),.pointer (some ⟨B2,0,none⟩),.pointer (some ⟨B3,0,none⟩),undef,.pointer (some ⟨ps x.1,0,none⟩),.func (.func 120) #[] #[.pointer (some ⟨B1,0,none⟩),.pointer (some ⟨B2,0,none⟩)],.pointer (some ⟨f,0,none⟩),.func (.func 150) #[] #[.pointer (some ⟨B4,0,none⟩)],.int .i64 x.1,.pointer (some ⟨ps x.1,0,none⟩),undef,undef,undef,undef,undef,undef,undef,undef,undef,undef,undef,undef,undef,undef,undef,undef,undef,undef,undef,undef,undef,undef,undef,undef,undef,undef,undef,undef,undef],defers:=[] })
  (fun x a' _ X Y row hs hg hr=>hs)
  ?assign ?body ?done ?stop
 case assign =>
  rintro l pre x W K hI hK
  dsimp only [encUp]
  gi_wp2
  exact hK _ _ ((KeepsOthers.refl _).from _) ⟨Below.refl _ _,KeepsWalks.refl _⟩ hI rfl
 case body =>
  rintro l pre x a' W hl ⟨r,hr⟩ ⟨⟨b1,b2,b3⟩,hBw⟩ rfl hlt
  dsimp only
  have c3:=b3.cell 0;have hb1:=hBw
  obtain⟨mx,hmx,hax⟩:=x.2
  obtain⟨rx,hbx,hxl⟩:=hmr x.1 mx hmx
  have cx:=(hbx.below hBw hxl).cell 1
  unfold memC at cx
  have ef:fvF F x.1=mx.v:=by unfold fvF;rw [hmx]
  simp only [lTA,lCZ,lCS] at c3 cx
  have HM:=Lib.hid (And.intro b1.drew b2.drew)
  have HB:=Lib.hid (And.intro b1 (And.intro b2 (And.intro b3 hBw)))
  have HF:=Lib.hid (And.intro hmr (And.intro hfb hmp))
  have HV:=Lib.hid hv
  clear b1 b2 b3 hBw hb1 hmr hfb hmp hv hbx bL bH bF bU hB0
  gi_wp2
  gi_region_with (refine⟨trivial,?_⟩;gi_at_call 120;refine (CallsIn.inRound l (callsIn_wide.2 (meets_any B1 B2 _ _ _ _ HM.out.1 HM.out.2 n12))).mono ?_;rintro e w' ⟨rfl,rfl⟩)
  all_goals
   obtain⟨b1,b2,b3,hBw⟩:=HB.out
   have e1:loX F (pre ++ [x])=min (loX F pre) mx.v:=by unfold loX loU;rw [List.map_append,List.foldl_append];show min _ (fvF F x.1)=_;rw [ef]
   have e2:hiX F (pre ++ [x])=max (hiX F pre) mx.v:=by unfold hiX hiU;rw [List.map_append,List.foldl_append];show max _ (fvF F x.1)=_;rw [ef]
   have q1:=((b1.set_ 0 (.int .u64 (min (loX F pre) mx.v))).far (p:=⟨B2,0,none⟩) n12 (.int .u64 (max (hiX F pre) mx.v))).drew.drew
   have q2:=((b2.far (p:=⟨B1,0,none⟩) (fun e=>n12 e.symm) (.int .u64 (min (loX F pre) mx.v))).set_ 0 (.int .u64 (max (hiX F pre) mx.v))).drew.drew
   have q3:=((b3.far (p:=⟨B1,0,none⟩) (fun e=>n13 e.symm) (.int .u64 (min (loX F pre) mx.v))).far (p:=⟨B2,0,none⟩) (fun e=>n23 e.symm) (.int .u64 (max (hiX F pre) mx.v))).drew.drew
   have hlo1:w.heap.size≤B1:=by have:=HE.out.1;omega
   have hlo2:w.heap.size≤B2:=by have:=HE.out.2.1;omega
   have q4:=((((Below.refl w.heap.size W).setCell (p:=⟨B1,0,none⟩) hlo1 (.int .u64 (min (loX F pre) mx.v))).setCell (p:=⟨B2,0,none⟩) hlo2 (.int .u64 (max (hiX F pre) mx.v))).drew).drew
   have q5:=(((KeepsOthers.setCell W ⟨B1,0,none⟩ (.int .u64 (min (loX F pre) mx.v))).trans (KeepsOthers.setCell _ ⟨B2,0,none⟩ (.int .u64 (max (hiX F pre) mx.v)))).trans (KeepsOthers.drew _)).trans (KeepsOthers.drew _)
   have EE:=Lib.hid (And.intro e1 e2)
   have HQ:=Lib.hid (And.intro q1 (And.intro q2 (And.intro q3 (And.intro q4 (And.intro q5 (hBw.trans q4))))))
   clear b1 b2 b3 hBw q1 q2 q3 q4 q5 e1 e2 hlo1 hlo2
   gi_wp2
   exact⟨HQ.out.2.2.2.2.1.from _,⟨HQ.out.2.2.2.1,HQ.out.2.2.2.2.1.walks⟩,⟨by rw [EE.out.1];exact HQ.out.1,by rw [EE.out.2];exact HQ.out.2.1,HQ.out.2.2.1⟩,HQ.out.2.2.2.2.2⟩
 case done =>
  rintro D xs W hD hA ⟨⟨b1,b2,b3⟩,hBw⟩ hK
  obtain⟨rm,hbm,hml⟩:=hmr id m hm
  have cm:=(hbm.below hBw hml).cell 1
  have cf:=(hfb.below hBw hfb.lt).cell 1
  have c1:=b1.cell 0;have c2:=b2.cell 0
  unfold memC at cm
  simp only [lTA,lCZ,lCS] at cm cf c1 c2
  obtain⟨⟨l0,l1⟩,⟨g0,g1⟩⟩:=fold_bound F hv (xs.map (·.1)) 9223372036854775808 0 (by omega) (by omega) (by omega) (by omega)
  have hm0:=hv id m hm
  have hst:startU F m (xs.map (·.1))=if hiX F xs < loX F xs then max m.v F.mark else max m.v (loX F xs+(hiX F xs - loX F xs) / 2):=rfl
  have l0:0≤loX F xs:=l0
  have l1:loX F xs≤9223372036854775808:=l1
  have g0:0≤hiX F xs:=g0
  have g1:hiX F xs≤9223372036854775808:=g1
  have HA:=Lib.hid (show Awk F.m (xs.map (·.1)) from hA)
  have HS:=Lib.hid hst
  have HB:=Lib.hid (And.intro hBw hK)
  have hK':=hK
  clear hbm hml hst hBw b1 b2 b3 hA hmr hfb hmp hv hK bL bH bF bU hB0 hm
  generalize hlo:loX F xs=lo at *
  generalize hhi:hiX F xs=hi at *
  clear hlo hhi
  by_cases hlt:hi < lo
  ·gi_wp2
   gi_region
   gi_wp2
   have hK2:W.drew.heap[D]?=some (.deferred (some [])):=HB.out.2
   refine⟨by simp,.inl ⟨_,_,rfl,run_takeDeferred hK2,?_⟩⟩
   exact⟨_,results_tmp rfl _ _ _,_,HA.out,by rw [HS.out,if_pos hlt];rfl,HB.out.1.drew.trans (belowK_b (w:=w) (Nat.le_refl _) _ D _ _ (by have:=HE.out.2.2.2.2;omega) hK2 rfl rfl)⟩
  ·gi_wp2
   gi_region
   gi_wp2
   have hK2:W.drew.heap[D]?=some (.deferred (some [])):=HB.out.2
   refine⟨by simp,.inl ⟨_,_,rfl,run_takeDeferred hK2,?_⟩⟩
   exact⟨_,results_tmp rfl _ _ _,_,HA.out,by rw [HS.out,if_neg (by omega)];rfl,HB.out.1.drew.trans (belowK_b (w:=w) (Nat.le_refl _) _ D _ _ (by have:=HE.out.2.2.2.2;omega) hK2 rfl rfl)⟩
 case stop =>
  rintro D c pre W _ _ h _
  exact h.elim
end
end
end Go.Proofs.YtmmeopjemkjllaaGreat
