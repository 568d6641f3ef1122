/- Lemmas of the claim. No conditions beyond those that each states. -/
import Derived.Test.YtmmeopjemkjllaaGreatPU38
set_option linter.unusedVariables false
set_option linter.unusedSimpArgs false
set_option maxRecDepth 100000
set_option maxHeartbeats 8000000
namespace Go.Proofs.YtmmeopjemkjllaaGreat
section
open Go.RowKit Go.Maps
attribute [local go_sem ↓] Go.wp_at_zero Go.wp_at_succ
attribute [local go_sem] quietR quietAtR quietUponR midAt midUpon
theorem rf_new (c:Int × Int × Int)(w:World)(h0:0≤c.1)(h1:0≤c.2.1)(h2:0≤c.2.2)(hm:mayB c.1 c.2.1 c.2.2=true) :
  Calls Tryz.prog 80 #[.agg #[.int .u64 c.1,.int .u64 c.2.1,.int .u64 c.2.2]] w (NewO w fun r=>RfO r (rn0 c)) :=
 (refnew_some c.1 c.2.1 c.2.2 w w.heap.size h0 h1 h2 (Nat.le_refl _) hm).mono fun e w' ⟨q,he,hr,hb⟩=>by
  obtain⟨S,h1,h2⟩:=rf_of_ref (x:=rn0 c) hr
  exact⟨q,he,hb,S,h1,h2⟩
theorem posM_no {M:List (Int × Mem)} {id r:Int} (h:PosM M id r)(hn:lookM M id=none):r=-1:=by
 rcases h with ⟨i,m,_,_,h9⟩ | ⟨h9,_⟩
 ·rw [hn] at h9;cases h9
 ·exact h9
theorem step_append_rec {α:Type} {ops:Array Oper} {o:Oper} {a:Act} {w:World} {K:Act→World→Prop} {Q:Exit→Act→World→Prop} {E:Prop} (hgd:o.guard=none)(s x:Operand)(t ty:TypeId)
  (ho:o.op=.call { callee:=.builtin .append,args:=#[s,x],argTypes:=#[t,t] }) (i:TypeInfo) (z:Value) (sz bytes:Nat) (ht:Tryz.prog.underlying t=some (.slice ty)) (hi:Tryz.prog.info? ty=some i) (hz:i.zero=some z) (hsize:i.size=sz) (hby:i.bytes=bytes) (hzs:z.cells.size=sz) (hsz:0 < sz) (hbt:bytes≤1000)
  {f:α→List Value} (hf:∀ a,(f a).length=sz) {L:List α} {e:α} {v:Value} {b:Nat} {cs:Array Value} (hs:a.eval s=v) (hx:a.eval x=.slice (some ⟨b,0,none⟩) 1 1)
  (hown:w.ownsRow 0 ty sz v L.length (recC f L)) (hB:Blk w b ty cs) (hc:cs.toList=f e) (h1:∀ u∈f e,u.oneCell'=true) (hl:L.length≤1000000) {n:Nat} (hn:L.length+1=n)
  (h:∀ v' w',w'.ownsRow 0 ty sz v' (L ++ [e]).length (recC f (L ++ [e]))→w.grownBy w' v.ownBlock→(v'.ownBlock=v.ownBlock∨v'.ownBlock=some w.heap.size)→(∃ a2 c2,v'=.slice a2 n c2)→K (a.put o.dst v') w') :
  if Region.wanted o (yielded ops a.tmps)=true then Oper.wp Tryz.prog o a w K Q else E:=by
 obtain⟨v',w',hr,h2,hg,_,hat⟩:=run_append_own_at (P:=Tryz.prog) w 0 t o.type ty i z sz bytes ht hi hz hsize hby hzs hsz v L.length _ hown ⟨b,0,none⟩ 1 1 (f e) (by rw [hf,Nat.one_mul]) (fun j u hj=>by
  rw [Addr.add_lit,Nat.zero_add,hB.cell j,← Array.getElem?_toList,hc]
  exact hj) h1 (by unfold maxLen;omega) (by have:(L.length+1)*bytes≤1000001*1000:=Nat.mul_le_mul (by omega) hbt;omega) (Nat.zero_le _)
 have h2':w'.ownsRow 0 ty sz v' (L ++ [e]).length (recC f (L ++ [e])):=by
  rw [recC_append,show recC f [e]=f e by simp [recC],List.length_append,List.length_singleton]
  exact h2
 refine step_append_run hgd s x _ ho _ _ _ hs hx hr (h v' w' h2' hg hat ?_)
 subst hn
 rcases h2.2 with ⟨_,e0⟩ | ⟨g,c,cur,e2,_⟩
 ·omega
 ·exact⟨_,_,e2⟩
theorem info_mbr:(Tryz.prog.info? 141).map (fun i=>(i.zero,i.size,i.bytes))=some (some (.agg #[.int .i64 0,.int .u64 0,.int .u64 0,.pointer none,.bool false]),5,40):=by kernel_rfl
theorem own_blk_ne {w:World} {base sz n g:Nat} {ty t:TypeId} {v:Value} {xs:List Value} {cs:Array Value} (hr:w.ownsRow base ty sz v n xs)(h:Blk w g t cs)(ht:t≠ty):some g≠v.ownBlock:=by
 rcases hr.2 with ⟨hv,_⟩ | ⟨b,cp,cur,hv,hb,hblk,_⟩
 ·rw [hv];intro he;cases he
 ·rw [hv]
  intro he
  have:g=b:=by simpa [Value.ownBlock] using he
  exact blk_ne h (show Blk w b _ cur from hblk) ht this
theorem recC_congr {α:Type} {f g:α→List Value}:∀ {L:List α},(∀ a∈L,f a=g a)→recC f L=recC g L
 | [],_=>rfl
 | a :: L,h=>by rw [recC_cons,recC_cons,h a (.head _),recC_congr fun b hb=>h b (.tail _ hb)]
theorem starL_snoc {α:Type} {f:α→Ob} {W:World} {a:α}:∀ {l:List α} {S:Nat→Prop},Star (f a) (StarL f l) W S→StarL f (l ++ [a]) W S
 | [],S,h=>h
 | x :: l,S,h=>by
  show Star (f x) (StarL f (l ++ [a])) W S
  exact (Star.swap h).under fun h2=>starL_snoc h2
theorem put_end {α:Type} {id:Int} {m:α}:∀ {M:List (Int × α)},(∀ q∈M,q.1 < id)→putM M id m=M ++ [(id,m)]
 | [],_=>rfl
 | p :: M,h=>by
  have h1:=h p (.head _)
  unfold putM
  rw [if_neg (by omega),if_neg (by omega),put_end fun q hq=>h q (.tail _ hq)]
  rfl
section
variable {w0 W : World} {A S : Nat → Prop} {f g cap : Nat} {v : Value} {rs : Int → Nat} {F : Fam}
theorem fd_added {wX wn wY w9:World} {id:Int} {p:Nat} {c:Int × Int × Int} {v9:Value} {Sn:Nat→Prop} (h:FamDX f v rs F W A)(hb1:Below W.heap.size W wX)(hbn:Below wX.heap.size wX wn)(hrn:RfO p (rn0 c) wn Sn)(hln:∀ b,Sn b→wX.heap.size≤b)(hb2:Below wn.heap.size wn wY)
  (hnew:∀ q∈F.m,q.1 < id) (hown:w9.ownsRow 0 141 5 v9 (F.m ++ [(id,mem0 c)]).length (recC (mbrC fun j=>if j=id then p else rs j) (F.m ++ [(id,mem0 c)]))) (hg:wY.grownBy w9 v.ownBlock) (hat:v9.ownBlock=v.ownBlock∨v9.ownBlock=some wY.heap.size) :
  Sx W A (w9.setCell ⟨f,0,none⟩ v9) (FamD f (addF id c F)):=by
 have hgr:Good (StarL (fun q:Int × Mem=>RfO (rs q.1) q.2.rn) F.m):=good_starL (fun q=>good_rf _ _) _
 have s1:=((Sx.start (P:=FamDX f v rs F) h).later (good_famDX _ _ _ _) hb1).made (good_famDX _ _ _ _) (good_rf _ _) hbn hrn hln
 have s2:=s1.later ((good_rf _ _).star (good_famDX _ _ _ _)) hb2
 have s3:=(Sx.swap2 s2.swap).swap
 have hne:∀ q∈F.m,(if q.1=id then p else rs q.1)=rs q.1:=fun q hq=>if_neg (by have:=hnew q hq;omega)
 have s3':Sx W A wY (Star (RecO 141 5 (mbrC fun j=>if j=id then p else rs j) v F.m) (Star (BoxO f 74 #[v,.int .u64 F.mark]) (Star (RfO p (rn0 c)) (StarL (fun q:Int × Mem=>RfO (rs q.1) q.2.rn) F.m)))):=s3.weak fun h5=>h5.over fun h6=>by
  refine⟨?_,h6.2⟩
  rw [recC_congr (g:=mbrC rs) fun q hq=>by unfold mbrC;dsimp only;rw [hne q hq]]
  exact h6.1
 have s4:=Sx.turnR (v':=v9) (L':=F.m ++ [(id,mem0 c)]) ((good_box _ _ _).star ((good_rf _ _).star hgr)) s3' hown hg fun b hb=>by
  rcases hat with e | e
  ·exact .inl (e ▸ hb)
  ·rw [e] at hb
   cases hb
   exact .inr (Nat.le_refl _)
 have s5:=Sx.set (B:=f) (i:=0) (u:=v9) (good_rec.star ((good_rf _ _).star hgr)) s4.swap rfl
 refine s5.weak fun h5=>⟨v9,fun j=>if j=id then p else rs j,?_⟩
 unfold FamDX addF
 dsimp only
 rw [put_end hnew]
 refine h5.under fun h6=>h6.under fun h7=>starL_snoc (f:=fun q:Int × Mem=>RfO (if q.1=id then p else rs q.1) q.2.rn) ?_
 have h8:=h7.under fun h8=>starL_congr (g:=fun q:Int × Mem=>RfO (if q.1=id then p else rs q.1) q.2.rn) (fun q hq S hS=>by
  show RfO (if q.1=id then p else rs q.1) q.2.rn _ S
  rw [hne q hq];exact hS) h8
 dsimp only
 rw [if_pos rfl]
 exact h8
theorem alloc_cellD {w:World} {b i:Nat} {u:Option Value} (hb:b < w.heap.size)(h:w.cell? ⟨b,i,none⟩=u)(o:Obj):(w.alloc o).cell? ⟨b,i,none⟩=u:=(((Below.refl w.heap.size w).alloc (Nat.le_refl _) o).cell (p:=⟨b,i,none⟩) hb).trans h
theorem below_via {w2 wX wn:World} (h1:Below w2.heap.size w2 wX)(h:Below wX.heap.size wX wn):Below w2.heap.size w2 wn:=h1.trans (h.mono h1.size)
theorem fdadd_any (id:Int)(c:Int × Int × Int)(h0:0≤c.1)(h1:0≤c.2.1)(h2:0≤c.2.2)(hm:mayB c.1 c.2.1 c.2.2=true)(hnew:∀ q∈F.m,q.1 < id)(hl:F.m.length≤1000) :
  Acts (fun e=>e=.returned (.bool true)) (FamD f F) (FamD f (addF id c F)) 40 #[.pointer (some ⟨f,0,none⟩),.int .i64 id,.agg #[.int .u64 c.1,.int .u64 c.2.1,.int .u64 c.2.2]] Tryz.prog W:=fun A ⟨v,rs,h⟩=>by
 obtain⟨F0,L0,R0⟩:=c
 dsimp only at h0 h1 h2 hm ⊢
 have hb0:=(Below.refl W.heap.size W).alloc (Nat.le_refl _) (.cells #[.int .u64 F0,.int .u64 L0,.int .u64 R0] 30)
 have hB0:=Blk.new W 30 #[.int .u64 F0,.int .u64 L0,.int .u64 R0]
 have hk:∀ W',Below W.heap.size W W'→FamDX f v rs F W' A:=fun W' hb=>(good_famDX _ _ _ _).kept h hb.size fun b hb2=>hb.block b ((good_famDX _ _ _ _).lt h b hb2)
 have hat:=fdat_any id (hk _ hb0) (by omega)
 have hno:lookM F.m id=none:=look_none.2 fun q hq=>by have:=hnew q hq;omega
 obtain⟨_,hr⟩:=h.row
 obtain⟨av,cv,rfl⟩:=hr.slice
 have HK:=Lib.hid (And.intro hk (And.intro h hnew))
 have HB0:=Lib.hid (And.intro hb0 hB0)
 have HM:=Lib.hid (And.intro hm (And.intro h0 (And.intro h1 h2)))
 have hmay:=fun W=>rmay_any F0 L0 R0 W h1
 rw [show mayB F0 L0 R0=true from hm] at hmay
 have HMAY:=Lib.hid hmay
 clear h hk hb0 hB0 hm h0 h1 h2 hmay hr hnew
 go_enter Tryz.func40,Tryz.ntmps40
 go_upto_region 1 with fail
 generalize hW1:W.alloc (.cells #[.int .u64 F0,.int .u64 L0,.int .u64 R0] 30)=W1 at HB0 hat ⊢
 clear hW1
 obtain⟨B,hB⟩:∃ B,B=W.heap.size:=⟨_,rfl⟩
 have HBL:=Lib.hid HB0.out.1
 have HBB:=Lib.hid HB0.out.2
 clear HB0
 rw [← hB] at HBB ⊢
 clear hB
 have q0:=HBB.out.cell 0
 have q1:=HBB.out.cell 1
 have q2:=HBB.out.cell 2
 simp only [lTA,lCZ,lCS] at q0 q1 q2
 go_upto_region 3 with (first
  | (go_at_call 85;refine hat.mono ?_;rintro e w1 ⟨r,rfl,hpos,rfl⟩;obtain rfl:=posM_no hpos hno;clear hat hpos)
  | (go_at_call 39;refine (HMAY.out _).mono ?_;rintro e w2 ⟨rfl,hb2⟩;have HB2:=Lib.hid hb2;clear hb2))
 have hbW2:=HBL.out.trans (HB2.out.mono HBL.out.size)
 have d0:=(HK.out.1 _ hbW2).box.cell 0
 have z0:=(HK.out.1 _ hbW2).box.frozen 0
 have hfl:=(HK.out.1 _ hbW2).box.lt
 simp only [lTA,lCZ,lCS] at d0
 have b2:=HBB.out.below HB2.out HBB.out.lt
 have q0':=b2.cell 0
 have q1':=b2.cell 1
 have q2':=b2.cell 2
 simp only [lTA,lCZ,lCS] at q0' q1' q2'
 have hBl:=b2.lt
 have hown:∀ p w',Below w2.heap.size w2 w'→w'.ownsRow 0 141 5 (.slice av F.m.length cv) F.m.length (recC (mbrC fun j=>if j=id then p else rs j) F.m):=fun p w' hb=>by
  obtain⟨S9,h9⟩:=(HK.out.1 _ (hbW2.trans (hb.mono hbW2.size))).row
  rw [recC_congr (g:=mbrC rs) fun q hq=>by unfold mbrC;dsimp only;rw [if_neg (by have:=HK.out.2.2 q hq;omega)]]
  exact h9.1
 have hfro:∀ w',Below w2.heap.size w2 w'→Blk w' f 74 #[.slice av F.m.length cv,.int .u64 F.mark]:=fun w' hb=>(HK.out.1 _ (hbW2.trans (hb.mono hbW2.size))).box
 have HW2:=Lib.hid (And.intro hbW2 (And.intro hown hfro))
 have hln:F.m.length≤1000000:=by omega
 have HLN:=Lib.hid hln
 obtain⟨i0,hi0,hz0,hz1,hz2⟩:=info_parts info_mbr
 clear hbW2 hown hfro b2 q0 q1 q2 hln
 generalize hn9:F.m.length=n9 at *
 have HN9:=Lib.hid hn9
 clear hn9 hl
 go_region_law (first
  | (go_simp;go_at_call 80;refine (rf_new (F0,L0,R0) _ HM.out.2.1 HM.out.2.2.1 HM.out.2.2.2 HM.out.1).mono ?_;rintro e wn ⟨p,rfl,hbn,Sn,hrn,hln⟩;have HN2:=Lib.hid (below_via (w2:=w2) (by go_grown <;> exact below_drewN (Below.refl _ _) _) hbn);have HN:=Lib.hid (And.intro hbn (And.intro hrn hln));have cn0:=(HN2.out.cell (p:=⟨f,0,none⟩) hfl).trans d0;have cnA:=alloc_cellD (Nat.lt_of_lt_of_le hfl HN2.out.size) cn0;clear hbn hrn hln)
  | (refine step_append_rec rfl _ _ 72 141 rfl i0 _ 5 40 Tryz.underlying72 hi0 hz0 hz1 hz2 rfl (by decide) (by decide) (f:=mbrC fun j=>if j=id then p else rs j) (mbrC_len _) (L:=F.m) (e:=(id,mem0 (F0,L0,R0))) rfl rfl (by rw [HN9.out];exact HW2.out.2.1 p _ (below_via HN2.out (by go_grown <;> exact below_drewN (Below.refl _ _) _))) (Blk.new _ _ _) (by simp [mbrC,mem0]) (by intro u hu;simp [mbrC] at hu;rcases hu with rfl | rfl | rfl | rfl | rfl <;> rfl) (by have:=HLN.out;have:=HN9.out;omega) rfl ?_;intro v9 w9 ho9 hg9 ha9 hs9;have HO9:=Lib.hid (And.intro ho9 (And.intro hg9 ha9));have hB9:=(HW2.out.2.2 _ (below_via HN2.out (by go_grown <;> exact below_drewN (Below.refl _ _) _))).grown hg9 (own_blk_ne (HW2.out.2.1 p _ (below_via HN2.out (by go_grown <;> exact below_drewN (Below.refl _ _) _))) (HW2.out.2.2 _ (below_via HN2.out (by go_grown <;> exact below_drewN (Below.refl _ _) _))) (by decide));have x9:=hB9.cell 0;have y9:=hB9.frozen 0;simp only [lTA,lCZ,lCS] at x9;obtain⟨a9,c9,rfl⟩:=hs9;clear ho9 hg9 ha9 hB9))
 all_goals
  go_wp2_with fail
  go_ret
  refine⟨rfl,((fd_added (wX:=_) HK.out.2.1 (below_via (HBL.out.trans (HB2.out.mono HBL.out.size)) ?_) HN.out.1 HN.out.2.1 HN.out.2.2 ?_ HK.out.2.2 HO9.out.1 HO9.out.2.1 HO9.out.2.2).later (good_famD _ _) ?_).done⟩
  ·first | exact Below.refl _ _ | exact (Below.refl _ _).drew | (go_grown <;> exact below_drewN (Below.refl _ _) _)
  ·go_grown <;> exact below_drewN (Below.refl _ _) _
  ·first | exact Below.refl _ _ | exact (Below.refl _ _).drew | (go_grown <;> exact below_drewN (Below.refl _ _) _)
end
end
section
open Go.RowKit Go.Maps
attribute [local go_sem ↓] Go.wp_at_zero Go.wp_at_succ
attribute [local go_sem] quietR quietAtR quietUponR midAt midUpon
def RLO (q:Nat):Option Rn→Ob
 | none=>fun W S=>(∃ p,Blk W q 125 #[.int .u64 0,.int .u64 0,.int .u64 0,.pointer p])∧∀ b,S b↔b=q
 | some x=>fun W S=>¬ (x.F=0∧x.L=0∧x.R=0)∧∃ p,Star (BoxO q 125 #[.int .u64 x.F,.int .u64 x.L,.int .u64 x.R,.pointer (some ⟨p,0,none⟩)]) (RfO p x) W S
theorem good_rl (q:Nat):∀ o,Good (RLO q o)
 | none=>⟨fun ⟨⟨p,h⟩,hS⟩ b hb=>by rw [(hS b).1 hb];exact h.lt,fun ⟨⟨p,h⟩,hS⟩ _ hk=>⟨⟨p,(hk q ((hS q).2 rfl)).trans h⟩,hS⟩⟩
 | some x=>⟨fun ⟨_,p,h⟩ b hb=>((good_box _ _ _).star (good_rf p x)).lt h b hb,fun ⟨h0,p,h⟩ hs hk=>⟨h0,p,((good_box _ _ _).star (good_rf p x)).kept h hs hk⟩⟩
theorem Sx.commL {w0 W:World} {A:Nat→Prop} {P Q:Ob} (h:Sx w0 A W (Star P Q)):Sx w0 A W (Star Q P):=h.weak Star.comm
section
variable {W : World} {q : Nat} {o : Option Rn} {S : Nat → Prop}
theorem rl_fit (h:RLO q o W S)(y:Int)(hy:U y) :
  Calls Tryz.prog 100 #[.pointer (some ⟨q,0,none⟩),.int .u64 y] W fun e W'=>e=.returned (.int .u64 (owL o y))∧Below W.heap.size W W':=by
 cases o with
 | none=>exact uref_fit (fr:=true) (base:=0) (F:=0) (L:=0) (R:=0) (x:=0) (A:=[]) h.1 y hy
 | some x =>
  obtain⟨h0,p,A,B,hS,hd,hb,hr⟩:=h
  exact uref_fit (fr:=false) (base:=0) ⟨h0,p,hb.1,hr.ref⟩ y hy
theorem rl_wake (now tot:Int)(ht:U now)(hy:U tot)(hfew:∀ x,o=some x→x.A.length < 900000) :
  Acts (fun e=>e=.returned (.tuple #[])) (RLO q o) (RLO q (wakeL o now tot)) 51 #[.pointer (some ⟨q,0,none⟩),.int .u64 now,.int .u64 tot] Tryz.prog W:=fun A hA=>by
 cases o with
 | none =>
  have H:=Lib.hid hA
  obtain⟨p,hB⟩:=hA.1
  have HB:=Lib.hid hB
  clear hA hB
  go_enter Tryz.func51,Tryz.ntmps51
  go_wp2_with (go_at_call 96;refine (rnone_free HB.out).mono ?_;rintro e w0 ⟨rfl,rfl⟩)
  go_returns
  exact⟨rfl,A,H.out,Went.refl _ _⟩
 | some x =>
  obtain⟨h0,p,hs⟩:=hA
  have hB:=(Sx.start hs).box
  have hs0:=(Sx.start hs).commL
  have c3:=hB.cell 3
  simp only [lTA,lCZ,lCS] at c3
  have hw:=fun W=>rf_start (W:=W) (r:=p) (x:=x) now tot ht hy (hfew x rfl)
  have H0:=Lib.hid h0;have HS:=Lib.hid hs0;have HB:=Lib.hid hB;have HW:=Lib.hid hw
  clear h0 hs hs0 hB hw hfew
  go_enter Tryz.func51,Tryz.ntmps51
  go_wp2_with (first
   | (go_at_call 96;refine (rnone_held H0.out HB.out).mono ?_;rintro e w0 ⟨rfl,rfl⟩)
   | (go_at_call 95;refine (HS.out.act (good_rf _ _) (good_box _ _ _) (HW.out _)).mono ?_;rintro e w1 ⟨rfl,hs1⟩;have H1:=Lib.hid hs1;clear hs1))
  go_returns
  obtain⟨A',hq,hw⟩:=H1.out
  exact⟨rfl,A',⟨H0.out,p,Star.comm hq⟩,hw⟩
end
theorem rl_new (u:Cv)(w:World)(hF:0≤u.1)(hL:0≤u.2.1)(hR:0≤u.2.2) :
  Calls Tryz.prog 33 #[.agg #[.int .u64 u.1,.int .u64 u.2.1,.int .u64 u.2.2]] w (NewO w fun l=>RLO l (limN u)):=by
 obtain⟨F,L,R⟩:=u
 dsimp only at hF hL hR ⊢
 obtain⟨fr,hk⟩:=kindU_any F L R
 cases fr with
 | true =>
  have e:limN (F,L,R)=none:=by unfold limN;exact if_pos hk
  rw [e]
  rcases hk with hk | hk
  ·obtain⟨rfl,rfl,rfl⟩:=hk
   exact (rlnew_yes 0 0 0 w w.heap.size hF hL hR (Nat.le_refl _) (by decide)).mono fun e w' ⟨q,he,⟨p,hf,_⟩,hb,hlo⟩=>⟨q,he,hb,fun b=>b=q,⟨⟨_,hf⟩,fun b=>Iff.rfl⟩,fun b h=>by rw [h];exact hlo⟩
  ·exact (rlnew_no F L R w w.heap.size hF hL hR (Nat.le_refl _) hk).mono fun e w' ⟨q,he,⟨p,hf⟩,hb,hlo⟩=>⟨q,he,hb,fun b=>b=q,⟨⟨_,hf⟩,fun b=>Iff.rfl⟩,fun b h=>by rw [h];exact hlo⟩
 | false =>
  have e:limN (F,L,R)=some (rn0 (F,L,R)):=by
   unfold limN
   exact if_neg fun h=>h.elim hk.1 fun h=>by have h2:=hk.2;rw [h] at h2;cases h2
  rw [e]
  refine (rlnew_yes F L R w w.heap.size hF hL hR (Nat.le_refl _) hk.2).mono fun e w' ⟨q,he,⟨p,hf,hr⟩,hb,hlo⟩=>?_
  obtain⟨S,h1,h2⟩:=rf_of_ref (x:=rn0 (F,L,R)) hr
  refine⟨q,he,hb,fun b=>b=q∨S b,⟨hk.1,p,fun b=>b=q,S,fun b=>Iff.rfl,fun b e hb2=>?_,⟨hf,fun b=>Iff.rfl⟩,h1⟩,fun b h=>h.elim (fun e=>by rw [e];exact hlo) (h2 b)⟩
  subst e
  obtain⟨vx,vy,k1,k2,k3,k4,k5,k6,k7⟩:=h1
  rcases (k7 _).1 hb2 with rfl | e | e
  ·exact blk_ne hf k1 (by decide) rfl
  ·exact row_blk k2 hf (by decide) e.symm
  ·exact row_blk k3 hf (by decide) e.symm
end
section
open Go.RowKit Go.Maps
attribute [local go_sem ↓] Go.wp_at_zero Go.wp_at_succ
attribute [local go_sem] quietR quietAtR quietUponR midAt midUpon
structure DC where
 s:Sp
 tot:Int
 q:Nat
 f:Nat
 o:Option Rn
def dcC (e:DC):List Value:=[.int .i64 e.s.id,.int .i64 e.s.pa,.bool e.s.lf,.int .u64 e.s.r.1,.int .u64 e.s.r.2.1,.int .u64 e.s.r.2.2,.int .u64 e.s.s.1,.int .u64 e.s.s.2.1,.int .u64 e.s.s.2.2,.int .u64 e.s.u.1,.int .u64 e.s.u.2.1,.int .u64 e.s.u.2.2,.int .i64 e.s.pk,.int .i64 e.s.by_,.int .u64 e.tot,.pointer (some ⟨e.q,0,none⟩),.pointer (some ⟨e.f,0,none⟩)]
theorem dcC_len (e:DC):(dcC e).length=17:=rfl
abbrev DcR (v:Value)(D:List DC):Ob:=RecO 76 17 dcC v D
structure FlatD (D:List DC)(fl:Nat):Prop where
 zero:∃ e,D[0]?=some e∧e.f=fl∧e.s.lf=false
 id:∀ (i:Nat) e,D[i]?=some e→e.s.id=i∧e.s.pa=0
 lf:∀ (i:Nat) e,D[i]?=some e→i≠0→e.s.lf=true
 few:D.length≤1000
def PdX (k:Nat)(v:Value)(fl:Nat)(D:List DC)(F:Fam):Ob:=Star (BoxO k 79 #[v]) (Star (DcR v D) (Star (FamD fl F) (StarL (fun e:DC=>RLO e.q e.o) D)))
theorem good_lims (D:List DC):Good (StarL (fun e:DC=>RLO e.q e.o) D):=good_starL (fun e=>good_rl _ _) _
theorem good_pdX (k:Nat)(v:Value)(fl:Nat)(D:List DC)(F:Fam):Good (PdX k v fl D F):=(good_box _ _ _).star (good_rec.star ((good_famD _ _).star (good_lims _)))
def posD (D:List DC)(id:Int):Int:=if 0≤id∧id < D.length then id else -1
section
variable {W : World} {k fl : Nat} {v : Value} {D : List DC} {F : Fam} {S : Nat → Prop}
theorem PdX.box (h:PdX k v fl D F W S):Blk W k 79 #[v]:=by
 obtain⟨_,B,_,_,hp,_⟩:=h
 exact hp.1
theorem PdX.row (h:PdX k v fl D F W S):∃ S,DcR v D W S:=by
 obtain⟨_,B,_,_,_,C,_,_,_,hm,_⟩:=h
 exact⟨_,hm⟩
theorem PdX.fam (h:PdX k v fl D F W S):∃ v rs S,FamDX fl v rs F W S:=by
 obtain⟨_,B,_,_,_,C,E,_,_,_,G,H,_,_,⟨v,rs,hf⟩,_⟩:=h
 exact⟨v,rs,_,hf⟩
theorem PdX.lim (h:PdX k v fl D F W S) {i:Nat} {e:DC} (he:D[i]?=some e):∃ S,RLO e.q e.o W S:=by
 obtain⟨_,B,_,_,_,C,E,_,_,_,G,H,_,_,_,hl⟩:=h
 obtain⟨A,B',_,_,hp,_⟩:=(starL_at he).1 hl
 exact⟨A,hp⟩
theorem pdX_over (h:PdX k v fl D F W S)(e:World):PdX k v fl D F (over W e) S :=
 (good_pdX _ _ _ _ _).kept h (over_below W e).size fun b hb=>over_heap W e b ((good_pdX _ _ _ _ _).lt h b hb)
theorem pdX_later {W':World} (h:PdX k v fl D F W S)(hb:Below W.heap.size W W'):PdX k v fl D F W' S :=
 (good_pdX _ _ _ _ _).kept h hb.size fun b hb2=>hb.block b ((good_pdX _ _ _ _ _).lt h b hb2)
theorem PdX.cells (h:PdX k v fl D F W S) {i:Nat} {e:DC} (he:D[i]?=some e):∃ g cap,v=.slice (some ⟨g,0,none⟩) D.length cap∧D.length≤cap∧g < W.heap.size∧(∀ c,c < 17→W.cell? ⟨g,i*17+c,none⟩=(dcC e)[c]?)∧∀ j,W.frozen? ⟨g,j,none⟩=false:=by
 obtain⟨S,hr⟩:=h.row
 obtain⟨g,cap,rfl,hc,hg⟩:=hr.isS he
 exact⟨g,cap,rfl,hc,hg,fun c hc=>hr.cell dcC_len he c hc,fun j=>hr.1.frozenAt j⟩
theorem posD_at {D:List DC} {id:Int} {i:Nat} (hi:i < D.length)(h:(i:Int)=id):posD D id=i:=by
 unfold posD
 rw [if_pos (by omega),h]
theorem pdat_any (id:Int)(h:PdX k v fl D F W S)(hF:FlatD D fl) :
  Calls Tryz.prog 38 #[.pointer (some ⟨k,0,none⟩),.int .i64 id] W fun e w'=>e=.returned (.int .i64 (posD D id))∧W=w':=by
 obtain⟨_,hr⟩:=h.row
 obtain⟨a,cap,rfl⟩:=hr.slice
 have c0:=h.box.cell 0
 simp only [lTA,lCZ,lCS] at c0
 have hl:=hF.few
 have H:=Lib.hid h
 have HF:=Lib.hid hF
 clear h hr hF
 go_enter Tryz.func38,Tryz.ntmps38
 go_wp2_with fail
 go_loopw [5] (fun v5 wr=>∃ i:Nat,v5=.int .i64 i∧i≤D.length∧wr=W∧∀ j:Nat,j < i→(j:Int)≠id) (fun v5 _=>(D.length - Go.RowKit.intOf v5).toNat)
 case atStart=>exact⟨0,rfl,Nat.zero_le _,rfl,fun j hj=>by omega⟩
 case round =>
  obtain⟨i,rfl,hi,hwr,hno⟩:=hrel
  rw [hwr]
  clear hwr
  have HNO:=Lib.hid hno
  clear hno
  by_cases hlt:i < D.length
  ·obtain⟨e,he⟩:∃ e,D[i]?=some e:=⟨_,List.getElem?_eq_getElem hlt⟩
   obtain⟨g,cp,hsl,hcap,hg,hc,_⟩:=H.out.cells he
   obtain⟨rfl,rfl⟩:a=some ⟨g,0,none⟩∧cap=cp:=by cases hsl;exact⟨rfl,rfl⟩
   have k0:W.cell? ⟨g,i*17,none⟩=some (.int .i64 (i:Int)):=by rw [← (HF.out.id i e he).1];exact hc 0 (by decide)
   by_cases hid:(i:Int)=id
   ·have heq:((i:Int) == id)=true:=by simpa using hid
    have HG:=Lib.hid (posD_at hlt hid)
    clear hid he hsl hc
    go_wp2_with fail
    go_ret
    exact⟨by rw [HG.out];rfl,rfl⟩
   ·have heq:((i:Int) == id)=false:=by simpa using hid
    have HID:=Lib.hid hid
    clear hid hsl he hc
    go_wp2_with fail
    go_roundw
    case measure=>(simp [Go.RowKit.intOf];try omega)
    case rel=>exact⟨i+1,by go_num,by omega,(by first | rfl | trivial),fun j hj=>by
     by_cases hji:j=i
     ·subst hji;exact HID.out
     ·exact HNO.out j (by omega)⟩
  ·have hn:posD D id=-1:=by
    unfold posD
    refine if_neg fun h=>?_
    have:=HNO.out id.toNat (by omega)
    omega
   have HG:=Lib.hid hn
   clear hn
   go_wp2_with fail
   go_ret
   exact⟨by rw [HG.out];rfl,rfl⟩
end
end
section
open Go.RowKit Go.Maps
attribute [local go_sem ↓] Go.wp_at_zero Go.wp_at_succ
attribute [local go_sem] quietR quietAtR quietUponR midAt midUpon
section
variable {W : World} {k fl : Nat} {v : Value} {D : List DC} {F : Fam} {S : Nat → Prop}
theorem pdfam_any {i:Nat} (hi:i < D.length)(h:PdX k v fl D F W S)(hF:FlatD D fl) :
  Calls Tryz.prog 49 #[.pointer (some ⟨k,0,none⟩),.int .i64 i] W fun e W'=>e=.returned (.pointer (some ⟨fl,0,none⟩))∧Below W.heap.size W W':=by
 obtain⟨e,he⟩:∃ e,D[i]?=some e:=⟨_,List.getElem?_eq_getElem hi⟩
 obtain⟨e0,he0,hf0,_⟩:=hF.zero
 obtain⟨g,cap,rfl,hcap,hg,hc,_⟩:=h.cells he
 obtain⟨g',cp',hsl,_,_,hc0,_⟩:=h.cells he0
 obtain⟨rfl,rfl⟩:g=g'∧cap=cp':=by cases hsl;exact⟨rfl,rfl⟩
 have d0:=h.box.cell 0
 simp only [lTA,lCZ,lCS] at d0
 have k1:W.cell? ⟨g,i*17+1,none⟩=some (.int .i64 0):=by rw [← (hF.id i e he).2];exact hc 1 (by decide)
 have k16:W.cell? ⟨g,16,none⟩=some (.pointer (some ⟨fl,0,none⟩)):=by rw [← hf0];have:=hc0 16 (by decide);rwa [Nat.zero_mul,Nat.zero_add] at this
 have o0:=fun e=>(over_cell (w:=W) (e:=e) (o:=0) h.box.lt).trans d0
 have o1:=fun e=>(over_cell (w:=W) (e:=e) (o:=i*17+1) hg).trans k1
 have o2:=fun e=>(over_cell (w:=W) (e:=e) (o:=16) hg).trans k16
 have hat:=fun e=>pdat_any 0 (pdX_over h e) hF
 have hl:0 < D.length:=by omega
 rw [show posD D 0=0 by unfold posD;rw [if_pos (by omega)]] at hat
 have HA:=Lib.hid hat
 clear h hF hc hc0 hsl d0 k1 k16 he he0 hat
 go_enter Tryz.func49,Tryz.ntmps49
 go_upto_region 1 with fail
 refine wp_region_over (by kernel_rfl) (by kernel_rfl) ?_
 repeat (first | go_big_quiet_skip | (go_big_quiet_want;go_big_quiet_op;first | go_big_quiet_on | (apply Exists.intro;refine⟨fun e=>?_,?_⟩;(focus (go_at_call 38;with_reducible exact calls_over_same (HA.out e)));go_big_quiet_on)))
 refine wpQuiet_nil ?_
 rintro w3 ⟨e,rfl⟩
 go_wp2_with fail
 go_ret
 exact⟨rfl,over_below _ _⟩
def isD (D:List DC)(id:Int):Bool:=decide (1≤id) && decide (id < (D.length:Int))
theorem posD_is {D:List DC} {id:Int} (h:isD D id=true):posD D id=id∧∃ i:Nat,id=i∧i < D.length∧1≤i:=by
 unfold isD at h
 simp only [Bool.and_eq_true,decide_eq_true_eq] at h
 refine⟨?_,id.toNat,by omega,by omega,by omega⟩
 unfold posD
 rw [if_pos ⟨by omega,h.2⟩]
theorem posD_no {D:List DC} {id:Int} (h:isD D id=false):id < 1∨(1≤id∧posD D id=-1):=by
 unfold isD at h
 by_cases h1:id < 1
 ·exact .inl h1
 ·refine .inr ⟨by omega,?_⟩
  rw [decide_eq_true (by omega),Bool.true_and] at h
  have h2:=of_decide_eq_false h
  unfold posD
  rw [if_neg (by omega)]
theorem pdaw_any (id:Int)(h:PdX k v fl D F W S)(hF:FlatD D fl)(hN:F.m.length≤1000) :
  Calls Tryz.prog 48 #[.pointer (some ⟨k,0,none⟩),.int .i64 id] W fun e W'=>e=.returned (.bool (isD D id && fawF F id))∧Below W.heap.size W W':=by
 have hat:=pdat_any id h hF
 cases hi:isD D id with
 | true =>
  obtain⟨hp,i,rfl,hlt,h1⟩:=posD_is hi
  rw [hp] at hat
  have hfam:=fun W' (hb:Below W.heap.size W W')=>pdfam_any hlt (pdX_later h hb) hF
  obtain⟨vf,rs,Sf,hf⟩:=h.fam
  have haw:=fun W' (hb:Below W.heap.size W W')=>fdaw_any (i:Int) ((good_famDX _ _ _ _).kept hf hb.size fun b hb2=>hb.block b ((good_famDX _ _ _ _).lt hf b hb2)) (by omega)
  have HFM:=Lib.hid hfam
  have HAW:=Lib.hid haw
  have hd1:decide (1≤(i:Int))=true:=decide_eq_true (by omega)
  have hd2:decide (0≤(i:Int))=true:=decide_eq_true (by omega)
  have hni:(1:Int)≤(i:Int):=by omega
  have hni0:(0:Int)≤(i:Int):=by omega
  clear h hF hf hfam haw hp hi
  go_enter Tryz.func48,Tryz.ntmps48
  go_wp2_with (first
   | (go_at_call 38;refine hat.mono ?_;rintro e w1 ⟨rfl,rfl⟩;clear hat)
   | (go_at_call 49;refine (HFM.out _ (Below.refl _ _)).mono ?_;rintro e w2 ⟨rfl,hb2⟩;have HB2:=Lib.hid hb2;clear hb2)
   | (go_at_call 92;refine (HAW.out _ HB2.out).mono ?_;rintro e w3 ⟨rfl,rfl⟩))
  go_ret
  exact⟨by simp,HB2.out⟩
 | false =>
  rcases posD_no hi with h1 | ⟨h1,hp⟩
  ·generalize posD D id=r at hat
   clear h hF hi
   have hd1:decide (1≤id)=false:=decide_eq_false (by omega)
   go_enter Tryz.func48,Tryz.ntmps48
   go_wp2_with (go_at_call 38;refine hat.mono ?_;rintro e w1 ⟨rfl,rfl⟩;clear hat)
   go_ret
   exact⟨by simp,Below.refl _ _⟩
  ·rw [hp] at hat
   clear h hF hi hp
   have hd1:decide (1≤id)=true:=decide_eq_true (by omega)
   go_enter Tryz.func48,Tryz.ntmps48
   go_wp2_with (go_at_call 38;refine hat.mono ?_;rintro e w1 ⟨rfl,rfl⟩;clear hat)
   go_ret
   exact⟨by simp,Below.refl _ _⟩
end
end
section
open Go.RowKit Go.Maps
attribute [local go_sem ↓] Go.wp_at_zero Go.wp_at_succ
attribute [local go_sem] quietR quietAtR quietUponR midAt midUpon
def totD (D:List DC)(id:Int):Int:=if isD D id=true then (match D[id.toNat]? with | some e=>e.tot | none=>0) else 0
section
variable {W : World} {k fl : Nat} {v : Value} {D : List DC} {F : Fam} {S : Nat → Prop}
theorem pdv_any (id:Int)(h:PdX k v fl D F W S)(hF:FlatD D fl)(hN:F.m.length≤1000) :
  Calls Tryz.prog 63 #[.pointer (some ⟨k,0,none⟩),.int .i64 id] W fun e W'=>e=.returned (.int .u64 (if isD D id=true then fvF F id else 0))∧Below W.heap.size W W':=by
 have hat:=pdat_any id h hF
 cases hi:isD D id with
 | true =>
  rw [if_pos rfl]
  obtain⟨hp,i,rfl,hlt,h1⟩:=posD_is hi
  rw [hp] at hat
  have hfam:=fun W' (hb:Below W.heap.size W W')=>pdfam_any hlt (pdX_later h hb) hF
  obtain⟨vf,rs,Sf,hf⟩:=h.fam
  have haw:=fun W' (hb:Below W.heap.size W W')=>fdv_any (i:Int) ((good_famDX _ _ _ _).kept hf hb.size fun b hb2=>hb.block b ((good_famDX _ _ _ _).lt hf b hb2)) (by omega)
  have HFM:=Lib.hid hfam
  have HAW:=Lib.hid haw
  have hd1:decide ((i:Int) < 1)=false:=decide_eq_false (by omega)
  have hd2:decide ((i:Int) < 0)=false:=decide_eq_false (by omega)
  have hni:¬ (i:Int) < 1:=by omega
  have hni0:¬ (i:Int) < 0:=by omega
  clear h hF hf hfam haw hp hi
  go_enter Tryz.func63,Tryz.ntmps63
  go_wp2_with (first
   | (go_at_call 38;refine hat.mono ?_;rintro e w1 ⟨rfl,rfl⟩;clear hat)
   | (go_at_call 49;refine (HFM.out _ (Below.refl _ _)).mono ?_;rintro e w2 ⟨rfl,hb2⟩;have HB2:=Lib.hid hb2;clear hb2)
   | (go_at_call 93;refine (HAW.out _ HB2.out).mono ?_;rintro e w3 ⟨rfl,rfl⟩))
  go_ret
  exact⟨rfl,HB2.out⟩
 | false =>
  rw [if_neg (by decide)]
  rcases posD_no hi with h1 | ⟨h1,hp⟩
  ·generalize posD D id=r at hat
   clear h hF hi
   have hd1:decide (id < 1)=true:=decide_eq_true (by omega)
   go_enter Tryz.func63,Tryz.ntmps63
   go_wp2_with (go_at_call 38;refine hat.mono ?_;rintro e w1 ⟨rfl,rfl⟩;clear hat)
   go_ret
   exact⟨rfl,Below.refl _ _⟩
  ·rw [hp] at hat
   clear h hF hi hp
   have hd1:decide (id < 1)=false:=decide_eq_false (by omega)
   have hni:¬ id < 1:=by omega
   go_enter Tryz.func63,Tryz.ntmps63
   go_wp2_with (go_at_call 38;refine hat.mono ?_;rintro e w1 ⟨rfl,rfl⟩;clear hat)
   go_ret
   exact⟨rfl,Below.refl _ _⟩
theorem pdtotal_any (id:Int)(h:PdX k v fl D F W S)(hF:FlatD D fl) :
  Calls Tryz.prog 64 #[.pointer (some ⟨k,0,none⟩),.int .i64 id] W fun e W'=>e=.returned (.int .u64 (totD D id))∧Below W.heap.size W W':=by
 have hat:=pdat_any id h hF
 unfold totD
 cases hi:isD D id with
 | true =>
  rw [if_pos rfl]
  obtain⟨hp,i,rfl,hlt,h1⟩:=posD_is hi
  rw [hp] at hat
  obtain⟨e,he⟩:∃ e,D[i]?=some e:=⟨_,List.getElem?_eq_getElem hlt⟩
  rw [show ((i:Int).toNat)=i by omega,he]
  dsimp only
  obtain⟨g,cap,rfl,hcap,hg,hc,_⟩:=h.cells he
  have d0:=h.box.cell 0
  simp only [lTA,lCZ,lCS] at d0
  have k14:W.cell? ⟨g,i*17+14,none⟩=some (.int .u64 e.tot):=hc 14 (by decide)
  have hd1:decide ((i:Int) < 1)=false:=decide_eq_false (by omega)
  have hd2:decide ((i:Int) < 0)=false:=decide_eq_false (by omega)
  have hni:¬ (i:Int) < 1:=by omega
  have hni0:¬ (i:Int) < 0:=by omega
  clear h hF hp hi hc he
  go_enter Tryz.func64,Tryz.ntmps64
  go_wp2_with (go_at_call 38;refine hat.mono ?_;rintro e w1 ⟨rfl,rfl⟩;clear hat)
  go_ret
  exact⟨rfl,Below.refl _ _⟩
 | false =>
  rw [if_neg (by decide)]
  rcases posD_no hi with h1 | ⟨h1,hp⟩
  ·generalize posD D id=r at hat
   clear h hF hi
   have hd1:decide (id < 1)=true:=decide_eq_true (by omega)
   go_enter Tryz.func64,Tryz.ntmps64
   go_wp2_with (go_at_call 38;refine hat.mono ?_;rintro e w1 ⟨rfl,rfl⟩;clear hat)
   go_ret
   exact⟨rfl,Below.refl _ _⟩
  ·rw [hp] at hat
   clear h hF hi hp
   have hd1:decide (id < 1)=false:=decide_eq_false (by omega)
   have hni:¬ id < 1:=by omega
   go_enter Tryz.func64,Tryz.ntmps64
   go_wp2_with (go_at_call 38;refine hat.mono ?_;rintro e w1 ⟨rfl,rfl⟩;clear hat)
   go_ret
   exact⟨rfl,Below.refl _ _⟩
theorem pdfitI_any {i:Nat} {e:DC} (he:D[i]?=some e)(hlf:e.s.lf=true)(hU:U e.tot)(h:PdX k v fl D F W S) :
  Calls Tryz.prog 54 #[.pointer (some ⟨k,0,none⟩),.int .i64 i] W fun r W'=>r=.returned (.int .u64 (owL e.o e.tot))∧Below W.heap.size W W':=by
 have hlt:=(List.getElem?_eq_some_iff.1 he).1
 obtain⟨g,cap,rfl,hcap,hg,hc,_⟩:=h.cells he
 have d0:=h.box.cell 0
 simp only [lTA,lCZ,lCS] at d0
 have hlim:=fun W' (hb:Below W.heap.size W W')=>((pdX_later h hb).lim he).elim fun S9 h9=>rl_fit h9 e.tot hU
 obtain⟨n,hn⟩:∃ n,owL e.o e.tot=n:=⟨_,rfl⟩
 rw [hn] at hlim ⊢
 have HL:=Lib.hid hlim
 have hrg:W.rangeAt g (i*17) (dcC e):=fun j u hj=>by
  have hj2:j < 17:=by have:=(List.getElem?_eq_some_iff.1 hj).1;rwa [dcC_len] at this
  rw [hc j hj2];exact hj
 have HLF:=Lib.hid hlf
 clear h hc hlim hn he hlf
 go_enter Tryz.func54,Tryz.ntmps54
 go_upto_region 2 with (refine wpList_load_mid rfl 76 _ rfl g (i*17) rfl (dcC e) _ hrg Tryz.underlying76 rfl (by kernel_rfl) ?_;unfold dcC)
 have hB:=Blk.new W 76 (dcC e).toArray
 have hb1:=(Below.refl W.heap.size W).alloc (Nat.le_refl _) (.cells (dcC e).toArray 76)
 unfold dcC at hB hb1
 generalize W.alloc (.cells _ 76)=W1 at hB hb1 ⊢
 have c2:=hB.cell 2
 have c14:=hB.cell 14
 have c15:=hB.cell 15
 simp only [lTA,lCZ,lCS] at c2 c14 c15
 rw [HLF.out] at c2
 have HB:=Lib.hid (And.intro hb1 hB)
 clear hB hb1 hrg d0
 go_wp2_with (go_at_call 100;refine (HL.out _ HB.out.1).mono ?_;rintro r w2 ⟨rfl,hb2⟩;have c2':=(hb2.cell (p:=⟨W.heap.size,2,none⟩) HB.out.2.lt).trans c2;have HB2:=Lib.hid (HB.out.1.trans (hb2.mono HB.out.1.size));clear hb2)
 go_ret
 exact⟨rfl,HB2.out⟩
noncomputable def fitD (D:List DC)(id:Int):Int:=match D[id.toNat]? with
 | some e=>owL e.o e.tot
 | none=>0
theorem pdFit_any (id:Int)(h:PdX k v fl D F W S)(hF:FlatD D fl)(hN:F.m.length≤1000)(hU:∀ (i:Nat) e,D[i]?=some e→U e.tot) :
  Calls Tryz.prog 65 #[.pointer (some ⟨k,0,none⟩),.int .i64 id] W fun r W'=>r=.returned (.int .u64 (if (isD D id && fawF F id)=true then fitD D id else 9223372036854775808))∧Below W.heap.size W W':=by
 have haw:=pdaw_any id h hF hN
 cases hb:(isD D id && fawF F id) with
 | false =>
  rw [hb] at haw
  rw [if_neg (by decide)]
  clear h hF
  go_enter Tryz.func65,Tryz.ntmps65
  go_wp2_with (go_at_call 48;refine haw.mono ?_;rintro e w1 ⟨rfl,hb1⟩;have HB1:=Lib.hid hb1;clear haw hb1)
  go_ret
  exact⟨rfl,HB1.out⟩
 | true =>
  rw [hb] at haw
  rw [if_pos rfl]
  have hi:isD D id=true:=by simp only [Bool.and_eq_true] at hb;exact hb.1
  obtain⟨hp,i,rfl,hlt,h1⟩:=posD_is hi
  obtain⟨e,he⟩:∃ e,D[i]?=some e:=⟨_,List.getElem?_eq_getElem hlt⟩
  have hat:=fun W' (hb:Below W.heap.size W W')=>pdat_any (i:Int) (pdX_later h hb) hF
  rw [hp] at hat
  have hfit:=fun W' (hb:Below W.heap.size W W')=>pdfitI_any he (hF.lf i e he (by omega)) (hU i e he) (pdX_later h hb)
  rw [show fitD D (i:Int)=owL e.o e.tot by unfold fitD;rw [show ((i:Int).toNat)=i by omega,he]]
  have HA:=Lib.hid hat
  have HFT:=Lib.hid hfit
  clear h hF hat hfit hp hi hb he
  go_enter Tryz.func65,Tryz.ntmps65
  go_wp2_with (first
   | (go_at_call 48;refine haw.mono ?_;rintro e w1 ⟨rfl,hb1⟩;have HB1:=Lib.hid hb1;clear haw hb1)
   | (go_at_call 38;refine (HA.out _ HB1.out).mono ?_;rintro e w2 ⟨rfl,rfl⟩)
   | (go_at_call 54;refine (HFT.out _ HB1.out).mono ?_;rintro e w3 ⟨rfl,hb3⟩;have HB3:=Lib.hid (HB1.out.trans (hb3.mono HB1.out.size));clear hb3))
  go_ret
  exact⟨rfl,HB3.out⟩
end
end
section
open Go.RowKit Go.Maps
attribute [local go_sem ↓] Go.wp_at_zero Go.wp_at_succ
attribute [local go_sem] quietR quietAtR quietUponR midAt midUpon
noncomputable def tickO (D:List DC)(O:List Ky):Int:=match lowV (O.map fun k=>(k,fitD D k.2)) with
 | none=>9223372036854775808
 | some m=>m
theorem tickO_more (D:List DC)(O:List Ky)(k:Ky):tickO D (O ++ [k])=if O=[]∨fitD D k.2 < tickO D O then fitD D k.2 else tickO D O:=by
 unfold tickO
 rw [List.map_append,List.map_singleton,lowV_more]
 cases hl:lowV (O.map fun k=>(k,fitD D k.2)) with
 | none =>
  have:O=[]:=by
   have:=lowV_none.1 hl
   simpa using this
  rw [if_pos (.inl this)]
 | some m =>
  have hne:O≠[]:=fun e=>by rw [e] at hl;cases hl
  dsimp only
  by_cases h:fitD D k.2 < m
  ·rw [if_pos h,if_pos (.inr h)]
  ·rw [if_neg h,if_neg (fun h2=>h2.elim hne h)]
def MemD (D:List DC)(F:Fam):Prop:=∀ q∈F.m,isD D q.1=true
theorem ord_is {D:List DC} {F:Fam} (h:MemD D F) {k:Ky} (hk:k∈ordK F.m):isD D k.2=true:=by
 obtain⟨q,hq,_,rfl⟩:=mem_ordK.1 hk
 exact h q hq
section
variable {W : World} {k fl : Nat} {v : Value} {D : List DC} {F : Fam} {S : Nat → Prop}
theorem ord_calls (h:PdX k v fl D F W S)(hF:FlatD D fl)(hM:MemD D F)(hU:∀ (i:Nat) e,D[i]?=some e→U e.tot) {x:Ky} (hx:x∈ordK F.m) :
  ∃ i:Nat,x.2=i∧1≤i∧i < D.length∧(∀ W',Below W.heap.size W W'→Calls Tryz.prog 38 #[.pointer (some ⟨k,0,none⟩),.int .i64 x.2] W' fun e w'=>e=.returned (.int .i64 i)∧W'=w') ∧
   ∀ W',Below W.heap.size W W'→Calls Tryz.prog 54 #[.pointer (some ⟨k,0,none⟩),.int .i64 i] W' fun r w'=>r=.returned (.int .u64 (fitD D x.2))∧Below W'.heap.size W' w':=by
 obtain⟨hp,i,hi,hlt,h1⟩:=posD_is (ord_is hM hx)
 obtain⟨e,he⟩:∃ e,D[i]?=some e:=⟨_,List.getElem?_eq_getElem hlt⟩
 refine⟨i,hi,h1,hlt,fun W' hb=>?_,fun W' hb=>?_⟩
 ·have:=pdat_any x.2 (pdX_later h hb) hF
  rw [hp,hi] at this
  rw [hi]
  exact this
 ·rw [show fitD D x.2=owL e.o e.tot by unfold fitD;rw [hi,show ((i:Int).toNat)=i by omega,he]]
  exact pdfitI_any he (hF.lf i e he (by omega)) (hU i e he) (pdX_later h hb)
theorem pdtick_any (h:PdX k v fl D F W S)(hF:FlatD D fl)(hM:MemD D F)(hR:Rising F.m)(hN:F.m.length≤1000)(hU:∀ (i:Nat) e,D[i]?=some e→U e.tot) :
  Calls Tryz.prog 62 #[.pointer (some ⟨k,0,none⟩)] W fun r W'=>r=.returned (.int .u64 (tickO D (ordK F.m)))∧Below W.heap.size W W':=by
 obtain⟨e0,he0,hf0,_⟩:=hF.zero
 obtain⟨g,cap,rfl,hcap,hg,hc0,_⟩:=h.cells he0
 have d0:=h.box.cell 0
 simp only [lTA,lCZ,lCS] at d0
 have k16:W.cell? ⟨g,16,none⟩=some (.pointer (some ⟨fl,0,none⟩)):=by rw [← hf0];have:=hc0 16 (by decide);rwa [Nat.zero_mul,Nat.zero_add] at this
 obtain⟨vf,rs,Sf,hf⟩:=h.fam
 have hids:=fdids_any hf hR hN
 have hlD:0 < D.length:=(List.getElem?_eq_some_iff.1 he0).1
 have hcl:=fun (x:Ky) (hx:x∈ordK F.m)=>ord_calls h hF hM hU hx
 obtain⟨O,hO⟩:∃ O,ordK F.m=O:=⟨_,rfl⟩
 have hOl:O.length≤1000:=by
  have:=ord_len F.m []
  rw [← hO]
  unfold ordK
  simp only [List.length_nil] at this
  omega
 rw [hO] at hids hcl ⊢
 have HC:=Lib.hid hcl
 have HOL:=Lib.hid hOl
 clear h hF hf hM hR hU hc0 he0 hcl hO hOl hN
 go_enter Tryz.func62,Tryz.ntmps62
 go_wp2_with (go_at_call 53;refine hids.mono ?_;rintro e w1 ⟨v4,rfl,hrow,hb1⟩;clear hids)
 have hrow:RowI w1 W.heap.size v4 (O.map (·.2)):=hrow
 obtain⟨a4,c4,rfl⟩:∃ a4 c4,v4=.slice a4 O.length c4:=by
  rcases hrow.form (n:=O.length) (by simp) with ⟨e,_⟩ | ⟨g4,c4,e,_⟩
  ·exact⟨_,_,e⟩
  ·exact⟨_,_,e⟩
 have HR:=Lib.hid (And.intro hrow hb1)
 clear hrow hb1 d0 k16
 go_wp2_with fail
 go_loopw [3,5] (fun v3 v5 wr=>∃ j:Nat,v5=.int .i64 j∧j≤O.length∧v3=.int .u64 (tickO D (O.take j))∧Below w1.heap.size w1 wr) (fun _ v5 _=>(O.length - Go.RowKit.intOf v5).toNat)
 case atStart=>exact⟨0,rfl,Nat.zero_le _,rfl,Below.refl _ _⟩
 case round =>
  obtain⟨j,rfl,hj,hv3,hbr⟩:=hrel
  rw [hv3]
  clear hv3
  by_cases hlt:j < O.length
  ·obtain⟨x,hx⟩:∃ x,O[j]?=some x:=⟨_,List.getElem?_eq_getElem hlt⟩
   obtain⟨i,hi,h1,hiD,hat,hfit⟩:=HC.out x (List.mem_of_getElem? hx)
   obtain⟨g4,rfl⟩:∃ g4,a4=some ⟨g4,0,none⟩:=by
    rcases HR.out.1.form (n:=O.length) (by simp) with ⟨e,h0⟩ | ⟨g4,_,e,_⟩
    ·omega
    ·cases e;exact⟨_,rfl⟩
   have d4:=(HR.out.1.later hbr).cellAt' (n:=O.length) (by simp) (j:=j) (x:=x.2) (by rw [List.getElem?_map,hx];rfl)
   have hst:=tickO_more D (O.take j) x
   rw [show O.take j ++ [x]=O.take (j+1) by rw [List.take_add_one,hx];rfl] at hst
   have hbW:=HR.out.2.trans (hbr.mono HR.out.2.size)
   have hc4:=d4.2
   obtain⟨L,hL⟩:∃ L,tickO D (O.take j)=L:=⟨_,rfl⟩
   obtain⟨fx,hfx⟩:∃ fx,fitD D x.2=fx:=⟨_,rfl⟩
   rw [hL,hfx] at hst
   rw [hL]
   rw [hfx] at hfit
   have HAT:=Lib.hid (And.intro hat hfit)
   have HB:=Lib.hid (And.intro hbr hbW)
   have hjz:O.take j=[]↔j=0:=by
    constructor
    ·intro h
     have:=congrArg List.length h
     rw [List.length_take,List.length_nil] at this
     omega
    ·intro h;rw [h];rfl
   have HST:=Lib.hid (And.intro hst hjz)
   clear hat hfit hbr hbW d4 hst hjz hx hL hfx hi
   go_upto_region 7 with (first
    | (go_at_call 38;refine (HAT.out.1 _ HB.out.2).mono ?_;rintro e w2 ⟨rfl,rfl⟩)
    | (go_at_call 54;refine (HAT.out.2 _ HB.out.2).mono ?_;rintro e w3 ⟨rfl,hb3⟩;have HB3:=Lib.hid (HB.out.1.trans (hb3.mono HB.out.1.size));clear hb3))
   have hOl:=HOL.out
   by_cases h0:j=0
   ·subst h0
    have hd:((0:Int) == 0)=true:=rfl
    have hn:tickO D (O.take 1)=fx:=by rw [HST.out.1,if_pos (.inl rfl)]
    have HN:=Lib.hid hn
    clear hn
    go_wp2_with fail
    go_roundw
    case measure=>(simp [Go.RowKit.intOf];try omega)
    case rel=>exact⟨1,by go_num,by omega,by rw [HN.out],HB3.out⟩
   ·have hd:((j:Int) == 0)=false:=by simp;omega
    have hj0:¬ (j:Int)=0:=by omega
    by_cases h2:fx < L
    ·have hn:tickO D (O.take (j+1))=fx:=by rw [HST.out.1,if_pos (.inr h2)]
     have HN:=Lib.hid hn
     clear hn
     go_wp2_with fail
     go_roundw
     case measure=>(simp [Go.RowKit.intOf];try omega)
     case rel=>exact⟨j+1,by go_num,by omega,by rw [HN.out],HB3.out⟩
    ·have hn:tickO D (O.take (j+1))=L:=by rw [HST.out.1,if_neg (fun h=>h.elim (fun h=>h0 (HST.out.2.1 h)) h2)]
     have HN:=Lib.hid hn
     clear hn
     go_wp2_with fail
     go_roundw
     case measure=>(simp [Go.RowKit.intOf];try omega)
     case rel=>exact⟨j+1,by go_num,by omega,by rw [HN.out],HB3.out⟩
  ·obtain rfl:j=O.length:=by omega
   rw [List.take_length]
   have HB:=Lib.hid (HR.out.2.trans (hbr.mono HR.out.2.size))
   clear hbr
   go_wp2_with fail
   go_ret
   exact⟨rfl,HB.out⟩
end
end
section
open Go.RowKit Go.Maps
attribute [local go_sem ↓] Go.wp_at_zero Go.wp_at_succ
attribute [local go_sem] quietR quietAtR quietUponR midAt midUpon
noncomputable def firstO (D:List DC)(now:Int)(O:List Ky):Option Ky:=O.find? fun k=>decide (fitD D k.2≤now)
noncomputable def nextO (D:List DC)(now:Int)(O:List Ky):Int:=match firstO D now O with
 | none=>-1
 | some k=>k.2
theorem nextO_step (D:List DC)(now:Int) {O:List Ky} {j:Nat} {x:Ky} (hx:O[j]?=some x):nextO D now (O.drop j)=if fitD D x.2≤now then x.2 else nextO D now (O.drop (j+1)):=by
 have hlt:=(List.getElem?_eq_some_iff.1 hx).1
 have e:O.drop j=x :: O.drop (j+1):=by
  rw [List.drop_eq_getElem_cons hlt]
  congr 1
  exact (List.getElem?_eq_some_iff.1 hx).2
 unfold nextO firstO
 rw [e,List.find?_cons]
 by_cases h:fitD D x.2≤now
 ·rw [decide_eq_true h,if_pos h]
 ·rw [decide_eq_false h,if_neg h]
section
variable {W : World} {k fl : Nat} {v : Value} {D : List DC} {F : Fam} {S : Nat → Prop}
theorem pdnext_any (now:Int)(h:PdX k v fl D F W S)(hF:FlatD D fl)(hM:MemD D F)(hR:Rising F.m)(hN:F.m.length≤1000)(hU:∀ (i:Nat) e,D[i]?=some e→U e.tot) :
  Calls Tryz.prog 14 #[.pointer (some ⟨k,0,none⟩),.int .u64 now] W fun r W'=>r=.returned (match firstO D now (ordK F.m) with | none=>.tuple #[.int .i64 0,.bool false] | some x=>.tuple #[.int .i64 x.2,.bool true])∧Below W.heap.size W W':=by
 obtain⟨e0,he0,hf0,hl0⟩:=hF.zero
 obtain⟨vf,rs,Sf,hf⟩:=h.fam
 have hids:=fun W' (hb:Below W.heap.size W W')=>fdids_any ((good_famDX _ _ _ _).kept hf hb.size fun b hb2=>hb.block b ((good_famDX _ _ _ _).lt hf b hb2)) hR hN
 have hlD:0 < D.length:=(List.getElem?_eq_some_iff.1 he0).1
 have hcl:=fun (x:Ky) (hx:x∈ordK F.m)=>ord_calls h hF hM hU hx
 have hLF:=hF.lf
 have hID:=hF.id
 obtain⟨O,hO⟩:∃ O,ordK F.m=O:=⟨_,rfl⟩
 have hOl:O.length≤1000:=by
  have:=ord_len F.m []
  rw [← hO]
  unfold ordK
  simp only [List.length_nil] at this
  omega
 rw [hO] at hids hcl ⊢
 obtain⟨rv,hrv⟩:∃ rv,(match firstO D now O with | none=>(.tuple #[.int .i64 0,.bool false]:Value) | some x=>.tuple #[.int .i64 x.2,.bool true])=rv:=⟨_,rfl⟩
 rw [hrv]
 have hrow:∀ W',Below W.heap.size W W'→∃ g cap,v=.slice (some ⟨g,0,none⟩) D.length cap∧(∀ i e c,D[i]?=some e→c < 17→W'.cell? ⟨g,i*17+c,none⟩=(dcC e)[c]?)∧W'.cell? ⟨k,0,none⟩=some v:=fun W' hb=>by
  have h9:=pdX_later h hb
  obtain⟨g,cap,hv,_⟩:=h9.cells he0
  refine⟨g,cap,hv,fun i e c he hc=>?_,by have:=h9.box.cell 0;simpa using this⟩
  obtain⟨g',cp',hv',_,_,hc',_⟩:=h9.cells he
  rw [hv] at hv'
  cases hv'
  exact hc' c hc
 have HC:=Lib.hid (And.intro hcl (And.intro hids (And.intro hrow hrv)))
 have HD:=Lib.hid (And.intro he0 (And.intro hl0 (And.intro hf0 (And.intro hLF hID))))
 have HOL:=Lib.hid hOl
 clear h hF hf hM hR hU hcl hO hOl hN hids hrv hrow hLF hID he0 hf0 hl0
 go_enter Tryz.func14,Tryz.ntmps14
 go_wp2_with fail
 go_loopw [6] (fun v6 wr=>Below W.heap.size W wr∧(v6=.int .i64 0∨∃ (i:Nat) (x:Ky),v6=.int .i64 i∧x.2=i∧1≤i∧i < D.length∧firstO D now O=some x)) (fun v6 _=>if Go.RowKit.intOf v6=0 then 1 else 0)
 case atStart=>exact⟨Below.refl _ _,.inl rfl⟩
 case round =>
  obtain⟨hbr,hv6⟩:=hrel
  obtain⟨g,cap,hv,hc,d0⟩:=HC.out.2.2.1 _ hbr
  rw [hv] at d0
  have HBR:=Lib.hid hbr
  clear hbr
  rcases hv6 with h0 | ⟨i,x,hv6,hxi,h1,hiD,hfo⟩
  ·rw [h0]
   clear h0
   have k2:wr.cell? ⟨g,2,none⟩=some (.bool false):=by rw [← HD.out.2.1];have:=hc 0 e0 2 HD.out.1 (by decide);rwa [Nat.zero_mul,Nat.zero_add] at this
   have k16:wr.cell? ⟨g,16,none⟩=some (.pointer (some ⟨fl,0,none⟩)):=by rw [← HD.out.2.2.1];have:=hc 0 e0 16 HD.out.1 (by decide);rwa [Nat.zero_mul,Nat.zero_add] at this
   clear hc
   go_upto_region 4 with (go_at_call 53;refine (HC.out.2.1 _ HBR.out).mono ?_;rintro e w1 ⟨v7,rfl,hrw,hb1⟩)
   obtain⟨w0,hw0⟩:∃ w0,w0=wr:=⟨wr,rfl⟩
   subst hw0
   have hrw:RowI w1 w0.heap.size v7 (O.map (·.2)):=hrw
   obtain⟨a7,c7,rfl⟩:∃ a7 c7,v7=.slice a7 O.length c7:=by
    rcases hrw.form (n:=O.length) (by simp) with ⟨e,_⟩ | ⟨g4,c4,e,_⟩
    ·exact⟨_,_,e⟩
    ·exact⟨_,_,e⟩
   have HR:=Lib.hid (And.intro hrw (HBR.out.trans (hb1.mono HBR.out.size)))
   clear hrw hb1 d0 k2 k16
   have hOl:=HOL.out
   go_wp2_with fail
   clear hOl
   go_loopw [8,9] (fun v8 v9 wr=>∃ (j:Nat) (z:Int),v9=.int .i64 z∧z=(j:Int) - 1∧j≤O.length∧v8=.int .i64 (nextO D now (O.drop j))∧Below w1.heap.size w1 wr) (fun _ v9 _=>(Go.RowKit.intOf v9+1).toNat)
   case atStart=>exact⟨O.length,_,rfl,rfl,Nat.le_refl _,by rw [List.drop_length];rfl,Below.refl _ _⟩
   case round =>
    obtain⟨j,z,rfl,hz,hj,hv8,hbr⟩:=hrel
    rw [hv8]
    clear hv8
    have hbW:=HR.out.2.trans (hbr.mono HR.out.2.size)
    have HB:=Lib.hid (And.intro hbr hbW)
    cases j with
    | zero =>
     obtain rfl:z=-1:=by omega
     rw [List.drop_zero]
     clear hz hbr hbW hj
     cases hfo:firstO D now O with
     | none =>
      have hn:nextO D now O=-1:=by unfold nextO;rw [hfo]
      have hr:=HC.out.2.2.2
      rw [hfo] at hr
      rw [hn]
      subst hr
      clear hn hfo
      go_wp2_with fail
      go_ret2
      exact⟨rfl,HB.out.2⟩
     | some x =>
      obtain⟨i,hxi,h1,hiD,_,_⟩:=HC.out.1 x (List.mem_of_find?_eq_some hfo)
      have hn:nextO D now O=(i:Int):=by unfold nextO;rw [hfo];exact hxi
      rw [hn]
      have hni:¬ (i:Int) < 0:=by omega
      have HX:=Lib.hid (And.intro hfo (And.intro hxi (And.intro h1 hiD)))
      clear hn hfo hxi
      go_wp2_with fail
      go_roundw
      case measure=>(simp [Go.RowKit.intOf];try omega)
      case rel=>exact⟨HB.out.2,.inr ⟨i,x,rfl,HX.out.2.1,HX.out.2.2.1,HX.out.2.2.2,HX.out.1⟩⟩
    | succ m =>
     obtain rfl:z=(m:Int):=by omega
     clear hz
     obtain⟨x,hx⟩:∃ x,O[m]?=some x:=⟨_,List.getElem?_eq_getElem (by omega)⟩
     have hst:=nextO_step D now hx
     obtain⟨i,hxi,h1,hiD,hat,hfit⟩:=HC.out.1 x (List.mem_of_getElem? hx)
     obtain⟨g7,rfl⟩:∃ g7,a7=some ⟨g7,0,none⟩:=by
      rcases HR.out.1.form (n:=O.length) (by simp) with ⟨e,h0⟩ | ⟨g4,_,e,_⟩
      ·omega
      ·cases e;exact⟨_,rfl⟩
     have d7:=((HR.out.1.later hbr).cellAt' (n:=O.length) (by simp) (j:=m) (x:=x.2) (by rw [List.getElem?_map,hx];rfl)).2
     obtain⟨fx,hfx⟩:∃ fx,fitD D x.2=fx:=⟨_,rfl⟩
     rw [hfx] at hst hfit
     obtain⟨N,hN⟩:∃ N,nextO D now (O.drop (m+1))=N:=⟨_,rfl⟩
     rw [hN] at hst ⊢
     have HAT:=Lib.hid (And.intro hat hfit)
     have HST:=Lib.hid (And.intro hst hxi)
     clear hat hfit hst hxi hx hfx hN hbr hbW
     go_upto_if 45 with (first
      | (go_at_call 38;refine (HAT.out.1 _ HB.out.2).mono ?_;rintro e w2 ⟨rfl,rfl⟩)
      | (go_at_call 54;refine (HAT.out.2 _ HB.out.2).mono ?_;rintro e w3 ⟨rfl,hb3⟩;have HB3:=Lib.hid (And.intro (HB.out.1.trans (hb3.mono HB.out.1.size)) (HB.out.2.trans (hb3.mono HB.out.2.size)));have d7':=(hb3.cell (p:=⟨g7,m,none⟩) (Nat.lt_of_lt_of_le ((HR.out.1.lt g7 rfl).2) HB.out.1.size)).trans d7;clear hb3))
     have hjO:m < O.length:=by omega
     have hOl:=HOL.out
     by_cases hc:fx≤now
     ·have hn:nextO D now (O.drop m)=(i:Int):=by rw [HST.out.1,if_pos hc];exact HST.out.2
      have HN:=Lib.hid hn
      clear hn
      go_wp2_with (go_at_call 38;refine (HAT.out.1 _ HB3.out.2).mono ?_;rintro e w4 ⟨rfl,rfl⟩)
      go_roundw
      case measure=>(simp [Go.RowKit.intOf];try omega)
      case rel=>exact⟨m,(m:Int) - 1,(by have:=HOL.out;go_num),rfl,by omega,by rw [HN.out],HB3.out.1⟩
     ·have hn:nextO D now (O.drop m)=N:=by rw [HST.out.1,if_neg hc]
      have HN:=Lib.hid hn
      clear hn
      go_wp2_with fail
      go_roundw
      case measure=>(simp [Go.RowKit.intOf];try omega)
      case rel=>exact⟨m,(m:Int) - 1,(by have:=HOL.out;go_num),rfl,by omega,by rw [HN.out],HB3.out.1⟩
  ·obtain⟨e,he⟩:∃ e,D[i]?=some e:=⟨_,List.getElem?_eq_getElem hiD⟩
   have k0:wr.cell? ⟨g,i*17,none⟩=some (.int .i64 (i:Int)):=by rw [← (HD.out.2.2.2.2 i e he).1];exact hc i e 0 he (by decide)
   have k2:wr.cell? ⟨g,i*17+2,none⟩=some (.bool true):=by rw [← HD.out.2.2.2.1 i e he (by omega)];exact hc i e 2 he (by decide)
   have hr:=HC.out.2.2.2
   rw [hfo] at hr
   dsimp only at hr
   rw [hxi] at hr
   subst hr
   rw [hv6]
   clear hc he hfo hxi hv6
   go_wp2_with fail
   go_ret2
   exact⟨rfl,HBR.out⟩
end
end
section
open Go.RowKit Go.Maps
attribute [local go_sem ↓] Go.wp_at_zero Go.wp_at_succ
attribute [local go_sem] quietR quietAtR quietUponR midAt midUpon
section
variable {W : World} {k fl : Nat} {v : Value} {D : List DC} {F : Fam} {S : Nat → Prop}
theorem pdpath_any {i:Nat} (h1:1≤i)(hi:i < D.length)(h:PdX k v fl D F W S)(hF:FlatD D fl) :
  Calls Tryz.prog 47 #[.pointer (some ⟨k,0,none⟩),.int .i64 i] W (IdsW W [(i:Int)]):=by
 obtain⟨e,he⟩:∃ e,D[i]?=some e:=⟨_,List.getElem?_eq_getElem hi⟩
 have hat:=pdat_any (i:Int) h hF
 rw [posD_at hi rfl] at hat
 obtain⟨g,cap,rfl,hcap,hg,hc,_⟩:=h.cells he
 have k1:W.cell? ⟨g,i*17+1,none⟩=some (.int .i64 0):=by rw [← (hF.id i e he).2];exact hc 1 (by decide)
 have d0:=h.box.cell 0
 simp only [lTA,lCZ,lCS] at d0
 have hlk:=h.box.lt
 have hfew:=hF.few
 have HA:=Lib.hid (And.intro hat (And.intro d0 (And.intro k1 (And.intro hlk (And.intro hg hfew)))))
 clear h hF hc he hat d0 k1 hlk hg hfew
 unfold IdsW
 go_enter Tryz.func47,Tryz.ntmps47
 go_wp2_with fail
 go_loopw [1,5] (fun v1 v5 wr=>(v1=.int .i64 i∧v5=.slice none 0 0∧wr=W)∨(v1=.int .i64 0∧RowI wr W.heap.size v5 [(i:Int)]∧Below W.heap.size W wr)) (fun v1 _ _=>(Go.RowKit.intOf v1).toNat)
 case atStart=>exact .inl ⟨rfl,rfl,rfl⟩
 case round =>
  rcases hrel with ⟨hv1,hv5,hwr⟩ | ⟨hv1,hrow,hbr⟩
  ·rw [hv1,hv5,hwr]
   clear hv1 hv5 hwr
   obtain⟨hat,d0,k1,hlk,hg,hfew⟩:=HA.out
   have hi1:(1:Int)≤(i:Int):=by omega
   have hDl:(0:Int)≤(D.length:Int):=by omega
   have hb1:=(Below.refl W.heap.size W).alloc (Nat.le_refl _) (.cells #[.int .i64 (i:Int)] 3)
   obtain⟨v1,w9,r1,hr9,hg9,_⟩:=app_src (c:=1) 51 (A:=[]) (B:=[(i:Int)]) (World.ownsRow_nil (W.alloc (.cells #[.int .i64 (i:Int)] 3)) W.heap.size 3 1) rfl (srcI_lit W i) hb1.size (by simp)
   obtain⟨a9,c9,rfl⟩:∃ a9 c9,v1=.slice a9 1 c9:=by
    rcases hr9.form (n:=1) rfl with ⟨e,_⟩ | ⟨g4,c4,e,_⟩
    ·exact⟨_,_,e⟩
    ·exact⟨_,_,e⟩
   have hb9:Below W.heap.size W w9:=hb1.grown hg9 hb1.size fun k hk=>by cases hk
   have d0':=(hb9.cell (p:=⟨k,0,none⟩) hlk).trans d0
   have k1':=(hb9.cell (p:=⟨g,i*17+1,none⟩) hg).trans k1
   have H9:=Lib.hid (And.intro hr9 hb9)
   clear hr9 hb9 hg9 hb1
   go_wp2_with (first
    | (go_at_call 38;refine hat.mono ?_;rintro e w1 ⟨rfl,rfl⟩;clear hat)
    | (at_builtin;refine wpList_append_runH rfl _ _ _ rfl _ _ _ rfl rfl r1 ?_;clear r1))
   go_roundw
   case measure=>(simp [Go.RowKit.intOf];try omega)
   case rel=>exact .inr ⟨rfl,H9.out.1,H9.out.2⟩
  ·obtain⟨g5,c5,rfl⟩:∃ g5 c5,u5=.slice (some ⟨g5,0,none⟩) 1 c5:=by
    rcases hrow.form (n:=1) rfl with ⟨_,h0⟩ | ⟨g5,c5,e,_⟩
    ·omega
    ·exact⟨_,_,e⟩
   rw [hv1]
   have HR:=Lib.hid (And.intro hrow hbr)
   clear hv1 hrow hbr
   go_wp2_with fail
   go_ret
   exact⟨_,rfl,HR.out.1,HR.out.2⟩
end
end
section
open Go.RowKit Go.Maps
attribute [local go_sem ↓] Go.wp_at_zero Go.wp_at_succ
attribute [local go_sem] quietR quietAtR quietUponR midAt midUpon
theorem quietR_load_mid {P:Program} {ops:Array Oper} {o:Oper} {a:Act} {w:World} {K:Act→Prop} {E:Prop} (hgd:o.guard=none)(ty:TypeId)(x:Operand)(ho:o.op=.load ty x)(b off:Nat)(hx:a.eval x=.pointer (some ⟨b,off,none⟩))(cs:List Value)(d:TypeDesc)(hc:∀ e,(over w e).rangeAt b off cs)
  (hu:P.underlying ty=some d) (hd:d.isRow=true) (hi:(P.info? ty).map (·.size)=some cs.length) (h:K (a.put o.dst (.agg cs.toArray))):if Region.wanted o (yielded ops a.tmps)=true then quietR P o a w K else E:=by
 have hw:Region.wanted o (yielded ops a.tmps)=true:=by simp [Region.wanted,hgd]
 rw [if_pos hw]
 refine⟨.agg cs.toArray,fun e=>?_,h⟩
 unfold quietAtR execOp
 simp only [ho,hx,Instr.loadAt,Instr.sureAddr,Sem.run_bind,Sem.run_pure,Result.andThen_ok,run_loadVar_mid (over w e) b off ty cs d (hc e) hu hd hi]
 exact⟨rfl,rfl⟩
def ovr:Array Value→Nat→List Value→Array Value
 | cs,_,[]=>cs
 | cs,o,v :: vs=>ovr (cs.setIfInBounds o v) (o+1) vs
theorem blk_setCells {B:Nat} {t:TypeId}:∀ (vs:List Value)(o:Nat) {w:World} {cs:Array Value},Blk w B t cs→Blk (w.setCells B o vs) B t (ovr cs o vs)
 | [],_,_,_,h=>h
 | v :: vs,o,_,_,h=>blk_setCells vs (o+1) (h.set_ o v)
theorem there_blk {w:World} {B n:Nat} {t:TypeId} {cs:Array Value} (h:Blk w B t cs)(hn:cs.size=n):w.there B 0 n:=fun j hj=>by
 subst hn
 refine⟨?_,h.frozen _⟩
 rw [Nat.zero_add,h.cell j,Array.getElem?_eq_getElem hj]
 rfl
theorem dc_one (e:DC):(dcC e).toArray.all (·.oneCell')=true:=all_oneCell_toArray fun v hv=>by
 simp only [dcC,List.mem_cons,List.not_mem_nil,or_false] at hv
 rcases hv with rfl | rfl | rfl | rfl | rfl | rfl | rfl | rfl | rfl | rfl | rfl | rfl | rfl | rfl | rfl | rfl | rfl <;> rfl
theorem sx_box {W w2 W1:World} {A:Nat→Prop} {P:Ob} {B:Nat} {t:TypeId} {cs cs':Array Value} (hP:Good P)(h:P W A)(h2:Below W.heap.size W w2)(h1:Below w2.heap.size w2 W1)(hB:Blk W1 B t cs)(hlo:w2.heap.size≤B)(vs:List Value)(he:ovr cs 0 vs=cs'):Sx W A (W1.setCells B 0 vs) (Star (BoxO B t cs') P):=by
 have s1:=(Sx.start (P:=P) h).later hP h2
 have hb:=blk_setCells vs 0 hB
 rw [he] at hb
 refine s1.made (S:=fun b=>b=B) hP (good_box _ _ _) (h1.grown (grown_setCells B vs 0 W1) h1.size fun k e=>by cases e;exact hlo) ⟨hb,fun b=>Iff.rfl⟩ fun b hb=>by rw [hb];exact hlo
def NewBox2 (n:Nat)(t:TypeId)(cs:Array Value)(u:Value)(W:World):Prop:=∃ B,u=.pointer (some ⟨B,0,none⟩)∧n≤B∧Blk W B t cs
def dcZ:Array Value:=#[.int .i64 0,.int .i64 0,.bool false,.int .u64 0,.int .u64 0,.int .u64 0,.int .u64 0,.int .u64 0,.int .u64 0,.int .u64 0,.int .u64 0,.int .u64 0,.int .i64 0,.int .i64 0,.int .u64 0,.pointer none,.pointer none]
theorem wakeD_any {W:World} {f:Nat} {F:Fam} (id:Int)(hN:FamN F)(hR:Rising F.m)(hl:F.m.length≤1000) :
  Acts (fun e=>e=.returned (.tuple #[])) (FamD f F) (FamD f (wakeF id F)) 50 #[.pointer (some ⟨f,0,none⟩),.int .i64 id] Tryz.prog W:=fun A ⟨v,rs,h⟩ =>
 (fdwake_any id hN hR hl A h).mono fun e W' ⟨h1,A',h2,h3⟩=>⟨h1,A',⟨v,rs,h2⟩,h3⟩
theorem Sx.famAct {w0 W:World} {A:Nat→Prop} {φ:Ending→Prop} {fn:FuncId} {args:Array Value} {prog:Program} {k fl:Nat} {X:Ob} {v:Value} {D:List DC} {F F':Fam} (hX:Good X)(h:Sx w0 A W (Star X (PdX k v fl D F)))(ha:Acts φ (FamD fl F) (FamD fl F') fn args prog W) :
  Calls prog fn args W fun e W'=>φ e∧Sx w0 A W' (Star X (PdX k v fl D F')):=by
 have h1:Sx w0 A W (Star (FamD fl F) (Star X (Star (BoxO k 79 #[v]) (Star (DcR v D) (StarL (fun e:DC=>RLO e.q e.o) D))))):=(h.weak fun h2=>h2.under fun h3=>(Star.swap (h3.under Star.swap))).swap
 refine (h1.act (good_famD _ _) (hX.star ((good_box _ _ _).star (good_rec.star (good_lims _)))) ha).mono fun e W' ⟨h2,h3⟩=>⟨h2,?_⟩
 exact h3.swap.weak fun h4=>h4.under fun h5=>(Star.swap h5).under Star.swap
theorem Sx.limAct {w0 W:World} {A:Nat→Prop} {φ:Ending→Prop} {fn:FuncId} {args:Array Value} {prog:Program} {k fl B i:Nat} {t:TypeId} {cs:Array Value} {v:Value} {D:List DC} {F:Fam} {e:DC} {o':Option Rn} (h:Sx w0 A W (Star (BoxO B t cs) (PdX k v fl D F)))(he:D[i]?=some e)(ha:Acts φ (RLO e.q e.o) (RLO e.q o') fn args prog W) :
  Calls prog fn args W fun r W'=>φ r∧Sx w0 A W' (Star (BoxO B t cs) (PdX k v fl (D.set i { e with o:=o' }) F)):=by
 have hlr:Good (StarL (fun e:DC=>RLO e.q e.o) (D.eraseIdx i)):=good_starL (fun e=>good_rl _ _) _
 have h1:Sx w0 A W (Star (RLO e.q e.o) (Star (BoxO B t cs) (Star (BoxO k 79 #[v]) (Star (DcR v D) (Star (FamD fl F) (StarL (fun e:DC=>RLO e.q e.o) (D.eraseIdx i))))))) :=
  (h.weak fun h2=>h2.under fun h3=>Star.swap (h3.under fun h4=>Star.swap (h4.under fun h5=>Star.swap (h5.under fun h6=>(starL_at he).1 h6)))).swap
 refine (h1.act (good_rl _ _) ((good_box _ _ _).star ((good_box _ _ _).star (good_rec.star ((good_famD _ _).star hlr)))) ha).mono fun r W' ⟨h2,h3⟩=>⟨h2,?_⟩
 refine h3.swap.weak fun h4=>h4.under fun h5=>(Star.swap h5).under fun h6=>?_
 have h7:=(Star.swap h6).under fun h8=>(Star.swap h8).under fun h9=>(starL_at (f:=fun e:DC=>RLO e.q e.o) (set_at (b:={ e with o:=o' }) he)).2 (by rw [set_erase];exact h9)
 refine h7.over fun h8=>⟨?_,h8.2⟩
 rw [List.length_set,recC_same he (by rfl)]
 exact h8.1
theorem ovr_dc (e:DC):ovr dcZ 0 (dcC e)=(dcC e).toArray:=by kernel_rfl
section
variable {W : World} {k fl : Nat} {v : Value} {D : List DC} {F : Fam} {S : Nat → Prop}
theorem PdX.at_ (h:PdX k v fl D F W S) {i:Nat} {e:DC} (he:D[i]?=some e):∃ g cap,v=.slice (some ⟨g,0,none⟩) D.length cap∧D.length≤cap∧g < W.heap.size∧W.cell? ⟨k,0,none⟩=some v∧W.rangeAt g (i*17) (dcC e):=by
 obtain⟨g,cap,hv,hcap,hg,hc,_⟩:=h.cells he
 refine⟨g,cap,hv,hcap,hg,by have:=h.box.cell 0;simpa using this,fun j u hj=>?_⟩
 have hj2:j < 17:=by have:=(List.getElem?_eq_some_iff.1 hj).1;rwa [dcC_len] at this
 rw [hc j hj2];exact hj
theorem pdwake_any {i:Nat} {e:DC} (now:Int)(hnow:U now)(h1:1≤i)(he:D[i]?=some e)(hF:FlatD D fl)(hN:FamN F)(hR:Rising F.m)(hl:F.m.length≤1000)(hU:U e.tot)(hfew:∀ x,e.o=some x→x.A.length < 900000)(haw:fawF F i=false)(hsh:noneB e.s.s=false) :
  Acts (fun r=>r=.returned (.tuple #[])) (PdX k v fl D F) (PdX k v fl (D.set i { e with o:=wakeL e.o now e.tot }) (wakeF i F)) 12 #[.pointer (some ⟨k,0,none⟩),.int .i64 i,.int .u64 now] Tryz.prog W:=fun A h=>by
 have hi:=(List.getElem?_eq_some_iff.1 he).1
 have hat:=pdat_any (i:Int) h hF
 rw [posD_at hi rfl] at hat
 have hlf:=hF.lf i e he (by omega)
 obtain⟨g,cap,rfl,hcap,hg,d0,hrg⟩:=h.at_ he
 have k2:W.cell? ⟨g,i*17+2,none⟩=some (.bool true):=by rw [← hlf];exact hrg 2 _ rfl
 have k6:W.cell? ⟨g,i*17+6,none⟩=some (.int .u64 e.s.s.1):=hrg 6 _ rfl
 have k7:W.cell? ⟨g,i*17+7,none⟩=some (.int .u64 e.s.s.2.1):=hrg 7 _ rfl
 have k8:W.cell? ⟨g,i*17+8,none⟩=some (.int .u64 e.s.s.2.2):=hrg 8 _ rfl
 have hpath:=pdpath_any h1 hi h hF
 have H:=Lib.hid h
 have HE:=Lib.hid (And.intro he (And.intro hF (And.intro hN (And.intro hR hl))))
 have HE2:=Lib.hid (And.intro hnow (And.intro hU (And.intro hfew (And.intro haw hsh))))
 have hi1:¬ (i:Int) < 1:=by omega
 have hi0:¬ (i:Int) < 0:=by omega
 have hd1:decide ((i:Int) < 1)=false:=decide_eq_false hi1
 have hd0:decide ((i:Int) < 0)=false:=decide_eq_false hi0
 clear h hF hN hR hl hnow hU hfew haw hlf hrg
 go_enter Tryz.func12,Tryz.ntmps12
 go_upto_region 1 with (go_at_call 38;refine hat.mono ?_;rintro r w1 ⟨rfl,rfl⟩;clear hat)
 go_cut [43] from 9 to 43 (fun vc wx=>vc=.bool false∧wx=W)
 case first =>
  have hs:¬ e.s.s=(0,0,0):=of_decide_eq_false HE2.out.2.2.2.2
  obtain⟨⟨s1,s2,s3⟩,hq⟩:∃ x,e.s.s=x:=⟨_,rfl⟩
  rw [hq] at hs k6 k7 k8
  dsimp only at k6 k7 k8
  have hs3:¬ (s1=0∧s2=0∧s3=0):=fun h=>hs (by rw [h.1,h.2.1,h.2.2])
  clear hs hq
  by_cases e1:s1=0
  ·have e1b:(s1 == 0)=true:=by simpa using e1
   by_cases e2:s2=0
   ·have e3:¬ s3=0:=fun h=>hs3 ⟨e1,e2,h⟩
    have e2b:(s2 == 0)=true:=by simpa using e2
    have e3b:(s3 == 0)=false:=by simpa using e3
    clear hs3 e1 e2 e3
    go_wp2_with fail
    go_meet
    exact⟨by first | rfl | (rw [hd1,hd0];rfl),rfl⟩
   ·have e2b:(s2 == 0)=false:=by simpa using e2
    clear hs3 e1 e2
    go_wp2_with fail
    go_meet
    exact⟨by first | rfl | (rw [hd1,hd0];rfl),rfl⟩
  ·have e1b:(s1 == 0)=false:=by simpa using e1
   clear hs3 e1
   go_wp2_with fail
   go_meet
   exact⟨by first | rfl | (rw [hd1,hd0];rfl),rfl⟩
 case rest =>
  obtain⟨hvc,hwx⟩:=hcut
  rw [hvc,hwx]
  clear hvc hwx k2 k6 k7 k8
  go_upto_region 3 with (go_at_call 47;refine hpath.mono ?_;rintro r w2 ⟨v7,rfl,hrow,hb2⟩;clear hpath)
  have hrow:RowI w2 W.heap.size v7 [(i:Int)]:=hrow
  obtain⟨g7,c7,rfl⟩:∃ g7 c7,v7=.slice (some ⟨g7,0,none⟩) 1 c7:=by
   rcases hrow.form (n:=1) rfl with ⟨_,h0⟩ | ⟨g5,c5,e,_⟩
   ·omega
   ·exact⟨_,_,e⟩
  have HR:=Lib.hid (And.intro hrow hb2)
  clear hrow hb2
  go_wp2_with fail
  go_loopw [8] (fun v8 wr=>(v8=.int .i64 0∧wr=w2)∨(v8=.int .i64 1∧Sx W A wr (PdX k (.slice (some ⟨g,0,none⟩) D.length cap) fl (D.set i { e with o:=wakeL e.o now e.tot }) (wakeF i F)))) (fun v8 _=>(1 - Go.RowKit.intOf v8).toNat)
  case atStart=>exact .inl ⟨rfl,rfl⟩
  case round =>
   rcases hrel with ⟨hv8,hwr⟩ | ⟨hv8,hs⟩
   rotate_left
   ·rw [hv8]
    have HS:=Lib.hid hs
    clear hs hv8
    go_wp2_with fail
    go_returns
    exact⟨rfl,HS.out.done⟩
   ·rw [hv8,hwr]
    clear hv8 hwr
    go_upto_region 6 with fail
    have hX2:=pdX_later H.out HR.out.2
    obtain⟨g',cp',hsl,_,hg2,d2,hrg2⟩:=hX2.at_ HE.out.1
    obtain⟨rfl,rfl⟩:g=g'∧cap=cp':=by cases hsl;exact⟨rfl,rfl⟩
    have d7:=HR.out.1.cellAt' (n:=1) rfl (j:=0) (x:=(i:Int)) rfl
    have o0:=fun e=>(over_cell (w:=w2) (e:=e) (o:=0) hX2.box.lt).trans d2
    have o7:=fun e=>(over_cell (w:=w2) (e:=e) (o:=0) d7.1).trans d7.2
    have hro:=fun e9=>(show (over w2 e9).rangeAt g (i*17) (dcC e) from fun j u hj=>(over_cell (w:=w2) (e:=e9) (o:=i*17+j) hg2).trans (hrg2 j u hj))
    have HRO:=Lib.hid hro
    clear hX2 hsl d7 d2 hrg2 d0 hro
    refine wp_region_midg (w:=w2) 11 1 [10] [] [(10,NewBox2 w2.heap.size 76 dcZ)] rfl (by kernel_rfl) (by kernel_rfl) (by kernel_rfl) (by kernel_rfl) (fun _ _ _ _ _ h=>h) ⟨fun v W1 W2 ⟨B,h1,h2,h3⟩ hb=>⟨B,h1,h2,h3.below hb h3.lt⟩,trivial⟩ ?_
    intro LL hL
    have HL:=Lib.hid hL
    clear hL
    simp only [List.take_succ_cons,List.take_zero,putL]
    iterate 11 (first | refine wpHead_skip (by decide) ?_ | (refine wpHead_step (by decide) (fun K hK=>?_);first | (refine quietR_load_mid rfl 76 _ rfl g (i*17) rfl (dcC e) _ HRO.out Tryz.underlying76 rfl (by kernel_rfl) ?_;refine hK _ ?_;clear hK K) | (go_simp;refine hK _ ?_;clear hK K)))
    refine wpHead_nil (HL.out _ ⟨?_,trivial⟩ ?_)
    ·intro vs W1 hb1 hf
     clear HL hf o0 o7
     change TStep _ _ _ (Act.put _ (some 9) (vs 10)) _ _
     refine tstep_yes (by kernel_rfl) ?_
     go_simp
     exact⟨(Below.refl _ _).alloc (Nat.le_refl _) _,_,rfl,hb1.size,Blk.new _ _ _⟩
    ·intro vs W1 hb1 hf
     have hf:=fits_cast (q:=NewBox2 w2.heap.size 76 dcZ (vs 10) W1∧True) hf (by kernel_rfl)
     clear HL
     change wpList _ _ _ _ (Act.put _ (some 9) (vs 10)) _
     refine Exists.elim hf.1 fun B hfB=>?_
     rw [hfB.1]
     have hBlo:=hfB.2.1
     have bN:=hfB.2.2
     clear hf hfB o0 o7 HRO
     simp only [List.drop_succ_cons,List.drop_zero,List.take_succ_cons,List.take_zero]
     refine wpList_store_mid rfl 76 _ _ rfl B 0 (dcC e).toArray rfl rfl (there_blk bN rfl) (by kernel_rfl) (dc_one e) ?_
     have h3:=sx_box (good_pdX _ _ _ _ _) H.out HR.out.2 hb1 bN hBlo (dcC e) (cs':=(dcC e).toArray) (ovr_dc e)
     have hb23:=hb1.grown (grown_setCells B (dcC e).toArray.toList 0 W1) hb1.size fun k9 e9=>by cases e9;exact hBlo
     have H3:=Lib.hid h3
     clear h3 hb1 bN hBlo
     generalize W1.setCells B 0 (dcC e).toArray.toList=W3 at H3 hb23 ⊢
     obtain⟨S3,hS3,-⟩:=H3.out.rest
     have hB3:=H3.out.box
     have c0:W3.cell? ⟨B,0,none⟩=some (.int .i64 (i:Int)):=by rw [← (HE.out.2.1.id i e HE.out.1).1];exact hB3.cell 0
     have haw:=pdaw_any (i:Int) hS3 HE.out.2.1 HE.out.2.2.2.2
     rw [HE2.out.2.2.2.1,Bool.and_false] at haw
     have HB3:=Lib.hid (And.intro hB3 hb23)
     clear hB3 hS3 hb23
     go_upto_region 7 with fail
     go_simp
     go_cut [74] from 47 to 90 (fun vc wx=>vc=.bool false∧Below W3.heap.size W3 wx)
     case first =>
      have hs:¬ e.s.s=(0,0,0):=of_decide_eq_false HE2.out.2.2.2.2
      have hcs:∀ w4,Below W3.heap.size W3 w4→w4.cell? ⟨B,6,none⟩=some (.int .u64 e.s.s.1)∧w4.cell? ⟨B,7,none⟩=some (.int .u64 e.s.s.2.1)∧w4.cell? ⟨B,8,none⟩=some (.int .u64 e.s.s.2.2):=fun w4 hb=>by
       have h9:=HB3.out.1.below hb HB3.out.1.lt
       exact⟨h9.cell 6,h9.cell 7,h9.cell 8⟩
      obtain⟨⟨s1,s2,s3⟩,hq⟩:∃ x,e.s.s=x:=⟨_,rfl⟩
      rw [hq] at hs hcs
      dsimp only at hcs
      have HCS:=Lib.hid hcs
      have hs3:¬ (s1=0∧s2=0∧s3=0):=fun h=>hs (by rw [h.1,h.2.1,h.2.2])
      clear hs hq hcs
      by_cases e1:s1=0
      ·have e1b:(s1 == 0)=true:=by simpa using e1
       by_cases e2:s2=0
       ·have e3:¬ s3=0:=fun h=>hs3 ⟨e1,e2,h⟩
        have e2b:(s2 == 0)=true:=by simpa using e2
        have e3b:(s3 == 0)=false:=by simpa using e3
        clear hs3 e1 e2 e3
        go_wp2_with (go_at_call 48;refine haw.mono ?_;rintro r w4 ⟨rfl,hb4⟩;obtain⟨c6,c7,c8⟩:=HCS.out _ hb4;have HB4:=Lib.hid hb4;clear hb4 haw)
        go_meet
        exact⟨rfl,HB4.out⟩
       ·have e2b:(s2 == 0)=false:=by simpa using e2
        clear hs3 e1 e2
        go_wp2_with (go_at_call 48;refine haw.mono ?_;rintro r w4 ⟨rfl,hb4⟩;obtain⟨c6,c7,c8⟩:=HCS.out _ hb4;have HB4:=Lib.hid hb4;clear hb4 haw)
        go_meet
        exact⟨rfl,HB4.out⟩
      ·have e1b:(s1 == 0)=false:=by simpa using e1
       clear hs3 e1
       go_wp2_with (go_at_call 48;refine haw.mono ?_;rintro r w4 ⟨rfl,hb4⟩;obtain⟨c6,c7,c8⟩:=HCS.out _ hb4;have HB4:=Lib.hid hb4;clear hb4 haw)
       go_meet
       exact⟨rfl,HB4.out⟩
     case rest =>
      obtain⟨hvc,hbc⟩:=hcut
      rw [hvc]
      clear hvc c0 haw
      have h4:=H3.out.later ((good_box _ _ _).star (good_pdX _ _ _ _ _)) hbc
      have hb24:=HB3.out.2.trans (hbc.mono HB3.out.2.size)
      have d7:=(HR.out.1.later hb24).cellAt' (n:=1) rfl (j:=0) (x:=(i:Int)) rfl
      have hBc:=HB3.out.1.below hbc HB3.out.1.lt
      have c0:wc.cell? ⟨B,0,none⟩=some (.int .i64 (i:Int)):=by rw [← (HE.out.2.1.id i e HE.out.1).1];exact hBc.cell 0
      obtain⟨S4,hS4,-⟩:=h4.rest
      have hfam:=fun e9=>pdfam_any hi (pdX_over hS4 e9) HE.out.2.1
      have HFM:=Lib.hid hfam
      have o0:=fun e9=>(over_cell (w:=wc) (e:=e9) (o:=0) d7.1).trans d7.2
      have o1:=fun e9=>(over_cell (w:=wc) (e:=e9) (o:=0) hBc.lt).trans c0
      have H4:=Lib.hid h4
      clear h4 hb24 d7 hBc c0 hS4 hfam hbc
      go_upto_region 8 with fail
      refine wp_region_over_tail 9 (by kernel_rfl) (by kernel_rfl) ?_
      simp only [List.take_succ_cons,List.take_zero,List.drop_succ_cons,List.drop_zero]
      repeat (first | go_big_quiet_skip | (go_big_quiet_want;go_big_quiet_op;first | go_big_quiet_on | (apply Exists.intro;refine⟨fun e9=>?_,?_⟩;(focus (go_at_call 49;with_reducible exact calls_over (HFM.out e9)));go_big_quiet_on)))
      refine wpQuiet_nil ?_
      rintro W5 ⟨e9,rfl⟩
      have h5:=H4.out.later ((good_box _ _ _).star (good_pdX _ _ _ _ _)) (over_below wc e9)
      have H5:=Lib.hid h5
      clear h5 o0 o1
      generalize over wc e9=W5 at H5 ⊢
      have hwk:=Sx.famAct (good_box _ _ _) H5.out (wakeD_any (i:Int) HE.out.2.2.1 HE.out.2.2.2.1 HE.out.2.2.2.2)
      have HWK:=Lib.hid hwk
      clear hwk
      go_upto_region 9 with (go_at_call 50;refine HWK.out.mono ?_;rintro r w6 ⟨rfl,h6⟩;have H6:=Lib.hid h6;clear h6)
      have c14:w6.cell? ⟨B,14,none⟩=some (.int .u64 e.tot):=H6.out.box.cell 14
      have c15:w6.cell? ⟨B,15,none⟩=some (.pointer (some ⟨e.q,0,none⟩)):=H6.out.box.cell 15
      have hlm:=H6.out.limAct HE.out.1 (rl_wake (o:=e.o) now e.tot HE2.out.1 HE2.out.2.1 HE2.out.2.2.1)
      have HLM:=Lib.hid hlm
      clear hlm
      go_wp2_with (go_at_call 51;refine HLM.out.mono ?_;rintro r w7 ⟨rfl,h7⟩;have H7:=Lib.hid h7;clear h7)
      go_roundw
      case measure=>(simp [Go.RowKit.intOf];try omega)
      case rel=>exact .inr ⟨rfl,H7.out.rest⟩
end
end
section
open Go.RowKit Go.Maps
attribute [local go_sem ↓] Go.wp_at_zero Go.wp_at_succ
attribute [local go_sem] quietR quietAtR quietUponR midAt midUpon
def PathO (v:Value)(i:Int):Ob:=fun W S=>RowI W 0 v [i]∧∀ b,S b↔v.ownBlock=some b
theorem good_path (v:Value)(i:Int):Good (PathO v i) :=
 ⟨fun ⟨h,hS⟩ b hb=>(h.lt b ((hS b).1 hb)).2,fun ⟨h,hS⟩ _ hk=>⟨owns_heapH h fun b hb=>hk b ((hS b).2 hb),hS⟩⟩
theorem Sx.boxed {w0 w2 W1:World} {A:Nat→Prop} {P:Ob} {B:Nat} {t:TypeId} {cs cs':Array Value} (hP:Good P)(h:Sx w0 A w2 P)(h1:Below w2.heap.size w2 W1)(hB:Blk W1 B t cs)(hlo:w2.heap.size≤B)(vs:List Value)(he:ovr cs 0 vs=cs'):Sx w0 A (W1.setCells B 0 vs) (Star (BoxO B t cs') P):=by
 have hb:=blk_setCells vs 0 hB
 rw [he] at hb
 refine h.made (S:=fun b=>b=B) hP (good_box _ _ _) (h1.grown (grown_setCells B vs 0 W1) h1.size fun k e=>by cases e;exact hlo) ⟨hb,fun b=>Iff.rfl⟩ fun b hb=>by rw [hb];exact hlo
section
variable {w0 W : World} {k fl g cap g7 c7 : Nat} {A : Nat → Prop} {v : Value} {D : List DC} {F : Fam} {S : Nat → Prop} {n : Int} {i : Nat} {e : DC}
structure RdD (W:World)(k g g7 i:Nat)(D:List DC)(cap:Nat)(e:DC):Prop where
 k0:W.cell? ⟨k,0,none⟩=some (.slice (some ⟨g,0,none⟩) D.length cap)
 kl:k < W.heap.size
 gl:g < W.heap.size
 cells:∀ c,c < 17→W.cell? ⟨g,i*17+c,none⟩=(dcC e)[c]?
 fro:∀ j,W.frozen? ⟨g,j,none⟩=false
 p0:W.cell? ⟨g7,0,none⟩=some (.int .i64 i)
 pl:g7 < W.heap.size
theorem Sx.rd (h:Sx w0 A W (Star (PathO (.slice (some ⟨g7,0,none⟩) 1 c7) i) (PdX k (.slice (some ⟨g,0,none⟩) D.length cap) fl D F)))(he:D[i]?=some e):RdD W k g g7 i D cap e:=by
 obtain⟨S1,h1⟩:=h.first
 obtain⟨S2,h2,-⟩:=h.rest
 obtain⟨g',cp',hsl,_,hg,hc,hf⟩:=h2.cells he
 obtain⟨rfl,rfl⟩:g=g'∧cap=cp':=by cases hsl;exact⟨rfl,rfl⟩
 have h3:=h1.1.cellAt' (n:=1) rfl (j:=0) (x:=(i:Int)) rfl
 exact⟨by have:=h2.box.cell 0;simpa using this,h2.box.lt,hg,hc,hf,h3.2,h3.1⟩
theorem Sx.laterD {W':World} (h:Sx w0 A W (Star (PathO v n) (PdX k (.slice (some ⟨g,0,none⟩) D.length cap) fl D F)))(hb:Below W.heap.size W W'):Sx w0 A W' (Star (PathO v n) (PdX k (.slice (some ⟨g,0,none⟩) D.length cap) fl D F)) :=
 h.later ((good_path _ _).star (good_pdX _ _ _ _ _)) hb
theorem Sx.totD {X:Ob} (hX:Good X)(h:Sx w0 A W (Star X (PdX k (.slice (some ⟨g,0,none⟩) D.length cap) fl D F)))(he:D[i]?=some e)(x:Int) :
  Sx w0 A (W.setCell ⟨g,i*17+14,none⟩ (.int .u64 x)) (Star X (PdX k (.slice (some ⟨g,0,none⟩) D.length cap) fl (D.set i { e with tot:=x }) F)):=by
 have h1:Sx w0 A W (Star (DcR (.slice (some ⟨g,0,none⟩) D.length cap) D) (Star X (Star (BoxO k 79 #[.slice (some ⟨g,0,none⟩) D.length cap]) (Star (FamD fl F) (StarL (fun e:DC=>RLO e.q e.o) D))))) :=
  (h.weak fun h2=>h2.under Star.swap).swap
 have h2:=h1.setR (e':={ e with tot:=x }) dcC_len (hX.star ((good_box _ _ _).star ((good_famD _ _).star (good_lims _)))) he (c:=14) (by decide) (u:=.int .u64 x) rfl
 refine h2.swap.weak fun h3=>h3.under fun h4=>(Star.swap h4).under fun h5=>h5.under fun h6=>h6.under fun h7=>(starL_same he ?_).1 h7
 rfl
theorem Sx.famAct0 {φ:Ending→Prop} {fn:FuncId} {args:Array Value} {prog:Program} {F':Fam} (h:Sx w0 A W (PdX k v fl D F))(ha:Acts φ (FamD fl F) (FamD fl F') fn args prog W):Calls prog fn args W fun e W'=>φ e∧Sx w0 A W' (PdX k v fl D F'):=by
 have h1:Sx w0 A W (Star (FamD fl F) (Star (BoxO k 79 #[v]) (Star (DcR v D) (StarL (fun e:DC=>RLO e.q e.o) D)))):=(h.weak fun h3=>h3.under Star.swap).swap
 refine (h1.act (good_famD _ _) ((good_box _ _ _).star (good_rec.star (good_lims _))) ha).mono fun e W' ⟨h2,h3⟩=>⟨h2,?_⟩
 exact h3.swap.weak fun h4=>h4.under Star.swap
theorem gainD_any {f:Nat} (id n:Int)(hn:U n)(hN:FamN F)(hR:Rising F.m) :
  Acts (fun e=>e=.returned (.tuple #[])) (FamD f F) (FamD f (gainF reachR id n F)) 60 #[.pointer (some ⟨f,0,none⟩),.int .i64 id,.int .u64 n] Tryz.prog W:=fun A ⟨v,rs,h⟩ =>
 (fdgain_any id n hn hN hR A h).mono fun e W' ⟨h1,A',h2,h3⟩=>⟨h1,A',⟨v,rs,h2⟩,h3⟩
theorem sleepD_any {f:Nat} (id:Int)(hR:Rising F.m)(hl:F.m.length≤1000) :
  Acts (fun e=>e=.returned (.tuple #[])) (FamD f F) (FamD f (sleepF id F)) 61 #[.pointer (some ⟨f,0,none⟩),.int .i64 id] Tryz.prog W:=fun A ⟨v,rs,h⟩ =>
 (fdsleep_any id hR (by omega) A h).mono fun e W' ⟨h1,A',h2,h3⟩=>⟨h1,A',⟨v,rs,h2⟩,h3⟩
theorem flatD_set {o:Option Rn} {x:Int} (h:FlatD D fl)(he:D[i]?=some e):FlatD (D.set i { e with tot:=x,o:=o }) fl:=by
 have key:∀ (j:Nat) c,(D.set i { e with tot:=x,o:=o })[j]?=some c→∃ c',D[j]?=some c'∧c.s=c'.s∧c.f=c'.f:=fun j c hc=>by
  by_cases hj:j=i
  ·subst hj
   rw [set_at he] at hc
   cases hc
   exact⟨e,he,rfl,rfl⟩
  ·rw [List.getElem?_set_ne (fun h=>hj h.symm)] at hc
   exact⟨c,hc,rfl,rfl⟩
 refine⟨?_,fun j c hc=>?_,fun j c hc h0=>?_,by rw [List.length_set];exact h.few⟩
 ·obtain⟨e0,h0,h1,h2⟩:=h.zero
  have hl:=(List.getElem?_eq_some_iff.1 h0).1
  obtain⟨c,hc⟩:∃ c,(D.set i { e with tot:=x,o:=o })[0]?=some c:=⟨_,List.getElem?_eq_getElem (by rw [List.length_set];exact hl)⟩
  obtain⟨c',hc',k1,k2⟩:=key 0 c hc
  rw [h0] at hc'
  cases hc'
  exact⟨c,hc,k2.trans h1,by rw [k1];exact h2⟩
 ·obtain⟨c',hc',k1,_⟩:=key j c hc
  rw [k1];exact h.id j c' hc'
 ·obtain⟨c',hc',k1,_⟩:=key j c hc
  rw [k1];exact h.lf j c' hc' h0
theorem pdsent_any (n:Int)(more:Bool)(hn:U n)(h1:1≤i)(he:D[i]?=some e)(hF:FlatD D fl)(hN:FamN F)(hR:Rising F.m)(hl:F.m.length≤1000)(ht:0≤e.tot∧e.tot≤4611686018427387904)
  (hR1:Rising (gainF reachR i n F).m) (hl1:(gainF reachR i n F).m.length≤1000) (haw:fawF (gainF reachR i n F) i=true) :
  Acts (fun r=>r=.returned (.tuple #[])) (PdX k v fl D F) (PdX k v fl (D.set i { e with tot:=e.tot+min n (capC - e.tot) }) (if more=true then gainF reachR i n F else sleepF i (gainF reachR i n F))) 16 #[.pointer (some ⟨k,0,none⟩),.int .i64 i,.int .u64 n,.bool more] Tryz.prog W:=fun A h=>by
 have hi:=(List.getElem?_eq_some_iff.1 he).1
 have hat:=pdat_any (i:Int) h hF
 rw [posD_at hi rfl] at hat
 have hlf:=hF.lf i e he (by omega)
 obtain⟨g,cap,rfl,hcap,hg,d0,hrg⟩:=h.at_ he
 have k2:W.cell? ⟨g,i*17+2,none⟩=some (.bool true):=by rw [← hlf];exact hrg 2 _ rfl
 have hpath:=pdpath_any h1 hi h hF
 obtain⟨F1,hF1⟩:∃ F1,gainF reachR i n F=F1:=⟨_,rfl⟩
 obtain⟨t',ht'⟩:∃ t',e.tot+min n (capC - e.tot)=t':=⟨_,rfl⟩
 have hga:=fun W (f:Nat)=>gainD_any (W:=W) (f:=f) (i:Int) n hn hN hR
 rw [hF1] at hR1 hl1 haw hga ⊢
 rw [ht']
 obtain⟨F2,hF2⟩:∃ F2,(if more=true then F1 else sleepF i F1)=F2:=⟨_,rfl⟩
 rw [hF2]
 have hFx:=flatD_set (o:=e.o) (x:=t') hF he
 have H:=Lib.hid h
 have HE:=Lib.hid (And.intro he (And.intro hF (And.intro hFx (And.intro hR1 (And.intro hl1 haw)))))
 have HG:=Lib.hid hga
 have HF2:=Lib.hid hF2
 have HT:=Lib.hid (And.intro ht' ht)
 obtain⟨n0,n1⟩:=hn
 have hi1:¬ (i:Int) < 1:=by omega
 have hi0:¬ (i:Int) < 0:=by omega
 clear h hF hN hR hl hlf hrg hR1 hl1 haw hFx hga hF2 hF1 ht'
 go_enter Tryz.func16,Tryz.ntmps16
 go_upto_region 3 with (first
  | (go_at_call 38;refine hat.mono ?_;rintro r w1 ⟨rfl,rfl⟩;clear hat)
  | (go_at_call 47;refine hpath.mono ?_;rintro r w2 ⟨v7,rfl,hrow,hb2⟩;clear hpath))
 clear d0 k2
 have hrow:RowI w2 W.heap.size v7 [(i:Int)]:=hrow
 obtain⟨g7,c7,rfl⟩:∃ g7 c7,v7=.slice (some ⟨g7,0,none⟩) 1 c7:=by
  rcases hrow.form (n:=1) rfl with ⟨_,h0⟩ | ⟨g5,c5,e,_⟩
  ·omega
  ·exact⟨_,_,e⟩
 have hs0:=(Sx.start (P:=PdX k (.slice (some ⟨g,0,none⟩) D.length cap) fl D F) H.out).made (Q:=PathO (.slice (some ⟨g7,0,none⟩) 1 c7) i) (good_pdX _ _ _ _ _) (good_path _ _) hb2 (S:=fun b=>(Value.slice (some ⟨g7,0,none⟩) 1 c7).ownBlock=some b) ⟨⟨hrow.1,hrow.2.imp id fun ⟨a1,a2,a3,a4,a5,a6⟩=>⟨a1,a2,a3,a4,Nat.zero_le _,a6⟩⟩,fun b=>Iff.rfl⟩ fun b hb=>(hrow.lt b hb).1
 have HS:=Lib.hid hs0
 clear hs0 hrow hb2
 go_wp2_with fail
 go_loopw [10] (fun v10 wr=>(v10=.int .i64 0∧wr=w2)∨(v10=.int .i64 1∧Sx W A wr (Star (PathO (.slice (some ⟨g7,0,none⟩) 1 c7) i) (PdX k (.slice (some ⟨g,0,none⟩) D.length cap) fl (D.set i { e with tot:=t' }) F1)))) (fun v10 _=>(1 - Go.RowKit.intOf v10).toNat)
 case atStart=>exact .inl ⟨rfl,rfl⟩
 case round =>
  rcases hrel with ⟨hv10,hwr⟩ | ⟨hv10,hs⟩
  ·rw [hv10,hwr]
   clear hv10 hwr
   have HRD:=Lib.hid (HS.out.rd HE.out.1)
   obtain⟨k0,kl,gl,kc,kf,p0,pl⟩:=HRD.out
   have k14:w2.cell? ⟨g,i*17+14,none⟩=some (.int .u64 e.tot):=kc 14 (by decide)
   have o0:=fun e9=>(over_cell (w:=w2) (e:=e9) (o:=0) kl).trans k0
   have o7:=fun e9=>(over_cell (w:=w2) (e:=e9) (o:=0) pl).trans p0
   have o14:=fun e9=>(over_cell (w:=w2) (e:=e9) (o:=i*17+14) gl).trans k14
   have hsb1:(0:Int)≤4611686018427387904 - e.tot:=by have:=HT.out.2;omega
   have hsb2:4611686018427387904 - e.tot < 18446744073709551616:=by have:=HT.out.2;omega
   clear kc kf k0 p0 k14
   go_upto_region 6 with fail
   refine wp_region_over (by kernel_rfl) (by kernel_rfl) ?_
   repeat (first | go_big_quiet_skip | (go_big_quiet_want;go_big_quiet_op;go_big_quiet_on))
   refine wpQuiet_nil ?_
   rintro w3 ⟨e9,rfl⟩
   have h3:=HS.out.laterD (over_below w2 e9)
   have H3:=Lib.hid h3
   clear h3 o0 o7 o14 kl gl pl HRD
   generalize over w2 e9=w3 at H3 ⊢
   go_upto_if 56 with fail
   go_cut [] from 37 to 109 (fun wx=>Sx W A wx (Star (PathO (.slice (some ⟨g7,0,none⟩) 1 c7) i) (PdX k (.slice (some ⟨g,0,none⟩) D.length cap) fl (D.set i { e with tot:=t' }) F)))
   case first =>
    have HRD:=Lib.hid (H3.out.rd HE.out.1)
    obtain⟨k0,kl,gl,kc,kf,p0,pl⟩:=HRD.out
    have k14:w3.cell? ⟨g,i*17+14,none⟩=some (.int .u64 e.tot):=kc 14 (by decide)
    have o0:=fun e9=>(over_cell (w:=w3) (e:=e9) (o:=0) kl).trans k0
    have o7:=fun e9=>(over_cell (w:=w3) (e:=e9) (o:=0) pl).trans p0
    have o14:=fun e9=>(over_cell (w:=w3) (e:=e9) (o:=i*17+14) gl).trans k14
    have z14:=fun e9=>(over_frozen (w:=w3) (e:=e9) (o:=i*17+14) gl).trans (kf _)
    have ht9:=HT.out.1
    unfold capC at ht9
    clear kc kf k0 p0 k14
    by_cases hc:4611686018427387904 - e.tot < n
    ·obtain rfl:t'=4611686018427387904:=by omega
     clear ht9
     go_upto_region 7 with fail
     refine wp_region_over_tail 10 (by kernel_rfl) (by kernel_rfl) ?_
     simp only [List.take_succ_cons,List.take_zero,List.drop_succ_cons,List.drop_zero]
     repeat (first | go_big_quiet_skip | (go_big_quiet_want;go_big_quiet_op;go_big_quiet_on))
     refine wpQuiet_nil ?_
     rintro w4 ⟨e9,rfl⟩
     have x14:=o14 e9
     have y14:=z14 e9
     have h4:=(H3.out.laterD (over_below w3 e9)).totD (good_path _ _) HE.out.1 4611686018427387904
     have H4:=Lib.hid h4
     clear h4 o0 o7 o14 z14
     generalize over w3 e9=w4 at H4 x14 y14 ⊢
     go_wp2_with fail
     go_meet
     exact H4.out
    ·obtain rfl:t'=e.tot+n:=by omega
     have hwr:IntKind.u64.wrap (e.tot+n)=e.tot+n:=IntWalk.u64_in _ (by have:=HT.out.2;omega)
     clear ht9
     go_upto_region 8 with fail
     refine wp_region_over_tail 23 (by kernel_rfl) (by kernel_rfl) ?_
     simp only [List.take_succ_cons,List.take_zero,List.drop_succ_cons,List.drop_zero]
     repeat (first | go_big_quiet_skip | (go_big_quiet_want;go_big_quiet_op;go_big_quiet_on))
     refine wpQuiet_nil ?_
     rintro w4 ⟨e9,rfl⟩
     have x14:=o14 e9
     have y14:=z14 e9
     have h4:=(H3.out.laterD (over_below w3 e9)).totD (good_path _ _) HE.out.1 (e.tot+n)
     have H4:=Lib.hid h4
     clear h4 o0 o7 o14 z14
     generalize over w3 e9=w4 at H4 x14 y14 ⊢
     go_wp2_with fail
     go_meet
     exact H4.out
   case rest =>
    have HC:=Lib.hid hcut
    clear hcut H3
    have he1:=set_at (b:=({ e with tot:=t' }:DC)) HE.out.1
    have HE1:=Lib.hid he1
    have hlen1:(D.set i { e with tot:=t' }).length=D.length:=List.length_set
    have hrd:RdD wc k g g7 i (D.set i { e with tot:=t' }) cap { e with tot:=t' }:=by
     have h9:=HC.out
     rw [← hlen1] at h9
     exact h9.rd he1
    obtain⟨k0,kl,gl,kc,kf,p0,pl⟩:=hrd
    rw [hlen1] at k0
    have q0:wc.cell? ⟨g,i*17,none⟩=some (.int .i64 (i:Int)):=by rw [← (HE.out.2.1.id i e HE.out.1).1];exact kc 0 (by decide)
    have o0:=fun e9=>(over_cell (w:=wc) (e:=e9) (o:=0) kl).trans k0
    have o7:=fun e9=>(over_cell (w:=wc) (e:=e9) (o:=0) pl).trans p0
    have o1:=fun e9=>(over_cell (w:=wc) (e:=e9) (o:=i*17) gl).trans q0
    obtain⟨S4,hS4,-⟩:=HC.out.rest
    have hfam:=fun e9=>pdfam_any (D:=D.set i { e with tot:=t' }) (i:=i) (by rw [hlen1];exact hi) (pdX_over hS4 e9) HE.out.2.2.1
    have HFM:=Lib.hid hfam
    clear kc kf k0 p0 q0 hS4 hfam he1 hlen1 kl gl pl
    go_upto_region 9 with fail
    refine wp_region_over_tail 19 (by kernel_rfl) (by kernel_rfl) ?_
    simp only [List.take_succ_cons,List.take_zero,List.drop_succ_cons,List.drop_zero]
    repeat (first | go_big_quiet_skip | (go_big_quiet_want;go_big_quiet_op;first | go_big_quiet_on | (apply Exists.intro;refine⟨fun e9=>?_,?_⟩;(focus (go_at_call 49;with_reducible exact calls_over (HFM.out e9)));go_big_quiet_on)))
    refine wpQuiet_nil ?_
    rintro W5 ⟨e9,rfl⟩
    have h5:=HC.out.later ((good_path _ _).star (good_pdX _ _ _ _ _)) (over_below wc e9)
    have H5:=Lib.hid h5
    clear h5 o0 o1 o7
    generalize over wc e9=W5 at H5 ⊢
    have hga:=Sx.famAct (good_path _ _) H5.out (HG.out W5 fl)
    have HGA:=Lib.hid hga
    clear hga
    go_wp2_with (go_at_call 60;refine HGA.out.mono ?_;rintro r w6 ⟨rfl,h6⟩;have H6:=Lib.hid h6;clear h6)
    go_roundw
    case measure=>(simp [Go.RowKit.intOf];try omega)
    case rel=>exact .inr ⟨rfl,H6.out⟩
  ·rw [hv10]
   have HS1:=Lib.hid hs
   clear hs hv10 HS
   have hlen1:(D.set i { e with tot:=t' }).length=D.length:=List.length_set
   have he1:=set_at (b:=({ e with tot:=t' }:DC)) HE.out.1
   have HE1:=Lib.hid (And.intro he1 hlen1)
   obtain⟨S4,hS4,-⟩:=HS1.out.rest
   have haw:=pdaw_any (i:Int) hS4 HE.out.2.2.1 HE.out.2.2.2.2.1
   rw [HE.out.2.2.2.2.2,show isD (D.set i { e with tot:=t' }) (i:Int)=true by unfold isD;rw [hlen1,decide_eq_true (show (1:Int)≤i by omega),decide_eq_true (show (i:Int) < D.length by omega)];rfl] at haw
   clear hS4 hlen1 he1
   cases more with
   | true =>
    have hf:=HF2.out
    rw [if_pos rfl] at hf
    clear haw
    go_wp2_with fail
    go_returns
    rw [← hf]
    exact⟨rfl,HS1.out.rest.done⟩
   | false =>
    have hf:=HF2.out
    rw [if_neg (by decide)] at hf
    go_upto_region 11 with (go_at_call 48;refine haw.mono ?_;rintro r w7 ⟨rfl,hb7⟩;have h7:=HS1.out.later ((good_path _ _).star (good_pdX _ _ _ _ _)) hb7;have H7:=Lib.hid h7;clear h7 hb7 haw)
    clear HS1
    go_wp2_with fail
    go_loopw [11] (fun v11 wr=>(v11=.int .i64 0∧wr=w7)∨(v11=.int .i64 1∧Sx W A wr (PdX k (.slice (some ⟨g,0,none⟩) D.length cap) fl (D.set i { e with tot:=t' }) F2))) (fun v11 _=>(1 - Go.RowKit.intOf v11).toNat)
    case atStart=>exact .inl ⟨rfl,rfl⟩
    case round =>
     rcases hrel with ⟨hv11,hwr⟩ | ⟨hv11,hs⟩
     rotate_left
     ·rw [hv11]
      have HS:=Lib.hid hs
      clear hs hv11
      go_wp2_with fail
      go_returns
      exact⟨rfl,HS.out.done⟩
     ·rw [hv11,hwr]
      clear hv11 hwr
      have hrd:RdD w7 k g g7 i (D.set i { e with tot:=t' }) cap { e with tot:=t' }:=by
       have h9:=H7.out
       rw [← HE1.out.2] at h9
       exact h9.rd HE1.out.1
      obtain⟨k0,kl,gl,kc,kf,p0,pl⟩:=hrd
      rw [HE1.out.2] at k0
      have o0:=fun e9=>(over_cell (w:=w7) (e:=e9) (o:=0) kl).trans k0
      have o7:=fun e9=>(over_cell (w:=w7) (e:=e9) (o:=0) pl).trans p0
      have hro:=fun e9=>(show (over w7 e9).rangeAt g (i*17) (dcC { e with tot:=t' }) from fun j u hj=>(over_cell (w:=w7) (e:=e9) (o:=i*17+j) gl).trans ((kc j (by have:=(List.getElem?_eq_some_iff.1 hj).1;rwa [dcC_len] at this)).trans hj))
      have HRO:=Lib.hid hro
      clear kc kf k0 p0 hro kl gl pl
      obtain⟨e2,he2⟩:∃ e2:DC,e2={ e with tot:=t' }:=⟨_,rfl⟩
      rw [← he2] at HRO
      have HE2:=Lib.hid he2
      clear he2
      go_upto_region 14 with fail
      refine wp_region_midg (w:=w7) 11 1 [10] [] [(10,NewBox2 w7.heap.size 76 dcZ)] rfl (by kernel_rfl) (by kernel_rfl) (by kernel_rfl) (by kernel_rfl) (fun _ _ _ _ _ h=>h) ⟨fun v W1 W2 ⟨B,h1,h2,h3⟩ hb=>⟨B,h1,h2,h3.below hb h3.lt⟩,trivial⟩ ?_
      intro LL hL
      have HL:=Lib.hid hL
      clear hL
      simp only [List.take_succ_cons,List.take_zero,putL]
      iterate 11 (first | refine wpHead_skip (by decide) ?_ | (refine wpHead_step (by decide) (fun K hK=>?_);first | (refine quietR_load_mid rfl 76 _ rfl g (i*17) rfl (dcC e2) _ HRO.out Tryz.underlying76 rfl (by kernel_rfl) ?_;refine hK _ ?_;clear hK K) | (go_simp;refine hK _ ?_;clear hK K)))
      refine wpHead_nil (HL.out _ ⟨?_,trivial⟩ ?_)
      ·intro vs W1 hb1 hf
       clear HL hf o0 o7
       change TStep _ _ _ (Act.put _ (some 12) (vs 10)) _ _
       refine tstep_yes (by kernel_rfl) ?_
       go_simp
       exact⟨(Below.refl _ _).alloc (Nat.le_refl _) _,_,rfl,hb1.size,Blk.new _ _ _⟩
      ·intro vs W1 hb1 hf
       have hf:=fits_cast (q:=NewBox2 w7.heap.size 76 dcZ (vs 10) W1∧True) hf (by kernel_rfl)
       clear HL
       change wpList _ _ _ _ (Act.put _ (some 12) (vs 10)) _
       refine Exists.elim hf.1 fun B hfB=>?_
       rw [hfB.1]
       have hBlo:=hfB.2.1
       have bN:=hfB.2.2
       clear hf hfB o0 o7 HRO
       simp only [List.drop_succ_cons,List.drop_zero,List.take_succ_cons,List.take_zero]
       refine wpList_store_mid rfl 76 _ _ rfl B 0 (dcC e2).toArray rfl rfl (there_blk bN rfl) (by kernel_rfl) (dc_one e2) ?_
       have h3:=Sx.boxed ((good_path _ _).star (good_pdX _ _ _ _ _)) H7.out hb1 bN hBlo (dcC e2) (cs':=(dcC e2).toArray) (ovr_dc e2)
       have H3:=Lib.hid h3
       clear h3 hb1 bN hBlo
       generalize W1.setCells B 0 (dcC e2).toArray.toList=W3 at H3 ⊢
       have hB3:=H3.out.box
       have c0:W3.cell? ⟨B,0,none⟩=some (.int .i64 (i:Int)):=by
        have h9:=hB3.cell 0
        rw [HE2.out] at h9
        rw [← (HE.out.2.1.id i e HE.out.1).1];exact h9
       have c2:W3.cell? ⟨B,2,none⟩=some (.bool true):=by
        have h9:=hB3.cell 2
        rw [HE2.out] at h9
        rw [← HE.out.2.1.lf i e HE.out.1 (by omega)];exact h9
       have o1:=fun e9=>(over_cell (w:=W3) (e:=e9) (o:=0) hB3.lt).trans c0
       obtain⟨S5,hS5⟩:=H3.out.rest.first
       obtain⟨S6,hS6,-⟩:=H3.out.rest.rest
       have p0:=hS5.1.cellAt' (n:=1) rfl (j:=0) (x:=(i:Int)) rfl
       have o7:=fun e9=>(over_cell (w:=W3) (e:=e9) (o:=0) p0.1).trans p0.2
       have hfam:=fun e9=>pdfam_any (D:=D.set i { e with tot:=t' }) (i:=i) (by rw [HE1.out.2];exact hi) (pdX_over hS6 e9) HE.out.2.2.1
       have HFM:=Lib.hid hfam
       clear hB3 hS5 hS6 p0 hfam c0
       go_upto_region 16 with fail
       refine wp_region_over_tail 9 (by kernel_rfl) (by kernel_rfl) ?_
       simp only [List.take_succ_cons,List.take_zero,List.drop_succ_cons,List.drop_zero]
       repeat (first | go_big_quiet_skip | (go_big_quiet_want;go_big_quiet_op;first | go_big_quiet_on | (apply Exists.intro;refine⟨fun e9=>?_,?_⟩;(focus (go_at_call 49;with_reducible exact calls_over (HFM.out e9)));go_big_quiet_on)))
       refine wpQuiet_nil ?_
       rintro W5 ⟨e9,rfl⟩
       have h5:=(H3.out.rest.rest).later (good_pdX _ _ _ _ _) (over_below W3 e9)
       have H5:=Lib.hid h5
       clear h5 o1 o7 c2
       generalize over W3 e9=W5 at H5 ⊢
       have hsl:=H5.out.famAct0 (sleepD_any (W:=W5) (f:=fl) (i:Int) HE.out.2.2.2.1 HE.out.2.2.2.2.1)
       have HSL:=Lib.hid hsl
       clear hsl
       go_wp2_with (go_at_call 61;refine HSL.out.mono ?_;rintro r w6 ⟨rfl,h6⟩;have H6:=Lib.hid h6;clear h6)
       go_roundw
       case measure=>(simp [Go.RowKit.intOf];try omega)
       case rel=>exact .inr ⟨rfl,by have h9:=HF2.out;rw [if_neg (by decide)] at h9;rw [← h9];exact H6.out⟩
end
end
end Go.Proofs.YtmmeopjemkjllaaGreat
