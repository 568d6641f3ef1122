/- Lemmas of the claim. No conditions beyond those that each states. -/
import Derived.Test.YtmmeopjemkjllaaGreatPU39
set_option linter.unusedVariables false
set_option linter.unusedSimpArgs false
set_option maxRecDepth 100000
set_option maxHeartbeats 8000000
namespace Go.Proofs.YtmmeopjemkjllaaGreat
section
open Go.RowKit Go.Maps
attribute [local go_sem ↓] Go.wp_at_zero Go.wp_at_succ
attribute [local go_sem] quietR quietAtR quietUponR midAt midUpon
attribute [local irreducible] TStep HStep
theorem app_rec {α:Type} (oty t ty:TypeId)(i:TypeInfo)(z:Value)(sz bytes:Nat)(ht:Tryz.prog.underlying t=some (.slice ty))(hi:Tryz.prog.info? ty=some i)(hz:i.zero=some z)(hsize:i.size=sz)(hby:i.bytes=bytes)(hzs:z.cells.size=sz)(hsz:0 < sz)(hbt:bytes≤1000)
  {f:α→List Value} (hf:∀ a,(f a).length=sz) {L:List α} {e:α} {v:Value} {b:Nat} {cs:Array Value} {w:World}
  (hown:w.ownsRow 0 ty sz v L.length (recC f L)) (hB:Blk w b ty cs) (hc:cs.toList=f e) (h1:∀ u∈f e,u.oneCell'=true) (hl:L.length≤1000000) {n:Nat} (hn:L.length+1=n) :
  ∃ a2 c2 w',(Builtin.append_ #[t,t] oty #[v,.slice (some ⟨b,0,none⟩) 1 1]).run Tryz.prog w=.ok (.slice a2 n c2) w'∧w'.ownsRow 0 ty sz (.slice a2 n c2) (L ++ [e]).length (recC f (L ++ [e]))∧w.grownBy w' v.ownBlock∧((Value.slice a2 n c2).ownBlock=v.ownBlock∨(Value.slice a2 n c2).ownBlock=some w.heap.size):=by
 obtain⟨v',w',hr,h2,hg,_,hat⟩:=run_append_own_at (P:=Tryz.prog) w 0 t oty ty i z sz bytes ht hi hz hsize hby hzs hsz v L.length _ hown ⟨b,0,none⟩ 1 1 (f e) (by rw [hf,Nat.one_mul]) (fun j u hj=>by
  rw [Addr.add_lit,Nat.zero_add,hB.cell j,← Array.getElem?_toList,hc]
  exact hj) h1 (by unfold maxLen;omega) (by have:(L.length+1)*bytes≤1000001*1000:=Nat.mul_le_mul (by omega) hbt;omega) (Nat.zero_le _)
 have h2':w'.ownsRow 0 ty sz v' (L ++ [e]).length (recC f (L ++ [e])):=by
  rw [recC_append,show recC f [e]=f e by simp [recC],List.length_append,List.length_singleton]
  exact h2
 subst hn
 rcases h2.2 with ⟨_,e0⟩ | ⟨g,c,cur,e2,_⟩
 ·omega
 ·subst e2
  exact⟨_,_,w',hr,h2',hg,hat⟩
theorem info_dc:(Tryz.prog.info? 76).map (fun i=>(i.zero,i.size,i.bytes))=some (some (.agg dcZ),17,136):=by kernel_rfl
section
variable {w0 W : World} {k fl : Nat} {A : Nat → Prop} {v : Value} {D : List DC} {F : Fam}
theorem pd_row {W1 w9:World} {e:DC} {v9:Value} {Sq:Nat→Prop} (h:Sx w0 A W (PdX k v fl D F))(hb1:Below W.heap.size W W1)(hq:RLO e.q e.o W1 Sq)(hlo:∀ b,Sq b→W.heap.size≤b)
  (hown:w9.ownsRow 0 76 17 v9 (D ++ [e]).length (recC dcC (D ++ [e]))) (hg:W1.grownBy w9 v.ownBlock) (hat:v9.ownBlock=v.ownBlock∨v9.ownBlock=some W1.heap.size) :
  Sx w0 A w9 (Star (DcR v9 (D ++ [e])) (Star (BoxO k 79 #[v]) (Star (RLO e.q e.o) (Star (FamD fl F) (StarL (fun e:DC=>RLO e.q e.o) D))))):=by
 have s2:=h.made (Q:=RLO e.q e.o) (good_pdX _ _ _ _ _) (good_rl _ _) hb1 hq hlo
 have s3:Sx w0 A W1 (Star (DcR v D) (Star (BoxO k 79 #[v]) (Star (RLO e.q e.o) (Star (FamD fl F) (StarL (fun e:DC=>RLO e.q e.o) D))))):=(Sx.swap2 s2.swap).swap
 have hgr:Good (Star (RLO e.q e.o) (Star (FamD fl F) (StarL (fun e:DC=>RLO e.q e.o) D))):=(good_rl _ _).star ((good_famD _ _).star (good_lims _))
 exact Sx.turnR (v':=v9) (L':=D ++ [e]) ((good_box _ _ _).star hgr) s3 hown hg fun b hb=>by
  rcases hat with e' | e'
  ·exact .inl (e' ▸ hb)
  ·rw [e'] at hb
   cases hb
   exact .inr (Nat.le_refl _)
theorem good_rowD {v9:Value} {D':List DC} {q:Nat} {o:Option Rn}:Good (Star (DcR v9 D') (Star (BoxO k 79 #[v]) (Star (RLO q o) (Star (FamD fl F) (StarL (fun e:DC=>RLO e.q e.o) D))))):=good_rec.star ((good_box _ _ _).star ((good_rl _ _).star ((good_famD _ _).star (good_lims _))))
theorem pd_stored {e:DC} {v9:Value} (h:Sx w0 A W (Star (DcR v9 (D ++ [e])) (Star (BoxO k 79 #[v]) (Star (RLO e.q e.o) (Star (FamD fl F) (StarL (fun e:DC=>RLO e.q e.o) D)))))) :
  Sx w0 A (W.setCell ⟨k,0,none⟩ v9) (PdX k v9 fl (D ++ [e]) F):=by
 have hgr:Good (Star (RLO e.q e.o) (Star (FamD fl F) (StarL (fun e:DC=>RLO e.q e.o) D))):=(good_rl _ _).star ((good_famD _ _).star (good_lims _))
 have s5:=Sx.set (B:=k) (i:=0) (u:=v9) (good_rec.star hgr) h.swap rfl
 refine s5.weak fun h5=>h5.under fun h6=>h6.under fun h7=>(Star.swap h7).under fun h8=>starL_snoc h8
end
theorem famD_new {W:World} {b:Nat} {S:Nat→Prop} (h:BoxO b 74 #[.slice none 0 0,.int .u64 0] W S):FamD b fam0 W S :=
 ⟨.slice none 0 0,fun _=>0,S,fun _=>False,fun _=>⟨.inl,fun h=>h.elim id False.elim⟩,fun _ _ h=>h,h,fun _=>False,fun _=>False,fun _=>⟨fun h=>h.elim,fun h=>h.elim id id⟩,fun _ h _=>h,⟨World.ownsRow_nil _ _ _ _,fun b=>⟨fun h=>h.elim,fun h=>by cases h⟩⟩,fun _ h=>h⟩
theorem dcR_one {W:World} {b:Nat} {S:Nat→Prop} {e:DC} (h:BoxO b 76 (dcC e).toArray W S):DcR (.slice (some ⟨b,0,none⟩) 1 1) [e] W S :=
 ⟨⟨rfl,.inr ⟨b,1,(dcC e).toArray,rfl,Nat.zero_le _,h.1,Nat.le_refl _,by decide,rfl,rfl⟩⟩,fun c=>(h.2 c).trans ⟨fun e=>by rw [e];rfl,fun e=>by cases e;rfl⟩⟩
theorem limN_zero:limN ((0,0,0):Int × Int × Int)=none:=rfl
def sp00:Sp:=⟨0,0,false,(0,0,0),(0,0,0),(0,0,0),0,0⟩
theorem pdnew_any (w:World):Calls Tryz.prog 8 #[] w (NewO w fun k=>fun W S=>∃ v fl q,PdX k v fl [⟨sp00,0,q,fl,none⟩] fam0 W S):=by
 have hl:=fun W=>rl_new (0,0,0) W (Int.le_refl _) (Int.le_refl _) (Int.le_refl _)
 rw [limN_zero] at hl
 go_enter Tryz.func8,Tryz.ntmps8
 go_wp2_with (go_at_call 33;refine (hl _).mono ?_;rintro e w1 ⟨q,rfl,hb1,Sq,hq,hlo⟩;clear hl)
 go_ret
 have s1:=(Sx.start (P:=Emp) (W:=w) (A:=fun _=>False) fun b h=>h).made (Q:=RLO q none) good_emp (good_rl _ _) hb1 hq hlo
 have g1:Good (Star (RLO q none) Emp):=(good_rl _ _).star good_emp
 have s2:=s1.alloc g1 #[.slice none 0 0,.int .u64 0] 74
 have s3:=s2.alloc ((good_box _ _ _).star g1) (dcC ⟨sp00,0,q,w1.heap.size,none⟩).toArray 76
 have s4:=s3.alloc ((good_box _ _ _).star ((good_box _ _ _).star g1)) #[.slice (some ⟨w1.heap.size+1,0,none⟩) 1 1] 79
 have hz1:(w1.alloc (.cells #[.slice none 0 0,.int .u64 0] 74)).heap.size=w1.heap.size+1:=by simp
 have hz2:((w1.alloc (.cells #[.slice none 0 0,.int .u64 0] 74)).alloc (.cells (dcC ⟨sp00,0,q,w1.heap.size,none⟩).toArray 76)).heap.size=w1.heap.size+1+1:=by simp
 rw [hz2,hz1] at s4
 obtain⟨S,hS,hw⟩:=s4
 refine⟨w1.heap.size+1+1,rfl,⟨hw.fr.os,hw.fr.tape,hw.fr.output,hw.fr.size,fun b hb=>hw.fr.block b hb fun h=>h⟩,S,⟨.slice (some ⟨w1.heap.size+1,0,none⟩) 1 1,w1.heap.size,q,?_⟩,fun b hb=>(hw.own b hb).elim (fun h=>h.elim) id⟩
 exact hS.under fun h2=>(h2.over fun h3=>dcR_one h3).under fun h3=>h3.over fun h4=>famD_new h4
def NewLimD (n:Nat)(o:Option Rn)(u:Value)(W:World):Prop:=∃ q Sq,u=.pointer (some ⟨q,0,none⟩)∧RLO q o W Sq∧∀ b,Sq b→n≤b
def PtrD (u:Value):Prop:=∃ f,u=.pointer (some ⟨f,0,none⟩)
def eD (s:Sp)(sc:Cv)(q f:Nat):DC:=⟨{ s with s:=sc },0,q,f,limN s.u⟩
def eA (s:Sp)(sc:Cv)(q f:Nat):Array Value:=#[.int .i64 s.id,.int .i64 s.pa,.bool s.lf,.int .u64 s.r.1,.int .u64 s.r.2.1,.int .u64 s.r.2.2,.int .u64 sc.1,.int .u64 sc.2.1,.int .u64 sc.2.2,.int .u64 s.u.1,.int .u64 s.u.2.1,.int .u64 s.u.2.2,.int .i64 s.pk,.int .i64 s.by_,.int .u64 0,.pointer (some ⟨q,0,none⟩),.pointer (some ⟨f,0,none⟩)]
theorem eA_is (s:Sp)(sc:Cv)(q f:Nat):eA s sc q f=(dcC (eD s sc q f)).toArray:=rfl
def BldD (n:Nat)(s:Sp)(sc:Cv)(u:Value)(W:World):Prop:=∃ q f Sq,u=.agg (eA s sc q f)∧RLO q (limN s.u) W Sq∧∀ b,Sq b→n≤b
def LitD (n:Nat)(s:Sp)(sc:Cv)(u:Value)(W:World):Prop:=∃ q f Sq B,u=.slice (some ⟨B,0,none⟩) 1 1∧Blk W B 76 (eA s sc q f)∧RLO q (limN s.u) W Sq∧∀ b,Sq b→n≤b
def AppD (w0:World)(A:Nat→Prop)(k fl:Nat)(v:Value)(D:List DC)(F:Fam)(s:Sp)(sc:Cv)(u:Value)(W:World):Prop:=∃ a2 c2 q f,u=.slice a2 (D.length+1) c2∧Sx w0 A W (Star (DcR (.slice a2 (D.length+1) c2) (D ++ [eD s sc q f])) (Star (BoxO k 79 #[v]) (Star (RLO q (limN s.u)) (Star (FamD fl F) (StarL (fun e:DC=>RLO e.q e.o) D)))))
theorem rl_later {q:Nat} {o:Option Rn} {W W':World} {S:Nat→Prop} (h:RLO q o W S)(hb:Below W.heap.size W W'):RLO q o W' S:=(good_rl _ _).kept h hb.size fun b hb2=>hb.block b ((good_rl _ _).lt h b hb2)
theorem hotUpon_appD {P:Program} {o:Oper} {a:Act} {w W W':World} {T:Value→World→Prop} {s x:Operand} {t:TypeId} {va vx v:Value}
  (ho:o.op=.call { callee:=.builtin .append,args:=#[s,x],argTypes:=#[t,t] }) (hs:a.eval s=va) (hx:a.eval x=vx)
  (hr:(Builtin.append_ #[t,t] o.type #[va,vx]).run P W=.ok v W') (hb:Below w.heap.size w W') (hT:T v W'):hotUpon P w W T ((execOp a.eval o).run P W):=by
 unfold execOp
 simp only [ho,resolve,invoke,builtin,Sem.run_bind,Sem.run_pure,Result.andThen_ok,List.map_toArray,List.map_cons,List.map_nil,hs,hx,hr]
 exact⟨hb,hT⟩
theorem below_noW' {w W W':World} {r:Option Nat} (h:Below 0 w W)(hg:W.grownBy W' r):Below 0 w W':=⟨hg.os.trans h.os,hg.tape.trans h.tape,hg.output.trans h.output,Nat.le_trans h.size hg.size,fun k hk=>absurd hk (Nat.not_lt_zero _)⟩
def noW (w:World):World:={ w with heap:=#[] }
theorem below_noW {w W:World} (h:Below w.heap.size w W):Below (noW w).heap.size (noW w) W:=⟨h.os,h.tape,h.output,Nat.zero_le _,fun k hk=>absurd hk (Nat.not_lt_zero _)⟩
def shD (c:Cv):Cv:=if okC c=true then c else (0,0,0)
section
variable {w0 W : World} {k fl : Nat} {A : Nat → Prop} {v : Value} {D : List DC} {F : Fam}
theorem addD_ok {c:Cv} (h:noneB (shD c)=false):okC (shD c)=true:=by
 unfold shD at h ⊢
 by_cases e:okC c=true
 ·rw [if_pos e];exact e
 ·rw [if_neg e] at h;cases h
theorem pdput_any (s:Sp)(hw:WfSp s)(hid:s.id=(D.length:Int))(h1:1≤D.length)(hpa:s.pa=0)(hF:FlatD D fl)(hnew:∀ q∈F.m,q.1 < s.id)(hl:F.m.length≤1000) :
  Acts (fun r=>r=.returned (.bool true)) (PdX k v fl D F) (fun W S=>∃ v' q f,PdX k v' fl (D ++ [⟨{ s with s:=shD s.s },0,q,f,limN s.u⟩]) (if noneB (shD s.s)=true then F else addF s.id (shD s.s) F) W S) 10 #[.pointer (some ⟨k,0,none⟩),spV s] Tryz.prog W:=fun A h=>by
 obtain⟨sc,hsc⟩:∃ sc:Cv,shD s.s=sc:=⟨_,rfl⟩
 have hok:=fun h=>addD_ok (c:=s.s) h
 have hU:0≤(shD s.s).1∧0≤(shD s.s).2.1∧0≤(shD s.s).2.2:=by
  unfold shD
  split
  ·exact⟨hw.2.2.1.1.1,hw.2.2.1.2.1.1,hw.2.2.1.2.2.1⟩
  ·exact⟨Int.le_refl _,Int.le_refl _,Int.le_refl _⟩
 rw [hsc] at hok hU ⊢
 obtain⟨F1,hF1⟩:∃ F1,(if noneB sc=true then F else addF s.id sc F)=F1:=⟨_,rfl⟩
 rw [hF1]
 have HF1:=Lib.hid hF1
 clear hF1
 have HOK:=Lib.hid (And.intro hok hU)
 have HSC:=Lib.hid hsc
 clear hsc hok hU
 have hs0:=(Sx.start (P:=PdX k v fl D F) h).alloc (good_pdX _ _ _ _ _) (spC s) 32
 have hfew:=hF.few
 obtain⟨e0,he0,hf0,hl0⟩:=hF.zero
 have hmay:=fun W=>rmay_any s.s.1 s.s.2.1 s.s.2.2 W hw.2.2.1.2.1.1
 have HMAY:=Lib.hid hmay
 have HW:=Lib.hid (And.intro hw (And.intro hid (And.intro hF (And.intro hnew (And.intro hl (And.intro he0 hl0))))))
 unfold spV spC at *
 have H0:=Lib.hid hs0
 have hi1:¬ s.id < 1:=by omega
 have hi0:¬ (s.id:Int) < 0:=by omega
 have hat0:∀ W' S',PdX k v fl D F W' S'→Calls Tryz.prog 38 #[.pointer (some ⟨k,0,none⟩),.int .i64 s.pa] W' fun e w'=>e=.returned (.int .i64 0)∧W'=w':=fun W' S' hx=>by
  have:=pdat_any s.pa hx hF
  rw [hpa,show posD D 0=0 by unfold posD;rw [if_pos ⟨Int.le_refl _,by omega⟩]] at this
  rw [hpa];exact this
 have hat1:∀ W' S',PdX k v fl D F W' S'→Calls Tryz.prog 38 #[.pointer (some ⟨k,0,none⟩),.int .i64 s.id] W' fun e w'=>e=.returned (.int .i64 (-1))∧W'=w':=fun W' S' hx=>by
  have:=pdat_any s.id hx hF
  rw [show posD D s.id=-1 by unfold posD;rw [if_neg (by omega)]] at this
  exact this
 have HAT:=Lib.hid (And.intro hat0 hat1)
 have HPA:=Lib.hid hpa
 clear h hs0 hmay hF hnew hl hw hat0 hat1 he0 hl0 hid hpa
 go_enter Tryz.func10,Tryz.ntmps10
 go_upto_region 1 with fail
 generalize hW1:W.alloc (.cells #[.int .i64 s.id,.int .i64 s.pa,.bool s.lf,.int .u64 s.r.1,.int .u64 s.r.2.1,.int .u64 s.r.2.2,.int .u64 s.s.1,.int .u64 s.s.2.1,.int .u64 s.s.2.2,.int .u64 s.u.1,.int .u64 s.u.2.1,.int .u64 s.u.2.2,.int .i64 s.pk,.int .i64 s.by_] 32)=W1 at H0 ⊢
 obtain⟨B,hB⟩:∃ B,B=W.heap.size:=⟨_,rfl⟩
 rw [← hB] at H0 ⊢
 clear hB hW1
 have b0:=H0.out.box.cell 0
 have b1:=H0.out.box.cell 1
 have b6:=H0.out.box.cell 6
 have b7:=H0.out.box.cell 7
 have b8:=H0.out.box.cell 8
 simp only [lTA,lCZ,lCS] at b0 b1 b6 b7 b8
 obtain⟨S1,hS1,-⟩:=H0.out.rest
 obtain⟨g,cap,rfl,hcap,hg,d0,hrg⟩:=hS1.at_ HW.out.2.2.2.2.2.1
 have k2:W1.cell? ⟨g,2,none⟩=some (.bool false):=by rw [← HW.out.2.2.2.2.2.2];have:=hrg 2 _ rfl;rwa [Nat.zero_mul,Nat.zero_add] at this
 have HS1:=Lib.hid hS1
 clear hS1 hrg
 go_upto_region 4 with (first
  | (go_at_call_of 38 (Value.int .i64 s.pa);with_reducible refine (HAT.out.1 _ _ HS1.out).mono ?_;rintro r w1 ⟨rfl,rfl⟩)
  | (go_at_call 38;with_reducible refine (HAT.out.2 _ _ HS1.out).mono ?_;rintro r w1 ⟨rfl,rfl⟩))
 have hgX:=good_pdX k (.slice (some ⟨g,0,none⟩) D.length cap) fl D F
 clear b0 b1 b6 b7 b8 d0 k2 HS1 HAT
 obtain⟨m,hm⟩:∃ m,mayB s.s.1 s.s.2.1 s.s.2.2=m:=⟨_,rfl⟩
 have hsd:sc=if m=true then s.s else (0,0,0):=by rw [← HSC.out];unfold shD okC;rw [hm]
 have hmay:=fun W=>HMAY.out W
 rw [hm] at hmay
 have b6:=H0.out.box.cell 6
 have b7:=H0.out.box.cell 7
 have b8:=H0.out.box.cell 8
 simp only [lTA,lCZ,lCS] at b6 b7 b8
 have HSD:=Lib.hid hsd
 clear hm hsd HMAY
 go_upto_if 38 with (go_at_call 39;refine (hmay _).mono ?_;rintro r w2 ⟨rfl,hb2⟩;have h2:=H0.out.later ((good_box _ _ _).star hgX) hb2;have H2:=Lib.hid h2;clear h2 hb2 hmay)
 clear H0 b6 b7 b8
 go_cut [] from 35 to 41 (fun wx=>Sx W A wx (Star (BoxO B 32 (spC { s with s:=sc })) (PdX k (.slice (some ⟨g,0,none⟩) D.length cap) fl D F)))
 case first =>
  cases m with
  | true =>
   have hs:=HSD.out
   rw [if_pos rfl] at hs
   subst hs
   go_wp2_with fail
   go_meet
   exact H2.out
  | false =>
   have hs:=HSD.out
   rw [if_neg (by decide)] at hs
   subst hs
   have x6:=H2.out.box.cell 6
   have x7:=H2.out.box.cell 7
   have x8:=H2.out.box.cell 8
   have y6:=H2.out.box.frozen 6
   have y7:=H2.out.box.frozen 7
   have y8:=H2.out.box.frozen 8
   simp only [lTA,lCZ,lCS] at x6 x7 x8
   have h3:=((H2.out.set hgX (i:=6) (u:=.int .u64 0) rfl).set hgX (i:=7) (u:=.int .u64 0) rfl).set hgX (i:=8) (u:=.int .u64 0) rfl
   have H3:=Lib.hid h3
   clear h3
   go_wp2_with fail
   go_meet
   exact H3.out
 case rest =>
  have HC:=Lib.hid hcut
  clear hcut H2
  obtain⟨wc0,hwc⟩:∃ w9,w9=wc:=⟨wc,rfl⟩
  subst hwc
  have b0:=HC.out.box.cell 0
  have b6:=HC.out.box.cell 6
  have b7:=HC.out.box.cell 7
  have b8:=HC.out.box.cell 8
  unfold spC at b0 b6 b7 b8
  simp only [lTA,lCZ,lCS] at b0 b6 b7 b8
  have hBl:=HC.out.box.lt
  go_upto_region 6 with fail
  obtain⟨nb,hnb⟩:∃ nb,noneB sc=nb:=⟨_,rfl⟩
  have HNB:=Lib.hid hnb
  clear hnb
  go_cut [44] from 41 to 44 (fun vc wx=>vc=.bool (!nb)∧wx=wc0)
  case first =>
   have hn:=HNB.out
   unfold noneB at hn
   obtain⟨s1,s2,s3⟩:=sc
   dsimp only at b6 b7 b8
   by_cases e1:s1=0
   ·have e1b:(s1 == 0)=true:=by simpa using e1
    by_cases e2:s2=0
    ·have e2b:(s2 == 0)=true:=by simpa using e2
     by_cases e3:s3=0
     ·have e3b:(s3 == 0)=true:=by simpa using e3
      obtain rfl:true=nb:=by rw [← hn];simp [e1,e2,e3]
      clear hn e1 e2 e3
      go_wp2_with fail
      go_meet
      exact⟨rfl,rfl⟩
     ·have e3b:(s3 == 0)=false:=by simpa using e3
      obtain rfl:false=nb:=by rw [← hn];simp [e3]
      clear hn e1 e2 e3
      go_wp2_with fail
      go_meet
      exact⟨rfl,rfl⟩
    ·have e2b:(s2 == 0)=false:=by simpa using e2
     obtain rfl:false=nb:=by rw [← hn];simp [e2]
     clear hn e1 e2
     go_wp2_with fail
     go_meet
     exact⟨rfl,rfl⟩
   ·have e1b:(s1 == 0)=false:=by simpa using e1
    obtain rfl:false=nb:=by rw [← hn];simp [e1]
    clear hn e1
    go_wp2_with fail
    go_meet
    exact⟨rfl,rfl⟩
  case rest =>
   obtain⟨hvc,hwx⟩:=hcut
   rw [hvc,hwx]
   clear hvc hwx
   go_upto_if 44 with fail
   go_cut [] from 45 to 57 (fun wx=>Sx W A wx (Star (BoxO B 32 (spC { s with s:=sc })) (PdX k (.slice (some ⟨g,0,none⟩) D.length cap) fl D F1)))
   case first =>
    have hf:=HF1.out
    rw [HNB.out] at hf
    cases nb with
    | true =>
     rw [if_pos rfl] at hf
     subst hf
     go_wp2_with fail
     go_meet
     exact HC.out
    | false =>
     rw [if_neg (by decide)] at hf
     subst hf
     obtain⟨S2,hS2,-⟩:=HC.out.rest
     obtain⟨g',cp',hsl,_,hg2,d2,hrg2⟩:=hS2.at_ HW.out.2.2.2.2.2.1
     obtain⟨rfl,rfl⟩:g=g'∧cap=cp':=by cases hsl;exact⟨rfl,rfl⟩
     have k16:wc0.cell? ⟨g,16,none⟩=some (.pointer (some ⟨fl,0,none⟩)):=by rw [← hf0];have:=hrg2 16 _ rfl;rwa [Nat.zero_mul,Nat.zero_add] at this
     have o0:=fun e9=>(over_cell (w:=wc0) (e:=e9) (o:=0) hS2.box.lt).trans d2
     have o16:=fun e9=>(over_cell (w:=wc0) (e:=e9) (o:=16) hg2).trans k16
     have p0:=fun e9=>(over_cell (w:=wc0) (e:=e9) (o:=0) hBl).trans b0
     have p6:=fun e9=>(over_cell (w:=wc0) (e:=e9) (o:=6) hBl).trans b6
     have p7:=fun e9=>(over_cell (w:=wc0) (e:=e9) (o:=7) hBl).trans b7
     have p8:=fun e9=>(over_cell (w:=wc0) (e:=e9) (o:=8) hBl).trans b8
     clear hS2 hsl d2 hrg2 k16
     have hDl:(0:Int) < (D.length:Int):=by omega
     go_upto_region 7 with fail
     refine wp_region_over_tail 12 (by kernel_rfl) (by kernel_rfl) ?_
     simp only [List.take_succ_cons,List.take_zero,List.drop_succ_cons,List.drop_zero]
     repeat (first | go_big_quiet_skip | (go_big_quiet_want;go_big_quiet_op;go_big_quiet_on))
     refine wpQuiet_nil ?_
     rintro W5 ⟨e9,rfl⟩
     have h5:=HC.out.later ((good_box _ _ _).star hgX) (over_below wc0 e9)
     have H5:=Lib.hid h5
     clear h5 o0 o16 p0 p6 p7 p8
     generalize over wc0 e9=W5 at H5 ⊢
     have hok:=HOK.out.1 HNB.out
     unfold okC at hok
     have had:=Sx.famAct (good_box _ _ _) H5.out (fdadd_any (W:=W5) s.id sc HOK.out.2.1 HOK.out.2.2.1 HOK.out.2.2.2 hok HW.out.2.2.2.1 HW.out.2.2.2.2.1)
     have HAD:=Lib.hid had
     clear had hok
     go_wp2_with (go_at_call 40;refine HAD.out.mono ?_;rintro r w6 ⟨rfl,h6⟩;have H6:=Lib.hid h6;clear h6)
     go_meet
     exact H6.out
   case rest =>
    have HC2:=Lib.hid hcut
    clear hcut HC HOK HNB b0 b6 b7 b8
    go_upto_region 8 with fail
    obtain⟨S8,hS8,-⟩:=HC2.out.rest
    obtain⟨g',cp',hsl,_,hg2,d2,_⟩:=hS8.at_ HW.out.2.2.2.2.2.1
    obtain⟨rfl,rfl⟩:g=g'∧cap=cp':=by cases hsl;exact⟨rfl,rfl⟩
    have hbx:=HC2.out.box
    have hrow8:=hS8.row
    have hlim:=fun W=>rl_new s.u W HW.out.1.2.2.2.1.1 HW.out.1.2.2.2.2.1.1 HW.out.1.2.2.2.2.2.1
    have HLM:=Lib.hid hlim
    have HX8:=Lib.hid (And.intro hS8.box (And.intro hrow8 (And.intro hbx d2)))
    clear hS8 hsl d2 hbx hlim hrow8
    refine wp_region_hot0 (w:=noW wc) (ws:=wc) 14 3 [4,5,7,8,10,11,12,13] [] [(4,fun u W'=>u=.slice (some ⟨g,0,none⟩) D.length cap),(5,fun u W'=>u=.agg #[.int .i64 s.id,.int .i64 s.pa,.bool s.lf,.int .u64 s.r.1,.int .u64 s.r.2.1,.int .u64 s.r.2.2,.int .u64 sc.1,.int .u64 sc.2.1,.int .u64 sc.2.2,.int .u64 s.u.1,.int .u64 s.u.2.1,.int .u64 s.u.2.2,.int .i64 s.pk,.int .i64 s.by_]),(7,fun u W'=>u=.agg #[.int .u64 s.u.1,.int .u64 s.u.2.1,.int .u64 s.u.2.2]),(8,NewLimD wc.heap.size (limN s.u)),(10,fun u W'=>PtrD u),(11,BldD wc.heap.size s sc),(12,LitD wc.heap.size s sc),(13,AppD W A k fl (.slice (some ⟨g,0,none⟩) D.length cap) D F1 s sc)] [(8,13),(11,13),(12,13)] [13] [4,5,7,10] rfl (by decide) (by decide) (below_noW (Below.refl _ _)) (J:=fun W'=>Below wc.heap.size wc W') (jend:=13) (Below.refl _ _) (fun W1 W2 h hb=>h.trans (hb.mono h.size)) (.inr (by kernel_rfl)) (by kernel_rfl) (by kernel_rfl) (by kernel_rfl) (by kernel_rfl) (by kernel_rfl) (fun _ _ _ _ _ h=>h) ⟨fun v W1 W2 h hb=>h,fun v W1 W2 h hb=>h,fun v W1 W2 h hb=>h,fun v W1 W2 ⟨q,Sq,h1,h2,h3⟩ hb=>⟨q,Sq,h1,rl_later h2 hb,h3⟩,fun v W1 W2 h hb=>h,fun v W1 W2 ⟨q,f,Sq,h1,h2,h3⟩ hb=>⟨q,f,Sq,h1,rl_later h2 hb,h3⟩,fun v W1 W2 ⟨q,f,Sq,B,h1,h2,h3,h4⟩ hb=>⟨q,f,Sq,B,h1,h2.below hb h2.lt,rl_later h3 hb,h4⟩,fun v W1 W2 ⟨a2,c2,q,f,h1,h2⟩ hb=>⟨a2,c2,q,f,h1,h2.later good_rowD hb⟩,trivial⟩ ⟨fun _ v W1 W2 h=>h,fun _ v W1 W2 h=>h,fun _ v W1 W2 h=>h,fun h=>by simp at h,fun _ v W1 W2 h=>h,fun h=>by simp at h,fun h=>by simp at h,fun h=>by simp at h,trivial⟩ ?_
    intro LL hL
    have HL:=Lib.hid hL
    clear hL
    simp only [List.take_succ_cons,List.take_zero,putL]
    iterate 14 (first | refine wpHead_skip (by decide) ?_ | (refine wpHead_step (by decide) (fun K hK=>?_);go_simp;refine hK _ ?_;clear hK K))
    refine wpHead_nil (HL.out _ ⟨?_,?_,?_,?_,?_,?_,?_,?_,trivial⟩ ?_)
    ·intro vs W2 hb2 hf hj
     clear HL
     have hjj:=hj (.inr ⟨by decide,by kernel_rfl⟩)
     clear hj
     have x0:=(hjj.cell (p:=⟨k,0,none⟩) HX8.out.1.lt).trans HX8.out.2.2.2
     change TStep _ _ _ (Act.put (Act.put (Act.put (Act.put (Act.put (Act.put (Act.put (Act.put _ (some 62) (vs 4)) (some 63) (vs 5)) (some 65) (vs 7)) (some 66) (vs 8)) (some 68) (vs 10)) (some 69) (vs 11)) (some 70) (vs 12)) (some 71) (vs 13)) _ _
     refine tstep_yes (by kernel_rfl) ?_
     go_simp
     exact Below.refl _ _
    ·intro vs W2 hb2 hf hj
     clear HL
     have hjj:=hj (.inr ⟨by decide,by kernel_rfl⟩)
     clear hj
     have h9:=HX8.out.2.2.1.below hjj HX8.out.2.2.1.lt
     have x0:W2.cell? ⟨B,0,none⟩=some (.int .i64 s.id):=h9.cell 0
     have x1:W2.cell? ⟨B,1,none⟩=some (.int .i64 s.pa):=h9.cell 1
     have x2:W2.cell? ⟨B,2,none⟩=some (.bool s.lf):=h9.cell 2
     have x3:W2.cell? ⟨B,3,none⟩=some (.int .u64 s.r.1):=h9.cell 3
     have x4:W2.cell? ⟨B,4,none⟩=some (.int .u64 s.r.2.1):=h9.cell 4
     have x5:W2.cell? ⟨B,5,none⟩=some (.int .u64 s.r.2.2):=h9.cell 5
     have x6:W2.cell? ⟨B,6,none⟩=some (.int .u64 sc.1):=h9.cell 6
     have x7:W2.cell? ⟨B,7,none⟩=some (.int .u64 sc.2.1):=h9.cell 7
     have x8:W2.cell? ⟨B,8,none⟩=some (.int .u64 sc.2.2):=h9.cell 8
     have x9:W2.cell? ⟨B,9,none⟩=some (.int .u64 s.u.1):=h9.cell 9
     have x10:W2.cell? ⟨B,10,none⟩=some (.int .u64 s.u.2.1):=h9.cell 10
     have x11:W2.cell? ⟨B,11,none⟩=some (.int .u64 s.u.2.2):=h9.cell 11
     have x12:W2.cell? ⟨B,12,none⟩=some (.int .i64 s.pk):=h9.cell 12
     have x13:W2.cell? ⟨B,13,none⟩=some (.int .i64 s.by_):=h9.cell 13
     clear h9 hf hjj
     change TStep _ _ _ (Act.put (Act.put (Act.put (Act.put (Act.put (Act.put (Act.put (Act.put _ (some 62) (vs 4)) (some 63) (vs 5)) (some 65) (vs 7)) (some 66) (vs 8)) (some 68) (vs 10)) (some 69) (vs 11)) (some 70) (vs 12)) (some 71) (vs 13)) _ _
     refine tstep_yes (by kernel_rfl) ?_
     go_simp
     exact Below.refl _ _
    ·intro vs W2 hb2 hf hj
     clear HL
     have hjj:=hj (.inr ⟨by decide,by kernel_rfl⟩)
     clear hj
     have h9:=HX8.out.2.2.1.below hjj HX8.out.2.2.1.lt
     have x9:W2.cell? ⟨B,9,none⟩=some (.int .u64 s.u.1):=h9.cell 9
     have x10:W2.cell? ⟨B,10,none⟩=some (.int .u64 s.u.2.1):=h9.cell 10
     have x11:W2.cell? ⟨B,11,none⟩=some (.int .u64 s.u.2.2):=h9.cell 11
     clear h9
     change TStep _ _ _ (Act.put (Act.put (Act.put (Act.put (Act.put (Act.put (Act.put (Act.put _ (some 62) (vs 4)) (some 63) (vs 5)) (some 65) (vs 7)) (some 66) (vs 8)) (some 68) (vs 10)) (some 69) (vs 11)) (some 70) (vs 12)) (some 71) (vs 13)) _ _
     refine tstep_yes (by kernel_rfl) ?_
     go_simp
     exact Below.refl _ _
    ·intro vs W2 hb2 hf hj
     have hf:=fits_cast (q:=(vs 7=.agg #[.int .u64 s.u.1,.int .u64 s.u.2.1,.int .u64 s.u.2.2])∧True) hf (by kernel_rfl)
     clear HL
     have hjj:=hj (.inr ⟨by decide,by kernel_rfl⟩)
     clear hj
     change TStep _ _ _ (Act.put (Act.put (Act.put (Act.put (Act.put (Act.put (Act.put (Act.put _ (some 62) (vs 4)) (some 63) (vs 5)) (some 65) (vs 7)) (some 66) (vs 8)) (some 68) (vs 10)) (some 69) (vs 11)) (some 70) (vs 12)) (some 71) (vs 13)) _ _
     rw [hf.1]
     refine tstep_yes (by kernel_rfl) ?_
     go_simp
     exact (HLM.out W2).mono fun e9 W3 ⟨q,he,hb,Sq,hq,hlo⟩=>⟨_,he,hb,q,Sq,rfl,hq,fun b h9=>Nat.le_trans hjj.size (hlo b h9)⟩
    ·intro vs W2 hb2 hf hj
     clear HL
     change TStep _ _ _ (Act.put (Act.put (Act.put (Act.put (Act.put (Act.put (Act.put (Act.put _ (some 62) (vs 4)) (some 63) (vs 5)) (some 65) (vs 7)) (some 66) (vs 8)) (some 68) (vs 10)) (some 69) (vs 11)) (some 70) (vs 12)) (some 71) (vs 13)) _ _
     refine tstep_yes (by kernel_rfl) ?_
     go_simp
     exact⟨(Below.refl _ _).alloc (Nat.le_refl _) _,_,rfl⟩
    ·intro vs W2 hb2 hf hj
     have hf:=fits_cast (q:=(vs 5=.agg #[.int .i64 s.id,.int .i64 s.pa,.bool s.lf,.int .u64 s.r.1,.int .u64 s.r.2.1,.int .u64 s.r.2.2,.int .u64 sc.1,.int .u64 sc.2.1,.int .u64 sc.2.2,.int .u64 s.u.1,.int .u64 s.u.2.1,.int .u64 s.u.2.2,.int .i64 s.pk,.int .i64 s.by_])∧NewLimD wc.heap.size (limN s.u) (vs 8) W2∧PtrD (vs 10)∧True) hf (by kernel_rfl)
     clear HL hj
     change TStep _ _ _ (Act.put (Act.put (Act.put (Act.put (Act.put (Act.put (Act.put (Act.put _ (some 62) (vs 4)) (some 63) (vs 5)) (some 65) (vs 7)) (some 66) (vs 8)) (some 68) (vs 10)) (some 69) (vs 11)) (some 70) (vs 12)) (some 71) (vs 13)) _ _
     refine Exists.elim hf.2.1 fun q hq1=>?_
     refine Exists.elim hq1 fun Sq hq2=>?_
     refine Exists.elim hf.2.2.1 fun f hf2=>?_
     rw [hf.1,hq2.1,hf2]
     refine tstep_yes (by kernel_rfl) ?_
     go_simp
     exact⟨Below.refl _ _,q,f,Sq,rfl,hq2.2.1,hq2.2.2⟩
    ·intro vs W2 hb2 hf hj
     have hf:=fits_cast (q:=BldD wc.heap.size s sc (vs 11) W2∧True) hf (by kernel_rfl)
     clear HL hj
     change TStep _ _ _ (Act.put (Act.put (Act.put (Act.put (Act.put (Act.put (Act.put (Act.put _ (some 62) (vs 4)) (some 63) (vs 5)) (some 65) (vs 7)) (some 66) (vs 8)) (some 68) (vs 10)) (some 69) (vs 11)) (some 70) (vs 12)) (some 71) (vs 13)) _ _
     refine Exists.elim hf.1 fun q hq1=>?_
     refine Exists.elim hq1 fun f hq2=>?_
     refine Exists.elim hq2 fun Sq hq3=>?_
     rw [hq3.1]
     unfold eA
     refine tstep_yes (by kernel_rfl) ?_
     go_simp
     have hal:=(Below.refl W2.heap.size W2).alloc (Nat.le_refl _) (.cells (eA s sc q f) 76)
     exact⟨hal,q,f,Sq,_,rfl,Blk.new W2 _ (eA s sc q f),rl_later hq3.2.1 hal,hq3.2.2⟩
    ·intro vs W2 hb2 hf hj
     have hf:=fits_cast (q:=(vs 4=.slice (some ⟨g,0,none⟩) D.length cap)∧LitD wc.heap.size s sc (vs 12) W2∧True) hf (by kernel_rfl)
     clear HL
     have hjj:=hj (.inl rfl)
     clear hj
     refine Exists.elim hf.2.1 fun q hq1=>?_
     refine Exists.elim hq1 fun f hq2=>?_
     refine Exists.elim hq2 fun Sq hq3=>?_
     refine Exists.elim hq3 fun B9 hq4=>?_
     change HStep _ _ _ _ (Act.put (Act.put (Act.put (Act.put (Act.put (Act.put (Act.put (Act.put _ (some 62) (vs 4)) (some 63) (vs 5)) (some 65) (vs 7)) (some 66) (vs 8)) (some 68) (vs 10)) (some 69) (vs 11)) (some 70) (vs 12)) (some 71) (vs 13)) _ _
     rw [hf.1,hq4.1]
     obtain⟨i0,hi0,hz0,hz1,hz2⟩:=info_parts info_dc
     have hownY:W2.ownsRow 0 76 17 (.slice (some ⟨g,0,none⟩) D.length cap) D.length (recC dcC D):=HX8.out.2.1.elim fun S9 h9=>h9.1.kept (Below.grownNone hjj) (Classical.em _)
     have happ:=app_rec 77 77 76 i0 _ 17 136 Tryz.underlying77 hi0 hz0 hz1 hz2 rfl (by decide) (by decide) dcC_len (e:=eD s sc q f) hownY hq4.2.1 (by rw [eA_is]) (fun u hu=>by have h8:=dc_one (eD s sc q f);exact Array.all_eq_true_iff_forall_mem.1 h8 u (by simpa using hu)) (by omega) rfl
     refine Exists.elim happ fun a9 ha1=>?_
     refine Exists.elim ha1 fun c9 ha2=>?_
     refine Exists.elim ha2 fun w9 ha3=>?_
     refine hstep_yes (by kernel_rfl) ?_
     exact hotUpon_appD rfl (by kernel_rfl) (by kernel_rfl) ha3.1 (below_noW' hb2 ha3.2.2.1) ⟨a9,c9,q,f,rfl,pd_row (e:=eD s sc q f) HC2.out.rest hjj hq4.2.2.1 hq4.2.2.2 ha3.2.1 ha3.2.2.1 ha3.2.2.2⟩
    ·intro vs W2 hb2 hf
     have hf:=fits_cast (q:=(vs 4=.slice (some ⟨g,0,none⟩) D.length cap)∧(vs 5=.agg #[.int .i64 s.id,.int .i64 s.pa,.bool s.lf,.int .u64 s.r.1,.int .u64 s.r.2.1,.int .u64 s.r.2.2,.int .u64 sc.1,.int .u64 sc.2.1,.int .u64 sc.2.2,.int .u64 s.u.1,.int .u64 s.u.2.1,.int .u64 s.u.2.2,.int .i64 s.pk,.int .i64 s.by_])∧(vs 7=.agg #[.int .u64 s.u.1,.int .u64 s.u.2.1,.int .u64 s.u.2.2])∧PtrD (vs 10)∧AppD W A k fl (.slice (some ⟨g,0,none⟩) D.length cap) D F1 s sc (vs 13) W2∧True) hf (by kernel_rfl)
     clear HL
     change wpList _ _ _ _ (Act.put (Act.put (Act.put (Act.put (Act.put (Act.put (Act.put (Act.put _ (some 62) (vs 4)) (some 63) (vs 5)) (some 65) (vs 7)) (some 66) (vs 8)) (some 68) (vs 10)) (some 69) (vs 11)) (some 70) (vs 12)) (some 71) (vs 13)) _
     refine Exists.elim hf.2.2.2.2.1 fun a9 h1'=>?_
     refine Exists.elim h1' fun c9 h2'=>?_
     refine Exists.elim h2' fun q h3'=>?_
     refine Exists.elim h3' fun f h4'=>?_
     rw [h4'.1]
     have hbox:=h4'.2.swap.box
     have x9:=hbox.cell 0
     have y9:=hbox.frozen 0
     simp only [lTA,lCZ,lCS] at x9
     have HFN:=Lib.hid (pd_stored (e:=eD s sc q f) h4'.2)
     clear hf h1' h2' h3' h4' hbox hb2
     simp only [List.drop_succ_cons,List.drop_zero,List.take_succ_cons,List.take_zero]
     go_wp2_with fail
     go_ret
     exact⟨rfl,Sx.done (HFN.out.weak (Q:=fun W S=>∃ v' q f,PdX k v' fl (D ++ [⟨{ s with s:=sc },0,q,f,limN s.u⟩]) F1 W S) fun h9=>⟨_,q,f,h9⟩)⟩
end
end
section
open Go.RowKit Go.Maps
attribute [local go_sem ↓] Go.wp_at_zero Go.wp_at_succ
attribute [local go_sem] quietR quietAtR quietUponR midAt midUpon
def StepC (g:FuncId)(lb:Array Value)(E:Ob)(k mb:Nat)(ps:Int→Nat)(P P':Pk)(id:Int):Prop:=∀ W,Acts (fun e=>e=.returned (.tuple #[])) (Star E (PkX k mb ps P)) (Star E (PkX k mb ps P')) g (#[.int .i64 id,.pointer (some ⟨ps id,0,none⟩)] ++ lb) Tryz.prog W
structure Climb (g:FuncId)(lb:Array Value)(E:Ob)(k mb:Nat)(ps:Int→Nat)(step:Pk→Int→Pk)(I:Pk→List Int→Prop):Prop where
 here:∀ P id l,I P (id :: l)→PkB P∧∃ c,lookM P id=some c
 does:∀ P id l,I P (id :: l)→StepC g lb E k mb ps P (step P id) id
 next:∀ P id l,I P (id :: l)→I (step P id) l
 pa:∀ P id l,I P (id :: l)→∀ j,paP (step P id) j=paP P j
theorem Up.only {P:Pk}:∀ {id:Int} {l l':List Int},Up P id l→Up P id l'→l=l'
 | _,_,_,.root,.root=>rfl
 | _,_,_,.root,.step h _ _=>absurd h (by omega)
 | _,_,_,.step h _ _,.root=>absurd h (by omega)
 | _,_,_,.step h1 h2 h3,.step k1 k2 k3=>by
  rw [h2] at k2
  cases k2
  rw [h3.only k3]
open Classical in
noncomputable def upLen (P:Pk)(i:Int):Nat:=if h:∃ l,Up P i l then h.choose.length else 0
theorem upLen_eq {P:Pk} {i:Int} {l:List Int} (h:Up P i l):upLen P i=l.length:=by
 have hx:∃ l,Up P i l:=⟨l,h⟩
 unfold upLen
 rw [dif_pos hx,hx.choose_spec.only h]
theorem Sx.env {w0 W:World} {A:Nat→Prop} {E Q:Ob} (h:Sx w0 A W (Star E Q)):∃ S,Q W S:=by
 obtain⟨S,hs,_⟩:=h.rest
 exact⟨S,hs⟩
def AboveJ (w:World)(A:Nat→Prop)(E:Ob)(k mb:Nat)(ps:Int→Nat)(fv:Value)(P:Pk)(l:List Int)(step:Pk→Int→Pk)(I:Pk→List Int→Prop)(a':Act)(w':World):Prop :=
 ∃ (i:Int) (l':List Int) (P':Pk) (u3 u4 u5 u6 u7 u8 u9 u10 u11 u12 u13 u14 u15 u16 u17 u18 u19 u20 u21 u22:Value),a'={ tmps:=#[.pointer (some ⟨k,0,none⟩),.int .i64 i,fv,u3,u4,u5,u6,u7,u8,u9,u10,u11,u12,u13,u14,u15,u16,u17,u18,u19,u20,u21,u22],defers:=[] } ∧
  Up P i l'∧(∀ j,paP P' j=paP P j)∧I P' l'∧l'.foldl step P'=l.foldl step P∧Sx w A w' (Star E (PkX k mb ps P'))
theorem above_note (B k mb:Nat)(ps:Int→Nat)(E:Ob)(hE:Good E)(step:Pk→Int→Pk)(I:Pk→List Int→Prop)(hC:Climb 45 #[.pointer (some ⟨B,0,none⟩)] E k mb ps step I)(id:Int)(l:List Int)(P:Pk)(W:World)(hU:Up P id l)(hI:I P l) :
  Acts (fun e=>e=.returned (.tuple #[])) (Star E (PkX k mb ps P)) (Star E (PkX k mb ps (l.foldl step P))) 41 #[.pointer (some ⟨k,0,none⟩),.int .i64 id,.func (.func 45) #[] #[.pointer (some ⟨B,0,none⟩)]] Tryz.prog W:=fun A h=>by
 have HS:=Lib.hid (Sx.start h)
 have HI:=Lib.hid (And.intro hU hI)
 have HC:=Lib.hid (And.intro hC hE)
 clear h hU hI hC hE
 go_enter Tryz.func41,Tryz.ntmps41
 go_wp2_with fail
 refine wp_scope_jumps 0 (AboveJ W A E k mb ps (.func (.func 45) #[] #[.pointer (some ⟨B,0,none⟩)]) P l step I) (fun a' _=>upLen P (Go.RowKit.intOf (a'.tmps.getD 1 undef))) rfl ?_ ?_
 ·go_wp2_with fail
  go_step3
  have hU:=HI.out.1
  have hU0:=hU
  have hpa:∀ j,paP P j=paP P j:=fun _=>rfl
  have hI:=HI.out.2
  have hf:l.foldl step P=l.foldl step P:=rfl
  have hs:=HS.out
  cases hU with
  | root =>
   have HF:=Lib.hid (And.intro hf hs)
   clear hs hI hf
   go_wp2_with fail
   try simp only [Exit.jump]
   go_returns
   exact⟨rfl,HF.out.2.done⟩
  | @step _ q l2 h1 h2 h3 =>
   obtain⟨hB,c,hc⟩:=HC.out.1.here _ _ _ hI
   have hq:c.pa=q:=by
    have:=paP_of hc
    rw [hpa,h2] at this
    exact (Option.some.inj this).symm
   obtain⟨S1,hS1⟩:=hs.env
   have hlk:=hS1.look (wf_small (hB.ids _ _ hc).1 (hB.ids _ _ hc).2)
   rw [hc] at hlk
   dsimp only [Option.map_some,Option.getD_some] at hlk
   have k0:=hS1.box.cell 0
   simp only [lTA,lCZ,lCS] at k0
   have hd:=hs.act0 (HC.out.1.does _ _ _ hI _)
   have HD:=Lib.hid hd
   have hn:=HC.out.1.next _ _ _ hI
   have hpn:=HC.out.1.pa _ _ _ hI
   have hcell:∀ W':World,Sx W A W' (Star E (PkX k mb ps (step P id)))→W'.cell? ⟨ps id,0,none⟩=some (.int .i64 q):=fun W' hs'=>by
    obtain⟨S2,hS2⟩:=hs'.env
    have hp2:=hpn id
    rw [paP_of hc] at hp2
    obtain⟨c2,hc2,e2⟩:=paP_some hp2
    obtain⟨l3,f3,q3,hr3⟩:=hS2.cls hc2
    have:=hr3.blk.cell 0
    unfold clsC at this
    simp only [lTA,lCZ,lCS] at this
    rw [this,e2,hq]
   have HX:=Lib.hid (And.intro hn (And.intro hpn (And.intro hcell (And.intro hf (And.intro hpa (And.intro h2 (And.intro h3 hU0)))))))
   clear hS1 hs hI hd hn hpn hcell hf hpa h2 h3 hc hB hq hU0
   go_wp2_with (go_at_call 45;refine HD.out.mono ?_;rintro e w4 ⟨rfl,h4⟩;have c4:=HX.out.2.2.1 _ h4;have H4:=Lib.hid h4;clear h4)
   try simp only [Exit.jump]
   go_step3
   change _∧AboveJ W A E k mb ps (.func (.func 45) #[] #[.pointer (some ⟨B,0,none⟩)]) P _ step I _ _
   refine⟨rfl,?_⟩
   unfold AboveJ
   exact⟨q,l2,step P id,_,_,_,_,_,_,_,_,_,_,_,_,_,_,_,_,_,_,_,_,rfl,HX.out.2.2.2.2.2.2.1,HX.out.2.1,HX.out.1,rfl,H4.out⟩
 ·rintro a' w' ⟨i,l',P',u3,u4,u5,u6,u7,u8,u9,u10,u11,u12,u13,u14,u15,u16,u17,u18,u19,u20,u21,u22,rfl,hU,hpa,hI,hf,hs⟩
  have hU0:=hU
  cases hU with
  | root =>
   have HF:=Lib.hid (And.intro hf hs)
   clear hs hI hf
   go_wp2_with fail
   try simp only [Exit.jump]
   go_returns
   rw [← HF.out.1]
   exact⟨rfl,HF.out.2.done⟩
  | @step _ q l2 h1 h2 h3 =>
   obtain⟨hB,c,hc⟩:=HC.out.1.here _ _ _ hI
   have hq:c.pa=q:=by
    have:=paP_of hc
    rw [hpa,h2] at this
    exact (Option.some.inj this).symm
   obtain⟨S1,hS1⟩:=hs.env
   have hlk:=hS1.look (wf_small (hB.ids _ _ hc).1 (hB.ids _ _ hc).2)
   rw [hc] at hlk
   dsimp only [Option.map_some,Option.getD_some] at hlk
   have k0:=hS1.box.cell 0
   simp only [lTA,lCZ,lCS] at k0
   have hd:=hs.act0 (HC.out.1.does _ _ _ hI _)
   have HD:=Lib.hid hd
   have hn:=HC.out.1.next _ _ _ hI
   have hpn:=HC.out.1.pa _ _ _ hI
   have hcell:∀ W':World,Sx W A W' (Star E (PkX k mb ps (step P' i)))→W'.cell? ⟨ps i,0,none⟩=some (.int .i64 q):=fun W' hs'=>by
    obtain⟨S2,hS2⟩:=hs'.env
    have hp2:=hpn i
    rw [paP_of hc] at hp2
    obtain⟨c2,hc2,e2⟩:=paP_some hp2
    obtain⟨l3,f3,q3,hr3⟩:=hS2.cls hc2
    have:=hr3.blk.cell 0
    unfold clsC at this
    simp only [lTA,lCZ,lCS] at this
    rw [this,e2,hq]
   have HX:=Lib.hid (And.intro hn (And.intro hpn (And.intro hcell (And.intro hf (And.intro hpa (And.intro h2 (And.intro h3 hU0)))))))
   clear hS1 hs hI hd hn hpn hcell hf hpa h2 h3 hc hB hq hU0
   go_wp2_with (go_at_call 45;refine HD.out.mono ?_;rintro e w4 ⟨rfl,h4⟩;have c4:=HX.out.2.2.1 _ h4;have H4:=Lib.hid h4;clear h4)
   try simp only [Exit.jump]
   go_step3
   change _∧(AboveJ W A E k mb ps (.func (.func 45) #[] #[.pointer (some ⟨B,0,none⟩)]) P _ step I _ _∧_)
   refine⟨rfl,?_,?_⟩
   ·unfold AboveJ
    exact⟨q,l2,step P' i,_,_,_,_,_,_,_,_,_,_,_,_,_,_,_,_,_,_,_,_,rfl,HX.out.2.2.2.2.2.2.1,fun j=>(HX.out.2.1 j).trans (HX.out.2.2.2.2.1 j),HX.out.1,HX.out.2.2.2.1,H4.out⟩
   ·show upLen P q < upLen P i
    rw [upLen_eq HX.out.2.2.2.2.2.2.1,upLen_eq HX.out.2.2.2.2.2.2.2]
    simp
theorem above_wake (B D k mb:Nat)(ps:Int→Nat)(E:Ob)(hE:Good E)(step:Pk→Int→Pk)(I:Pk→List Int→Prop)(hC:Climb 42 #[.pointer (some ⟨B,0,none⟩),.pointer (some ⟨D,0,none⟩)] E k mb ps step I)(id:Int)(l:List Int)(P:Pk)(W:World)(hU:Up P id l)(hI:I P l) :
  Acts (fun e=>e=.returned (.tuple #[])) (Star E (PkX k mb ps P)) (Star E (PkX k mb ps (l.foldl step P))) 41 #[.pointer (some ⟨k,0,none⟩),.int .i64 id,.func (.func 42) #[] #[.pointer (some ⟨B,0,none⟩),.pointer (some ⟨D,0,none⟩)]] Tryz.prog W:=fun A h=>by
 have HS:=Lib.hid (Sx.start h)
 have HI:=Lib.hid (And.intro hU hI)
 have HC:=Lib.hid (And.intro hC hE)
 clear h hU hI hC hE
 go_enter Tryz.func41,Tryz.ntmps41
 go_wp2_with fail
 refine wp_scope_jumps 0 (AboveJ W A E k mb ps (.func (.func 42) #[] #[.pointer (some ⟨B,0,none⟩),.pointer (some ⟨D,0,none⟩)]) P l step I) (fun a' _=>upLen P (Go.RowKit.intOf (a'.tmps.getD 1 undef))) rfl ?_ ?_
 ·go_wp2_with fail
  go_step3
  have hU:=HI.out.1
  have hU0:=hU
  have hpa:∀ j,paP P j=paP P j:=fun _=>rfl
  have hI:=HI.out.2
  have hf:l.foldl step P=l.foldl step P:=rfl
  have hs:=HS.out
  cases hU with
  | root =>
   have HF:=Lib.hid (And.intro hf hs)
   clear hs hI hf
   go_wp2_with fail
   try simp only [Exit.jump]
   go_returns
   exact⟨rfl,HF.out.2.done⟩
  | @step _ q l2 h1 h2 h3 =>
   obtain⟨hB,c,hc⟩:=HC.out.1.here _ _ _ hI
   have hq:c.pa=q:=by
    have:=paP_of hc
    rw [hpa,h2] at this
    exact (Option.some.inj this).symm
   obtain⟨S1,hS1⟩:=hs.env
   have hlk:=hS1.look (wf_small (hB.ids _ _ hc).1 (hB.ids _ _ hc).2)
   rw [hc] at hlk
   dsimp only [Option.map_some,Option.getD_some] at hlk
   have k0:=hS1.box.cell 0
   simp only [lTA,lCZ,lCS] at k0
   have hd:=hs.act0 (HC.out.1.does _ _ _ hI _)
   have HD:=Lib.hid hd
   have hn:=HC.out.1.next _ _ _ hI
   have hpn:=HC.out.1.pa _ _ _ hI
   have hcell:∀ W':World,Sx W A W' (Star E (PkX k mb ps (step P id)))→W'.cell? ⟨ps id,0,none⟩=some (.int .i64 q):=fun W' hs'=>by
    obtain⟨S2,hS2⟩:=hs'.env
    have hp2:=hpn id
    rw [paP_of hc] at hp2
    obtain⟨c2,hc2,e2⟩:=paP_some hp2
    obtain⟨l3,f3,q3,hr3⟩:=hS2.cls hc2
    have:=hr3.blk.cell 0
    unfold clsC at this
    simp only [lTA,lCZ,lCS] at this
    rw [this,e2,hq]
   have HX:=Lib.hid (And.intro hn (And.intro hpn (And.intro hcell (And.intro hf (And.intro hpa (And.intro h2 (And.intro h3 hU0)))))))
   clear hS1 hs hI hd hn hpn hcell hf hpa h2 h3 hc hB hq hU0
   go_wp2_with (go_at_call 42;refine HD.out.mono ?_;rintro e w4 ⟨rfl,h4⟩;have c4:=HX.out.2.2.1 _ h4;have H4:=Lib.hid h4;clear h4)
   try simp only [Exit.jump]
   go_step3
   change _∧AboveJ W A E k mb ps (.func (.func 42) #[] #[.pointer (some ⟨B,0,none⟩),.pointer (some ⟨D,0,none⟩)]) P _ step I _ _
   refine⟨rfl,?_⟩
   unfold AboveJ
   exact⟨q,l2,step P id,_,_,_,_,_,_,_,_,_,_,_,_,_,_,_,_,_,_,_,_,rfl,HX.out.2.2.2.2.2.2.1,HX.out.2.1,HX.out.1,rfl,H4.out⟩
 ·rintro a' w' ⟨i,l',P',u3,u4,u5,u6,u7,u8,u9,u10,u11,u12,u13,u14,u15,u16,u17,u18,u19,u20,u21,u22,rfl,hU,hpa,hI,hf,hs⟩
  have hU0:=hU
  cases hU with
  | root =>
   have HF:=Lib.hid (And.intro hf hs)
   clear hs hI hf
   go_wp2_with fail
   try simp only [Exit.jump]
   go_returns
   rw [← HF.out.1]
   exact⟨rfl,HF.out.2.done⟩
  | @step _ q l2 h1 h2 h3 =>
   obtain⟨hB,c,hc⟩:=HC.out.1.here _ _ _ hI
   have hq:c.pa=q:=by
    have:=paP_of hc
    rw [hpa,h2] at this
    exact (Option.some.inj this).symm
   obtain⟨S1,hS1⟩:=hs.env
   have hlk:=hS1.look (wf_small (hB.ids _ _ hc).1 (hB.ids _ _ hc).2)
   rw [hc] at hlk
   dsimp only [Option.map_some,Option.getD_some] at hlk
   have k0:=hS1.box.cell 0
   simp only [lTA,lCZ,lCS] at k0
   have hd:=hs.act0 (HC.out.1.does _ _ _ hI _)
   have HD:=Lib.hid hd
   have hn:=HC.out.1.next _ _ _ hI
   have hpn:=HC.out.1.pa _ _ _ hI
   have hcell:∀ W':World,Sx W A W' (Star E (PkX k mb ps (step P' i)))→W'.cell? ⟨ps i,0,none⟩=some (.int .i64 q):=fun W' hs'=>by
    obtain⟨S2,hS2⟩:=hs'.env
    have hp2:=hpn i
    rw [paP_of hc] at hp2
    obtain⟨c2,hc2,e2⟩:=paP_some hp2
    obtain⟨l3,f3,q3,hr3⟩:=hS2.cls hc2
    have:=hr3.blk.cell 0
    unfold clsC at this
    simp only [lTA,lCZ,lCS] at this
    rw [this,e2,hq]
   have HX:=Lib.hid (And.intro hn (And.intro hpn (And.intro hcell (And.intro hf (And.intro hpa (And.intro h2 (And.intro h3 hU0)))))))
   clear hS1 hs hI hd hn hpn hcell hf hpa h2 h3 hc hB hq hU0
   go_wp2_with (go_at_call 42;refine HD.out.mono ?_;rintro e w4 ⟨rfl,h4⟩;have c4:=HX.out.2.2.1 _ h4;have H4:=Lib.hid h4;clear h4)
   try simp only [Exit.jump]
   go_step3
   change _∧(AboveJ W A E k mb ps (.func (.func 42) #[] #[.pointer (some ⟨B,0,none⟩),.pointer (some ⟨D,0,none⟩)]) P _ step I _ _∧_)
   refine⟨rfl,?_,?_⟩
   ·unfold AboveJ
    exact⟨q,l2,step P' i,_,_,_,_,_,_,_,_,_,_,_,_,_,_,_,_,_,_,_,_,rfl,HX.out.2.2.2.2.2.2.1,fun j=>(HX.out.2.1 j).trans (HX.out.2.2.2.2.1 j),HX.out.1,HX.out.2.2.2.1,H4.out⟩
   ·show upLen P q < upLen P i
    rw [upLen_eq HX.out.2.2.2.2.2.2.1,upLen_eq HX.out.2.2.2.2.2.2.2]
    simp
theorem above_gain (B D k mb:Nat)(ps:Int→Nat)(E:Ob)(hE:Good E)(step:Pk→Int→Pk)(I:Pk→List Int→Prop)(hC:Climb 55 #[.pointer (some ⟨B,0,none⟩),.pointer (some ⟨D,0,none⟩)] E k mb ps step I)(id:Int)(l:List Int)(P:Pk)(W:World)(hU:Up P id l)(hI:I P l) :
  Acts (fun e=>e=.returned (.tuple #[])) (Star E (PkX k mb ps P)) (Star E (PkX k mb ps (l.foldl step P))) 41 #[.pointer (some ⟨k,0,none⟩),.int .i64 id,.func (.func 55) #[] #[.pointer (some ⟨B,0,none⟩),.pointer (some ⟨D,0,none⟩)]] Tryz.prog W:=fun A h=>by
 have HS:=Lib.hid (Sx.start h)
 have HI:=Lib.hid (And.intro hU hI)
 have HC:=Lib.hid (And.intro hC hE)
 clear h hU hI hC hE
 go_enter Tryz.func41,Tryz.ntmps41
 go_wp2_with fail
 refine wp_scope_jumps 0 (AboveJ W A E k mb ps (.func (.func 55) #[] #[.pointer (some ⟨B,0,none⟩),.pointer (some ⟨D,0,none⟩)]) P l step I) (fun a' _=>upLen P (Go.RowKit.intOf (a'.tmps.getD 1 undef))) rfl ?_ ?_
 ·go_wp2_with fail
  go_step3
  have hU:=HI.out.1
  have hU0:=hU
  have hpa:∀ j,paP P j=paP P j:=fun _=>rfl
  have hI:=HI.out.2
  have hf:l.foldl step P=l.foldl step P:=rfl
  have hs:=HS.out
  cases hU with
  | root =>
   have HF:=Lib.hid (And.intro hf hs)
   clear hs hI hf
   go_wp2_with fail
   try simp only [Exit.jump]
   go_returns
   exact⟨rfl,HF.out.2.done⟩
  | @step _ q l2 h1 h2 h3 =>
   obtain⟨hB,c,hc⟩:=HC.out.1.here _ _ _ hI
   have hq:c.pa=q:=by
    have:=paP_of hc
    rw [hpa,h2] at this
    exact (Option.some.inj this).symm
   obtain⟨S1,hS1⟩:=hs.env
   have hlk:=hS1.look (wf_small (hB.ids _ _ hc).1 (hB.ids _ _ hc).2)
   rw [hc] at hlk
   dsimp only [Option.map_some,Option.getD_some] at hlk
   have k0:=hS1.box.cell 0
   simp only [lTA,lCZ,lCS] at k0
   have hd:=hs.act0 (HC.out.1.does _ _ _ hI _)
   have HD:=Lib.hid hd
   have hn:=HC.out.1.next _ _ _ hI
   have hpn:=HC.out.1.pa _ _ _ hI
   have hcell:∀ W':World,Sx W A W' (Star E (PkX k mb ps (step P id)))→W'.cell? ⟨ps id,0,none⟩=some (.int .i64 q):=fun W' hs'=>by
    obtain⟨S2,hS2⟩:=hs'.env
    have hp2:=hpn id
    rw [paP_of hc] at hp2
    obtain⟨c2,hc2,e2⟩:=paP_some hp2
    obtain⟨l3,f3,q3,hr3⟩:=hS2.cls hc2
    have:=hr3.blk.cell 0
    unfold clsC at this
    simp only [lTA,lCZ,lCS] at this
    rw [this,e2,hq]
   have HX:=Lib.hid (And.intro hn (And.intro hpn (And.intro hcell (And.intro hf (And.intro hpa (And.intro h2 (And.intro h3 hU0)))))))
   clear hS1 hs hI hd hn hpn hcell hf hpa h2 h3 hc hB hq hU0
   go_wp2_with (go_at_call 55;refine HD.out.mono ?_;rintro e w4 ⟨rfl,h4⟩;have c4:=HX.out.2.2.1 _ h4;have H4:=Lib.hid h4;clear h4)
   try simp only [Exit.jump]
   go_step3
   change _∧AboveJ W A E k mb ps (.func (.func 55) #[] #[.pointer (some ⟨B,0,none⟩),.pointer (some ⟨D,0,none⟩)]) P _ step I _ _
   refine⟨rfl,?_⟩
   unfold AboveJ
   exact⟨q,l2,step P id,_,_,_,_,_,_,_,_,_,_,_,_,_,_,_,_,_,_,_,_,rfl,HX.out.2.2.2.2.2.2.1,HX.out.2.1,HX.out.1,rfl,H4.out⟩
 ·rintro a' w' ⟨i,l',P',u3,u4,u5,u6,u7,u8,u9,u10,u11,u12,u13,u14,u15,u16,u17,u18,u19,u20,u21,u22,rfl,hU,hpa,hI,hf,hs⟩
  have hU0:=hU
  cases hU with
  | root =>
   have HF:=Lib.hid (And.intro hf hs)
   clear hs hI hf
   go_wp2_with fail
   try simp only [Exit.jump]
   go_returns
   rw [← HF.out.1]
   exact⟨rfl,HF.out.2.done⟩
  | @step _ q l2 h1 h2 h3 =>
   obtain⟨hB,c,hc⟩:=HC.out.1.here _ _ _ hI
   have hq:c.pa=q:=by
    have:=paP_of hc
    rw [hpa,h2] at this
    exact (Option.some.inj this).symm
   obtain⟨S1,hS1⟩:=hs.env
   have hlk:=hS1.look (wf_small (hB.ids _ _ hc).1 (hB.ids _ _ hc).2)
   rw [hc] at hlk
   dsimp only [Option.map_some,Option.getD_some] at hlk
   have k0:=hS1.box.cell 0
   simp only [lTA,lCZ,lCS] at k0
   have hd:=hs.act0 (HC.out.1.does _ _ _ hI _)
   have HD:=Lib.hid hd
   have hn:=HC.out.1.next _ _ _ hI
   have hpn:=HC.out.1.pa _ _ _ hI
   have hcell:∀ W':World,Sx W A W' (Star E (PkX k mb ps (step P' i)))→W'.cell? ⟨ps i,0,none⟩=some (.int .i64 q):=fun W' hs'=>by
    obtain⟨S2,hS2⟩:=hs'.env
    have hp2:=hpn i
    rw [paP_of hc] at hp2
    obtain⟨c2,hc2,e2⟩:=paP_some hp2
    obtain⟨l3,f3,q3,hr3⟩:=hS2.cls hc2
    have:=hr3.blk.cell 0
    unfold clsC at this
    simp only [lTA,lCZ,lCS] at this
    rw [this,e2,hq]
   have HX:=Lib.hid (And.intro hn (And.intro hpn (And.intro hcell (And.intro hf (And.intro hpa (And.intro h2 (And.intro h3 hU0)))))))
   clear hS1 hs hI hd hn hpn hcell hf hpa h2 h3 hc hB hq hU0
   go_wp2_with (go_at_call 55;refine HD.out.mono ?_;rintro e w4 ⟨rfl,h4⟩;have c4:=HX.out.2.2.1 _ h4;have H4:=Lib.hid h4;clear h4)
   try simp only [Exit.jump]
   go_step3
   change _∧(AboveJ W A E k mb ps (.func (.func 55) #[] #[.pointer (some ⟨B,0,none⟩),.pointer (some ⟨D,0,none⟩)]) P _ step I _ _∧_)
   refine⟨rfl,?_,?_⟩
   ·unfold AboveJ
    exact⟨q,l2,step P' i,_,_,_,_,_,_,_,_,_,_,_,_,_,_,_,_,_,_,_,_,rfl,HX.out.2.2.2.2.2.2.1,fun j=>(HX.out.2.1 j).trans (HX.out.2.2.2.2.1 j),HX.out.1,HX.out.2.2.2.1,H4.out⟩
   ·show upLen P q < upLen P i
    rw [upLen_eq HX.out.2.2.2.2.2.2.1,upLen_eq HX.out.2.2.2.2.2.2.2]
    simp
theorem above_rest (B D k mb:Nat)(ps:Int→Nat)(E:Ob)(hE:Good E)(step:Pk→Int→Pk)(I:Pk→List Int→Prop)(hC:Climb 57 #[.pointer (some ⟨B,0,none⟩),.pointer (some ⟨D,0,none⟩)] E k mb ps step I)(id:Int)(l:List Int)(P:Pk)(W:World)(hU:Up P id l)(hI:I P l) :
  Acts (fun e=>e=.returned (.tuple #[])) (Star E (PkX k mb ps P)) (Star E (PkX k mb ps (l.foldl step P))) 41 #[.pointer (some ⟨k,0,none⟩),.int .i64 id,.func (.func 57) #[] #[.pointer (some ⟨B,0,none⟩),.pointer (some ⟨D,0,none⟩)]] Tryz.prog W:=fun A h=>by
 have HS:=Lib.hid (Sx.start h)
 have HI:=Lib.hid (And.intro hU hI)
 have HC:=Lib.hid (And.intro hC hE)
 clear h hU hI hC hE
 go_enter Tryz.func41,Tryz.ntmps41
 go_wp2_with fail
 refine wp_scope_jumps 0 (AboveJ W A E k mb ps (.func (.func 57) #[] #[.pointer (some ⟨B,0,none⟩),.pointer (some ⟨D,0,none⟩)]) P l step I) (fun a' _=>upLen P (Go.RowKit.intOf (a'.tmps.getD 1 undef))) rfl ?_ ?_
 ·go_wp2_with fail
  go_step3
  have hU:=HI.out.1
  have hU0:=hU
  have hpa:∀ j,paP P j=paP P j:=fun _=>rfl
  have hI:=HI.out.2
  have hf:l.foldl step P=l.foldl step P:=rfl
  have hs:=HS.out
  cases hU with
  | root =>
   have HF:=Lib.hid (And.intro hf hs)
   clear hs hI hf
   go_wp2_with fail
   try simp only [Exit.jump]
   go_returns
   exact⟨rfl,HF.out.2.done⟩
  | @step _ q l2 h1 h2 h3 =>
   obtain⟨hB,c,hc⟩:=HC.out.1.here _ _ _ hI
   have hq:c.pa=q:=by
    have:=paP_of hc
    rw [hpa,h2] at this
    exact (Option.some.inj this).symm
   obtain⟨S1,hS1⟩:=hs.env
   have hlk:=hS1.look (wf_small (hB.ids _ _ hc).1 (hB.ids _ _ hc).2)
   rw [hc] at hlk
   dsimp only [Option.map_some,Option.getD_some] at hlk
   have k0:=hS1.box.cell 0
   simp only [lTA,lCZ,lCS] at k0
   have hd:=hs.act0 (HC.out.1.does _ _ _ hI _)
   have HD:=Lib.hid hd
   have hn:=HC.out.1.next _ _ _ hI
   have hpn:=HC.out.1.pa _ _ _ hI
   have hcell:∀ W':World,Sx W A W' (Star E (PkX k mb ps (step P id)))→W'.cell? ⟨ps id,0,none⟩=some (.int .i64 q):=fun W' hs'=>by
    obtain⟨S2,hS2⟩:=hs'.env
    have hp2:=hpn id
    rw [paP_of hc] at hp2
    obtain⟨c2,hc2,e2⟩:=paP_some hp2
    obtain⟨l3,f3,q3,hr3⟩:=hS2.cls hc2
    have:=hr3.blk.cell 0
    unfold clsC at this
    simp only [lTA,lCZ,lCS] at this
    rw [this,e2,hq]
   have HX:=Lib.hid (And.intro hn (And.intro hpn (And.intro hcell (And.intro hf (And.intro hpa (And.intro h2 (And.intro h3 hU0)))))))
   clear hS1 hs hI hd hn hpn hcell hf hpa h2 h3 hc hB hq hU0
   go_wp2_with (go_at_call 57;refine HD.out.mono ?_;rintro e w4 ⟨rfl,h4⟩;have c4:=HX.out.2.2.1 _ h4;have H4:=Lib.hid h4;clear h4)
   try simp only [Exit.jump]
   go_step3
   change _∧AboveJ W A E k mb ps (.func (.func 57) #[] #[.pointer (some ⟨B,0,none⟩),.pointer (some ⟨D,0,none⟩)]) P _ step I _ _
   refine⟨rfl,?_⟩
   unfold AboveJ
   exact⟨q,l2,step P id,_,_,_,_,_,_,_,_,_,_,_,_,_,_,_,_,_,_,_,_,rfl,HX.out.2.2.2.2.2.2.1,HX.out.2.1,HX.out.1,rfl,H4.out⟩
 ·rintro a' w' ⟨i,l',P',u3,u4,u5,u6,u7,u8,u9,u10,u11,u12,u13,u14,u15,u16,u17,u18,u19,u20,u21,u22,rfl,hU,hpa,hI,hf,hs⟩
  have hU0:=hU
  cases hU with
  | root =>
   have HF:=Lib.hid (And.intro hf hs)
   clear hs hI hf
   go_wp2_with fail
   try simp only [Exit.jump]
   go_returns
   rw [← HF.out.1]
   exact⟨rfl,HF.out.2.done⟩
  | @step _ q l2 h1 h2 h3 =>
   obtain⟨hB,c,hc⟩:=HC.out.1.here _ _ _ hI
   have hq:c.pa=q:=by
    have:=paP_of hc
    rw [hpa,h2] at this
    exact (Option.some.inj this).symm
   obtain⟨S1,hS1⟩:=hs.env
   have hlk:=hS1.look (wf_small (hB.ids _ _ hc).1 (hB.ids _ _ hc).2)
   rw [hc] at hlk
   dsimp only [Option.map_some,Option.getD_some] at hlk
   have k0:=hS1.box.cell 0
   simp only [lTA,lCZ,lCS] at k0
   have hd:=hs.act0 (HC.out.1.does _ _ _ hI _)
   have HD:=Lib.hid hd
   have hn:=HC.out.1.next _ _ _ hI
   have hpn:=HC.out.1.pa _ _ _ hI
   have hcell:∀ W':World,Sx W A W' (Star E (PkX k mb ps (step P' i)))→W'.cell? ⟨ps i,0,none⟩=some (.int .i64 q):=fun W' hs'=>by
    obtain⟨S2,hS2⟩:=hs'.env
    have hp2:=hpn i
    rw [paP_of hc] at hp2
    obtain⟨c2,hc2,e2⟩:=paP_some hp2
    obtain⟨l3,f3,q3,hr3⟩:=hS2.cls hc2
    have:=hr3.blk.cell 0
    unfold clsC at this
    simp only [lTA,lCZ,lCS] at this
    rw [this,e2,hq]
   have HX:=Lib.hid (And.intro hn (And.intro hpn (And.intro hcell (And.intro hf (And.intro hpa (And.intro h2 (And.intro h3 hU0)))))))
   clear hS1 hs hI hd hn hpn hcell hf hpa h2 h3 hc hB hq hU0
   go_wp2_with (go_at_call 57;refine HD.out.mono ?_;rintro e w4 ⟨rfl,h4⟩;have c4:=HX.out.2.2.1 _ h4;have H4:=Lib.hid h4;clear h4)
   try simp only [Exit.jump]
   go_step3
   change _∧(AboveJ W A E k mb ps (.func (.func 57) #[] #[.pointer (some ⟨B,0,none⟩),.pointer (some ⟨D,0,none⟩)]) P _ step I _ _∧_)
   refine⟨rfl,?_,?_⟩
   ·unfold AboveJ
    exact⟨q,l2,step P' i,_,_,_,_,_,_,_,_,_,_,_,_,_,_,_,_,_,_,_,_,rfl,HX.out.2.2.2.2.2.2.1,fun j=>(HX.out.2.1 j).trans (HX.out.2.2.2.2.1 j),HX.out.1,HX.out.2.2.2.1,H4.out⟩
   ·show upLen P q < upLen P i
    rw [upLen_eq HX.out.2.2.2.2.2.2.1,upLen_eq HX.out.2.2.2.2.2.2.2]
    simp
end
section
open Go.RowKit Go.Maps
attribute [local go_sem ↓] Go.wp_at_zero Go.wp_at_succ
attribute [local go_sem] quietR quietAtR quietUponR midAt midUpon
section
variable {w0 W W' : World} {A : Nat → Prop} {E P Q : Ob} {φ : Ending → Prop} {f : FuncId} {args : Array Value} {prog : Program}
theorem Sx.comm (h:Sx w0 A W (Star P Q)):Sx w0 A W (Star Q P):=h.weak Star.comm
theorem Sx.actR (hE:Good E)(hP:Good P)(h:Sx w0 A W (Star E P))(ha:Acts φ P Q f args prog W):Calls prog f args W fun e W'=>φ e∧Sx w0 A W' (Star E Q) :=
 (h.comm.act hP hE ha).mono fun e W' ⟨h1,h2⟩=>⟨h1,h2.comm⟩
end
structure EnvP (E:Ob)(B k:Nat):Prop where
 good:Good E
 box:∀ {W:World} {S:Nat→Prop},E W S→Blk W B 24 #[.pointer (some ⟨k,0,none⟩)]
theorem step_note {E:Ob} {B k mb:Nat} {ps:Int→Nat} (hE:EnvP E B k)(id:Int) {P:Pk} {c:Cls} (h0:0 < id)(hc:lookM P id=some c)(hN:PkN P) :
  StepC 45 #[.pointer (some ⟨B,0,none⟩)] E k mb ps P (noteP owL P id) id:=fun W A h=>by
 have hs:=Sx.start h
 obtain⟨S1,hS1⟩:=hs.first
 have c0:=(hE.box hS1).cell 0
 simp only [lTA,lCZ,lCS] at c0
 have HD:=Lib.hid (hs.actR hE.good (good_pkX k mb ps P) (po_note id h0 hc hN))
 clear h hs hS1
 show Calls Tryz.prog 45 #[.int .i64 id,.pointer (some ⟨ps id,0,none⟩),.pointer (some ⟨B,0,none⟩)] W _
 go_enter Tryz.func45,Tryz.ntmps45
 go_wp2_with (go_at_call 46;refine HD.out.mono ?_;rintro e w1 ⟨rfl,h1⟩;have H1:=Lib.hid h1;clear h1)
 go_returns
 exact⟨rfl,H1.out.done⟩
end
section
open Go.RowKit Go.Maps
attribute [local go_sem ↓] Go.wp_at_zero Go.wp_at_succ
attribute [local go_sem] quietR quietAtR quietUponR midAt midUpon
structure PkM (P:Pk):Prop extends PkN P where
 fam:∀ id c,lookM P id=some c→FamN c.fam
 lim:∀ id c x,lookM P id=some c→c.lim=some x→x.A.length < 800000
theorem lwake_nil (w:World)(t y:Int) :
  Calls Tryz.prog 44 #[.pointer none,.int .u64 t,.int .u64 y] w fun e w'=>e=.returned (.tuple #[])∧Below w.heap.size w w':=by
 go_enter Tryz.func44,Tryz.ntmps44
 go_wp2_with (go_at_call 89;refine (lbound_nil _).mono ?_;rintro e w1 ⟨rfl,hb1⟩)
 go_returns
 exact⟨rfl,hb1⟩
theorem lx_wake {W:World} (l:Option Nat)(o:Option Rn)(now tot:Int)(ht:U now)(hy:U tot)(hfew:∀ x,o=some x→x.A.length < 900000) :
  Acts (fun e=>e=.returned (.tuple #[])) (LimX l o) (LimX l (wakeL o now tot)) 44 #[limV l,.int .u64 now,.int .u64 tot] Tryz.prog W:=by
 cases l with
 | none =>
  intro A ⟨ho,hA⟩
  subst ho
  exact (lwake_nil W now tot).mono fun e W' ⟨h1,h2⟩=>⟨h1,A,⟨rfl,hA⟩,Fr.of_below h2,fun b h=>.inl h⟩
 | some l=>exact lo_wake now tot ht hy hfew
section
variable {w0 W W' : World} {A : Nat → Prop} {S : Nat → Prop} {k mb f q : Nat} {ps : Int → Nat} {P : Pk} {id : Int} {l : Option Nat} {c c' : Cls} {E : Ob}
theorem PkX.focus (h:PkX k mb ps P W S)(hc:lookM P id=some c):∃ l f q,FocC k mb ps P id l f q (clsC c l f q) c.lim c.fam c.tr W S:=by
 have hR:=h.rising
 have h1:Star (BoxO k 68 #[.map (some mb)]) (Star (MapO mb (ptV ps P)) (Star (ClsO (ps id) c) (StarL (fun q=>ClsO (ps q.1) q.2) (delM P id)))) W S :=
  h.under fun h=>h.under fun h=>(starL_look hR hc).1 h
 have h2:Star (ClsO (ps id) c) (RestP k mb ps P id) W S:=Star.swap (h1.under Star.swap)
 obtain⟨A1,B,hS,hd,⟨l,f,q,hp⟩,hq⟩:=h2
 have h3:Star (ClsX (ps id) (clsC c l f q) l f q c.lim c.fam c.tr) (RestP k mb ps P id) W S:=⟨A1,B,hS,hd,hp,hq⟩
 exact⟨l,f,q,(Star.assoc h3).under fun h=>(Star.assoc h).under Star.assoc⟩
theorem FocC.unfocus (h:FocC k mb ps P id l f q (clsC c' l f q) c'.lim c'.fam c'.tr W S)(hc:lookM P id=some c):PkX k mb ps (putM P id c') W S:=by
 obtain⟨S',hs,hw⟩:=(Sx.start h).punfocus hc
 have hR:Rising P:=by
  obtain⟨S2,hs2⟩:=(Sx.start h).rest.rest.rest.rest.rest.first
  exact rising_pt.1 (hs2.1.rising (int_keyed Tryz.underlying3))
 have h3:Star (ClsX (ps id) (clsC c' l f q) l f q c'.lim c'.fam c'.tr) (RestP k mb ps P id) W S:=Star.unassoc (Star.under h fun h=>Star.unassoc (h.under Star.unassoc))
 have h2:Star (ClsO (ps id) c') (RestP k mb ps P id) W S:=h3.over fun h=>⟨l,f,q,h⟩
 have h1:Star (BoxO k 68 #[.map (some mb)]) (Star (MapO mb (ptV ps P)) (Star (ClsO (ps id) c') (StarL (fun q=>ClsO (ps q.1) q.2) (delM P id)))) W S:=(Star.swap h2).under Star.swap
 refine h1.under fun h=>(h.under fun h=>(starL_put hR).2 h).over fun h=>?_
 have:ptV ps (putM P id c')=ptV ps P:=by
  rw [put_pt (ps:=ps) hR fun _ _ _=>rfl]
  exact put_look (rising_pt.2 hR) (by rw [look_pt,hc];rfl)
 rw [this]
 exact h
theorem Sx.focE (h:Sx w0 A W (Star E (PkX k mb ps P)))(hc:lookM P id=some c):∃ l f q,Sx w0 A W (Star E (FocC k mb ps P id l f q (clsC c l f q) c.lim c.fam c.tr)):=by
 obtain⟨S,⟨A1,B1,hS,hd,hp,hq⟩,hw⟩:=h
 obtain⟨l,f,q,hf⟩:=hq.focus hc
 exact⟨l,f,q,S,⟨A1,B1,hS,hd,hp,hf⟩,hw⟩
theorem Sx.unfocE (h:Sx w0 A W (Star E (FocC k mb ps P id l f q (clsC c' l f q) c'.lim c'.fam c'.tr)))(hc:lookM P id=some c):Sx w0 A W (Star E (PkX k mb ps (putM P id c'))):=by
 refine h.weak fun h=>h.under fun h=>FocC.unfocus h hc
theorem Sx.famE {φ:Ending→Prop} {fn:FuncId} {args:Array Value} {prog:Program} {F':Fam} (hE:Good E)(h:Sx w0 A W (Star E (FocC k mb ps P id l f q (clsC c l f q) c.lim c.fam c.tr)))(hc:lookM P id=some c)(ha:Acts φ (FamO f c.fam) (FamO f F') fn args prog W) :
  Calls prog fn args W fun e W'=>φ e∧Sx w0 A W' (Star E (PkX k mb ps (putM P id { c with fam:=F' }))) :=
 (Sx.act4 hE (good_box _ _ _) (good_limX _ _) (good_fam _ _) good_focC3 h ha).mono fun e W' ⟨h1,h2⟩=>⟨h1,Sx.unfocE (c':={ c with fam:=F' }) h2 hc⟩
theorem Sx.limE {φ:Ending→Prop} {fn:FuncId} {args:Array Value} {prog:Program} {o':Option Rn} (hE:Good E)(h:Sx w0 A W (Star E (FocC k mb ps P id l f q (clsC c l f q) c.lim c.fam c.tr)))(hc:lookM P id=some c)(ha:Acts φ (LimX l c.lim) (LimX l o') fn args prog W) :
  Calls prog fn args W fun e W'=>φ e∧Sx w0 A W' (Star E (PkX k mb ps (putM P id { c with lim:=o' }))) :=
 (Sx.act3 hE (good_box _ _ _) (good_limX _ _) good_focC2 h ha).mono fun e W' ⟨h1,h2⟩=>⟨h1,Sx.unfocE (c':={ c with lim:=o' }) h2 hc⟩
end
end
section
open Go.RowKit Go.Maps
attribute [local go_sem ↓] Go.wp_at_zero Go.wp_at_succ
attribute [local go_sem] quietR quietAtR quietUponR midAt midUpon
structure EnvW (E:Ob)(B D k:Nat)(now:Int):Prop extends EnvP E B k where
 box2:∀ {W:World} {S:Nat→Prop},E W S→Blk W D 28 #[.int .u64 now]
theorem updF_is {P:Pk} {id:Int} {g:Fam→Fam} {c p:Cls} (hc:lookM P id=some c)(hp:lookM P c.pa=some p):updF P id g=putM P c.pa { p with fam:=g p.fam }:=by
 unfold updF
 rw [paP_of hc]
 show updP P c.pa _=_
 unfold updP
 rw [hp]
theorem step_wake {E:Ob} {B D k mb:Nat} {ps:Int→Nat} {now:Int} (hE:EnvW E B D k now)(hnow:U now)(id:Int) {P:Pk} {c:Cls} (h0:0 < id)(hc:lookM P id=some c)(hN:PkM P) :
  StepC 42 #[.pointer (some ⟨B,0,none⟩),.pointer (some ⟨D,0,none⟩)] E k mb ps P (wake1 now P id) id:=fun W A h=>by
 have hB:=hN.toPkB
 have hid:=wf_small (hB.ids _ _ hc).1 (hB.ids _ _ hc).2
 obtain⟨p,hp⟩:=hB.par id c hc (by omega)
 have hs:=Sx.start h
 obtain⟨S1,hS1⟩:=hs.first
 obtain⟨S2,hS2⟩:=hs.env
 have c0:=(hE.box hS1).cell 0
 simp only [lTA,lCZ,lCS] at c0
 have haw:=pawake_any id hid hS2 hB
 have hshE:shP P id=c.sh:=by unfold shP;rw [hc]
 have H:=Lib.hid (And.intro hs hS2)
 have HE:=Lib.hid (And.intro hE (And.intro hnow hid))
 have HC:=Lib.hid (And.intro hc (And.intro hp hN))
 have hgoodPE:∀ w w':World,Below w.heap.size w w'→Sx W A w (Star E (PkX k mb ps P))→Sx W A w' (Star E (PkX k mb ps P)):=fun w w' hb hs=>hs.later (hE.good.star (good_pkX _ _ _ _)) hb
 have HG:=Lib.hid hgoodPE
 show Calls Tryz.prog 42 #[.int .i64 id,.pointer (some ⟨ps id,0,none⟩),.pointer (some ⟨B,0,none⟩),.pointer (some ⟨D,0,none⟩)] W _
 clear h hs hS1 hS2 hgoodPE hB hN hid
 cases hw:awP P id with
 | true =>
  rw [hw] at haw
  have hres:wake1 now P id=P:=by unfold wake1;rw [if_pos (.inl hw)]
  rw [hres]
  clear hw hres hshE hc hp hE
  go_enter Tryz.func42,Tryz.ntmps42
  go_wp2_with (go_at_call 23;refine haw.mono ?_;rintro e w1 ⟨rfl,hb1⟩)
  go_returns
  exact⟨rfl,(HG.out _ _ hb1 H.out.1).done⟩
 | false =>
  rw [hw] at haw
  cases hsh:c.sh with
  | false =>
   have hres:wake1 now P id=P:=by unfold wake1;rw [if_pos (.inr (by rw [hshE,hsh]))]
   rw [hres]
   have hcell:∀ w',Sx W A w' (Star E (PkX k mb ps P))→w'.cell? ⟨ps id,2,none⟩=some (.bool false):=fun w' hs'=>by
    obtain⟨S3,hS3⟩:=hs'.env
    obtain⟨l,f,q,hr⟩:=hS3.cls hc
    have:=hr.blk.cell 2
    unfold clsC at this
    simpa [hsh] using this
   have HCE:=Lib.hid hcell
   clear hw hres hshE hc hp hE hcell hsh
   go_enter Tryz.func42,Tryz.ntmps42
   go_wp2_with (go_at_call 23;refine haw.mono ?_;rintro e w1 ⟨rfl,hb1⟩;have H1:=Lib.hid (HG.out _ _ hb1 H.out.1);have c2:=HCE.out _ H1.out;clear hb1)
   go_returns
   exact⟨rfl,H1.out.done⟩
  | true =>
   have hres:wake1 now P id=updP (updF P id (wakeF id)) id fun c=>{ c with lim:=c.lim.map fun r=>startR r now c.tot }:=by unfold wake1;rw [if_neg (by rw [hw,hshE,hsh];decide)]
   have hcell:∀ w',Sx W A w' (Star E (PkX k mb ps P))→w'.cell? ⟨ps id,2,none⟩=some (.bool true):=fun w' hs'=>by
    obtain⟨S3,hS3⟩:=hs'.env
    obtain⟨l,f,q,hr⟩:=hS3.cls hc
    have:=hr.blk.cell 2
    unfold clsC at this
    simpa [hsh] using this
   have HCE:=Lib.hid hcell
   have HR:=Lib.hid hres
   clear hw hshE hc hp hE hcell hsh hres
   go_enter Tryz.func42,Tryz.ntmps42
   go_upto_region 1 with (go_at_call 23;refine haw.mono ?_;rintro e w1 ⟨rfl,hb1⟩;have H1:=Lib.hid (HG.out _ _ hb1 H.out.1);have c2:=HCE.out _ H1.out;clear hb1)
   clear c0 c2 haw H HCE HG
   obtain⟨lp,fp,qp,hf1⟩:=H1.out.focE HC.out.2.1
   obtain⟨S3,hS3⟩:=H1.out.env
   obtain⟨S4,hS4⟩:=H1.out.first
   obtain⟨l9,f9,q9,hr9⟩:=hS3.cls HC.out.1
   have hEb:=HE.out.1.box hS4
   have hpb:=hf1.rest.box
   have ho:∀ e,PkX k mb ps P (over w1 e) S3:=fun e=>(good_pkX _ _ _ _).kept hS3 (over_below w1 e).size fun b hb=>over_heap w1 e b ((good_pkX _ _ _ _).lt hS3 b hb)
   have hlk:∀ e,(Instr.lookup 66 (.map (some mb)) (.int .i64 c.pa) false).run Tryz.prog (over w1 e)=.ok (.pointer (some ⟨ps c.pa,0,none⟩)) (over w1 e):=fun e=>by
    have hB:=HC.out.2.2.toPkB
    have:=(ho e).look (wf_small (hB.ids _ _ HC.out.2.1).1 (hB.ids _ _ HC.out.2.1).2)
    rw [HC.out.2.1] at this
    exact this
   have o1:=fun e=>(over_cell (w:=w1) (e:=e) (o:=0) hEb.lt).trans (hEb.cell 0)
   have o2:=fun e=>(over_cell (w:=w1) (e:=e) (o:=0) hS3.box.lt).trans (hS3.box.cell 0)
   have o3:=fun e=>(over_cell (w:=w1) (e:=e) (o:=0) hr9.blk.lt).trans (hr9.blk.cell 0)
   have o4:=fun e=>(over_cell (w:=w1) (e:=e) (o:=5) hpb.lt).trans (hpb.cell 5)
   unfold clsC at o3 o4
   simp only [lTA,lCZ,lCS] at o1 o2 o3 o4
   have HF1:=Lib.hid hf1
   clear hf1 hS3 hS4 hr9 hEb hpb ho H1
   refine wp_region_over_tail 13 (by kernel_rfl) (by kernel_rfl) ?_
   simp only [List.take_succ_cons,List.take_zero,List.drop_succ_cons,List.drop_zero]
   repeat (first | go_big_quiet_skip | (go_big_quiet_want;go_big_quiet_op;go_big_quiet_on))
   refine wpQuiet_nil ?_
   rintro w3 ⟨e,he⟩
   have hb3:=over_below w1 e
   rw [← he] at hb3
   have hf3:=HF1.out.later (HE.out.1.good.star good_focC) hb3
   have HD:=Lib.hid (hf3.famE HE.out.1.good HC.out.2.1 (fo_wake id HE.out.2.2 (HC.out.2.2.fam _ _ HC.out.2.1)))
   clear he hb3 hf3 HF1 o1 o2 o3 o4 hlk
   go_upto_region 2 with (go_at_call 43;refine HD.out.mono ?_;rintro e w4 ⟨rfl,h4⟩;have H4:=Lib.hid h4;clear h4)
   obtain⟨P1,hP1⟩:∃ P1,P1=putM P c.pa { p with fam:=wakeF id p.fam }:=⟨_,rfl⟩
   have hP2:updF P id (wakeF id)=P1:=by rw [updF_is HC.out.1 HC.out.2.1,hP1]
   obtain⟨c1,hc1,e1,e2⟩:∃ c1,lookM P1 id=some c1∧c1.lim=c.lim∧c1.tot=c.tot:=by
    rw [hP1]
    by_cases e:id=c.pa
    ·refine⟨_,by rw [← e];exact look_put_same _ _ _,?_⟩
     have:=HC.out.2.1
     rw [← e,HC.out.1] at this
     cases this
     exact⟨rfl,rfl⟩
    ·exact⟨c,by rw [look_put_other _ e];exact HC.out.1,rfl,rfl⟩
   have h4:=H4.out
   rw [← hP1] at h4
   obtain⟨l5,f5,q5,hf5⟩:=h4.focE hc1
   obtain⟨S5,hS5⟩:=h4.first
   have hEb:=HE.out.1.box2 hS5
   have hpb:=hf5.rest.box
   have o1:=fun e=>(over_cell (w:=w4) (e:=e) (o:=0) hEb.lt).trans (hEb.cell 0)
   have o2:=fun e=>(over_cell (w:=w4) (e:=e) (o:=3) hpb.lt).trans (hpb.cell 3)
   have o3:=fun e=>(over_cell (w:=w4) (e:=e) (o:=4) hpb.lt).trans (hpb.cell 4)
   unfold clsC at o2 o3
   simp only [lTA,lCZ,lCS] at o1 o2 o3
   have HF5:=Lib.hid hf5
   have H5:=Lib.hid (And.intro hc1 (And.intro e1 (And.intro e2 hP2)))
   clear hf5 hS5 hEb hpb h4 H4 HD hc1 e1 e2 hP1 hP2
   refine wp_region_over_tail 9 (by kernel_rfl) (by kernel_rfl) ?_
   simp only [List.take_succ_cons,List.take_zero,List.drop_succ_cons,List.drop_zero]
   repeat (first | go_big_quiet_skip | (go_big_quiet_want;go_big_quiet_op;go_big_quiet_on))
   refine wpQuiet_nil ?_
   rintro w6 ⟨e,he⟩
   have hb6:=over_below w4 e
   rw [← he] at hb6
   have hf6:=HF5.out.later (HE.out.1.good.star good_focC) hb6
   have HD:=Lib.hid (hf6.limE HE.out.1.good H5.out.1 (lx_wake l5 c1.lim now c1.tot HE.out.2.1 (by rw [H5.out.2.2.1];exact HC.out.2.2.tot _ _ HC.out.1) (fun x hx=>by
    rw [H5.out.2.1] at hx
    have:=HC.out.2.2.lim _ _ _ HC.out.1 hx
    omega)))
   clear he hb6 hf6 HF5 o1 o2 o3
   go_wp2_with (go_at_call 44;refine HD.out.mono ?_;rintro e w7 ⟨rfl,h7⟩;have H7:=Lib.hid h7;clear h7)
   go_returns
   have hfin:wake1 now P id=putM P1 id { c1 with lim:=wakeL c1.lim now c1.tot }:=by
    rw [HR.out,H5.out.2.2.2]
    unfold updP
    rw [H5.out.1]
    rfl
   rw [hfin]
   exact⟨rfl,H7.out.done⟩
end
section
open Go.RowKit Go.Maps
attribute [local go_sem ↓] Go.wp_at_zero Go.wp_at_succ
attribute [local go_sem] quietR quietAtR quietUponR midAt midUpon
theorem Sx.setE {w0 W:World} {A:Nat→Prop} {E:Ob} {k mb f q i:Nat} {ps:Int→Nat} {P:Pk} {id:Int} {l:Option Nat} {cs cs':Array Value} {lim:Option Rn} {fam:Fam} {tr:List En} {u:Value} (hE:Good E)(h:Sx w0 A W (Star E (FocC k mb ps P id l f q cs lim fam tr)))(he:cs.setIfInBounds i u=cs') :
  Sx w0 A (W.setCell ⟨ps id,i,none⟩ u) (Star E (FocC k mb ps P id l f q cs' lim fam tr)):=((h.swap).set (hE.star good_focC1) he).swap
theorem step_gain {E:Ob} {B D k mb:Nat} {ps:Int→Nat} {n:Int} (hE:EnvW E B D k n)(hn:U n)(id:Int) {P:Pk} {c:Cls} (h0:0 < id)(hc:lookM P id=some c)(hN:PkM P)(hcap:c.tot≤4611686018427387904) :
  StepC 55 #[.pointer (some ⟨D,0,none⟩),.pointer (some ⟨B,0,none⟩)] E k mb ps P (sent1 reachR n P id) id:=fun W A h=>by
 have hB:=hN.toPkB
 have hid:=wf_small (hB.ids _ _ hc).1 (hB.ids _ _ hc).2
 obtain⟨p,hp⟩:=hB.par id c hc (by omega)
 have hs:=Sx.start h
 obtain⟨l,f,q,hf⟩:=hs.focE hc
 obtain⟨S1,hS1⟩:=hs.first
 have htot:=hN.tot _ _ hc
 obtain⟨n0,n1⟩:=hn
 obtain⟨t0,t1⟩:=htot
 have c3:=hf.rest.box.cell 3
 have f3:=hf.rest.box.frozen 3
 have g0:=(hE.box2 hS1).cell 0
 unfold clsC at c3
 simp only [lTA,lCZ,lCS] at c3 g0
 obtain⟨t',ht'⟩:∃ t',t'=c.tot+min n (capC - c.tot):=⟨_,rfl⟩
 have htn:c.tot+min n (4611686018427387904 - c.tot)=t':=ht'.symm
 have hsub:0≤4611686018427387904 - c.tot:=by omega
 have hU:U t':=by unfold U;omega
 have HF:=Lib.hid hf
 have HE:=Lib.hid (And.intro hE (And.intro (show U n from ⟨n0,n1⟩) hid))
 have HC:=Lib.hid (And.intro hc (And.intro hp (And.intro hN ht')))
 show Calls Tryz.prog 55 #[.int .i64 id,.pointer (some ⟨ps id,0,none⟩),.pointer (some ⟨D,0,none⟩),.pointer (some ⟨B,0,none⟩)] W _
 clear h hs hS1 hf hB hN hid hE hc hp ht'
 go_enter Tryz.func55,Tryz.ntmps55
 go_upto_region 0 with fail
 go_region
 obtain⟨c1,hc1⟩:∃ c1:Cls,c1={ c with tot:=t' }:=⟨_,rfl⟩
 obtain⟨P1,hP1⟩:∃ P1,P1=putM P id c1:=⟨_,rfl⟩
 have hu1:(updP P id fun c=>{ c with tot:=c.tot+min n (capC - c.tot) })=P1:=by
  unfold updP
  rw [HC.out.1,hP1,hc1,HC.out.2.2.2]
 have hl1:lookM P1 id=some c1:=by rw [hP1];exact look_put_same _ _ _
 have hpa1:c1.pa=c.pa:=by rw [hc1]
 obtain⟨p1,hp1,ef1⟩:∃ p1,lookM P1 c.pa=some p1∧p1.fam=p.fam:=by
  rw [hP1]
  by_cases e:c.pa=id
  ·refine⟨c1,by rw [e];exact look_put_same _ _ _,?_⟩
   have:=HC.out.2.1
   rw [e,HC.out.1] at this
   cases this
   rw [hc1]
  ·exact⟨p,by rw [look_put_other _ e];exact HC.out.2.1,rfl⟩
 have h2:=((HF.out.setE (u:=.int .u64 t') (i:=3) (cs':=clsC c1 l f q) HE.out.1.good (by rw [hc1];rfl)).later (HE.out.1.good.star good_focC) ((Below.refl _ _).drew))
 have h3:Sx W A _ (Star E (PkX k mb ps (putM P id c1))):=Sx.unfocE (c':=c1) (by rw [hc1] at h2 ⊢;exact h2) HC.out.1
 rw [← hP1] at h3
 have H3:=Lib.hid h3
 have HP:=Lib.hid (And.intro hl1 (And.intro hpa1 (And.intro hp1 (And.intro ef1 hu1))))
 clear h2 h3 hl1 hpa1 hp1 ef1 hu1 hP1 hc1 HF c3 f3 g0 htn hsub
 generalize (W.setCell ⟨ps id,3,none⟩ (.int .u64 t')).drew=w1 at H3 ⊢
 go_upto_region 1 with fail
 obtain⟨lp,fp,qp,hf1⟩:=H3.out.focE HP.out.2.2.1
 obtain⟨S3,hS3⟩:=H3.out.env
 obtain⟨S4,hS4⟩:=H3.out.first
 obtain⟨l9,f9,q9,hr9⟩:=hS3.cls HP.out.1
 have hEb:=HE.out.1.box hS4
 have hEd:=HE.out.1.box2 hS4
 have hpb:=hf1.rest.box
 have ho:∀ e,PkX k mb ps P1 (over w1 e) S3:=fun e=>(good_pkX _ _ _ _).kept hS3 (over_below w1 e).size fun b hb=>over_heap w1 e b ((good_pkX _ _ _ _).lt hS3 b hb)
 have hlk:∀ e,(Instr.lookup 66 (.map (some mb)) (.int .i64 c.pa) false).run Tryz.prog (over w1 e)=.ok (.pointer (some ⟨ps c.pa,0,none⟩)) (over w1 e):=fun e=>by
  have hB:=HC.out.2.2.1.toPkB
  have:=(ho e).look (wf_small (hB.ids _ _ HC.out.2.1).1 (hB.ids _ _ HC.out.2.1).2)
  rw [HP.out.2.2.1] at this
  exact this
 have o1:=fun e=>(over_cell (w:=w1) (e:=e) (o:=0) hEb.lt).trans (hEb.cell 0)
 have o2:=fun e=>(over_cell (w:=w1) (e:=e) (o:=0) hS3.box.lt).trans (hS3.box.cell 0)
 have o3:=fun e=>(over_cell (w:=w1) (e:=e) (o:=0) hr9.blk.lt).trans (hr9.blk.cell 0)
 have o4:=fun e=>(over_cell (w:=w1) (e:=e) (o:=5) hpb.lt).trans (hpb.cell 5)
 have o5:=fun e=>(over_cell (w:=w1) (e:=e) (o:=0) hEd.lt).trans (hEd.cell 0)
 unfold clsC at o3 o4
 rw [HP.out.2.1] at o3
 simp only [lTA,lCZ,lCS] at o1 o2 o3 o4 o5
 have HF1:=Lib.hid hf1
 clear hf1 hS3 hS4 hr9 hEb hEd hpb ho H3
 refine wp_region_over_tail 14 (by kernel_rfl) (by kernel_rfl) ?_
 simp only [List.take_succ_cons,List.take_zero,List.drop_succ_cons,List.drop_zero]
 repeat (first | go_big_quiet_skip | (go_big_quiet_want;go_big_quiet_op;go_big_quiet_on))
 refine wpQuiet_nil ?_
 rintro w3 ⟨e,he⟩
 have hb3:=over_below w1 e
 rw [← he] at hb3
 have hf3:=HF1.out.later (HE.out.1.good.star good_focC) hb3
 have HD:=Lib.hid (hf3.famE HE.out.1.good HP.out.2.2.1 (fo_gain id n HE.out.2.2 HE.out.2.1 (by rw [HP.out.2.2.2.1];exact HC.out.2.2.1.fam _ _ HC.out.2.1)))
 clear he hb3 hf3 HF1 o1 o2 o3 o4 o5 hlk
 go_wp2_with (go_at_call 56;refine HD.out.mono ?_;rintro e w4 ⟨rfl,h4⟩;have H4:=Lib.hid h4;clear h4)
 go_returns
 have hfin:sent1 reachR n P id=putM P1 c.pa { p1 with fam:=gainF reachR id n p1.fam }:=by
  unfold sent1
  rw [HP.out.2.2.2.2]
  rw [updF_is HP.out.1 (by rw [HP.out.2.1];exact HP.out.2.2.1),HP.out.2.1]
 rw [hfin]
 exact⟨rfl,H4.out.done⟩
end
section
open Go.RowKit Go.Maps
attribute [local go_sem ↓] Go.wp_at_zero Go.wp_at_succ
attribute [local go_sem] quietR quietAtR quietUponR midAt midUpon
structure EnvS (E:Ob)(B D k:Nat)(sl:Bool):Prop extends EnvP E B k where
 box2:∀ {W:World} {S:Nat→Prop},E W S→Blk W D 4 #[.bool sl]
theorem step_rest_no {E:Ob} {B D k mb:Nat} {ps:Int→Nat} {sl:Bool} (hE:EnvS E B D k sl)(id:Int) {P:Pk} {c:Cls} (h0:0 < id)(hc:lookM P id=some c)(hN:PkN P)(hno:¬ (sl=true∧(c.lf=true∨c.tr=[]))) :
  StepC 57 #[.pointer (some ⟨D,0,none⟩),.pointer (some ⟨B,0,none⟩)] E k mb ps P (noteP owL P id) id:=fun W A h=>by
 have hs:=Sx.start h
 obtain⟨S1,hS1⟩:=hs.first
 obtain⟨l,f,q,hf⟩:=hs.focE hc
 have c0:=(hE.box hS1).cell 0
 have g0:=(hE.box2 hS1).cell 0
 have c1:=hf.rest.box.cell 1
 have c6:=hf.rest.box.cell 6
 unfold clsC at c1 c6
 simp only [lTA,lCZ,lCS] at c0 g0 c1 c6
 obtain⟨S2,hS2⟩:=hf.rest.rest.rest.rest.first
 have hln:=tr_len hS2
 have HD:=Lib.hid (hs.actR hE.good (good_pkX k mb ps P) (po_note id h0 hc hN))
 show Calls Tryz.prog 57 #[.int .i64 id,.pointer (some ⟨ps id,0,none⟩),.pointer (some ⟨D,0,none⟩),.pointer (some ⟨B,0,none⟩)] W _
 clear h hs hS1 hf hS2 hE
 cases sl with
 | false =>
  clear hno hc hN
  go_enter Tryz.func57,Tryz.ntmps57
  go_wp2_with (go_at_call 46;refine HD.out.mono ?_;rintro e w1 ⟨rfl,h1⟩;have H1:=Lib.hid h1;clear h1)
  go_returns
  exact⟨rfl,H1.out.done⟩
 | true =>
  have h1:c.lf=false:=by
   cases e:c.lf with
   | false=>rfl
   | true=>exact absurd ⟨rfl,.inl e⟩ hno
  have h2:¬ c.tr=[]:=fun e=>hno ⟨rfl,.inr e⟩
  have h3:¬ ((c.tr.length:Int)=0):=fun e=>h2 (List.eq_nil_of_length_eq_zero (by omega))
  have hd:decide ((c.tr.length:Int)=0)=false:=decide_eq_false h3
  rw [h1] at c1
  generalize (c.tr.length:Int)=n at *
  clear hno hc hN h1 h2
  go_enter Tryz.func57,Tryz.ntmps57
  go_wp2_with (first
   | (go_at_call 58;refine hln.mono ?_;rintro e w1 ⟨rfl,rfl⟩)
   | (go_at_call 46;refine HD.out.mono ?_;rintro e w1 ⟨rfl,h1⟩;have H1:=Lib.hid h1;clear h1))
  go_returns
  exact⟨rfl,H1.out.done⟩
theorem step_rest_go {E:Ob} {B D k mb:Nat} {ps:Int→Nat} (hE:EnvS E B D k true)(id:Int) {P:Pk} {c:Cls} (h0:0 < id)(hc:lookM P id=some c)(hN:PkN P)(hN1:PkN (updF P id (sleepF id)))(hl1:∃ c1,lookM (updF P id (sleepF id)) id=some c1)(hgo:c.lf=true∨c.tr=[]) :
  StepC 57 #[.pointer (some ⟨D,0,none⟩),.pointer (some ⟨B,0,none⟩)] E k mb ps P (noteP owL (updF P id (sleepF id)) id) id:=fun W A h=>by
 have hB:=hN.toPkB
 have hid:=wf_small (hB.ids _ _ hc).1 (hB.ids _ _ hc).2
 obtain⟨p,hp⟩:=hB.par id c hc (by omega)
 have hs:=Sx.start h
 obtain⟨S1,hS1⟩:=hs.first
 obtain⟨l,f,q,hf⟩:=hs.focE hc
 have c0:=(hE.box hS1).cell 0
 have g0:=(hE.box2 hS1).cell 0
 have c1:=hf.rest.box.cell 1
 have c6:=hf.rest.box.cell 6
 unfold clsC at c1 c6
 simp only [lTA,lCZ,lCS] at c0 g0 c1 c6
 obtain⟨S2,hS2⟩:=hf.rest.rest.rest.rest.first
 have hln:=tr_len hS2
 have HS:=Lib.hid hs
 have HE:=Lib.hid (And.intro hE hid)
 have HC:=Lib.hid (And.intro hc (And.intro hp (And.intro hN (And.intro hN1 hl1))))
 show Calls Tryz.prog 57 #[.int .i64 id,.pointer (some ⟨ps id,0,none⟩),.pointer (some ⟨D,0,none⟩),.pointer (some ⟨B,0,none⟩)] W _
 clear h hs hS1 hf hS2 hE hc hp hN hN1 hl1 hid hB
 cases hlf:c.lf with
 | true =>
   rw [hlf] at c1
   clear hgo hlf hln
   go_enter Tryz.func57,Tryz.ntmps57
   go_upto_region 1 with fail
   clear c1 c6 c0 g0
   obtain⟨lp,fp,qp,hf1⟩:=HS.out.focE HC.out.2.1
   obtain⟨S3,hS3⟩:=HS.out.env
   obtain⟨S4,hS4⟩:=HS.out.first
   obtain⟨l9,f9,q9,hr9⟩:=hS3.cls HC.out.1
   have hEb:=HE.out.1.box hS4
   have hpb:=hf1.rest.box
   have ho:∀ e,PkX k mb ps P (over W e) S3:=fun e=>(good_pkX _ _ _ _).kept hS3 (over_below W e).size fun b hb=>over_heap W e b ((good_pkX _ _ _ _).lt hS3 b hb)
   have hlk:∀ e,(Instr.lookup 66 (.map (some mb)) (.int .i64 c.pa) false).run Tryz.prog (over W e)=.ok (.pointer (some ⟨ps c.pa,0,none⟩)) (over W e):=fun e=>by
    have hB:=HC.out.2.2.1.toPkB
    have:=(ho e).look (wf_small (hB.ids _ _ HC.out.2.1).1 (hB.ids _ _ HC.out.2.1).2)
    rw [HC.out.2.1] at this
    exact this
   have o1:=fun e=>(over_cell (w:=W) (e:=e) (o:=0) hEb.lt).trans (hEb.cell 0)
   have o2:=fun e=>(over_cell (w:=W) (e:=e) (o:=0) hS3.box.lt).trans (hS3.box.cell 0)
   have o3:=fun e=>(over_cell (w:=W) (e:=e) (o:=0) hr9.blk.lt).trans (hr9.blk.cell 0)
   have o4:=fun e=>(over_cell (w:=W) (e:=e) (o:=5) hpb.lt).trans (hpb.cell 5)
   unfold clsC at o3 o4
   simp only [lTA,lCZ,lCS] at o1 o2 o3 o4
   have HF1:=Lib.hid hf1
   clear hf1 hS3 hS4 hr9 hEb hpb ho HS
   refine wp_region_over_tail 13 (by kernel_rfl) (by kernel_rfl) ?_
   simp only [List.take_succ_cons,List.take_zero,List.drop_succ_cons,List.drop_zero]
   repeat (first | go_big_quiet_skip | (go_big_quiet_want;go_big_quiet_op;go_big_quiet_on))
   refine wpQuiet_nil ?_
   rintro w3 ⟨e,he⟩
   have hb3:=over_below W e
   rw [← he] at hb3
   have hf3:=HF1.out.later (HE.out.1.good.star good_focC) hb3
   have HD:=Lib.hid (hf3.famE HE.out.1.good HC.out.2.1 (fo_sleep id HE.out.2))
   clear he hb3 hf3 HF1 o1 o2 o3 o4 hlk
   go_upto_region 2 with (go_at_call 59;refine HD.out.mono ?_;rintro e w4 ⟨rfl,h4⟩;have H4:=Lib.hid h4;clear h4)
   have h4:=H4.out
   rw [← updF_is (g:=sleepF id) HC.out.1 HC.out.2.1] at h4
   obtain⟨S5,hS5⟩:=h4.first
   have d0:=(HE.out.1.box hS5).cell 0
   simp only [lTA,lCZ,lCS] at d0
   obtain⟨c1,hc1⟩:=HC.out.2.2.2.2
   have HN:=Lib.hid (h4.actR HE.out.1.good (good_pkX k mb ps _) (po_note id h0 hc1 HC.out.2.2.2.1))
   clear h4 H4 HD hS5 hc1
   go_wp2_with (go_at_call 46;refine HN.out.mono ?_;rintro e w5 ⟨rfl,h5⟩;have H5:=Lib.hid h5;clear h5)
   go_returns
   exact⟨rfl,H5.out.done⟩
 | false =>
   have htr:c.tr=[]:=hgo.elim (fun e=>by rw [hlf] at e;cases e) fun e=>e
   rw [hlf] at c1
   rw [htr] at hln
   clear hgo hlf htr
   go_enter Tryz.func57,Tryz.ntmps57
   go_upto_region 1 with (go_at_call 58;refine hln.mono ?_;rintro e w1 ⟨rfl,rfl⟩)
   clear c1 c6 c0 g0 hln
   obtain⟨lp,fp,qp,hf1⟩:=HS.out.focE HC.out.2.1
   obtain⟨S3,hS3⟩:=HS.out.env
   obtain⟨S4,hS4⟩:=HS.out.first
   obtain⟨l9,f9,q9,hr9⟩:=hS3.cls HC.out.1
   have hEb:=HE.out.1.box hS4
   have hpb:=hf1.rest.box
   have ho:∀ e,PkX k mb ps P (over W e) S3:=fun e=>(good_pkX _ _ _ _).kept hS3 (over_below W e).size fun b hb=>over_heap W e b ((good_pkX _ _ _ _).lt hS3 b hb)
   have hlk:∀ e,(Instr.lookup 66 (.map (some mb)) (.int .i64 c.pa) false).run Tryz.prog (over W e)=.ok (.pointer (some ⟨ps c.pa,0,none⟩)) (over W e):=fun e=>by
    have hB:=HC.out.2.2.1.toPkB
    have:=(ho e).look (wf_small (hB.ids _ _ HC.out.2.1).1 (hB.ids _ _ HC.out.2.1).2)
    rw [HC.out.2.1] at this
    exact this
   have o1:=fun e=>(over_cell (w:=W) (e:=e) (o:=0) hEb.lt).trans (hEb.cell 0)
   have o2:=fun e=>(over_cell (w:=W) (e:=e) (o:=0) hS3.box.lt).trans (hS3.box.cell 0)
   have o3:=fun e=>(over_cell (w:=W) (e:=e) (o:=0) hr9.blk.lt).trans (hr9.blk.cell 0)
   have o4:=fun e=>(over_cell (w:=W) (e:=e) (o:=5) hpb.lt).trans (hpb.cell 5)
   unfold clsC at o3 o4
   simp only [lTA,lCZ,lCS] at o1 o2 o3 o4
   have HF1:=Lib.hid hf1
   clear hf1 hS3 hS4 hr9 hEb hpb ho HS
   refine wp_region_over_tail 13 (by kernel_rfl) (by kernel_rfl) ?_
   simp only [List.take_succ_cons,List.take_zero,List.drop_succ_cons,List.drop_zero]
   repeat (first | go_big_quiet_skip | (go_big_quiet_want;go_big_quiet_op;go_big_quiet_on))
   refine wpQuiet_nil ?_
   rintro w3 ⟨e,he⟩
   have hb3:=over_below W e
   rw [← he] at hb3
   have hf3:=HF1.out.later (HE.out.1.good.star good_focC) hb3
   have HD:=Lib.hid (hf3.famE HE.out.1.good HC.out.2.1 (fo_sleep id HE.out.2))
   clear he hb3 hf3 HF1 o1 o2 o3 o4 hlk
   go_upto_region 2 with (go_at_call 59;refine HD.out.mono ?_;rintro e w4 ⟨rfl,h4⟩;have H4:=Lib.hid h4;clear h4)
   have h4:=H4.out
   rw [← updF_is (g:=sleepF id) HC.out.1 HC.out.2.1] at h4
   obtain⟨S5,hS5⟩:=h4.first
   have d0:=(HE.out.1.box hS5).cell 0
   simp only [lTA,lCZ,lCS] at d0
   obtain⟨c1,hc1⟩:=HC.out.2.2.2.2
   have HN:=Lib.hid (h4.actR HE.out.1.good (good_pkX k mb ps _) (po_note id h0 hc1 HC.out.2.2.2.1))
   clear h4 H4 HD hS5 hc1
   go_wp2_with (go_at_call 46;refine HN.out.mono ?_;rintro e w5 ⟨rfl,h5⟩;have H5:=Lib.hid h5;clear h5)
   go_returns
   exact⟨rfl,H5.out.done⟩
end
section
open Go.RowKit Go.Maps
attribute [local go_sem ↓] Go.wp_at_zero Go.wp_at_succ
attribute [local go_sem] quietR quietAtR quietUponR midAt midUpon
def EnvO2 (B D k:Nat)(now:Int):Ob:=Star (BoxO D 28 #[.int .u64 now]) (BoxO B 24 #[.pointer (some ⟨k,0,none⟩)])
theorem envO2 (B D k:Nat)(now:Int):EnvW (EnvO2 B D k now) B D k now :=
 ⟨⟨(good_box _ _ _).star (good_box _ _ _),fun ⟨_,_,_,_,_,h⟩=>h.1⟩,fun ⟨_,_,_,_,h,_⟩=>h.1⟩
structure WakeWay (k mb:Nat)(ps:Int→Nat)(P:Pk)(leaf now:Int)(l:List Int)(I1 I2:Pk→List Int→Prop):Prop where
 up:Up P leaf l
 up1:Up (l.foldl (wake1 now) P) leaf l
 i1:I1 P l
 i2:I2 (l.foldl (wake1 now) P) l
 c1:∀ E B D,EnvW E B D k now→Climb 42 #[.pointer (some ⟨B,0,none⟩),.pointer (some ⟨D,0,none⟩)] E k mb ps (wake1 now) I1
 c2:∀ E B,EnvP E B k→Climb 45 #[.pointer (some ⟨B,0,none⟩)] E k mb ps (noteP owL) I2
theorem po_wake {W:World} {k mb:Nat} {ps:Int→Nat} {P:Pk} {leaf now:Int} {l:List Int} {I1 I2:Pk→List Int→Prop} {c:Cls} (hw:WakeWay k mb ps P leaf now l I1 I2)(h1:1≤leaf)(hid:(Lit.int .i64 leaf).wf=true)(hc:lookM P leaf=some c)(hlf:c.lf=true)(hsh:c.sh=true) :
  Acts (fun e=>e=.returned (.tuple #[])) (PkX k mb ps P) (PkX k mb ps (l.foldl (noteP owL) (l.foldl (wake1 now) P))) 11 #[.pointer (some ⟨k,0,none⟩),.int .i64 leaf,.int .u64 now] Tryz.prog W:=fun A h=>by
 have hs0:=((Sx.start (P:=PkX k mb ps P) h).alloc (good_pkX _ _ _ _) #[.pointer (some ⟨k,0,none⟩)] 24).alloc ((good_box _ _ _).star (good_pkX _ _ _ _)) #[.int .u64 now] 28
 rw [World.size_alloc] at hs0
 have H0:=Lib.hid hs0
 have HW:=Lib.hid (And.intro hw (And.intro hid (And.intro hc (And.intro hlf hsh))))
 clear h hs0 hw hid hc hlf hsh
 go_enter Tryz.func11,Tryz.ntmps11
 go_upto_region 1 with fail
 try simp only [World.size_alloc]
 generalize (W.alloc (.cells #[.pointer (some ⟨k,0,none⟩)] 24)).alloc (.cells #[.int .u64 now] 28)=W1 at H0 ⊢
 obtain⟨B,hB⟩:∃ B,B=W.heap.size:=⟨_,rfl⟩
 obtain⟨D,hD⟩:∃ D,D=W.heap.size+1:=⟨_,rfl⟩
 rw [← hD,← hB] at H0 ⊢
 clear hB hD
 have h1':Sx W A W1 (Star (EnvO2 B D k now) (PkX k mb ps P)):=H0.out.weak Star.unassoc
 obtain⟨S2,hS2⟩:=h1'.env
 obtain⟨l9,f9,q9,hr⟩:=hS2.cls HW.out.2.2.1
 have b0:=H0.out.rest.box.cell 0
 have c1:=hr.blk.cell 1
 have c2:=hr.blk.cell 2
 unfold clsC at c1 c2
 rw [HW.out.2.2.2.1] at c1
 rw [HW.out.2.2.2.2] at c2
 simp only [lTA,lCZ,lCS] at b0 c1 c2
 have ha:=pat_any leaf HW.out.2.1 hS2
 unfold cpV at ha
 rw [HW.out.2.2.1] at ha
 dsimp only at ha
 have HD1:=Lib.hid (h1'.act0 (above_wake B D k mb ps _ (envO2 B D k now).good (wake1 now) I1 (HW.out.1.c1 _ B D (envO2 B D k now)) leaf l P W1 HW.out.1.up HW.out.1.i1))
 clear hS2 hr h1' H0
 go_upto_region 4 with (first
  | (go_at_call 34;refine ha.mono ?_;rintro e w1 ⟨rfl,rfl⟩)
  | (go_at_call 41;refine HD1.out.mono ?_;rintro e w2 ⟨rfl,h2⟩;have H2:=Lib.hid h2;clear h2))
 obtain⟨S3,hS3⟩:=H2.out.first
 have b2:=((envO2 B D k now).box hS3).cell 0
 simp only [lTA,lCZ,lCS] at b2
 have HD2:=Lib.hid (H2.out.act0 (above_note B k mb ps _ (envO2 B D k now).good (noteP owL) I2 (HW.out.1.c2 _ B (envO2 B D k now).toEnvP) leaf l _ w2 HW.out.1.up1 HW.out.1.i2))
 clear hS3 H2 b0 c1 c2
 go_wp2_with (go_at_call 41;refine HD2.out.mono ?_;rintro e w3 ⟨rfl,h3⟩;have H3:=Lib.hid h3;clear h3)
 go_returns
 exact⟨rfl,H3.out.rest.done⟩
end
section
open Go.RowKit Go.Maps
attribute [local go_sem ↓] Go.wp_at_zero Go.wp_at_succ
attribute [local go_sem] quietR quietAtR quietUponR midAt midUpon
def EnvO3 (Q B D k:Nat)(now:Int)(sl:Bool):Ob:=Star (BoxO Q 4 #[.bool sl]) (EnvO2 B D k now)
theorem envO3 (Q B D k:Nat)(now:Int)(sl:Bool):EnvS (EnvO3 Q B D k now sl) B Q k sl :=
 ⟨⟨(good_box _ _ _).star (envO2 B D k now).good,fun ⟨_,_,_,_,_,h⟩=>(envO2 B D k now).box h⟩,fun ⟨_,_,_,_,h,_⟩=>h.1⟩
structure SentWay (k mb:Nat)(ps:Int→Nat)(P:Pk)(leaf n:Int)(more:Bool)(l:List Int)(I1 I2:Pk→List Int→Prop):Prop where
 up:Up P leaf l
 up1:Up (l.foldl (sent1 reachR n) P) leaf l
 i1:I1 P l
 i2:I2 (l.foldl (sent1 reachR n) P) l
 b1:PkB (l.foldl (sent1 reachR n) P)
 c1:∀ E B D,EnvW E B D k n→Climb 55 #[.pointer (some ⟨D,0,none⟩),.pointer (some ⟨B,0,none⟩)] E k mb ps (sent1 reachR n) I1
 c2:∀ E B Q,EnvS E B Q k (!more && awP (l.foldl (sent1 reachR n) P) leaf)→Climb 57 #[.pointer (some ⟨Q,0,none⟩),.pointer (some ⟨B,0,none⟩)] E k mb ps (sent2 owL (!more && awP (l.foldl (sent1 reachR n) P) leaf)) I2
theorem po_sent {W:World} {k mb:Nat} {ps:Int→Nat} {P:Pk} {leaf n:Int} {more:Bool} {l:List Int} {I1 I2:Pk→List Int→Prop} {c:Cls} (hw:SentWay k mb ps P leaf n more l I1 I2)(h1:1≤leaf)(hid:(Lit.int .i64 leaf).wf=true)(hc:lookM P leaf=some c)(hlf:c.lf=true) :
  Acts (fun e=>e=.returned (.tuple #[])) (PkX k mb ps P) (PkX k mb ps (l.foldl (sent2 owL (!more && awP (l.foldl (sent1 reachR n) P) leaf)) (l.foldl (sent1 reachR n) P))) 15 #[.pointer (some ⟨k,0,none⟩),.int .i64 leaf,.int .u64 n,.bool more] Tryz.prog W:=fun A h=>by
 have hs0:=((Sx.start (P:=PkX k mb ps P) h).alloc (good_pkX _ _ _ _) #[.pointer (some ⟨k,0,none⟩)] 24).alloc ((good_box _ _ _).star (good_pkX _ _ _ _)) #[.int .u64 n] 28
 rw [World.size_alloc] at hs0
 have H0:=Lib.hid hs0
 have HW:=Lib.hid (And.intro hw (And.intro hid (And.intro hc hlf)))
 obtain⟨sl,hsl⟩:∃ sl,sl=(!more && awP (l.foldl (sent1 reachR n) P) leaf):=⟨_,rfl⟩
 rw [← hsl]
 have HSL:=Lib.hid hsl
 clear h hs0 hw hid hc hlf hsl
 go_enter Tryz.func15,Tryz.ntmps15
 go_upto_region 1 with fail
 try simp only [World.size_alloc]
 generalize (W.alloc (.cells #[.pointer (some ⟨k,0,none⟩)] 24)).alloc (.cells #[.int .u64 n] 28)=W1 at H0 ⊢
 obtain⟨B,hB⟩:∃ B,B=W.heap.size:=⟨_,rfl⟩
 obtain⟨D,hD⟩:∃ D,D=W.heap.size+1:=⟨_,rfl⟩
 rw [← hD,← hB] at H0 ⊢
 clear hB hD
 have h1':Sx W A W1 (Star (EnvO2 B D k n) (PkX k mb ps P)):=H0.out.weak Star.unassoc
 obtain⟨S2,hS2⟩:=h1'.env
 obtain⟨l9,f9,q9,hr⟩:=hS2.cls HW.out.2.2.1
 have b0:=H0.out.rest.box.cell 0
 have c1:=hr.blk.cell 1
 unfold clsC at c1
 rw [HW.out.2.2.2] at c1
 simp only [lTA,lCZ,lCS] at b0 c1
 have ha:=pat_any leaf HW.out.2.1 hS2
 unfold cpV at ha
 rw [HW.out.2.2.1] at ha
 dsimp only at ha
 have HD1:=Lib.hid (h1'.act0 (above_gain D B k mb ps _ (envO2 B D k n).good (sent1 reachR n) I1 (HW.out.1.c1 _ B D (envO2 B D k n)) leaf l P W1 HW.out.1.up HW.out.1.i1))
 clear hS2 hr h1' H0
 go_upto_region 4 with (first
  | (go_at_call 34;refine ha.mono ?_;rintro e w1 ⟨rfl,rfl⟩)
  | (go_at_call 41;refine HD1.out.mono ?_;rintro e w2 ⟨rfl,h2⟩;have H2:=Lib.hid h2;clear h2))
 obtain⟨S3,hS3⟩:=H2.out.first
 obtain⟨S4,hS4⟩:=H2.out.env
 have b2:=((envO2 B D k n).box hS3).cell 0
 simp only [lTA,lCZ,lCS] at b2
 have haw:=pawake_any leaf HW.out.2.1 hS4 HW.out.1.b1
 have hlater:∀ w3:World,Below w2.heap.size w2 w3→Sx W A (w3.alloc (.cells #[.bool sl] 4)) (Star (EnvO3 w3.heap.size B D k n sl) (PkX k mb ps (l.foldl (sent1 reachR n) P))):=fun w3 hb3 =>
  ((H2.out.later ((envO2 B D k n).good.star (good_pkX _ _ _ _)) hb3).alloc ((envO2 B D k n).good.star (good_pkX _ _ _ _)) #[.bool sl] 4).weak Star.unassoc
 have HL:=Lib.hid hlater
 clear hS3 hS4 H2 b0 c1 hlater HD1 ha
 cases more with
 | true =>
  clear haw
  go_upto_region 5 with fail
  have hsl:sl=false:=HSL.out
  have hq:=HL.out w2 (Below.refl _ _)
  obtain⟨S5,hS5⟩:=hq.first
  have b5:=((envO3 _ B D k n _).box hS5).cell 0
  simp only [lTA,lCZ,lCS] at b5
  have hc2:=HW.out.1.c2 (EnvO3 w2.heap.size B D k n sl) B w2.heap.size (by rw [← HSL.out];exact envO3 _ _ _ _ _ _)
  rw [← HSL.out] at hc2
  have HD2:=Lib.hid (hq.act0 (above_rest w2.heap.size B k mb ps _ (envO3 _ B D k n sl).good (sent2 owL sl) I2 hc2 leaf l _ _ HW.out.1.up1 HW.out.1.i2))
  clear hS5 hc2 b2
  rw [hsl] at hq HD2 b5
  go_wp2_with (go_at_call 41;refine HD2.out.mono ?_;rintro e w6 ⟨rfl,h6⟩;have H6:=Lib.hid h6;clear h6)
  go_returns
  rw [hsl]
  exact⟨rfl,H6.out.rest.done⟩
 | false =>
  go_upto_region 5 with (go_at_call 23;refine haw.mono ?_;rintro e w3 ⟨rfl,hb3⟩;have H3:=Lib.hid (HL.out _ hb3);clear hb3)
  have hsl:sl=awP (l.foldl (sent1 reachR n) P) leaf:=HSL.out
  have hq:=H3.out
  obtain⟨S5,hS5⟩:=hq.first
  have b5:=((envO3 _ B D k n _).box hS5).cell 0
  simp only [lTA,lCZ,lCS] at b5
  have hc2:=HW.out.1.c2 (EnvO3 w3.heap.size B D k n sl) B w3.heap.size (by rw [← HSL.out];exact envO3 _ _ _ _ _ _)
  rw [← HSL.out] at hc2
  have HD2:=Lib.hid (hq.act0 (above_rest w3.heap.size B k mb ps _ (envO3 _ B D k n sl).good (sent2 owL sl) I2 hc2 leaf l _ _ HW.out.1.up1 HW.out.1.i2))
  clear hS5 hc2 b2
  rw [hsl] at hq HD2 b5
  go_wp2_with (go_at_call 41;refine HD2.out.mono ?_;rintro e w6 ⟨rfl,h6⟩;have H6:=Lib.hid h6;clear h6)
  go_returns
  rw [hsl]
  exact⟨rfl,H6.out.rest.done⟩
end
end Go.Proofs.YtmmeopjemkjllaaGreat
