/- Lemmas of the claim. No conditions beyond those that each states. -/
import Derived.Test.YtmmeopjemkjllaaGreatPT42
set_option linter.unusedVariables false
set_option linter.unusedSimpArgs false
set_option maxRecDepth 100000
set_option maxHeartbeats 8000000
namespace Go.Proofs.YtmmeopjemkjllaaGreat
section
open Go.RowKit Go.Maps
attribute [local go_sem ↓] Go.wp_at_zero Go.wp_at_succ
attribute [local go_sem] quietR quietAtR quietUponR midAt midUpon
def spE1:Sp:=⟨1,0,true,(0,0,0),(0,0,256),(0,0,0),0,0⟩
def spE2:Sp:=⟨2,0,true,(0,0,0),(0,0,256),(0,0,0),0,0⟩
def spE3:Sp:=⟨3,2,false,(0,0,0),(0,0,256),(0,0,0),0,0⟩
theorem wf_e1:WfSp spE1:=⟨⟨by decide,by decide,by decide,by decide⟩,(show UC ((0,0,0):Cv) by unfold UC U;decide),(show UC ((0,0,256):Cv) by unfold UC U;decide),(show UC ((0,0,0):Cv) by unfold UC U;decide)⟩
theorem wf_e2:WfSp spE2:=⟨⟨by decide,by decide,by decide,by decide⟩,(show UC ((0,0,0):Cv) by unfold UC U;decide),(show UC ((0,0,256):Cv) by unfold UC U;decide),(show UC ((0,0,0):Cv) by unfold UC U;decide)⟩
theorem wf_e3:WfSp spE3:=⟨⟨by decide,by decide,by decide,by decide⟩,(show UC ((0,0,0):Cv) by unfold UC U;decide),(show UC ((0,0,256):Cv) by unfold UC U;decide),(show UC ((0,0,0):Cv) by unfold UC U;decide)⟩
def clsE:Cls:=⟨0,true,true,0,none,fam0,[],0⟩
theorem exQ1_is:exQ1=[(0,⟨0,false,false,0,none,⟨[(1,mem0 cE)],0⟩,[],1⟩),(1,clsE)]:=by kernel_rfl
theorem exQ2_is:exQ2=[(0,⟨0,false,false,0,none,⟨[(1,mem0 cE),(2,mem0 cE)],0⟩,[],2⟩),(1,clsE),(2,clsE)]:=by kernel_rfl
theorem look1 {α:Type} {a:Int} {x y:α} {k:Int} {r:List (Int × α)} (h:lookM ((a,x) :: r) k=some y):(k=a∧y=x)∨lookM r k=some y:=by
 unfold lookM at h
 dsimp only at h
 by_cases e:a=k
 ·rw [if_pos e] at h
  exact .inl ⟨e.symm,(Option.some.inj h).symm⟩
 ·rw [if_neg e] at h
  exact .inr h
theorem famZ_e {m:List (Int × Mem)} (hR:Rising m)(h:∀ x k,lookM m x=some k→k=mem0 cE)(hl:m.length≤2):FamZ 2 ⟨m,0⟩ :=
 ⟨hR,fun x k hx=>by rw [h x k hx];unfold mem0;dsimp only;omega,fun x k hx=>by rw [h x k hx];unfold mem0;dsimp only;omega,fun x k hx=>by rw [h x k hx];exact⟨by unfold mem0 rn0;dsimp only;omega,Nat.zero_le _⟩,by dsimp only;omega,hl⟩
theorem pkZ_e2:PkZ 2 exQ2∧PkB exQ2:=by
 have hc:∀ id c,lookM exQ2 id=some c→(id=0∨id=1∨id=2)∧c.pa=0∧c.tot=0∧c.tr=[]∧c.lim=none∧FamZ 2 c.fam∧0≤c.un∧c.un≤2:=fun id c h=>by
  rw [exQ2_is] at h
  rcases look1 h with ⟨rfl,rfl⟩ | h
  ·refine⟨.inl rfl,rfl,rfl,rfl,rfl,famZ_e (by simp [Rising]) (fun x k hx=>?_) (by decide),by decide,by decide⟩
   rcases look1 hx with ⟨_,rfl⟩ | hx
   ·rfl
   ·rcases look1 hx with ⟨_,rfl⟩ | hx
    ·rfl
    ·cases hx
  ·rcases look1 h with ⟨rfl,rfl⟩ | h
   ·exact⟨.inr (.inl rfl),rfl,rfl,rfl,rfl,famZ_0,by decide,by decide⟩
   ·rcases look1 h with ⟨rfl,rfl⟩ | h
    ·exact⟨.inr (.inr rfl),rfl,rfl,rfl,rfl,famZ_0,by decide,by decide⟩
    ·cases h
 refine⟨⟨fun id c h=>?_,fun id c h=>?_,fun id c x h hx=>?_,fun id c h=>(hc id c h).2.2.2.2.2.1,fun id c h=>?_⟩,fun id c h=>?_,fun id c h h0=>?_⟩
 ·have:=hc id c h;rw [this.2.2.1];omega
 ·have:=hc id c h;rw [this.2.2.2.1];exact Nat.zero_le _
 ·have:=hc id c h;rw [this.2.2.2.2.1] at hx;cases hx
 ·have:=(hc id c h).2.2.2.2.2.2;omega
 ·have:=(hc id c h).1;omega
 ·have:=hc id c h
  rw [this.2.1,exQ2_is]
  exact⟨_,rfl⟩
theorem pkG_e1:PkG exQ1:=by
 have hc:∀ id c,lookM exQ1 id=some c→(id=0∨id=1)∧c.pa=0∧FamZ 2 c.fam∧0≤c.un∧c.un≤2:=fun id c h=>by
  rw [exQ1_is] at h
  rcases look1 h with ⟨rfl,rfl⟩ | h
  ·refine⟨.inl rfl,rfl,famZ_e (by simp [Rising]) (fun x k hx=>?_) (by decide),by decide,by decide⟩
   rcases look1 hx with ⟨_,rfl⟩ | hx
   ·rfl
   ·cases hx
  ·rcases look1 h with ⟨rfl,rfl⟩ | h
   ·exact⟨.inr rfl,rfl,famZ_0,by decide,by decide⟩
   ·cases h
 refine⟨⟨fun id c h=>?_,fun id c h h0=>?_⟩,fun id c h=>(hc id c h).2.2.1.famN (by decide),fun id c h=>?_,by rw [exQ1_is];decide⟩
 ·have:=(hc id c h).1;omega
 ·rw [(hc id c h).2.1,exQ1_is]
  exact⟨_,rfl⟩
 ·have:=(hc id c h).2.2.2;omega
theorem up_e {P:Pk} (hs:∀ j,statP P j=statP exQ2 j) {j:Int} (hj:j=1∨j=2):Up P j [j]∧∃ c,lookM P j=some c∧c.lf=true:=by
 have hpa:paP P j=some 0:=by
  rw [pa_of_stat (hs j),exQ2_is]
  rcases hj with rfl | rfl <;> rfl
 refine⟨.step (by omega) hpa .root,?_⟩
 obtain⟨c,hc,_⟩:=paP_some hpa
 refine⟨c,hc,?_⟩
 rw [← lfP_of hc,lf_of_stat (hs j),exQ2_is]
 rcases hj with rfl | rfl <;> rfl
theorem exI_is (i:Nat):exI i=1∨exI i=2:=by unfold exI;omega
theorem ex_num4:PkZ 10 exQ4∧∀ j,statP exQ4 j=statP exQ2 j:=by
 obtain⟨z2,b2⟩:=pkZ_e2
 obtain⟨z3,s3⟩:=wakeP_num (leaf:=2) (now:=0) b2 z2 (up_e (fun _=>rfl) (.inr rfl)).1 (by decide) (by unfold U;omega)
 have b3:=b2.stat s3
 obtain⟨z4,s4⟩:=wakeP_num (leaf:=1) (now:=0) b3 z3 (up_e s3 (.inl rfl)).1 (by decide) (by unfold U;omega)
 exact⟨z4,fun j=>(s4 j).trans (s3 j)⟩
theorem ex_num:∀ i,i≤6→PkZ (10+4*i) (exS i)∧∀ j,statP (exS i) j=statP exQ2 j
 | 0,_=>ex_num4
 | i+1,h=>by
  obtain⟨z,s⟩:=ex_num i (by omega)
  have b:=pkZ_e2.2.stat s
  obtain⟨z1,s1⟩:=sentP_num (leaf:=exI i) (g:=1024) (more:=decide (i < 5)) b z (up_e s (exI_is i)).1 (by simp only [List.length_cons,List.length_nil];omega) (by unfold U;omega)
  rw [ex_step i (by omega)] at z1 s1
  exact⟨z1.mono (by simp only [List.length_cons,List.length_nil];omega),fun j=>(s1 j).trans (s j)⟩
theorem pput_leaf {W:World} {k mb:Nat} {ps:Int→Nat} {P:Pk} (s:Sp) {p:Cls} (hw:WfSp s)(h1:1≤s.id)(hn:lookM P s.id=none)(hp:lookM P s.pa=some p)(hpl:p.lf=true) :
  Acts (fun e=>e=.returned (.bool false)) (PkX k mb ps P) (PkX k mb ps P) 9 #[.pointer (some ⟨k,0,none⟩),spV s] Tryz.prog W:=fun A h=>by
 have hid:(Lit.int .i64 s.id).wf=true:=hw.1.1
 have hpa:(Lit.int .i64 s.pa).wf=true:=hw.1.2.1
 have hs0:=(Sx.start (P:=PkX k mb ps P) h).alloc (good_pkX _ _ _ _) (spC s) 32
 have H0:=Lib.hid hs0
 have HID:=Lib.hid (And.intro hid hpa)
 unfold spV spC at *
 clear h hs0 hw hid hpa
 go_enter Tryz.func9,Tryz.ntmps9
 go_upto_region 1 with fail
 generalize hW1:W.alloc (.cells #[.int .i64 s.id,.int .i64 s.pa,.bool s.lf,.int .u64 s.r.1,.int .u64 s.r.2.1,.int .u64 s.r.2.2,.int .u64 s.s.1,.int .u64 s.s.2.1,.int .u64 s.s.2.2,.int .u64 s.u.1,.int .u64 s.u.2.1,.int .u64 s.u.2.2,.int .i64 s.pk,.int .i64 s.by_] 32)=W1 at H0 ⊢
 obtain⟨B,hB⟩:∃ B,B=W.heap.size:=⟨_,rfl⟩
 rw [← hB] at H0 ⊢
 clear hB hW1
 obtain⟨k0,b0,b1,b2,b3,b4,b5,b6,b7,b8,b9,b10,b11,b12,b13⟩:=put_cells (s:=s) H0.out
 obtain⟨S1,hS1⟩:=H0.out.env
 have ha1:=pat_any s.pa HID.out.2 hS1
 have ha2:=pat_any s.id HID.out.1 hS1
 unfold cpV at ha1 ha2
 rw [hp] at ha1
 rw [hn] at ha2
 dsimp only at ha1 ha2
 obtain⟨lp,fp,qp,hr⟩:=hS1.cls hp
 have c1:=hr.blk.cell 1
 unfold clsC at c1
 rw [hpl] at c1
 simp only [lTA,lCZ,lCS] at c1
 clear hS1 hr hn hp hpl
 go_wp2_with (first
  | (go_at_call 34;with_reducible refine ha1.mono ?_;rintro e w1 ⟨rfl,rfl⟩;clear ha1)
  | (go_at_call 34;with_reducible refine ha2.mono ?_;rintro e w1 ⟨rfl,rfl⟩;clear ha2))
 go_ret
 exact⟨rfl,H0.out.rest.done⟩
theorem ex_put1 {p:Nat} (W:World):Acts (fun e=>e=.returned (.bool true)) (PkO p pk0) (PkO p exQ1) 9 #[.pointer (some ⟨p,0,none⟩),.agg #[.int .i64 1,.int .i64 0,.bool true,.int .u64 0,.int .u64 0,.int .u64 0,.int .u64 0,.int .u64 0,.int .u64 256,.int .u64 0,.int .u64 0,.int .u64 0,.int .i64 0,.int .i64 0]] Tryz.prog W:=by
 have h:putP pk0 spE1.id spE1.pa spE1.lf (shB spE1) spE1.s (limN spE1.u)=exQ1:=by kernel_rfl
 rw [← h]
 exact Acts.pkO fun mb ps=>pput_any spE1 wf_e1 (ginv_0.pkG (by decide)) (by decide) rfl (p:=⟨0,false,false,0,none,fam0,[],0⟩) rfl rfl rfl
theorem ex_put2 {p:Nat} (W:World):Acts (fun e=>e=.returned (.bool true)) (PkO p exQ1) (PkO p exQ2) 9 #[.pointer (some ⟨p,0,none⟩),.agg #[.int .i64 2,.int .i64 0,.bool true,.int .u64 0,.int .u64 0,.int .u64 0,.int .u64 0,.int .u64 0,.int .u64 256,.int .u64 0,.int .u64 0,.int .u64 0,.int .i64 0,.int .i64 0]] Tryz.prog W:=by
 have h:putP exQ1 spE2.id spE2.pa spE2.lf (shB spE2) spE2.s (limN spE2.u)=exQ2:=by kernel_rfl
 rw [← h]
 exact Acts.pkO fun mb ps=>pput_any spE2 wf_e2 pkG_e1 (by decide) (by rw [exQ1_is];rfl) (p:=⟨0,false,false,0,none,⟨[(1,mem0 cE)],0⟩,[],1⟩) (by rw [exQ1_is];rfl) rfl rfl
theorem ex_put3 {p:Nat} (W:World):Acts (fun e=>e=.returned (.bool false)) (PkO p exQ2) (PkO p exQ2) 9 #[.pointer (some ⟨p,0,none⟩),.agg #[.int .i64 3,.int .i64 2,.bool false,.int .u64 0,.int .u64 0,.int .u64 0,.int .u64 0,.int .u64 0,.int .u64 256,.int .u64 0,.int .u64 0,.int .u64 0,.int .i64 0,.int .i64 0]] Tryz.prog W :=
 Acts.pk fun mb ps=>pput_leaf spE3 wf_e3 (by decide) (by rw [exQ2_is];rfl) (p:=clsE) (by rw [exQ2_is];rfl) rfl
theorem ex_wake2 {p:Nat} (W:World):Acts (fun e=>e=.returned (.tuple #[])) (PkO p exQ2) (PkO p exQ3) 11 #[.pointer (some ⟨p,0,none⟩),.int .i64 2,.int .u64 0] Tryz.prog W:=by
 obtain⟨z2,b2⟩:=pkZ_e2
 obtain⟨hu,c,hc,hl⟩:=up_e (P:=exQ2) (fun _=>rfl) (.inr rfl)
 exact Acts.pk fun mb ps=>pwake_any (now:=0) b2 z2 hu (by decide) (by unfold U;omega) (by decide) hc hl
theorem ex_wake1 {p:Nat} (W:World):Acts (fun e=>e=.returned (.tuple #[])) (PkO p exQ3) (PkO p exQ4) 11 #[.pointer (some ⟨p,0,none⟩),.int .i64 1,.int .u64 0] Tryz.prog W:=by
 obtain⟨z2,b2⟩:=pkZ_e2
 obtain⟨z3,s3⟩:=wakeP_num (leaf:=2) (now:=0) b2 z2 (up_e (fun _=>rfl) (.inr rfl)).1 (by decide) (by unfold U;omega)
 obtain⟨hu,c,hc,hl⟩:=up_e (P:=exQ3) s3 (.inl rfl)
 exact Acts.pk fun mb ps=>pwake_any (now:=0) (b2.stat s3) z3 hu (by decide) (by unfold U;omega) (by decide) hc hl
theorem ex_pb {i:Nat} (hi:i≤6):PkB (exS i):=pkZ_e2.2.stat (ex_num i hi).2
theorem ex_sent {p i:Nat} (hi:i < 6)(W:World):Acts (fun e=>e=.returned (.tuple #[])) (PkO p (exS i)) (PkO p (exS (i+1))) 15 #[.pointer (some ⟨p,0,none⟩),.int .i64 (exI i),.int .u64 1024,.bool (decide (i < 5))] Tryz.prog W:=by
 obtain⟨z,s⟩:=ex_num i (by omega)
 obtain⟨hu,c,hc,hl⟩:=up_e s (exI_is i)
 rw [← ex_step i hi]
 exact Acts.pk fun mb ps=>psent_any (ex_pb (by omega)) z hu (by simp only [List.length_cons,List.length_nil];omega) (by unfold U;omega) (by have:=exI_is i;omega) hc hl
theorem ex_next {p i:Nat} (hi:i≤6) {W:World} {S:Nat→Prop} (h:PkO p (exS i) W S):Calls Tryz.prog 13 #[.pointer (some ⟨p,0,none⟩),.int .u64 9] W fun e W'=>e=.returned (.tuple #[.int .i64 (exI i),.bool true])∧Below W.heap.size W W':=by
 obtain⟨mb,ps,h⟩:=h
 obtain⟨n,hn⟩:=exN i (by omega)
 exact pnext_any h (ex_pb hi) hn
theorem ex_tells {p:Nat} {W:World} {S:Nat→Prop} (h:PkO p (exS 6) W S) :
  Calls Tryz.prog 23 #[.pointer (some ⟨p,0,none⟩),.int .i64 2] W (fun e W'=>e=.returned (.bool false)∧Below W.heap.size W W') ∧
  Calls Tryz.prog 30 #[.pointer (some ⟨p,0,none⟩),.int .i64 1] W (fun e W'=>e=.returned (.int .u64 12)∧Below W.heap.size W W') ∧
  Calls Tryz.prog 27 #[.pointer (some ⟨p,0,none⟩),.int .i64 2] W (fun e W'=>e=.returned (.int .u64 3072)∧Below W.heap.size W W') ∧
  Calls Tryz.prog 21 #[.pointer (some ⟨p,0,none⟩)] W (fun e W'=>e=.returned (.int .u64 0)∧Below W.heap.size W W'):=by
 obtain⟨mb,ps,h⟩:=h
 obtain⟨e1,e2,e3,e4⟩:=ex_end
 have b:=ex_pb (i:=6) (by decide)
 have h1:=pawake_any 2 (by decide) h b
 have h2:=pv_any 1 (by decide) h b
 have h3:=ptotal_any 2 (by decide) h
 have hr:∃ c,lookM (exS 6) 0=some c:=by
  have:=look_of_stat ((ex_num 6 (by decide)).2 0)
  rw [exQ2_is] at this
  exact Option.isSome_iff_exists.1 this
 obtain⟨c,hc⟩:=hr
 have h4:=ptick_any h hc
 rw [e1] at h1
 rw [e2] at h2
 rw [e3] at h3
 rw [e4] at h4
 exact⟨h1,h2,h3,h4⟩
theorem pkawake_any (w:World):Calls Tryz.prog 18 #[] w fun e w'=>e=.returned (.bool true)∧Below w.heap.size w w':=by
 have h0:Sx w (fun _=>False) w Emp:=Sx.start (P:=Emp) (fun b h=>h)
 have H0:=Lib.hid h0
 clear h0
 go_enter Tryz.func18,Tryz.ntmps18
 go_upto_region 5 with (go_at_call 7;refine (pnew_any _).mono ?_;rintro e w2 hw2;obtain⟨p,rfl,h2⟩:=H0.out.new good_emp (fun q=>good_pk q _) hw2;have H2:=Lib.hid h2;clear h2 hw2)
 have h3:=H2.out.alloc ((good_pk _ _).star good_emp) #[.int .u64 0,.int .u64 0,.int .u64 256] 30
 obtain⟨C,hC⟩:∃ C,C=w2.heap.size:=⟨_,rfl⟩
 rw [← hC] at h3 ⊢
 have H3:=Lib.hid h3
 clear h3 hC H2 H0
 generalize w2.alloc (.cells #[.int .u64 0,.int .u64 0,.int .u64 256] 30)=w3 at H3 ⊢
 have sc:∀ {W:World} {R:Ob},Sx w (fun _=>False) W (Star (BoxO C 30 #[.int .u64 0,.int .u64 0,.int .u64 256]) R)→W.cell? ⟨C,0,none⟩=some (.int .u64 0)∧W.cell? ⟨C,1,none⟩=some (.int .u64 0)∧W.cell? ⟨C,2,none⟩=some (.int .u64 256):=fun h=>⟨h.box.cell 0,h.box.cell 1,h.box.cell 2⟩
 have s3:=sc H3.out
 have T1:=Lib.hid True.intro
 have T2:=Lib.hid True.intro
 have T3:=Lib.hid True.intro
 go_region_held3 (fun W'=>W'.cell? ⟨C,0,none⟩=some (.int .u64 0)∧W'.cell? ⟨C,1,none⟩=some (.int .u64 0)∧W'.cell? ⟨C,2,none⟩=some (.int .u64 256)) (first | exact s3 | exact s4 | exact s5 | exact s6) (first
  | (go_at_call 9;clear T1;refine (Sx.act2 (good_box _ _ _) (good_pk _ _) good_emp (H3.out.later ((good_box _ _ _).star ((good_pk _ _).star good_emp)) (by first | exact Below.refl _ _ | exact⟨rfl,rfl,rfl,Nat.le_refl _,fun _ _=>rfl⟩)) (ex_put1 _)).mono ?_;rintro e w4 ⟨rfl,h4⟩;have s4:=sc h4;have H4:=Lib.hid h4;clear h4)
  | (go_at_call 9;clear T2;refine (Sx.act2 (good_box _ _ _) (good_pk _ _) good_emp (H4.out.later ((good_box _ _ _).star ((good_pk _ _).star good_emp)) (by first | exact Below.refl _ _ | exact⟨rfl,rfl,rfl,Nat.le_refl _,fun _ _=>rfl⟩)) (ex_put2 _)).mono ?_;rintro e w5 ⟨rfl,h5⟩;have s5:=sc h5;have H5:=Lib.hid h5;clear h5)
  | (go_at_call 9;clear T3;refine (Sx.act2 (good_box _ _ _) (good_pk _ _) good_emp (H5.out.later ((good_box _ _ _).star ((good_pk _ _).star good_emp)) (by first | exact Below.refl _ _ | exact⟨rfl,rfl,rfl,Nat.le_refl _,fun _ _=>rfl⟩)) (ex_put3 _)).mono ?_;rintro e w6 ⟨rfl,h6⟩;have s6:=sc h6;have H6:=Lib.hid h6;clear h6))
 clear s3 s4 s5 s6 H3 H4 H5
 have gE:∀ P,Good (Star (BoxO C 30 #[.int .u64 0,.int .u64 0,.int .u64 256]) (Star (PkO p P) Emp)):=fun P=>(good_box _ _ _).star ((good_pk _ _).star good_emp)
 have GE:=Lib.hid gE
 have HW2:=Lib.hid (Sx.act2 (good_box _ _ _) (good_pk _ _) good_emp H6.out (ex_wake2 _))
 clear gE H6
 have T1:=Lib.hid True.intro
 have T2:=Lib.hid True.intro
 go_wp2_with (first
  | (go_at_call 11;clear T1;refine HW2.out.mono ?_;clear HW2;rintro e w7 ⟨rfl,h7⟩;have HW1:=Lib.hid (Sx.act2 (good_box _ _ _) (good_pk _ _) good_emp h7 (ex_wake1 _));clear h7)
  | (go_at_call 11;clear T2;refine HW1.out.mono ?_;clear HW1;rintro e w8 ⟨rfl,h8⟩;have H8:=Lib.hid h8;clear h8))
 go_loopw [6] (fun v6 wr=>∃ i:Nat,v6=.int .i64 i∧i≤6∧Sx w (fun _=>False) wr (Star (BoxO C 30 #[.int .u64 0,.int .u64 0,.int .u64 256]) (Star (PkO p (exS i)) Emp))) (fun v6 _=>(6 - Go.RowKit.intOf v6).toNat)
 case atStart=>exact⟨0,rfl,Nat.zero_le _,H8.out⟩
 case round =>
  obtain⟨i,rfl,hi,hs⟩:=hrel
  obtain⟨S9,hS9⟩:=hs.rest.first
  have hn:=ex_next hi hS9
  have HS:=Lib.hid hs
  clear hs hS9 H8
  by_cases hlt:i < 6
  ·obtain⟨x,hx⟩:∃ x,x=exI i:=⟨_,rfl⟩
   have hx1:1+(i:Int) % 2=x:=by rw [hx];unfold exI;omega
   have hx2:1+(i:Int).tmod 2=x:=by rw [hx];unfold exI;rw [Int.tmod_eq_emod_of_nonneg (by omega)];omega
   obtain⟨mo,hmo⟩:∃ mo,decide ((i:Int) < 5)=mo:=⟨_,rfl⟩
   have hmo2:decide (i < 5)=mo:=by
    rw [← hmo]
    by_cases h5:i < 5
    ·rw [decide_eq_true h5,decide_eq_true (by omega)]
    ·rw [decide_eq_false h5,decide_eq_false (by omega)]
   have hse:∀ W,Acts (fun e=>e=.returned (.tuple #[])) (PkO p (exS i)) (PkO p (exS (i+1))) 15 #[.pointer (some ⟨p,0,none⟩),.int .i64 x,.int .u64 1024,.bool mo] Tryz.prog W:=fun W=>by
    rw [hx,← hmo2]
    exact ex_sent hlt W
   rw [← hx] at hn
   have HSE:=Lib.hid hse
   clear hse hmo2 hx
   go_wp2_with (first
    | (go_at_call 13;refine hn.mono ?_;clear hn;rintro e w9 ⟨rfl,hb9⟩;have H9:=Lib.hid (HS.out.later (GE.out _) hb9);clear hb9 HS)
    | (go_at_call 15;refine (Sx.act2 (good_box _ _ _) (good_pk _ _) good_emp H9.out (HSE.out _)).mono ?_;rintro e wa ⟨rfl,ha⟩;have HA:=Lib.hid ha;clear ha))
   go_roundw
   case measure=>(simp [Go.RowKit.intOf];try omega)
   case rel=>exact⟨i+1,by go_num,by omega,HA.out⟩
  ·obtain rfl:i=6:=by omega
   have hI:exI 6=1:=by decide
   rw [hI] at hn
   clear hi
   go_wp2_with (first
    | (go_at_call 13;refine hn.mono ?_;clear hn;rintro e w9 ⟨rfl,hb9⟩;have H9:=Lib.hid (HS.out.later (GE.out _) hb9);obtain⟨Sa,hSa⟩:=H9.out.rest.first;have t1:=(ex_tells hSa).1;clear hb9 HS hSa)
    | (go_at_call 23;refine t1.mono ?_;clear t1;rintro e wa ⟨rfl,hba⟩;have HA:=Lib.hid (H9.out.later (GE.out _) hba);obtain⟨Sb,hSb⟩:=HA.out.rest.first;have t2:=(ex_tells hSb).2.1;clear hba H9 hSb)
    | (go_at_call 30;refine t2.mono ?_;clear t2;rintro e wb ⟨rfl,hbb⟩;have HB:=Lib.hid (HA.out.later (GE.out _) hbb);obtain⟨Sc,hSc⟩:=HB.out.rest.first;have t3:=(ex_tells hSc).2.2.1;clear hbb HA hSc)
    | (go_at_call 27;refine t3.mono ?_;clear t3;rintro e wc ⟨rfl,hbc⟩;have HC:=Lib.hid (HB.out.later (GE.out _) hbc);obtain⟨Sd,hSd⟩:=HC.out.rest.first;have t4:=(ex_tells hSd).2.2.2;clear hbc HB hSd)
    | (go_at_call 21;refine t4.mono ?_;clear t4;rintro e wd ⟨rfl,hbd⟩;have HD:=Lib.hid (HC.out.later (GE.out _) hbd);clear hbd HC))
   go_ret
   exact⟨rfl,HD.out.newO.1⟩
end
section
open Go.RowKit Go.Maps
attribute [local go_sem ↓] Go.wp_at_zero Go.wp_at_succ
attribute [local go_sem] quietR quietAtR quietUponR midAt midUpon
theorem plong_any (a:Option Addr)(len cap:Nat)(w:World)(hl:len≤9223372036854775807) :
  Calls Tryz.prog 19 #[.slice a len cap] w fun e w'=>e=.returned (.bool (decide (120 < len)))∧w=w':=by
 have e:decide ((120:Int) < (len:Int))=decide (120 < len):=decide_eq_decide.2 (by omega)
 have E:=Lib.hid e
 clear e
 go_enter Tryz.func19,Tryz.ntmps19
 go_wp2
 go_ret
 exact⟨by rw [← E.out];rfl,rfl⟩
section
variable {w0 W : World} {A : Nat → Prop} {g p t n k : Nat} {now : Int} {P : Pk} {M : Mp} {sent : Int → Int} {wt : Int → Bool}
theorem rd_pk (h:Sx w0 A W (GamO g p t now P M sent wt)) {W':World} (hb:Below W.heap.size W W'):∃ mb ps S,PkX p mb ps P W' S:=by
 obtain⟨S,mb,ps,hX⟩:=(h.later (good_gam _ _ _ _ _ _ _ _) hb).rest.first
 exact⟨mb,ps,S,hX⟩
theorem rd_awake (hG:GInv n k P M wt sent)(h:Sx w0 A W (GamO g p t now P M sent wt))(id:Int)(hid:(Lit.int .i64 id).wf=true) {W':World} (hb:Below W.heap.size W W') :
  Calls Tryz.prog 23 #[.pointer (some ⟨p,0,none⟩),.int .i64 id] W' fun e w'=>e=.returned (.bool (awP P id))∧Below W'.heap.size W' w':=by
 obtain⟨mb,ps,S,hX⟩:=rd_pk h hb
 exact pawake_any id hid hX hG.pb
theorem rd_fit (hG:GInv n k P M wt sent)(hn:n < 100000)(h:Sx w0 A W (GamO g p t now P M sent wt))(id:Int)(hid:(Lit.int .i64 id).wf=true) {W':World} (hb:Below W.heap.size W W') :
  Calls Tryz.prog 24 #[.pointer (some ⟨p,0,none⟩),.int .i64 id] W' fun e w'=>e=.returned (.int .u64 (fitA P id))∧Below W'.heap.size W' w':=by
 obtain⟨mb,ps,S,hX⟩:=rd_pk h hb
 exact pfit_any id hid hX (hG.num.pkM hn hG.pb).toPkN awP_look
theorem rd_v (hG:GInv n k P M wt sent)(h:Sx w0 A W (GamO g p t now P M sent wt))(id:Int)(hid:(Lit.int .i64 id).wf=true) {W':World} (hb:Below W.heap.size W W') :
  Calls Tryz.prog 30 #[.pointer (some ⟨p,0,none⟩),.int .i64 id] W' fun e w'=>e=.returned (.int .u64 (vP P id))∧Below W'.heap.size W' w':=by
 obtain⟨mb,ps,S,hX⟩:=rd_pk h hb
 exact pv_any id hid hX hG.pb
theorem rd_total (h:Sx w0 A W (GamO g p t now P M sent wt))(id:Int)(hid:(Lit.int .i64 id).wf=true) {W':World} (hb:Below W.heap.size W W') :
  Calls Tryz.prog 27 #[.pointer (some ⟨p,0,none⟩),.int .i64 id] W' fun e w'=>e=.returned (.int .u64 (totP P id))∧Below W'.heap.size W' w':=by
 obtain⟨mb,ps,S,hX⟩:=rd_pk h hb
 exact ptotal_any id hid hX
theorem rd_tick (hG:GInv n k P M wt sent)(h:Sx w0 A W (GamO g p t now P M sent wt)) {W':World} (hb:Below W.heap.size W W') :
  Calls Tryz.prog 21 #[.pointer (some ⟨p,0,none⟩)] W' fun e w'=>e=.returned (.int .u64 (tickP P))∧Below W'.heap.size W' w':=by
 obtain⟨mb,ps,S,hX⟩:=rd_pk h hb
 obtain⟨c,hc,_⟩:=hG.all.wf.root
 exact ptick_any hX hc
theorem rd_next (hG:GInv n k P M wt sent)(h:Sx w0 A W (GamO g p t now P M sent wt)) {nw:Int} {r:Option Int} {m:Nat} (hd:Desc P nw 0 r m) {W':World} (hb:Below W.heap.size W W') :
  Calls Tryz.prog 13 #[.pointer (some ⟨p,0,none⟩),.int .u64 nw] W' fun e w'=>e=.returned (.tuple #[.int .i64 (r.getD 0),.bool r.isSome])∧Below W'.heap.size W' w':=by
 obtain⟨mb,ps,S,hX⟩:=rd_pk h hb
 exact pnext_any hX hG.pb hd
theorem rd_tree (h:Sx w0 A W (GamO g p t now P M sent wt)) {W':World} (hb:Below W.heap.size W W'):∃ S,TreO t M W' S:=(h.later (good_gam _ _ _ _ _ _ _ _) hb).rest.env
theorem rd_cells (h:Sx w0 A W (GamO g p t now P M sent wt)):W.cell? ⟨g,0,none⟩=some (.pointer (some ⟨p,0,none⟩))∧W.cell? ⟨g,1,none⟩=some (.pointer (some ⟨t,0,none⟩))∧W.cell? ⟨g,2,none⟩=some (.int .u64 now) ∧
  (∀ e,(over W e).cell? ⟨g,0,none⟩=some (.pointer (some ⟨p,0,none⟩)))∧(∀ e,(over W e).cell? ⟨g,1,none⟩=some (.pointer (some ⟨t,0,none⟩)))∧(∀ e,(over W e).cell? ⟨g,2,none⟩=some (.int .u64 now)):=by
 have hb:=h.box
 exact⟨(hb.cell 0).trans game_p,(hb.cell 1).trans game_t,(hb.cell 2).trans game_now,fun e=>((over_cell hb.lt).trans (hb.cell 0)).trans game_p,fun e=>((over_cell hb.lt).trans (hb.cell 1)).trans game_t,fun e=>((over_cell hb.lt).trans (hb.cell 2)).trans game_now⟩
theorem GInv.wf_id (hG:GInv n k P M wt sent) {id:Int} {s:Cl} (h:lookM M id=some s):(Lit.int .i64 id).wf=true:=by
 have:=(hG.inv.pos h).1
 have:=hG.ids _ _ h
 exact wf_small (by omega) (by omega)
theorem PInv.fit_le {dp : Int → Nat} {D : Nat} (h : PInv owL dp P wt) (hz : PkZ n P) (hD : ∀ id c, lookM P id = some c → dp id ≤ D) : ∀ (m : Nat) {id : Int} {c : Cls}, lookM P id = some c → D < dp id + m → 0 ≤ fitC owL c ∧ fitC owL c ≤ 9223372036854775808
  | 0, id, c, hc, hm => by have := hD id c hc; omega
  | m + 1, id, c, hc, hm => by
    have ho := owL_bd (o := c.lim) (hz.lim id c · hc) c.tot
    unfold fitC
    by_cases hl : c.lf = true
    · rw [if_pos hl]; exact ho
    · rw [if_neg hl]
      cases hw : lowV c.tr with
      | none => dsimp only; unfold nevC; omega
      | some lo =>
        obtain ⟨⟨e, he, h2⟩, _⟩ := lowV_spec hw
        obtain ⟨ce, hce, hpe, h0, _, hE⟩ := h.entry hc he
        obtain ⟨_, _, _, hd⟩ := h.wf.par e.1.2 ce hce (by omega)
        rw [hpe] at hd
        have := h.fit_le hz hD m hce (by omega)
        rw [hE] at h2
        dsimp only at h2 ⊢
        omega
theorem GInv.tick_le (hG:GInv n k P M wt sent):0≤tickP P∧tickP P≤9223372036854775808:=by
 obtain⟨c,hc,hl⟩:=hG.all.wf.root
 unfold tickP
 rw [hc]
 dsimp only
 cases hw:lowV c.tr with
 | none=>show 0≤nevC∧nevC≤_;unfold nevC;omega
 | some lo =>
  obtain⟨⟨e,he,h2⟩,_⟩:=lowV_spec hw
  obtain⟨ce,hce,hpe,h0,_,hE⟩:=hG.all.toPInv.entry hc he
  have:=hG.all.toPInv.fit_le hG.num (D:=8) (fun id c _=>hG.depth id) 9 hce (by omega)
  rw [hE] at h2
  dsimp only at h2
  show 0≤lo∧lo≤_
  omega
end
end
end Go.Proofs.YtmmeopjemkjllaaGreat
