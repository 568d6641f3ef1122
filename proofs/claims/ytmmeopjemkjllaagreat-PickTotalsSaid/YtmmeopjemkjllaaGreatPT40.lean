/- Lemmas of the claim. No conditions beyond those that each states. -/
import Derived.Test.YtmmeopjemkjllaaGreatPT39
set_option linter.unusedVariables false
set_option linter.unusedSimpArgs false
set_option maxRecDepth 100000
set_option maxHeartbeats 8000000
namespace Go.Proofs.YtmmeopjemkjllaaGreat
section
open Go.RowKit Go.Maps
attribute [local go_sem ↓] Go.wp_at_zero Go.wp_at_succ
attribute [local go_sem] quietR quietAtR quietUponR midAt midUpon
section
variable {w0 W W' : World} {A : Nat → Prop} {P1 P2 P3 P Q R : Ob} {φ : Ending → Prop} {f : FuncId} {args : Array Value} {prog : Program}
theorem Sx.act2 (hP1:Good P1)(hP:Good P)(hR:Good R)(h:Sx w0 A W (Star P1 (Star P R)))(ha:Acts φ P Q f args prog W):Calls prog f args W fun e W'=>φ e∧Sx w0 A W' (Star P1 (Star Q R)) :=
 (h.swap.act hP (hP1.star hR) ha).mono fun e W' ⟨h1,h2⟩=>⟨h1,h2.swap⟩
theorem Sx.act3 (hP1:Good P1)(hP2:Good P2)(hP:Good P)(hR:Good R)(h:Sx w0 A W (Star P1 (Star P2 (Star P R))))(ha:Acts φ P Q f args prog W):Calls prog f args W fun e W'=>φ e∧Sx w0 A W' (Star P1 (Star P2 (Star Q R))) :=
 (h.swap2.act2 hP1 hP (hP2.star hR) ha).mono fun e W' ⟨h1,h2⟩=>⟨h1,h2.swap2⟩
theorem Sx.act4 (hP1:Good P1)(hP2:Good P2)(hP3:Good P3)(hP:Good P)(hR:Good R)(h:Sx w0 A W (Star P1 (Star P2 (Star P3 (Star P R)))))(ha:Acts φ P Q f args prog W):Calls prog f args W fun e W'=>φ e∧Sx w0 A W' (Star P1 (Star P2 (Star P3 (Star Q R)))) :=
 (h.swap3.act3 hP1 hP2 hP (hP3.star hR) ha).mono fun e W' ⟨h1,h2⟩=>⟨h1,h2.swap3⟩
end
def RestP (k mb:Nat)(ps:Int→Nat)(P:Pk)(id:Int):Ob:=Star (BoxO k 68 #[.map (some mb)]) (Star (MapO mb (ptV ps P)) (StarL (fun q=>ClsO (ps q.1) q.2) (delM P id)))
theorem good_restP (k mb:Nat)(ps:Int→Nat)(P:Pk)(id:Int):Good (RestP k mb ps P id):=(good_box _ _ _).star ((good_map _ _).star (good_starL (fun q=>good_cls _ _) _))
def FocC (k mb:Nat)(ps:Int→Nat)(P:Pk)(id:Int)(l:Option Nat)(f q:Nat)(cs:Array Value)(lim:Option Rn)(fam:Fam)(tr:List En):Ob :=
 Star (BoxO (ps id) 65 cs) (Star (LimX l lim) (Star (FamO f fam) (Star (TrO q tr) (RestP k mb ps P id))))
section
variable {w0 W W' : World} {A : Nat → Prop} {k mb f q : Nat} {ps : Int → Nat} {P : Pk} {id : Int} {l : Option Nat} {c c' : Cls} {cs cs' : Array Value} {lim : Option Rn} {fam : Fam} {tr : List En}
theorem good_focC3:Good (Star (TrO q tr) (RestP k mb ps P id)):=(good_tr _ _).star (good_restP _ _ _ _ _)
theorem good_focC2:Good (Star (FamO f fam) (Star (TrO q tr) (RestP k mb ps P id))):=(good_fam _ _).star good_focC3
theorem good_focC1:Good (Star (LimX l lim) (Star (FamO f fam) (Star (TrO q tr) (RestP k mb ps P id)))):=(good_limX _ _).star good_focC2
theorem good_focC:Good (FocC k mb ps P id l f q cs lim fam tr):=(good_box _ _ _).star good_focC1
theorem Sx.pfocus (h:Sx w0 A W (PkX k mb ps P))(hc:lookM P id=some c):∃ l f q,Sx w0 A W (FocC k mb ps P id l f q (clsC c l f q) c.lim c.fam c.tr):=by
 obtain⟨S,hf,hw⟩:=h
 have hR:=hf.rising
 have h1:Star (BoxO k 68 #[.map (some mb)]) (Star (MapO mb (ptV ps P)) (Star (ClsO (ps id) c) (StarL (fun q=>ClsO (ps q.1) q.2) (delM P id)))) W S :=
  hf.under fun h=>h.under fun h=>(starL_look hR hc).1 h
 have h2:Star (ClsO (ps id) c) (RestP k mb ps P id) W S:=Star.swap (h1.under Star.swap)
 obtain⟨A1,B,hS,hd,⟨l,f,q,hp⟩,hq⟩:=h2
 refine⟨l,f,q,S,?_,hw⟩
 have h3:Star (ClsX (ps id) (clsC c l f q) l f q c.lim c.fam c.tr) (RestP k mb ps P id) W S:=⟨A1,B,hS,hd,hp,hq⟩
 exact (Star.assoc h3).under fun h=>(Star.assoc h).under Star.assoc
theorem Sx.punfocus (h:Sx w0 A W (FocC k mb ps P id l f q (clsC c' l f q) c'.lim c'.fam c'.tr))(hc:lookM P id=some c):Sx w0 A W (PkX k mb ps (putM P id c')):=by
 have hR:Rising P:=by
  obtain⟨S,hs⟩:=h.rest.rest.rest.rest.rest.first
  exact rising_pt.1 (hs.1.rising (int_keyed Tryz.underlying3))
 refine h.weak fun {S} h=>?_
 have h3:Star (ClsX (ps id) (clsC c' l f q) l f q c'.lim c'.fam c'.tr) (RestP k mb ps P id) W S:=Star.unassoc (Star.under h fun h=>Star.unassoc (h.under Star.unassoc))
 have h2:Star (ClsO (ps id) c') (RestP k mb ps P id) W S:=h3.over fun h=>⟨l,f,q,h⟩
 have h1:Star (BoxO k 68 #[.map (some mb)]) (Star (MapO mb (ptV ps P)) (Star (ClsO (ps id) c') (StarL (fun q=>ClsO (ps q.1) q.2) (delM P id)))) W S:=(Star.swap h2).under Star.swap
 refine h1.under fun h=>(h.under fun h=>(starL_put hR).2 h).over fun h=>?_
 have:ptV ps (putM P id c')=ptV ps P:=by
  rw [put_pt (ps:=ps) hR fun _ _ _=>rfl]
  exact put_look (rising_pt.2 hR) (by rw [look_pt,hc];rfl)
 rw [this]
 exact h
end
structure PkN (P:Pk):Prop extends PkB P where
 tot:∀ id c,lookM P id=some c→U c.tot
 few:∀ id c,lookM P id=some c→c.tr.length < 800000
theorem po_note {W:World} {k mb:Nat} {ps:Int→Nat} {P:Pk} (id:Int) {c:Cls} (h0:0 < id)(hc:lookM P id=some c)(hN:PkN P) :
  Acts (fun e=>e=.returned (.tuple #[])) (PkX k mb ps P) (PkX k mb ps (noteP owL P id)) 46 #[.pointer (some ⟨k,0,none⟩),.int .i64 id] Tryz.prog W:=fun A h=>by
 have hB:=hN.toPkB
 have hid:=wf_small (hB.ids _ _ hc).1 (hB.ids _ _ hc).2
 obtain⟨p,hp⟩:=hB.par id c hc (by omega)
 have hfp:fitP owL P id=fitC owL c:=by unfold fitP;rw [hc]
 have hno:noteP owL P id=putM P c.pa { p with tr:=if awP P id=true then putI p.tr id (vP P id) (fitC owL c) else dropI p.tr id }:=by
  unfold noteP
  rw [paP_of hc]
  show updP P c.pa _=_
  unfold updP
  rw [hp,hfp]
 rw [hno]
 clear hno hfp
 obtain⟨t,ht⟩:∃ t,t=if awP P id=true then putI p.tr id (vP P id) (fitC owL c) else dropI p.tr id:=⟨_,rfl⟩
 rw [← ht]
 have HT:=Lib.hid ht
 clear ht
 obtain⟨l,f,q,hs⟩:=(Sx.start (P:=PkX k mb ps P) h).pfocus hp
 have ho:∀ e,PkX k mb ps P (over W e) A:=fun e=>(good_pkX _ _ _ _).kept h (over_below W e).size fun b hb=>over_heap W e b ((good_pkX _ _ _ _).lt h b hb)
 have hlk0:=h.look hid
 rw [hc] at hlk0
 dsimp only [Option.map_some,Option.getD_some] at hlk0
 have hlk:∀ e,(Instr.lookup 66 (.map (some mb)) (.int .i64 c.pa) false).run Tryz.prog (over W e)=.ok (.pointer (some ⟨ps c.pa,0,none⟩)) (over W e):=fun e=>by
  have:=(ho e).look (wf_small (hB.ids _ _ hp).1 (hB.ids _ _ hp).2)
  rw [hp] at this
  exact this
 obtain⟨l1,f1,q1,hcr⟩:=h.cls hc
 have k0:=h.box.cell 0
 have c0:=fun e=>(over_cell (w:=W) (e:=e) (o:=0) h.box.lt).trans (h.box.cell 0)
 have d0:=fun e=>(over_cell (w:=W) (e:=e) (o:=0) hcr.blk.lt).trans (hcr.blk.cell 0)
 have e6:=fun e=>(over_cell (w:=W) (e:=e) (o:=6) hs.box.lt).trans (hs.box.cell 6)
 unfold clsC at d0 e6
 simp only [lTA,lCZ,lCS] at k0 c0 d0 e6
 have H:=Lib.hid (And.intro h hs)
 have HC:=Lib.hid (And.intro hc (And.intro hp (And.intro hN hB)))
 have HID:=Lib.hid hid
 clear h hs ho hcr hc hp hN hB
 go_enter Tryz.func46,Tryz.ntmps46
 go_upto_region 1 with fail
 refine wp_region_over (by kernel_rfl) (by kernel_rfl) ?_
 repeat (first | go_big_quiet_skip | (go_big_quiet_want;go_big_quiet_op;go_big_quiet_on))
 refine wpQuiet_nil ?_
 rintro w1 ⟨e,he⟩
 have hb1:=over_below W e
 rw [← he] at hb1
 have h1:PkX k mb ps P w1 A:=(good_pkX _ _ _ _).kept H.out.1 hb1.size fun b hb=>hb1.block b ((good_pkX _ _ _ _).lt H.out.1 b hb)
 have H1:=Lib.hid (And.intro h1 (H.out.2.later good_focC hb1))
 have haw:=pawake_any id HID.out h1 HC.out.2.2.2
 clear he hb1 k0 c0 d0 e6 hlk hlk0 H h1
 have hkp:∀ w w':World,Below w.heap.size w w'→PkX k mb ps P w A→PkX k mb ps P w' A:=fun w w' hb hp=>(good_pkX _ _ _ _).kept hp hb.size fun b hb2=>hb.block b ((good_pkX _ _ _ _).lt hp b hb2)
 have HK:=Lib.hid hkp
 clear hkp
 cases hw:awP P id with
 | true =>
  have ht:t=putI p.tr id (vP P id) (fitC owL c):=by rw [HT.out,if_pos hw]
  have HT2:=Lib.hid ht
  rw [hw] at haw
  clear hw ht HT
  go_wp2_with (first
   | (go_at_call 23;refine haw.mono ?_;rintro e w2 ⟨rfl,hb2⟩;have H2:=Lib.hid (And.intro (HK.out _ _ hb2 H1.out.1) (H1.out.2.later good_focC hb2));clear hb2)
   | (go_at_call 30;refine (pv_any id HID.out H2.out.1 HC.out.2.2.2).mono ?_;rintro e w3 ⟨rfl,hb3⟩;have H3:=Lib.hid (And.intro (HK.out _ _ hb3 H2.out.1) (H2.out.2.later good_focC hb3));clear hb3)
   | (go_at_call 72;obtain⟨l1,f1,q1,hcr⟩:=H3.out.1.cls HC.out.1;refine (cfit_any hcr (HC.out.2.2.1.tot _ _ HC.out.1)).mono ?_;rintro e w4 ⟨rfl,hb4⟩;have H4:=Lib.hid (And.intro (HK.out _ _ hb4 H3.out.1) (H3.out.2.later good_focC hb4));clear hb4 hcr)
   | (go_at_call 90;refine (H4.out.2.act4 (good_box _ _ _) (good_limX _ _) (good_fam _ _) (good_tr _ _) (good_restP _ _ _ _ _) (tr_put id _ _ HID.out (by have:=HC.out.2.2.1.few _ _ HC.out.2.1;omega))).mono ?_;rintro e w5 ⟨rfl,h5⟩;have H5:=Lib.hid h5;clear h5))
  go_returns
  rw [HT2.out]
  exact⟨rfl,(Sx.punfocus (c':={ p with tr:=putI p.tr id (vP P id) (fitC owL c) }) H5.out HC.out.2.1).done⟩
 | false =>
  have ht:t=dropI p.tr id:=by rw [HT.out,if_neg (by rw [hw];decide)]
  have HT2:=Lib.hid ht
  rw [hw] at haw
  clear hw ht HT
  go_wp2_with (first
   | (go_at_call 23;refine haw.mono ?_;rintro e w2 ⟨rfl,hb2⟩;have H2:=Lib.hid (And.intro (HK.out _ _ hb2 H1.out.1) (H1.out.2.later good_focC hb2));clear hb2)
   | (go_at_call 91;refine (H2.out.2.act4 (good_box _ _ _) (good_limX _ _) (good_fam _ _) (good_tr _ _) (good_restP _ _ _ _ _) (tr_drop id HID.out (by have:=HC.out.2.2.1.few _ _ HC.out.2.1;omega))).mono ?_;rintro e w5 ⟨⟨b5,rfl⟩,h5⟩;have H5:=Lib.hid h5;clear h5))
  go_returns
  rw [HT2.out]
  exact⟨rfl,(Sx.punfocus (c':={ p with tr:=dropI p.tr id }) H5.out HC.out.2.1).done⟩
end
section
open Go.RowKit Go.Maps
attribute [local go_sem ↓] Go.wp_at_zero Go.wp_at_succ
attribute [local go_sem] quietR quietAtR quietUponR midAt midUpon
noncomputable def fitA (P:Pk)(id:Int):Int:=if awP P id=true then fitP owL P id else nevC
section
variable {W : World} {k mb : Nat} {ps : Int → Nat} {P : Pk} {S : Nat → Prop}
theorem pfit_any (id:Int)(hid:(Lit.int .i64 id).wf=true)(h:PkX k mb ps P W S)(hN:PkN P)(ha:awP P id=true→∃ c,lookM P id=some c) :
  Calls Tryz.prog 24 #[.pointer (some ⟨k,0,none⟩),.int .i64 id] W fun e W'=>e=.returned (.int .u64 (fitA P id))∧Below W.heap.size W W':=by
 have haw:=pawake_any id hid h hN.toPkB
 unfold fitA
 cases hw:awP P id with
 | false =>
  rw [hw] at haw
  rw [if_neg (by decide)]
  clear h hN ha hw
  go_enter Tryz.func24,Tryz.ntmps24
  go_wp2_with (go_at_call 23;refine haw.mono ?_;rintro e w1 ⟨rfl,hb1⟩)
  go_returns
  exact⟨rfl,hb1⟩
 | true =>
  obtain⟨c,hc⟩:=ha hw
  rw [hw] at haw
  rw [if_pos rfl]
  have hft:fitP owL P id=fitC owL c:=by unfold fitP;rw [hc]
  rw [hft]
  have hkp:∀ w':World,Below W.heap.size W w'→PkX k mb ps P w' S:=fun w' hb=>(good_pkX _ _ _ _).kept h hb.size fun b hb2=>hb.block b ((good_pkX _ _ _ _).lt h b hb2)
  have hall:∀ w':World,Below W.heap.size W w'→w'.cell? ⟨k,0,none⟩=some (.map (some mb))∧(Instr.lookup 66 (.map (some mb)) (.int .i64 id) false).run Tryz.prog w'=.ok (.pointer (some ⟨ps id,0,none⟩)) w'∧Calls Tryz.prog 72 #[.pointer (some ⟨ps id,0,none⟩)] w' fun e W'=>e=.returned (.int .u64 (fitC owL c))∧Below w'.heap.size w' W':=fun w' hb=>by
   have h':=hkp w' hb
   obtain⟨l,f,q,hr⟩:=h'.cls hc
   have hl:=h'.look hid
   rw [hc] at hl
   exact⟨h'.box.cell 0,hl,cfit_any hr (hN.tot _ _ hc)⟩
  have HA:=Lib.hid hall
  clear h hN ha hw hkp hall hft hc
  go_enter Tryz.func24,Tryz.ntmps24
  go_wp2_with (first
   | (go_at_call 23;refine haw.mono ?_;rintro e w1 ⟨rfl,hb1⟩;obtain⟨k1,k2,k3⟩:=HA.out w1 hb1;have HF:=Lib.hid k3;clear k3)
   | (go_at_call 72;refine HF.out.mono ?_;rintro e w2 ⟨rfl,hb2⟩))
  go_returns
  exact⟨rfl,hb1.trans (hb2.mono hb1.size)⟩
end
end
section
theorem within_some {L:List En} (h:InvE L) {v j:Int} (hw:withinV L v=some j):∃ e∈L,e.1.2=j∧e.2≤v∧∀ x∈L,x.2≤v→x=e∨lessK e.1 x.1=true:=by
 unfold withinV at hw
 obtain⟨e,he,rfl⟩:=Option.map_eq_some_iff.1 hw
 refine⟨e,List.mem_of_find?_eq_some he,rfl,by simpa using List.find?_some he,?_⟩
 have hs:=h.sort
 clear h hw
 induction L with
 | nil=>cases he
 | cons a L ih =>
  have hp:=List.pairwise_cons.1 hs
  rw [List.find?_cons] at he
  intro x hx hxv
  by_cases ha:a.2≤v
  ·rw [decide_eq_true ha] at he
   cases he
   rcases List.mem_cons.1 hx with rfl | hx
   ·exact .inl rfl
   ·exact .inr (hp.1 x hx)
  ·rw [decide_eq_false ha] at he
   rcases List.mem_cons.1 hx with rfl | hx
   ·exact absurd hxv ha
   ·exact ih he hp.2 x hx hxv
theorem within_none {L:List En} {v:Int} (hw:withinV L v=none):∀ e∈L,v < e.2:=fun e he=>by
 unfold withinV at hw
 have:=List.find?_eq_none.1 (Option.map_eq_none_iff.1 hw) e he
 simp only [decide_eq_true_eq] at this
 omega
theorem within_is {L:List En} {v:Int} {e:En} (he:e∈L)(hv:e.2≤v):∃ j,withinV L v=some j:=by
 cases hw:withinV L v with
 | some j=>exact⟨j,rfl⟩
 | none=>have:=within_none hw e he;omega
section
variable {ow : Option Rn → Int → Int} {dp : Int → Nat} {P : Pk} {wt : Int → Bool}
theorem PInv.entry (h:PInv ow dp P wt) {q:Int} {p:Cls} (hp:lookM P q=some p) {e:En} (he:e∈p.tr):∃ c,lookM P e.1.2=some c∧c.pa=q∧0 < e.1.2∧awP P e.1.2=true∧e=((vP P e.1.2,e.1.2),fitC ow c):=by
 obtain⟨h0,hpa⟩:=h.wf.kids q p e hp he
 obtain⟨c,hc,hcq⟩:=paP_some hpa
 have hn:=h.noted e.1.2 c p h0 (fun h=>h) hc (by rw [hcq];exact hp)
 rw [getE_mem (h.wf.inv q p hp).ids he] at hn
 cases ha:awP P e.1.2 with
 | false=>rw [ha] at hn;cases hn
 | true =>
  rw [ha,if_pos rfl] at hn
  exact⟨c,hc,hcq,h0,rfl,Option.some.inj hn⟩
theorem PInv.inTree (h:PInv ow dp P wt) {id:Int} {c p:Cls} (hc:lookM P id=some c)(hp:lookM P c.pa=some p)(ha:awP P id=true):((vP P id,id),fitC ow c)∈p.tr:=by
 have hn:=h.noted id c p (awP_pos ha) (fun h=>h) hc hp
 rw [ha,if_pos rfl] at hn
 exact (getE_some hn).1
theorem awP_look {P:Pk} {id:Int} (h:awP P id=true):∃ c,lookM P id=some c:=by
 cases hc:lookM P id with
 | none=>rw [awP_none hc] at h;cases h
 | some c=>exact⟨c,rfl⟩
theorem PInv.inner_fits (h:PInv ow dp P wt) {id now:Int} {c:Cls} (hc:lookM P id=some c)(hl:c.lf=false)(ha:awP P id=true)(hf:fitC ow c≤now):∃ j,withinV c.tr now=some j:=by
 obtain⟨k,hk,hka⟩:=(h.awk.inner id (awP_pos ha) (by rw [hc];rfl) (by rw [lfP_of hc,hl])).1 ha
 obtain⟨ck,hck,hcp⟩:=paP_some hk
 have hm:=h.inTree hck (by rw [hcp];exact hc) hka
 unfold fitC at hf
 rw [hl,if_neg (by decide)] at hf
 cases hw:lowV c.tr with
 | none=>rw [lowV_none.1 hw] at hm;cases hm
 | some lo =>
  rw [hw] at hf
  obtain⟨⟨e,he,h2⟩,_⟩:=lowV_spec hw
  exact within_is he (by dsimp only at hf;omega)
structure WayX (ow:Option Rn→Int→Int)(P:Pk)(now x:Int):Prop where
 aw:awP P x=true
 fit:fitP ow P x≤now
 first:∀ y,paP P y=paP P x→awP P y=true→fitP ow P y≤now→¬ (vP P y < vP P x∨vP P y=vP P x∧y < x)
theorem PInv.way (h:PInv ow dp P wt) {id now j:Int} {c:Cls} (hc:lookM P id=some c)(hw:withinV c.tr now=some j):∃ cj,lookM P j=some cj∧cj.pa=id∧0 < j∧fitC ow cj≤now∧WayX ow P now j:=by
 obtain⟨e,he,rfl,hv,hmin⟩:=within_some (h.wf.inv id c hc) hw
 obtain⟨cj,hcj,hpa,h0,ha,hE⟩:=h.entry hc he
 have hf:fitC ow cj≤now:=by rw [hE] at hv;exact hv
 refine⟨cj,hcj,hpa,h0,hf,ha,by unfold fitP;rw [hcj];exact hf,fun y hy hay hfy hless=>?_⟩
 rw [paP_of hcj,hpa] at hy
 obtain⟨cy,hcy,hpy⟩:=paP_some hy
 have hm:=h.inTree hcy (by rw [hpy];exact hc) hay
 unfold fitP at hfy
 rw [hcy] at hfy
 rcases hmin _ hm hfy with hx | hx
 ·rw [← hx] at hless
  dsimp only at hless
  omega
 ·rw [hE] at hx
  unfold lessK at hx
  simp only [Bool.or_eq_true,Bool.and_eq_true,decide_eq_true_eq] at hx
  omega
theorem PInv.desc (h:PInv ow dp P wt) {D:Nat} (hD:∀ id c,lookM P id=some c→dp id≤D)(now:Int):∀ (n:Nat) {id:Int} {c:Cls} {l:List Int},D < dp id+n→Up P id l→(∀ x∈l,WayX ow P now x)→lookM P id=some c→(c.lf=true∨c.lf=false∧∃ j,withinV c.tr now=some j) →
  ∃ j m l',Desc P now id (some j) m∧Up P j l'∧(∀ x∈l',WayX ow P now x)∧lfP P j=true
 | 0,id,c,l,hn,hU,hl,hc,_=>by have:=hD id c hc;omega
 | n+1,id,c,l,hn,hU,hl,hc,hor=>by
  rcases hor with hlf | ⟨hlf,j,hw⟩
  ·exact⟨id,0,l,.leaf hc hlf,hU,hl,by rw [lfP_of hc,hlf]⟩
  ·obtain⟨cj,hcj,hpa,h0,hf,hx⟩:=h.way hc hw
   have hUj:Up P j (j :: l):=.step h0 (by rw [paP_of hcj,hpa]) hU
   obtain⟨_,_,_,hdp⟩:=h.wf.par j cj hcj (by omega)
   rw [hpa] at hdp
   have hor':cj.lf=true∨cj.lf=false∧∃ k,withinV cj.tr now=some k:=by
    cases hlj:cj.lf with
    | true=>exact .inl rfl
    | false=>exact .inr ⟨rfl,h.inner_fits hcj hlj hx.aw hf⟩
   obtain⟨k,m,l',hd,hU',hl',hk⟩:=h.desc hD now n (id:=j) (by omega) hUj (fun x hm=>by
    rcases List.mem_cons.1 hm with rfl | hm
    ·exact hx
    ·exact hl x hm) hcj hor'
   exact⟨k,m+1,l',.go hc hlf hw hd,hU',hl',hk⟩
theorem PInv.next (h:PInv ow dp P wt) {D:Nat} (hD:∀ id c,lookM P id=some c→dp id≤D)(now:Int) :
  (∃ j m l,Desc P now 0 (some j) m∧Up P j l∧(∀ x∈l,WayX ow P now x)∧lfP P j=true)∨(Desc P now 0 none 0∧∀ x,paP P x=some 0→awP P x=true→now < fitP ow P x):=by
 obtain⟨c,hc,hl⟩:=h.wf.root
 cases hw:withinV c.tr now with
 | none =>
  refine .inr ⟨.stop hc hl hw,fun x hx ha=>?_⟩
  obtain⟨cx,hcx,hpx⟩:=paP_some hx
  have hm:=h.inTree hcx (by rw [hpx];exact hc) ha
  have:=within_none hw _ hm
  unfold fitP
  rw [hcx]
  exact this
 | some j=>exact .inl (h.desc hD now (D+1) (id:=0) (by omega) .root (by simp) hc (.inr ⟨hl,j,hw⟩))
theorem PInv.up_aw (h:PInv ow dp P wt):∀ {i:Int} {m:List Int},Up P i m→awP P i=true→∀ j∈m,awP P j=true
 | _,_,.root,ha,j,hj=>by cases hj
 | _,_,@Up.step _ i q l h1 h2 h3,ha,j,hj=>by
  rcases List.mem_cons.1 hj with rfl | hj
  ·exact ha
  ·have hq0:0 < q:=by
    cases h3 with
    | root=>cases hj
    | step k _ _=>exact k
   obtain⟨c,hc,hcq⟩:=paP_some h2
   obtain⟨p,hp,hpl,_⟩:=h.wf.par i c hc (by omega)
   rw [hcq] at hp
   have haq:=(h.awk.inner q hq0 (by rw [hp];rfl) (by rw [lfP_of hp,hpl])).2 ⟨i,h2,ha⟩
   exact h.up_aw h3 haq j hj
theorem Up.last {P:Pk}:∀ {i:Int} {m:List Int},Up P i m→0 < i→∃ t∈m,paP P t=some 0
 | _,_,.root,h=>absurd h (by omega)
 | _,_,@Up.step _ i q l h1 h2 h3,_=>by
  cases h3 with
  | root=>exact⟨i,.head _,h2⟩
  | step k1 k2 k3 =>
   obtain⟨t,ht,h⟩:=(Up.step k1 k2 k3).last k1
   exact⟨t,.tail _ ht,h⟩
theorem PInv.held (h:PInv ow dp P wt) {now id:Int} {l:List Int} (hno:∀ x,paP P x=some 0→awP P x=true→now < fitP ow P x)(hU:Up P id l)(ha:awP P id=true):∃ x∈l,awP P x=true∧now < fitP ow P x:=by
 obtain⟨t,ht,hp⟩:=hU.last (awP_pos ha)
 have:=h.up_aw hU ha t ht
 exact⟨t,ht,this,hno t hp this⟩
theorem PInv.tick (h:PInv ow dp P wt):(∀ x,paP P x=some 0→awP P x=true→tickP P≤fitP ow P x)∧((∀ x,paP P x=some 0→awP P x=false)→tickP P=nevC∧∀ now,Desc P now 0 none 0) ∧
  ((∃ x,paP P x=some 0∧awP P x=true)→∃ x,paP P x=some 0∧awP P x=true∧fitP ow P x=tickP P):=by
 obtain⟨c,hc,hl⟩:=h.wf.root
 have ht:tickP P=(lowV c.tr).getD nevC:=by unfold tickP;rw [hc]
 have hin:∀ x,paP P x=some 0→awP P x=true→∃ cx,lookM P x=some cx∧((vP P x,x),fitC ow cx)∈c.tr:=fun x hx ha=>by
  obtain⟨cx,hcx,hpx⟩:=paP_some hx
  exact⟨cx,hcx,h.inTree hcx (by rw [hpx];exact hc) ha⟩
 refine⟨fun x hx ha=>?_,fun hno=>?_,fun ⟨x,hx,ha⟩=>?_⟩
 ·obtain⟨cx,hcx,hm⟩:=hin x hx ha
  unfold fitP
  rw [hcx,ht]
  cases hw:lowV c.tr with
  | none=>rw [lowV_none.1 hw] at hm;cases hm
  | some lo=>exact (lowV_spec hw).2 _ hm
 ·have htr:c.tr=[]:=by
   cases he:c.tr with
   | nil=>rfl
   | cons e L =>
    obtain⟨ce,hce,hpe,h0,ha,_⟩:=h.entry hc (e:=e) (by rw [he];exact .head _)
    have:=hno e.1.2 (by rw [paP_of hce,hpe])
    rw [this] at ha;cases ha
  refine⟨by rw [ht,htr];rfl,fun now=>.stop hc hl (by rw [htr];rfl)⟩
 ·obtain⟨cx,hcx,hm⟩:=hin x hx ha
  cases hw:lowV c.tr with
  | none=>rw [lowV_none.1 hw] at hm;cases hm
  | some lo =>
   obtain⟨⟨e,he,h2⟩,_⟩:=lowV_spec hw
   obtain⟨ce,hce,hpe,h0,hae,hE⟩:=h.entry hc he
   refine⟨e.1.2,by rw [paP_of hce,hpe],hae,?_⟩
   unfold fitP
   rw [hce,ht,hw]
   rw [hE] at h2
   exact h2
end
end
section
open Go.RowKit Go.Maps
attribute [local go_sem ↓] Go.wp_at_zero Go.wp_at_succ
attribute [local go_sem] quietR quietAtR quietUponR midAt midUpon
def StepC (g:FuncId)(lb:Array Value)(E:Ob)(k mb:Nat)(ps:Int→Nat)(P P':Pk)(id:Int):Prop:=∀ W,Acts (fun e=>e=.returned (.tuple #[])) (Star E (PkX k mb ps P)) (Star E (PkX k mb ps P')) g (#[.int .i64 id,.pointer (some ⟨ps id,0,none⟩)] ++ lb) Tryz.prog W
structure Climb (g:FuncId)(lb:Array Value)(E:Ob)(k mb:Nat)(ps:Int→Nat)(step:Pk→Int→Pk)(I:Pk→List Int→Prop):Prop where
 here:∀ P id l,I P (id :: l)→PkB P∧∃ c,lookM P id=some c
 does:∀ P id l,I P (id :: l)→StepC g lb E k mb ps P (step P id) id
 next:∀ P id l,I P (id :: l)→I (step P id) l
 pa:∀ P id l,I P (id :: l)→∀ j,paP (step P id) j=paP P j
theorem Up.only {P:Pk}:∀ {id:Int} {l l':List Int},Up P id l→Up P id l'→l=l'
 | _,_,_,.root,.root=>rfl
 | _,_,_,.root,.step h _ _=>absurd h (by omega)
 | _,_,_,.step h _ _,.root=>absurd h (by omega)
 | _,_,_,.step h1 h2 h3,.step k1 k2 k3=>by
  rw [h2] at k2
  cases k2
  rw [h3.only k3]
open Classical in
noncomputable def upLen (P:Pk)(i:Int):Nat:=if h:∃ l,Up P i l then h.choose.length else 0
theorem upLen_eq {P:Pk} {i:Int} {l:List Int} (h:Up P i l):upLen P i=l.length:=by
 have hx:∃ l,Up P i l:=⟨l,h⟩
 unfold upLen
 rw [dif_pos hx,hx.choose_spec.only h]
theorem Sx.env {w0 W:World} {A:Nat→Prop} {E Q:Ob} (h:Sx w0 A W (Star E Q)):∃ S,Q W S:=by
 obtain⟨S,hs,_⟩:=h.rest
 exact⟨S,hs⟩
def AboveJ (w:World)(A:Nat→Prop)(E:Ob)(k mb:Nat)(ps:Int→Nat)(fv:Value)(P:Pk)(l:List Int)(step:Pk→Int→Pk)(I:Pk→List Int→Prop)(a':Act)(w':World):Prop :=
 ∃ (i:Int) (l':List Int) (P':Pk) (u3 u4 u5 u6 u7 u8 u9 u10 u11 u12 u13 u14 u15 u16 u17 u18 u19 u20 u21 u22:Value),a'={ tmps:=#[.pointer (some ⟨k,0,none⟩),.int .i64 i,fv,u3,u4,u5,u6,u7,u8,u9,u10,u11,u12,u13,u14,u15,u16,u17,u18,u19,u20,u21,u22],defers:=[] } ∧
  Up P i l'∧(∀ j,paP P' j=paP P j)∧I P' l'∧l'.foldl step P'=l.foldl step P∧Sx w A w' (Star E (PkX k mb ps P'))
theorem above_note (B k mb:Nat)(ps:Int→Nat)(E:Ob)(hE:Good E)(step:Pk→Int→Pk)(I:Pk→List Int→Prop)(hC:Climb 45 #[.pointer (some ⟨B,0,none⟩)] E k mb ps step I)(id:Int)(l:List Int)(P:Pk)(W:World)(hU:Up P id l)(hI:I P l) :
  Acts (fun e=>e=.returned (.tuple #[])) (Star E (PkX k mb ps P)) (Star E (PkX k mb ps (l.foldl step P))) 41 #[.pointer (some ⟨k,0,none⟩),.int .i64 id,.func (.func 45) #[] #[.pointer (some ⟨B,0,none⟩)]] Tryz.prog W:=fun A h=>by
 have HS:=Lib.hid (Sx.start h)
 have HI:=Lib.hid (And.intro hU hI)
 have HC:=Lib.hid (And.intro hC hE)
 clear h hU hI hC hE
 go_enter Tryz.func41,Tryz.ntmps41
 go_wp2_with fail
 refine wp_scope_jumps 0 (AboveJ W A E k mb ps (.func (.func 45) #[] #[.pointer (some ⟨B,0,none⟩)]) P l step I) (fun a' _=>upLen P (Go.RowKit.intOf (a'.tmps.getD 1 undef))) rfl ?_ ?_
 ·go_wp2_with fail
  go_step3
  have hU:=HI.out.1
  have hU0:=hU
  have hpa:∀ j,paP P j=paP P j:=fun _=>rfl
  have hI:=HI.out.2
  have hf:l.foldl step P=l.foldl step P:=rfl
  have hs:=HS.out
  cases hU with
  | root =>
   have HF:=Lib.hid (And.intro hf hs)
   clear hs hI hf
   go_wp2_with fail
   try simp only [Exit.jump]
   go_returns
   exact⟨rfl,HF.out.2.done⟩
  | @step _ q l2 h1 h2 h3 =>
   obtain⟨hB,c,hc⟩:=HC.out.1.here _ _ _ hI
   have hq:c.pa=q:=by
    have:=paP_of hc
    rw [hpa,h2] at this
    exact (Option.some.inj this).symm
   obtain⟨S1,hS1⟩:=hs.env
   have hlk:=hS1.look (wf_small (hB.ids _ _ hc).1 (hB.ids _ _ hc).2)
   rw [hc] at hlk
   dsimp only [Option.map_some,Option.getD_some] at hlk
   have k0:=hS1.box.cell 0
   simp only [lTA,lCZ,lCS] at k0
   have hd:=hs.act0 (HC.out.1.does _ _ _ hI _)
   have HD:=Lib.hid hd
   have hn:=HC.out.1.next _ _ _ hI
   have hpn:=HC.out.1.pa _ _ _ hI
   have hcell:∀ W':World,Sx W A W' (Star E (PkX k mb ps (step P id)))→W'.cell? ⟨ps id,0,none⟩=some (.int .i64 q):=fun W' hs'=>by
    obtain⟨S2,hS2⟩:=hs'.env
    have hp2:=hpn id
    rw [paP_of hc] at hp2
    obtain⟨c2,hc2,e2⟩:=paP_some hp2
    obtain⟨l3,f3,q3,hr3⟩:=hS2.cls hc2
    have:=hr3.blk.cell 0
    unfold clsC at this
    simp only [lTA,lCZ,lCS] at this
    rw [this,e2,hq]
   have HX:=Lib.hid (And.intro hn (And.intro hpn (And.intro hcell (And.intro hf (And.intro hpa (And.intro h2 (And.intro h3 hU0)))))))
   clear hS1 hs hI hd hn hpn hcell hf hpa h2 h3 hc hB hq hU0
   go_wp2_with (go_at_call 45;refine HD.out.mono ?_;rintro e w4 ⟨rfl,h4⟩;have c4:=HX.out.2.2.1 _ h4;have H4:=Lib.hid h4;clear h4)
   try simp only [Exit.jump]
   go_step3
   change _∧AboveJ W A E k mb ps (.func (.func 45) #[] #[.pointer (some ⟨B,0,none⟩)]) P _ step I _ _
   refine⟨rfl,?_⟩
   unfold AboveJ
   exact⟨q,l2,step P id,_,_,_,_,_,_,_,_,_,_,_,_,_,_,_,_,_,_,_,_,rfl,HX.out.2.2.2.2.2.2.1,HX.out.2.1,HX.out.1,rfl,H4.out⟩
 ·rintro a' w' ⟨i,l',P',u3,u4,u5,u6,u7,u8,u9,u10,u11,u12,u13,u14,u15,u16,u17,u18,u19,u20,u21,u22,rfl,hU,hpa,hI,hf,hs⟩
  have hU0:=hU
  cases hU with
  | root =>
   have HF:=Lib.hid (And.intro hf hs)
   clear hs hI hf
   go_wp2_with fail
   try simp only [Exit.jump]
   go_returns
   rw [← HF.out.1]
   exact⟨rfl,HF.out.2.done⟩
  | @step _ q l2 h1 h2 h3 =>
   obtain⟨hB,c,hc⟩:=HC.out.1.here _ _ _ hI
   have hq:c.pa=q:=by
    have:=paP_of hc
    rw [hpa,h2] at this
    exact (Option.some.inj this).symm
   obtain⟨S1,hS1⟩:=hs.env
   have hlk:=hS1.look (wf_small (hB.ids _ _ hc).1 (hB.ids _ _ hc).2)
   rw [hc] at hlk
   dsimp only [Option.map_some,Option.getD_some] at hlk
   have k0:=hS1.box.cell 0
   simp only [lTA,lCZ,lCS] at k0
   have hd:=hs.act0 (HC.out.1.does _ _ _ hI _)
   have HD:=Lib.hid hd
   have hn:=HC.out.1.next _ _ _ hI
   have hpn:=HC.out.1.pa _ _ _ hI
   have hcell:∀ W':World,Sx W A W' (Star E (PkX k mb ps (step P' i)))→W'.cell? ⟨ps i,0,none⟩=some (.int .i64 q):=fun W' hs'=>by
    obtain⟨S2,hS2⟩:=hs'.env
    have hp2:=hpn i
    rw [paP_of hc] at hp2
    obtain⟨c2,hc2,e2⟩:=paP_some hp2
    obtain⟨l3,f3,q3,hr3⟩:=hS2.cls hc2
    have:=hr3.blk.cell 0
    unfold clsC at this
    simp only [lTA,lCZ,lCS] at this
    rw [this,e2,hq]
   have HX:=Lib.hid (And.intro hn (And.intro hpn (And.intro hcell (And.intro hf (And.intro hpa (And.intro h2 (And.intro h3 hU0)))))))
   clear hS1 hs hI hd hn hpn hcell hf hpa h2 h3 hc hB hq hU0
   go_wp2_with (go_at_call 45;refine HD.out.mono ?_;rintro e w4 ⟨rfl,h4⟩;have c4:=HX.out.2.2.1 _ h4;have H4:=Lib.hid h4;clear h4)
   try simp only [Exit.jump]
   go_step3
   change _∧(AboveJ W A E k mb ps (.func (.func 45) #[] #[.pointer (some ⟨B,0,none⟩)]) P _ step I _ _∧_)
   refine⟨rfl,?_,?_⟩
   ·unfold AboveJ
    exact⟨q,l2,step P' i,_,_,_,_,_,_,_,_,_,_,_,_,_,_,_,_,_,_,_,_,rfl,HX.out.2.2.2.2.2.2.1,fun j=>(HX.out.2.1 j).trans (HX.out.2.2.2.2.1 j),HX.out.1,HX.out.2.2.2.1,H4.out⟩
   ·show upLen P q < upLen P i
    rw [upLen_eq HX.out.2.2.2.2.2.2.1,upLen_eq HX.out.2.2.2.2.2.2.2]
    simp
theorem above_wake (B D k mb:Nat)(ps:Int→Nat)(E:Ob)(hE:Good E)(step:Pk→Int→Pk)(I:Pk→List Int→Prop)(hC:Climb 42 #[.pointer (some ⟨B,0,none⟩),.pointer (some ⟨D,0,none⟩)] E k mb ps step I)(id:Int)(l:List Int)(P:Pk)(W:World)(hU:Up P id l)(hI:I P l) :
  Acts (fun e=>e=.returned (.tuple #[])) (Star E (PkX k mb ps P)) (Star E (PkX k mb ps (l.foldl step P))) 41 #[.pointer (some ⟨k,0,none⟩),.int .i64 id,.func (.func 42) #[] #[.pointer (some ⟨B,0,none⟩),.pointer (some ⟨D,0,none⟩)]] Tryz.prog W:=fun A h=>by
 have HS:=Lib.hid (Sx.start h)
 have HI:=Lib.hid (And.intro hU hI)
 have HC:=Lib.hid (And.intro hC hE)
 clear h hU hI hC hE
 go_enter Tryz.func41,Tryz.ntmps41
 go_wp2_with fail
 refine wp_scope_jumps 0 (AboveJ W A E k mb ps (.func (.func 42) #[] #[.pointer (some ⟨B,0,none⟩),.pointer (some ⟨D,0,none⟩)]) P l step I) (fun a' _=>upLen P (Go.RowKit.intOf (a'.tmps.getD 1 undef))) rfl ?_ ?_
 ·go_wp2_with fail
  go_step3
  have hU:=HI.out.1
  have hU0:=hU
  have hpa:∀ j,paP P j=paP P j:=fun _=>rfl
  have hI:=HI.out.2
  have hf:l.foldl step P=l.foldl step P:=rfl
  have hs:=HS.out
  cases hU with
  | root =>
   have HF:=Lib.hid (And.intro hf hs)
   clear hs hI hf
   go_wp2_with fail
   try simp only [Exit.jump]
   go_returns
   exact⟨rfl,HF.out.2.done⟩
  | @step _ q l2 h1 h2 h3 =>
   obtain⟨hB,c,hc⟩:=HC.out.1.here _ _ _ hI
   have hq:c.pa=q:=by
    have:=paP_of hc
    rw [hpa,h2] at this
    exact (Option.some.inj this).symm
   obtain⟨S1,hS1⟩:=hs.env
   have hlk:=hS1.look (wf_small (hB.ids _ _ hc).1 (hB.ids _ _ hc).2)
   rw [hc] at hlk
   dsimp only [Option.map_some,Option.getD_some] at hlk
   have k0:=hS1.box.cell 0
   simp only [lTA,lCZ,lCS] at k0
   have hd:=hs.act0 (HC.out.1.does _ _ _ hI _)
   have HD:=Lib.hid hd
   have hn:=HC.out.1.next _ _ _ hI
   have hpn:=HC.out.1.pa _ _ _ hI
   have hcell:∀ W':World,Sx W A W' (Star E (PkX k mb ps (step P id)))→W'.cell? ⟨ps id,0,none⟩=some (.int .i64 q):=fun W' hs'=>by
    obtain⟨S2,hS2⟩:=hs'.env
    have hp2:=hpn id
    rw [paP_of hc] at hp2
    obtain⟨c2,hc2,e2⟩:=paP_some hp2
    obtain⟨l3,f3,q3,hr3⟩:=hS2.cls hc2
    have:=hr3.blk.cell 0
    unfold clsC at this
    simp only [lTA,lCZ,lCS] at this
    rw [this,e2,hq]
   have HX:=Lib.hid (And.intro hn (And.intro hpn (And.intro hcell (And.intro hf (And.intro hpa (And.intro h2 (And.intro h3 hU0)))))))
   clear hS1 hs hI hd hn hpn hcell hf hpa h2 h3 hc hB hq hU0
   go_wp2_with (go_at_call 42;refine HD.out.mono ?_;rintro e w4 ⟨rfl,h4⟩;have c4:=HX.out.2.2.1 _ h4;have H4:=Lib.hid h4;clear h4)
   try simp only [Exit.jump]
   go_step3
   change _∧AboveJ W A E k mb ps (.func (.func 42) #[] #[.pointer (some ⟨B,0,none⟩),.pointer (some ⟨D,0,none⟩)]) P _ step I _ _
   refine⟨rfl,?_⟩
   unfold AboveJ
   exact⟨q,l2,step P id,_,_,_,_,_,_,_,_,_,_,_,_,_,_,_,_,_,_,_,_,rfl,HX.out.2.2.2.2.2.2.1,HX.out.2.1,HX.out.1,rfl,H4.out⟩
 ·rintro a' w' ⟨i,l',P',u3,u4,u5,u6,u7,u8,u9,u10,u11,u12,u13,u14,u15,u16,u17,u18,u19,u20,u21,u22,rfl,hU,hpa,hI,hf,hs⟩
  have hU0:=hU
  cases hU with
  | root =>
   have HF:=Lib.hid (And.intro hf hs)
   clear hs hI hf
   go_wp2_with fail
   try simp only [Exit.jump]
   go_returns
   rw [← HF.out.1]
   exact⟨rfl,HF.out.2.done⟩
  | @step _ q l2 h1 h2 h3 =>
   obtain⟨hB,c,hc⟩:=HC.out.1.here _ _ _ hI
   have hq:c.pa=q:=by
    have:=paP_of hc
    rw [hpa,h2] at this
    exact (Option.some.inj this).symm
   obtain⟨S1,hS1⟩:=hs.env
   have hlk:=hS1.look (wf_small (hB.ids _ _ hc).1 (hB.ids _ _ hc).2)
   rw [hc] at hlk
   dsimp only [Option.map_some,Option.getD_some] at hlk
   have k0:=hS1.box.cell 0
   simp only [lTA,lCZ,lCS] at k0
   have hd:=hs.act0 (HC.out.1.does _ _ _ hI _)
   have HD:=Lib.hid hd
   have hn:=HC.out.1.next _ _ _ hI
   have hpn:=HC.out.1.pa _ _ _ hI
   have hcell:∀ W':World,Sx W A W' (Star E (PkX k mb ps (step P' i)))→W'.cell? ⟨ps i,0,none⟩=some (.int .i64 q):=fun W' hs'=>by
    obtain⟨S2,hS2⟩:=hs'.env
    have hp2:=hpn i
    rw [paP_of hc] at hp2
    obtain⟨c2,hc2,e2⟩:=paP_some hp2
    obtain⟨l3,f3,q3,hr3⟩:=hS2.cls hc2
    have:=hr3.blk.cell 0
    unfold clsC at this
    simp only [lTA,lCZ,lCS] at this
    rw [this,e2,hq]
   have HX:=Lib.hid (And.intro hn (And.intro hpn (And.intro hcell (And.intro hf (And.intro hpa (And.intro h2 (And.intro h3 hU0)))))))
   clear hS1 hs hI hd hn hpn hcell hf hpa h2 h3 hc hB hq hU0
   go_wp2_with (go_at_call 42;refine HD.out.mono ?_;rintro e w4 ⟨rfl,h4⟩;have c4:=HX.out.2.2.1 _ h4;have H4:=Lib.hid h4;clear h4)
   try simp only [Exit.jump]
   go_step3
   change _∧(AboveJ W A E k mb ps (.func (.func 42) #[] #[.pointer (some ⟨B,0,none⟩),.pointer (some ⟨D,0,none⟩)]) P _ step I _ _∧_)
   refine⟨rfl,?_,?_⟩
   ·unfold AboveJ
    exact⟨q,l2,step P' i,_,_,_,_,_,_,_,_,_,_,_,_,_,_,_,_,_,_,_,_,rfl,HX.out.2.2.2.2.2.2.1,fun j=>(HX.out.2.1 j).trans (HX.out.2.2.2.2.1 j),HX.out.1,HX.out.2.2.2.1,H4.out⟩
   ·show upLen P q < upLen P i
    rw [upLen_eq HX.out.2.2.2.2.2.2.1,upLen_eq HX.out.2.2.2.2.2.2.2]
    simp
theorem above_gain (B D k mb:Nat)(ps:Int→Nat)(E:Ob)(hE:Good E)(step:Pk→Int→Pk)(I:Pk→List Int→Prop)(hC:Climb 55 #[.pointer (some ⟨B,0,none⟩),.pointer (some ⟨D,0,none⟩)] E k mb ps step I)(id:Int)(l:List Int)(P:Pk)(W:World)(hU:Up P id l)(hI:I P l) :
  Acts (fun e=>e=.returned (.tuple #[])) (Star E (PkX k mb ps P)) (Star E (PkX k mb ps (l.foldl step P))) 41 #[.pointer (some ⟨k,0,none⟩),.int .i64 id,.func (.func 55) #[] #[.pointer (some ⟨B,0,none⟩),.pointer (some ⟨D,0,none⟩)]] Tryz.prog W:=fun A h=>by
 have HS:=Lib.hid (Sx.start h)
 have HI:=Lib.hid (And.intro hU hI)
 have HC:=Lib.hid (And.intro hC hE)
 clear h hU hI hC hE
 go_enter Tryz.func41,Tryz.ntmps41
 go_wp2_with fail
 refine wp_scope_jumps 0 (AboveJ W A E k mb ps (.func (.func 55) #[] #[.pointer (some ⟨B,0,none⟩),.pointer (some ⟨D,0,none⟩)]) P l step I) (fun a' _=>upLen P (Go.RowKit.intOf (a'.tmps.getD 1 undef))) rfl ?_ ?_
 ·go_wp2_with fail
  go_step3
  have hU:=HI.out.1
  have hU0:=hU
  have hpa:∀ j,paP P j=paP P j:=fun _=>rfl
  have hI:=HI.out.2
  have hf:l.foldl step P=l.foldl step P:=rfl
  have hs:=HS.out
  cases hU with
  | root =>
   have HF:=Lib.hid (And.intro hf hs)
   clear hs hI hf
   go_wp2_with fail
   try simp only [Exit.jump]
   go_returns
   exact⟨rfl,HF.out.2.done⟩
  | @step _ q l2 h1 h2 h3 =>
   obtain⟨hB,c,hc⟩:=HC.out.1.here _ _ _ hI
   have hq:c.pa=q:=by
    have:=paP_of hc
    rw [hpa,h2] at this
    exact (Option.some.inj this).symm
   obtain⟨S1,hS1⟩:=hs.env
   have hlk:=hS1.look (wf_small (hB.ids _ _ hc).1 (hB.ids _ _ hc).2)
   rw [hc] at hlk
   dsimp only [Option.map_some,Option.getD_some] at hlk
   have k0:=hS1.box.cell 0
   simp only [lTA,lCZ,lCS] at k0
   have hd:=hs.act0 (HC.out.1.does _ _ _ hI _)
   have HD:=Lib.hid hd
   have hn:=HC.out.1.next _ _ _ hI
   have hpn:=HC.out.1.pa _ _ _ hI
   have hcell:∀ W':World,Sx W A W' (Star E (PkX k mb ps (step P id)))→W'.cell? ⟨ps id,0,none⟩=some (.int .i64 q):=fun W' hs'=>by
    obtain⟨S2,hS2⟩:=hs'.env
    have hp2:=hpn id
    rw [paP_of hc] at hp2
    obtain⟨c2,hc2,e2⟩:=paP_some hp2
    obtain⟨l3,f3,q3,hr3⟩:=hS2.cls hc2
    have:=hr3.blk.cell 0
    unfold clsC at this
    simp only [lTA,lCZ,lCS] at this
    rw [this,e2,hq]
   have HX:=Lib.hid (And.intro hn (And.intro hpn (And.intro hcell (And.intro hf (And.intro hpa (And.intro h2 (And.intro h3 hU0)))))))
   clear hS1 hs hI hd hn hpn hcell hf hpa h2 h3 hc hB hq hU0
   go_wp2_with (go_at_call 55;refine HD.out.mono ?_;rintro e w4 ⟨rfl,h4⟩;have c4:=HX.out.2.2.1 _ h4;have H4:=Lib.hid h4;clear h4)
   try simp only [Exit.jump]
   go_step3
   change _∧AboveJ W A E k mb ps (.func (.func 55) #[] #[.pointer (some ⟨B,0,none⟩),.pointer (some ⟨D,0,none⟩)]) P _ step I _ _
   refine⟨rfl,?_⟩
   unfold AboveJ
   exact⟨q,l2,step P id,_,_,_,_,_,_,_,_,_,_,_,_,_,_,_,_,_,_,_,_,rfl,HX.out.2.2.2.2.2.2.1,HX.out.2.1,HX.out.1,rfl,H4.out⟩
 ·rintro a' w' ⟨i,l',P',u3,u4,u5,u6,u7,u8,u9,u10,u11,u12,u13,u14,u15,u16,u17,u18,u19,u20,u21,u22,rfl,hU,hpa,hI,hf,hs⟩
  have hU0:=hU
  cases hU with
  | root =>
   have HF:=Lib.hid (And.intro hf hs)
   clear hs hI hf
   go_wp2_with fail
   try simp only [Exit.jump]
   go_returns
   rw [← HF.out.1]
   exact⟨rfl,HF.out.2.done⟩
  | @step _ q l2 h1 h2 h3 =>
   obtain⟨hB,c,hc⟩:=HC.out.1.here _ _ _ hI
   have hq:c.pa=q:=by
    have:=paP_of hc
    rw [hpa,h2] at this
    exact (Option.some.inj this).symm
   obtain⟨S1,hS1⟩:=hs.env
   have hlk:=hS1.look (wf_small (hB.ids _ _ hc).1 (hB.ids _ _ hc).2)
   rw [hc] at hlk
   dsimp only [Option.map_some,Option.getD_some] at hlk
   have k0:=hS1.box.cell 0
   simp only [lTA,lCZ,lCS] at k0
   have hd:=hs.act0 (HC.out.1.does _ _ _ hI _)
   have HD:=Lib.hid hd
   have hn:=HC.out.1.next _ _ _ hI
   have hpn:=HC.out.1.pa _ _ _ hI
   have hcell:∀ W':World,Sx W A W' (Star E (PkX k mb ps (step P' i)))→W'.cell? ⟨ps i,0,none⟩=some (.int .i64 q):=fun W' hs'=>by
    obtain⟨S2,hS2⟩:=hs'.env
    have hp2:=hpn i
    rw [paP_of hc] at hp2
    obtain⟨c2,hc2,e2⟩:=paP_some hp2
    obtain⟨l3,f3,q3,hr3⟩:=hS2.cls hc2
    have:=hr3.blk.cell 0
    unfold clsC at this
    simp only [lTA,lCZ,lCS] at this
    rw [this,e2,hq]
   have HX:=Lib.hid (And.intro hn (And.intro hpn (And.intro hcell (And.intro hf (And.intro hpa (And.intro h2 (And.intro h3 hU0)))))))
   clear hS1 hs hI hd hn hpn hcell hf hpa h2 h3 hc hB hq hU0
   go_wp2_with (go_at_call 55;refine HD.out.mono ?_;rintro e w4 ⟨rfl,h4⟩;have c4:=HX.out.2.2.1 _ h4;have H4:=Lib.hid h4;clear h4)
   try simp only [Exit.jump]
   go_step3
   change _∧(AboveJ W A E k mb ps (.func (.func 55) #[] #[.pointer (some ⟨B,0,none⟩),.pointer (some ⟨D,0,none⟩)]) P _ step I _ _∧_)
   refine⟨rfl,?_,?_⟩
   ·unfold AboveJ
    exact⟨q,l2,step P' i,_,_,_,_,_,_,_,_,_,_,_,_,_,_,_,_,_,_,_,_,rfl,HX.out.2.2.2.2.2.2.1,fun j=>(HX.out.2.1 j).trans (HX.out.2.2.2.2.1 j),HX.out.1,HX.out.2.2.2.1,H4.out⟩
   ·show upLen P q < upLen P i
    rw [upLen_eq HX.out.2.2.2.2.2.2.1,upLen_eq HX.out.2.2.2.2.2.2.2]
    simp
theorem above_rest (B D k mb:Nat)(ps:Int→Nat)(E:Ob)(hE:Good E)(step:Pk→Int→Pk)(I:Pk→List Int→Prop)(hC:Climb 57 #[.pointer (some ⟨B,0,none⟩),.pointer (some ⟨D,0,none⟩)] E k mb ps step I)(id:Int)(l:List Int)(P:Pk)(W:World)(hU:Up P id l)(hI:I P l) :
  Acts (fun e=>e=.returned (.tuple #[])) (Star E (PkX k mb ps P)) (Star E (PkX k mb ps (l.foldl step P))) 41 #[.pointer (some ⟨k,0,none⟩),.int .i64 id,.func (.func 57) #[] #[.pointer (some ⟨B,0,none⟩),.pointer (some ⟨D,0,none⟩)]] Tryz.prog W:=fun A h=>by
 have HS:=Lib.hid (Sx.start h)
 have HI:=Lib.hid (And.intro hU hI)
 have HC:=Lib.hid (And.intro hC hE)
 clear h hU hI hC hE
 go_enter Tryz.func41,Tryz.ntmps41
 go_wp2_with fail
 refine wp_scope_jumps 0 (AboveJ W A E k mb ps (.func (.func 57) #[] #[.pointer (some ⟨B,0,none⟩),.pointer (some ⟨D,0,none⟩)]) P l step I) (fun a' _=>upLen P (Go.RowKit.intOf (a'.tmps.getD 1 undef))) rfl ?_ ?_
 ·go_wp2_with fail
  go_step3
  have hU:=HI.out.1
  have hU0:=hU
  have hpa:∀ j,paP P j=paP P j:=fun _=>rfl
  have hI:=HI.out.2
  have hf:l.foldl step P=l.foldl step P:=rfl
  have hs:=HS.out
  cases hU with
  | root =>
   have HF:=Lib.hid (And.intro hf hs)
   clear hs hI hf
   go_wp2_with fail
   try simp only [Exit.jump]
   go_returns
   exact⟨rfl,HF.out.2.done⟩
  | @step _ q l2 h1 h2 h3 =>
   obtain⟨hB,c,hc⟩:=HC.out.1.here _ _ _ hI
   have hq:c.pa=q:=by
    have:=paP_of hc
    rw [hpa,h2] at this
    exact (Option.some.inj this).symm
   obtain⟨S1,hS1⟩:=hs.env
   have hlk:=hS1.look (wf_small (hB.ids _ _ hc).1 (hB.ids _ _ hc).2)
   rw [hc] at hlk
   dsimp only [Option.map_some,Option.getD_some] at hlk
   have k0:=hS1.box.cell 0
   simp only [lTA,lCZ,lCS] at k0
   have hd:=hs.act0 (HC.out.1.does _ _ _ hI _)
   have HD:=Lib.hid hd
   have hn:=HC.out.1.next _ _ _ hI
   have hpn:=HC.out.1.pa _ _ _ hI
   have hcell:∀ W':World,Sx W A W' (Star E (PkX k mb ps (step P id)))→W'.cell? ⟨ps id,0,none⟩=some (.int .i64 q):=fun W' hs'=>by
    obtain⟨S2,hS2⟩:=hs'.env
    have hp2:=hpn id
    rw [paP_of hc] at hp2
    obtain⟨c2,hc2,e2⟩:=paP_some hp2
    obtain⟨l3,f3,q3,hr3⟩:=hS2.cls hc2
    have:=hr3.blk.cell 0
    unfold clsC at this
    simp only [lTA,lCZ,lCS] at this
    rw [this,e2,hq]
   have HX:=Lib.hid (And.intro hn (And.intro hpn (And.intro hcell (And.intro hf (And.intro hpa (And.intro h2 (And.intro h3 hU0)))))))
   clear hS1 hs hI hd hn hpn hcell hf hpa h2 h3 hc hB hq hU0
   go_wp2_with (go_at_call 57;refine HD.out.mono ?_;rintro e w4 ⟨rfl,h4⟩;have c4:=HX.out.2.2.1 _ h4;have H4:=Lib.hid h4;clear h4)
   try simp only [Exit.jump]
   go_step3
   change _∧AboveJ W A E k mb ps (.func (.func 57) #[] #[.pointer (some ⟨B,0,none⟩),.pointer (some ⟨D,0,none⟩)]) P _ step I _ _
   refine⟨rfl,?_⟩
   unfold AboveJ
   exact⟨q,l2,step P id,_,_,_,_,_,_,_,_,_,_,_,_,_,_,_,_,_,_,_,_,rfl,HX.out.2.2.2.2.2.2.1,HX.out.2.1,HX.out.1,rfl,H4.out⟩
 ·rintro a' w' ⟨i,l',P',u3,u4,u5,u6,u7,u8,u9,u10,u11,u12,u13,u14,u15,u16,u17,u18,u19,u20,u21,u22,rfl,hU,hpa,hI,hf,hs⟩
  have hU0:=hU
  cases hU with
  | root =>
   have HF:=Lib.hid (And.intro hf hs)
   clear hs hI hf
   go_wp2_with fail
   try simp only [Exit.jump]
   go_returns
   rw [← HF.out.1]
   exact⟨rfl,HF.out.2.done⟩
  | @step _ q l2 h1 h2 h3 =>
   obtain⟨hB,c,hc⟩:=HC.out.1.here _ _ _ hI
   have hq:c.pa=q:=by
    have:=paP_of hc
    rw [hpa,h2] at this
    exact (Option.some.inj this).symm
   obtain⟨S1,hS1⟩:=hs.env
   have hlk:=hS1.look (wf_small (hB.ids _ _ hc).1 (hB.ids _ _ hc).2)
   rw [hc] at hlk
   dsimp only [Option.map_some,Option.getD_some] at hlk
   have k0:=hS1.box.cell 0
   simp only [lTA,lCZ,lCS] at k0
   have hd:=hs.act0 (HC.out.1.does _ _ _ hI _)
   have HD:=Lib.hid hd
   have hn:=HC.out.1.next _ _ _ hI
   have hpn:=HC.out.1.pa _ _ _ hI
   have hcell:∀ W':World,Sx W A W' (Star E (PkX k mb ps (step P' i)))→W'.cell? ⟨ps i,0,none⟩=some (.int .i64 q):=fun W' hs'=>by
    obtain⟨S2,hS2⟩:=hs'.env
    have hp2:=hpn i
    rw [paP_of hc] at hp2
    obtain⟨c2,hc2,e2⟩:=paP_some hp2
    obtain⟨l3,f3,q3,hr3⟩:=hS2.cls hc2
    have:=hr3.blk.cell 0
    unfold clsC at this
    simp only [lTA,lCZ,lCS] at this
    rw [this,e2,hq]
   have HX:=Lib.hid (And.intro hn (And.intro hpn (And.intro hcell (And.intro hf (And.intro hpa (And.intro h2 (And.intro h3 hU0)))))))
   clear hS1 hs hI hd hn hpn hcell hf hpa h2 h3 hc hB hq hU0
   go_wp2_with (go_at_call 57;refine HD.out.mono ?_;rintro e w4 ⟨rfl,h4⟩;have c4:=HX.out.2.2.1 _ h4;have H4:=Lib.hid h4;clear h4)
   try simp only [Exit.jump]
   go_step3
   change _∧(AboveJ W A E k mb ps (.func (.func 57) #[] #[.pointer (some ⟨B,0,none⟩),.pointer (some ⟨D,0,none⟩)]) P _ step I _ _∧_)
   refine⟨rfl,?_,?_⟩
   ·unfold AboveJ
    exact⟨q,l2,step P' i,_,_,_,_,_,_,_,_,_,_,_,_,_,_,_,_,_,_,_,_,rfl,HX.out.2.2.2.2.2.2.1,fun j=>(HX.out.2.1 j).trans (HX.out.2.2.2.2.1 j),HX.out.1,HX.out.2.2.2.1,H4.out⟩
   ·show upLen P q < upLen P i
    rw [upLen_eq HX.out.2.2.2.2.2.2.1,upLen_eq HX.out.2.2.2.2.2.2.2]
    simp
end
section
open Go.RowKit Go.Maps
attribute [local go_sem ↓] Go.wp_at_zero Go.wp_at_succ
attribute [local go_sem] quietR quietAtR quietUponR midAt midUpon
section
variable {w0 W W' : World} {A : Nat → Prop} {E P Q : Ob} {φ : Ending → Prop} {f : FuncId} {args : Array Value} {prog : Program}
theorem Sx.comm (h:Sx w0 A W (Star P Q)):Sx w0 A W (Star Q P):=h.weak Star.comm
theorem Sx.actR (hE:Good E)(hP:Good P)(h:Sx w0 A W (Star E P))(ha:Acts φ P Q f args prog W):Calls prog f args W fun e W'=>φ e∧Sx w0 A W' (Star E Q) :=
 (h.comm.act hP hE ha).mono fun e W' ⟨h1,h2⟩=>⟨h1,h2.comm⟩
end
structure EnvP (E:Ob)(B k:Nat):Prop where
 good:Good E
 box:∀ {W:World} {S:Nat→Prop},E W S→Blk W B 24 #[.pointer (some ⟨k,0,none⟩)]
theorem step_note {E:Ob} {B k mb:Nat} {ps:Int→Nat} (hE:EnvP E B k)(id:Int) {P:Pk} {c:Cls} (h0:0 < id)(hc:lookM P id=some c)(hN:PkN P) :
  StepC 45 #[.pointer (some ⟨B,0,none⟩)] E k mb ps P (noteP owL P id) id:=fun W A h=>by
 have hs:=Sx.start h
 obtain⟨S1,hS1⟩:=hs.first
 have c0:=(hE.box hS1).cell 0
 simp only [lTA,lCZ,lCS] at c0
 have HD:=Lib.hid (hs.actR hE.good (good_pkX k mb ps P) (po_note id h0 hc hN))
 clear h hs hS1
 show Calls Tryz.prog 45 #[.int .i64 id,.pointer (some ⟨ps id,0,none⟩),.pointer (some ⟨B,0,none⟩)] W _
 go_enter Tryz.func45,Tryz.ntmps45
 go_wp2_with (go_at_call 46;refine HD.out.mono ?_;rintro e w1 ⟨rfl,h1⟩;have H1:=Lib.hid h1;clear h1)
 go_returns
 exact⟨rfl,H1.out.done⟩
end
section
open Go.RowKit Go.Maps
attribute [local go_sem ↓] Go.wp_at_zero Go.wp_at_succ
attribute [local go_sem] quietR quietAtR quietUponR midAt midUpon
structure PkM (P:Pk):Prop extends PkN P where
 fam:∀ id c,lookM P id=some c→FamN c.fam
 lim:∀ id c x,lookM P id=some c→c.lim=some x→x.A.length < 800000
theorem lwake_nil (w:World)(t y:Int) :
  Calls Tryz.prog 44 #[.pointer none,.int .u64 t,.int .u64 y] w fun e w'=>e=.returned (.tuple #[])∧Below w.heap.size w w':=by
 go_enter Tryz.func44,Tryz.ntmps44
 go_wp2_with (go_at_call 89;refine (lbound_nil _).mono ?_;rintro e w1 ⟨rfl,hb1⟩)
 go_returns
 exact⟨rfl,hb1⟩
theorem lx_wake {W:World} (l:Option Nat)(o:Option Rn)(now tot:Int)(ht:U now)(hy:U tot)(hfew:∀ x,o=some x→x.A.length < 900000) :
  Acts (fun e=>e=.returned (.tuple #[])) (LimX l o) (LimX l (wakeL o now tot)) 44 #[limV l,.int .u64 now,.int .u64 tot] Tryz.prog W:=by
 cases l with
 | none =>
  intro A ⟨ho,hA⟩
  subst ho
  exact (lwake_nil W now tot).mono fun e W' ⟨h1,h2⟩=>⟨h1,A,⟨rfl,hA⟩,Fr.of_below h2,fun b h=>.inl h⟩
 | some l=>exact lo_wake now tot ht hy hfew
section
variable {w0 W W' : World} {A : Nat → Prop} {S : Nat → Prop} {k mb f q : Nat} {ps : Int → Nat} {P : Pk} {id : Int} {l : Option Nat} {c c' : Cls} {E : Ob}
theorem PkX.focus (h:PkX k mb ps P W S)(hc:lookM P id=some c):∃ l f q,FocC k mb ps P id l f q (clsC c l f q) c.lim c.fam c.tr W S:=by
 have hR:=h.rising
 have h1:Star (BoxO k 68 #[.map (some mb)]) (Star (MapO mb (ptV ps P)) (Star (ClsO (ps id) c) (StarL (fun q=>ClsO (ps q.1) q.2) (delM P id)))) W S :=
  h.under fun h=>h.under fun h=>(starL_look hR hc).1 h
 have h2:Star (ClsO (ps id) c) (RestP k mb ps P id) W S:=Star.swap (h1.under Star.swap)
 obtain⟨A1,B,hS,hd,⟨l,f,q,hp⟩,hq⟩:=h2
 have h3:Star (ClsX (ps id) (clsC c l f q) l f q c.lim c.fam c.tr) (RestP k mb ps P id) W S:=⟨A1,B,hS,hd,hp,hq⟩
 exact⟨l,f,q,(Star.assoc h3).under fun h=>(Star.assoc h).under Star.assoc⟩
theorem FocC.unfocus (h:FocC k mb ps P id l f q (clsC c' l f q) c'.lim c'.fam c'.tr W S)(hc:lookM P id=some c):PkX k mb ps (putM P id c') W S:=by
 obtain⟨S',hs,hw⟩:=(Sx.start h).punfocus hc
 have hR:Rising P:=by
  obtain⟨S2,hs2⟩:=(Sx.start h).rest.rest.rest.rest.rest.first
  exact rising_pt.1 (hs2.1.rising (int_keyed Tryz.underlying3))
 have h3:Star (ClsX (ps id) (clsC c' l f q) l f q c'.lim c'.fam c'.tr) (RestP k mb ps P id) W S:=Star.unassoc (Star.under h fun h=>Star.unassoc (h.under Star.unassoc))
 have h2:Star (ClsO (ps id) c') (RestP k mb ps P id) W S:=h3.over fun h=>⟨l,f,q,h⟩
 have h1:Star (BoxO k 68 #[.map (some mb)]) (Star (MapO mb (ptV ps P)) (Star (ClsO (ps id) c') (StarL (fun q=>ClsO (ps q.1) q.2) (delM P id)))) W S:=(Star.swap h2).under Star.swap
 refine h1.under fun h=>(h.under fun h=>(starL_put hR).2 h).over fun h=>?_
 have:ptV ps (putM P id c')=ptV ps P:=by
  rw [put_pt (ps:=ps) hR fun _ _ _=>rfl]
  exact put_look (rising_pt.2 hR) (by rw [look_pt,hc];rfl)
 rw [this]
 exact h
theorem Sx.focE (h:Sx w0 A W (Star E (PkX k mb ps P)))(hc:lookM P id=some c):∃ l f q,Sx w0 A W (Star E (FocC k mb ps P id l f q (clsC c l f q) c.lim c.fam c.tr)):=by
 obtain⟨S,⟨A1,B1,hS,hd,hp,hq⟩,hw⟩:=h
 obtain⟨l,f,q,hf⟩:=hq.focus hc
 exact⟨l,f,q,S,⟨A1,B1,hS,hd,hp,hf⟩,hw⟩
theorem Sx.unfocE (h:Sx w0 A W (Star E (FocC k mb ps P id l f q (clsC c' l f q) c'.lim c'.fam c'.tr)))(hc:lookM P id=some c):Sx w0 A W (Star E (PkX k mb ps (putM P id c'))):=by
 refine h.weak fun h=>h.under fun h=>FocC.unfocus h hc
theorem Sx.famE {φ:Ending→Prop} {fn:FuncId} {args:Array Value} {prog:Program} {F':Fam} (hE:Good E)(h:Sx w0 A W (Star E (FocC k mb ps P id l f q (clsC c l f q) c.lim c.fam c.tr)))(hc:lookM P id=some c)(ha:Acts φ (FamO f c.fam) (FamO f F') fn args prog W) :
  Calls prog fn args W fun e W'=>φ e∧Sx w0 A W' (Star E (PkX k mb ps (putM P id { c with fam:=F' }))) :=
 (Sx.act4 hE (good_box _ _ _) (good_limX _ _) (good_fam _ _) good_focC3 h ha).mono fun e W' ⟨h1,h2⟩=>⟨h1,Sx.unfocE (c':={ c with fam:=F' }) h2 hc⟩
theorem Sx.limE {φ:Ending→Prop} {fn:FuncId} {args:Array Value} {prog:Program} {o':Option Rn} (hE:Good E)(h:Sx w0 A W (Star E (FocC k mb ps P id l f q (clsC c l f q) c.lim c.fam c.tr)))(hc:lookM P id=some c)(ha:Acts φ (LimX l c.lim) (LimX l o') fn args prog W) :
  Calls prog fn args W fun e W'=>φ e∧Sx w0 A W' (Star E (PkX k mb ps (putM P id { c with lim:=o' }))) :=
 (Sx.act3 hE (good_box _ _ _) (good_limX _ _) good_focC2 h ha).mono fun e W' ⟨h1,h2⟩=>⟨h1,Sx.unfocE (c':={ c with lim:=o' }) h2 hc⟩
end
end
section
open Go.RowKit Go.Maps
attribute [local go_sem ↓] Go.wp_at_zero Go.wp_at_succ
attribute [local go_sem] quietR quietAtR quietUponR midAt midUpon
structure EnvW (E:Ob)(B D k:Nat)(now:Int):Prop extends EnvP E B k where
 box2:∀ {W:World} {S:Nat→Prop},E W S→Blk W D 28 #[.int .u64 now]
theorem updF_is {P:Pk} {id:Int} {g:Fam→Fam} {c p:Cls} (hc:lookM P id=some c)(hp:lookM P c.pa=some p):updF P id g=putM P c.pa { p with fam:=g p.fam }:=by
 unfold updF
 rw [paP_of hc]
 show updP P c.pa _=_
 unfold updP
 rw [hp]
theorem step_wake {E:Ob} {B D k mb:Nat} {ps:Int→Nat} {now:Int} (hE:EnvW E B D k now)(hnow:U now)(id:Int) {P:Pk} {c:Cls} (h0:0 < id)(hc:lookM P id=some c)(hN:PkM P) :
  StepC 42 #[.pointer (some ⟨B,0,none⟩),.pointer (some ⟨D,0,none⟩)] E k mb ps P (wake1 now P id) id:=fun W A h=>by
 have hB:=hN.toPkB
 have hid:=wf_small (hB.ids _ _ hc).1 (hB.ids _ _ hc).2
 obtain⟨p,hp⟩:=hB.par id c hc (by omega)
 have hs:=Sx.start h
 obtain⟨S1,hS1⟩:=hs.first
 obtain⟨S2,hS2⟩:=hs.env
 have c0:=(hE.box hS1).cell 0
 simp only [lTA,lCZ,lCS] at c0
 have haw:=pawake_any id hid hS2 hB
 have hshE:shP P id=c.sh:=by unfold shP;rw [hc]
 have H:=Lib.hid (And.intro hs hS2)
 have HE:=Lib.hid (And.intro hE (And.intro hnow hid))
 have HC:=Lib.hid (And.intro hc (And.intro hp hN))
 have hgoodPE:∀ w w':World,Below w.heap.size w w'→Sx W A w (Star E (PkX k mb ps P))→Sx W A w' (Star E (PkX k mb ps P)):=fun w w' hb hs=>hs.later (hE.good.star (good_pkX _ _ _ _)) hb
 have HG:=Lib.hid hgoodPE
 show Calls Tryz.prog 42 #[.int .i64 id,.pointer (some ⟨ps id,0,none⟩),.pointer (some ⟨B,0,none⟩),.pointer (some ⟨D,0,none⟩)] W _
 clear h hs hS1 hS2 hgoodPE hB hN hid
 cases hw:awP P id with
 | true =>
  rw [hw] at haw
  have hres:wake1 now P id=P:=by unfold wake1;rw [if_pos (.inl hw)]
  rw [hres]
  clear hw hres hshE hc hp hE
  go_enter Tryz.func42,Tryz.ntmps42
  go_wp2_with (go_at_call 23;refine haw.mono ?_;rintro e w1 ⟨rfl,hb1⟩)
  go_returns
  exact⟨rfl,(HG.out _ _ hb1 H.out.1).done⟩
 | false =>
  rw [hw] at haw
  cases hsh:c.sh with
  | false =>
   have hres:wake1 now P id=P:=by unfold wake1;rw [if_pos (.inr (by rw [hshE,hsh]))]
   rw [hres]
   have hcell:∀ w',Sx W A w' (Star E (PkX k mb ps P))→w'.cell? ⟨ps id,2,none⟩=some (.bool false):=fun w' hs'=>by
    obtain⟨S3,hS3⟩:=hs'.env
    obtain⟨l,f,q,hr⟩:=hS3.cls hc
    have:=hr.blk.cell 2
    unfold clsC at this
    simpa [hsh] using this
   have HCE:=Lib.hid hcell
   clear hw hres hshE hc hp hE hcell hsh
   go_enter Tryz.func42,Tryz.ntmps42
   go_wp2_with (go_at_call 23;refine haw.mono ?_;rintro e w1 ⟨rfl,hb1⟩;have H1:=Lib.hid (HG.out _ _ hb1 H.out.1);have c2:=HCE.out _ H1.out;clear hb1)
   go_returns
   exact⟨rfl,H1.out.done⟩
  | true =>
   have hres:wake1 now P id=updP (updF P id (wakeF id)) id fun c=>{ c with lim:=c.lim.map fun r=>startR r now c.tot }:=by unfold wake1;rw [if_neg (by rw [hw,hshE,hsh];decide)]
   have hcell:∀ w',Sx W A w' (Star E (PkX k mb ps P))→w'.cell? ⟨ps id,2,none⟩=some (.bool true):=fun w' hs'=>by
    obtain⟨S3,hS3⟩:=hs'.env
    obtain⟨l,f,q,hr⟩:=hS3.cls hc
    have:=hr.blk.cell 2
    unfold clsC at this
    simpa [hsh] using this
   have HCE:=Lib.hid hcell
   have HR:=Lib.hid hres
   clear hw hshE hc hp hE hcell hsh hres
   go_enter Tryz.func42,Tryz.ntmps42
   go_upto_region 1 with (go_at_call 23;refine haw.mono ?_;rintro e w1 ⟨rfl,hb1⟩;have H1:=Lib.hid (HG.out _ _ hb1 H.out.1);have c2:=HCE.out _ H1.out;clear hb1)
   clear c0 c2 haw H HCE HG
   obtain⟨lp,fp,qp,hf1⟩:=H1.out.focE HC.out.2.1
   obtain⟨S3,hS3⟩:=H1.out.env
   obtain⟨S4,hS4⟩:=H1.out.first
   obtain⟨l9,f9,q9,hr9⟩:=hS3.cls HC.out.1
   have hEb:=HE.out.1.box hS4
   have hpb:=hf1.rest.box
   have ho:∀ e,PkX k mb ps P (over w1 e) S3:=fun e=>(good_pkX _ _ _ _).kept hS3 (over_below w1 e).size fun b hb=>over_heap w1 e b ((good_pkX _ _ _ _).lt hS3 b hb)
   have hlk:∀ e,(Instr.lookup 66 (.map (some mb)) (.int .i64 c.pa) false).run Tryz.prog (over w1 e)=.ok (.pointer (some ⟨ps c.pa,0,none⟩)) (over w1 e):=fun e=>by
    have hB:=HC.out.2.2.toPkB
    have:=(ho e).look (wf_small (hB.ids _ _ HC.out.2.1).1 (hB.ids _ _ HC.out.2.1).2)
    rw [HC.out.2.1] at this
    exact this
   have o1:=fun e=>(over_cell (w:=w1) (e:=e) (o:=0) hEb.lt).trans (hEb.cell 0)
   have o2:=fun e=>(over_cell (w:=w1) (e:=e) (o:=0) hS3.box.lt).trans (hS3.box.cell 0)
   have o3:=fun e=>(over_cell (w:=w1) (e:=e) (o:=0) hr9.blk.lt).trans (hr9.blk.cell 0)
   have o4:=fun e=>(over_cell (w:=w1) (e:=e) (o:=5) hpb.lt).trans (hpb.cell 5)
   unfold clsC at o3 o4
   simp only [lTA,lCZ,lCS] at o1 o2 o3 o4
   have HF1:=Lib.hid hf1
   clear hf1 hS3 hS4 hr9 hEb hpb ho H1
   refine wp_region_over_tail 13 (by kernel_rfl) (by kernel_rfl) ?_
   simp only [List.take_succ_cons,List.take_zero,List.drop_succ_cons,List.drop_zero]
   repeat (first | go_big_quiet_skip | (go_big_quiet_want;go_big_quiet_op;go_big_quiet_on))
   refine wpQuiet_nil ?_
   rintro w3 ⟨e,he⟩
   have hb3:=over_below w1 e
   rw [← he] at hb3
   have hf3:=HF1.out.later (HE.out.1.good.star good_focC) hb3
   have HD:=Lib.hid (hf3.famE HE.out.1.good HC.out.2.1 (fo_wake id HE.out.2.2 (HC.out.2.2.fam _ _ HC.out.2.1)))
   clear he hb3 hf3 HF1 o1 o2 o3 o4 hlk
   go_upto_region 2 with (go_at_call 43;refine HD.out.mono ?_;rintro e w4 ⟨rfl,h4⟩;have H4:=Lib.hid h4;clear h4)
   obtain⟨P1,hP1⟩:∃ P1,P1=putM P c.pa { p with fam:=wakeF id p.fam }:=⟨_,rfl⟩
   have hP2:updF P id (wakeF id)=P1:=by rw [updF_is HC.out.1 HC.out.2.1,hP1]
   obtain⟨c1,hc1,e1,e2⟩:∃ c1,lookM P1 id=some c1∧c1.lim=c.lim∧c1.tot=c.tot:=by
    rw [hP1]
    by_cases e:id=c.pa
    ·refine⟨_,by rw [← e];exact look_put_same _ _ _,?_⟩
     have:=HC.out.2.1
     rw [← e,HC.out.1] at this
     cases this
     exact⟨rfl,rfl⟩
    ·exact⟨c,by rw [look_put_other _ e];exact HC.out.1,rfl,rfl⟩
   have h4:=H4.out
   rw [← hP1] at h4
   obtain⟨l5,f5,q5,hf5⟩:=h4.focE hc1
   obtain⟨S5,hS5⟩:=h4.first
   have hEb:=HE.out.1.box2 hS5
   have hpb:=hf5.rest.box
   have o1:=fun e=>(over_cell (w:=w4) (e:=e) (o:=0) hEb.lt).trans (hEb.cell 0)
   have o2:=fun e=>(over_cell (w:=w4) (e:=e) (o:=3) hpb.lt).trans (hpb.cell 3)
   have o3:=fun e=>(over_cell (w:=w4) (e:=e) (o:=4) hpb.lt).trans (hpb.cell 4)
   unfold clsC at o2 o3
   simp only [lTA,lCZ,lCS] at o1 o2 o3
   have HF5:=Lib.hid hf5
   have H5:=Lib.hid (And.intro hc1 (And.intro e1 (And.intro e2 hP2)))
   clear hf5 hS5 hEb hpb h4 H4 HD hc1 e1 e2 hP1 hP2
   refine wp_region_over_tail 9 (by kernel_rfl) (by kernel_rfl) ?_
   simp only [List.take_succ_cons,List.take_zero,List.drop_succ_cons,List.drop_zero]
   repeat (first | go_big_quiet_skip | (go_big_quiet_want;go_big_quiet_op;go_big_quiet_on))
   refine wpQuiet_nil ?_
   rintro w6 ⟨e,he⟩
   have hb6:=over_below w4 e
   rw [← he] at hb6
   have hf6:=HF5.out.later (HE.out.1.good.star good_focC) hb6
   have HD:=Lib.hid (hf6.limE HE.out.1.good H5.out.1 (lx_wake l5 c1.lim now c1.tot HE.out.2.1 (by rw [H5.out.2.2.1];exact HC.out.2.2.tot _ _ HC.out.1) (fun x hx=>by
    rw [H5.out.2.1] at hx
    have:=HC.out.2.2.lim _ _ _ HC.out.1 hx
    omega)))
   clear he hb6 hf6 HF5 o1 o2 o3
   go_wp2_with (go_at_call 44;refine HD.out.mono ?_;rintro e w7 ⟨rfl,h7⟩;have H7:=Lib.hid h7;clear h7)
   go_returns
   have hfin:wake1 now P id=putM P1 id { c1 with lim:=wakeL c1.lim now c1.tot }:=by
    rw [HR.out,H5.out.2.2.2]
    unfold updP
    rw [H5.out.1]
    rfl
   rw [hfin]
   exact⟨rfl,H7.out.done⟩
end
section
open Go.RowKit Go.Maps
attribute [local go_sem ↓] Go.wp_at_zero Go.wp_at_succ
attribute [local go_sem] quietR quietAtR quietUponR midAt midUpon
theorem Sx.setE {w0 W:World} {A:Nat→Prop} {E:Ob} {k mb f q i:Nat} {ps:Int→Nat} {P:Pk} {id:Int} {l:Option Nat} {cs cs':Array Value} {lim:Option Rn} {fam:Fam} {tr:List En} {u:Value} (hE:Good E)(h:Sx w0 A W (Star E (FocC k mb ps P id l f q cs lim fam tr)))(he:cs.setIfInBounds i u=cs') :
  Sx w0 A (W.setCell ⟨ps id,i,none⟩ u) (Star E (FocC k mb ps P id l f q cs' lim fam tr)):=((h.swap).set (hE.star good_focC1) he).swap
theorem step_gain {E:Ob} {B D k mb:Nat} {ps:Int→Nat} {n:Int} (hE:EnvW E B D k n)(hn:U n)(id:Int) {P:Pk} {c:Cls} (h0:0 < id)(hc:lookM P id=some c)(hN:PkM P)(hcap:c.tot≤4611686018427387904) :
  StepC 55 #[.pointer (some ⟨D,0,none⟩),.pointer (some ⟨B,0,none⟩)] E k mb ps P (sent1 reachR n P id) id:=fun W A h=>by
 have hB:=hN.toPkB
 have hid:=wf_small (hB.ids _ _ hc).1 (hB.ids _ _ hc).2
 obtain⟨p,hp⟩:=hB.par id c hc (by omega)
 have hs:=Sx.start h
 obtain⟨l,f,q,hf⟩:=hs.focE hc
 obtain⟨S1,hS1⟩:=hs.first
 have htot:=hN.tot _ _ hc
 obtain⟨n0,n1⟩:=hn
 obtain⟨t0,t1⟩:=htot
 have c3:=hf.rest.box.cell 3
 have f3:=hf.rest.box.frozen 3
 have g0:=(hE.box2 hS1).cell 0
 unfold clsC at c3
 simp only [lTA,lCZ,lCS] at c3 g0
 obtain⟨t',ht'⟩:∃ t',t'=c.tot+min n (capC - c.tot):=⟨_,rfl⟩
 have htn:c.tot+min n (4611686018427387904 - c.tot)=t':=ht'.symm
 have hsub:0≤4611686018427387904 - c.tot:=by omega
 have hU:U t':=by unfold U;omega
 have HF:=Lib.hid hf
 have HE:=Lib.hid (And.intro hE (And.intro (show U n from ⟨n0,n1⟩) hid))
 have HC:=Lib.hid (And.intro hc (And.intro hp (And.intro hN ht')))
 show Calls Tryz.prog 55 #[.int .i64 id,.pointer (some ⟨ps id,0,none⟩),.pointer (some ⟨D,0,none⟩),.pointer (some ⟨B,0,none⟩)] W _
 clear h hs hS1 hf hB hN hid hE hc hp ht'
 go_enter Tryz.func55,Tryz.ntmps55
 go_upto_region 0 with fail
 go_region
 obtain⟨c1,hc1⟩:∃ c1:Cls,c1={ c with tot:=t' }:=⟨_,rfl⟩
 obtain⟨P1,hP1⟩:∃ P1,P1=putM P id c1:=⟨_,rfl⟩
 have hu1:(updP P id fun c=>{ c with tot:=c.tot+min n (capC - c.tot) })=P1:=by
  unfold updP
  rw [HC.out.1,hP1,hc1,HC.out.2.2.2]
 have hl1:lookM P1 id=some c1:=by rw [hP1];exact look_put_same _ _ _
 have hpa1:c1.pa=c.pa:=by rw [hc1]
 obtain⟨p1,hp1,ef1⟩:∃ p1,lookM P1 c.pa=some p1∧p1.fam=p.fam:=by
  rw [hP1]
  by_cases e:c.pa=id
  ·refine⟨c1,by rw [e];exact look_put_same _ _ _,?_⟩
   have:=HC.out.2.1
   rw [e,HC.out.1] at this
   cases this
   rw [hc1]
  ·exact⟨p,by rw [look_put_other _ e];exact HC.out.2.1,rfl⟩
 have h2:=((HF.out.setE (u:=.int .u64 t') (i:=3) (cs':=clsC c1 l f q) HE.out.1.good (by rw [hc1];rfl)).later (HE.out.1.good.star good_focC) ((Below.refl _ _).drew))
 have h3:Sx W A _ (Star E (PkX k mb ps (putM P id c1))):=Sx.unfocE (c':=c1) (by rw [hc1] at h2 ⊢;exact h2) HC.out.1
 rw [← hP1] at h3
 have H3:=Lib.hid h3
 have HP:=Lib.hid (And.intro hl1 (And.intro hpa1 (And.intro hp1 (And.intro ef1 hu1))))
 clear h2 h3 hl1 hpa1 hp1 ef1 hu1 hP1 hc1 HF c3 f3 g0 htn hsub
 generalize (W.setCell ⟨ps id,3,none⟩ (.int .u64 t')).drew=w1 at H3 ⊢
 go_upto_region 1 with fail
 obtain⟨lp,fp,qp,hf1⟩:=H3.out.focE HP.out.2.2.1
 obtain⟨S3,hS3⟩:=H3.out.env
 obtain⟨S4,hS4⟩:=H3.out.first
 obtain⟨l9,f9,q9,hr9⟩:=hS3.cls HP.out.1
 have hEb:=HE.out.1.box hS4
 have hEd:=HE.out.1.box2 hS4
 have hpb:=hf1.rest.box
 have ho:∀ e,PkX k mb ps P1 (over w1 e) S3:=fun e=>(good_pkX _ _ _ _).kept hS3 (over_below w1 e).size fun b hb=>over_heap w1 e b ((good_pkX _ _ _ _).lt hS3 b hb)
 have hlk:∀ e,(Instr.lookup 66 (.map (some mb)) (.int .i64 c.pa) false).run Tryz.prog (over w1 e)=.ok (.pointer (some ⟨ps c.pa,0,none⟩)) (over w1 e):=fun e=>by
  have hB:=HC.out.2.2.1.toPkB
  have:=(ho e).look (wf_small (hB.ids _ _ HC.out.2.1).1 (hB.ids _ _ HC.out.2.1).2)
  rw [HP.out.2.2.1] at this
  exact this
 have o1:=fun e=>(over_cell (w:=w1) (e:=e) (o:=0) hEb.lt).trans (hEb.cell 0)
 have o2:=fun e=>(over_cell (w:=w1) (e:=e) (o:=0) hS3.box.lt).trans (hS3.box.cell 0)
 have o3:=fun e=>(over_cell (w:=w1) (e:=e) (o:=0) hr9.blk.lt).trans (hr9.blk.cell 0)
 have o4:=fun e=>(over_cell (w:=w1) (e:=e) (o:=5) hpb.lt).trans (hpb.cell 5)
 have o5:=fun e=>(over_cell (w:=w1) (e:=e) (o:=0) hEd.lt).trans (hEd.cell 0)
 unfold clsC at o3 o4
 rw [HP.out.2.1] at o3
 simp only [lTA,lCZ,lCS] at o1 o2 o3 o4 o5
 have HF1:=Lib.hid hf1
 clear hf1 hS3 hS4 hr9 hEb hEd hpb ho H3
 refine wp_region_over_tail 14 (by kernel_rfl) (by kernel_rfl) ?_
 simp only [List.take_succ_cons,List.take_zero,List.drop_succ_cons,List.drop_zero]
 repeat (first | go_big_quiet_skip | (go_big_quiet_want;go_big_quiet_op;go_big_quiet_on))
 refine wpQuiet_nil ?_
 rintro w3 ⟨e,he⟩
 have hb3:=over_below w1 e
 rw [← he] at hb3
 have hf3:=HF1.out.later (HE.out.1.good.star good_focC) hb3
 have HD:=Lib.hid (hf3.famE HE.out.1.good HP.out.2.2.1 (fo_gain id n HE.out.2.2 HE.out.2.1 (by rw [HP.out.2.2.2.1];exact HC.out.2.2.1.fam _ _ HC.out.2.1)))
 clear he hb3 hf3 HF1 o1 o2 o3 o4 o5 hlk
 go_wp2_with (go_at_call 56;refine HD.out.mono ?_;rintro e w4 ⟨rfl,h4⟩;have H4:=Lib.hid h4;clear h4)
 go_returns
 have hfin:sent1 reachR n P id=putM P1 c.pa { p1 with fam:=gainF reachR id n p1.fam }:=by
  unfold sent1
  rw [HP.out.2.2.2.2]
  rw [updF_is HP.out.1 (by rw [HP.out.2.1];exact HP.out.2.2.1),HP.out.2.1]
 rw [hfin]
 exact⟨rfl,H4.out.done⟩
end
section
open Go.RowKit Go.Maps
attribute [local go_sem ↓] Go.wp_at_zero Go.wp_at_succ
attribute [local go_sem] quietR quietAtR quietUponR midAt midUpon
structure EnvS (E:Ob)(B D k:Nat)(sl:Bool):Prop extends EnvP E B k where
 box2:∀ {W:World} {S:Nat→Prop},E W S→Blk W D 4 #[.bool sl]
theorem step_rest_no {E:Ob} {B D k mb:Nat} {ps:Int→Nat} {sl:Bool} (hE:EnvS E B D k sl)(id:Int) {P:Pk} {c:Cls} (h0:0 < id)(hc:lookM P id=some c)(hN:PkN P)(hno:¬ (sl=true∧(c.lf=true∨c.tr=[]))) :
  StepC 57 #[.pointer (some ⟨D,0,none⟩),.pointer (some ⟨B,0,none⟩)] E k mb ps P (noteP owL P id) id:=fun W A h=>by
 have hs:=Sx.start h
 obtain⟨S1,hS1⟩:=hs.first
 obtain⟨l,f,q,hf⟩:=hs.focE hc
 have c0:=(hE.box hS1).cell 0
 have g0:=(hE.box2 hS1).cell 0
 have c1:=hf.rest.box.cell 1
 have c6:=hf.rest.box.cell 6
 unfold clsC at c1 c6
 simp only [lTA,lCZ,lCS] at c0 g0 c1 c6
 obtain⟨S2,hS2⟩:=hf.rest.rest.rest.rest.first
 have hln:=tr_len hS2
 have HD:=Lib.hid (hs.actR hE.good (good_pkX k mb ps P) (po_note id h0 hc hN))
 show Calls Tryz.prog 57 #[.int .i64 id,.pointer (some ⟨ps id,0,none⟩),.pointer (some ⟨D,0,none⟩),.pointer (some ⟨B,0,none⟩)] W _
 clear h hs hS1 hf hS2 hE
 cases sl with
 | false =>
  clear hno hc hN
  go_enter Tryz.func57,Tryz.ntmps57
  go_wp2_with (go_at_call 46;refine HD.out.mono ?_;rintro e w1 ⟨rfl,h1⟩;have H1:=Lib.hid h1;clear h1)
  go_returns
  exact⟨rfl,H1.out.done⟩
 | true =>
  have h1:c.lf=false:=by
   cases e:c.lf with
   | false=>rfl
   | true=>exact absurd ⟨rfl,.inl e⟩ hno
  have h2:¬ c.tr=[]:=fun e=>hno ⟨rfl,.inr e⟩
  have h3:¬ ((c.tr.length:Int)=0):=fun e=>h2 (List.eq_nil_of_length_eq_zero (by omega))
  have hd:decide ((c.tr.length:Int)=0)=false:=decide_eq_false h3
  rw [h1] at c1
  generalize (c.tr.length:Int)=n at *
  clear hno hc hN h1 h2
  go_enter Tryz.func57,Tryz.ntmps57
  go_wp2_with (first
   | (go_at_call 58;refine hln.mono ?_;rintro e w1 ⟨rfl,rfl⟩)
   | (go_at_call 46;refine HD.out.mono ?_;rintro e w1 ⟨rfl,h1⟩;have H1:=Lib.hid h1;clear h1))
  go_returns
  exact⟨rfl,H1.out.done⟩
theorem step_rest_go {E:Ob} {B D k mb:Nat} {ps:Int→Nat} (hE:EnvS E B D k true)(id:Int) {P:Pk} {c:Cls} (h0:0 < id)(hc:lookM P id=some c)(hN:PkN P)(hN1:PkN (updF P id (sleepF id)))(hl1:∃ c1,lookM (updF P id (sleepF id)) id=some c1)(hgo:c.lf=true∨c.tr=[]) :
  StepC 57 #[.pointer (some ⟨D,0,none⟩),.pointer (some ⟨B,0,none⟩)] E k mb ps P (noteP owL (updF P id (sleepF id)) id) id:=fun W A h=>by
 have hB:=hN.toPkB
 have hid:=wf_small (hB.ids _ _ hc).1 (hB.ids _ _ hc).2
 obtain⟨p,hp⟩:=hB.par id c hc (by omega)
 have hs:=Sx.start h
 obtain⟨S1,hS1⟩:=hs.first
 obtain⟨l,f,q,hf⟩:=hs.focE hc
 have c0:=(hE.box hS1).cell 0
 have g0:=(hE.box2 hS1).cell 0
 have c1:=hf.rest.box.cell 1
 have c6:=hf.rest.box.cell 6
 unfold clsC at c1 c6
 simp only [lTA,lCZ,lCS] at c0 g0 c1 c6
 obtain⟨S2,hS2⟩:=hf.rest.rest.rest.rest.first
 have hln:=tr_len hS2
 have HS:=Lib.hid hs
 have HE:=Lib.hid (And.intro hE hid)
 have HC:=Lib.hid (And.intro hc (And.intro hp (And.intro hN (And.intro hN1 hl1))))
 show Calls Tryz.prog 57 #[.int .i64 id,.pointer (some ⟨ps id,0,none⟩),.pointer (some ⟨D,0,none⟩),.pointer (some ⟨B,0,none⟩)] W _
 clear h hs hS1 hf hS2 hE hc hp hN hN1 hl1 hid hB
 cases hlf:c.lf with
 | true =>
   rw [hlf] at c1
   clear hgo hlf hln
   go_enter Tryz.func57,Tryz.ntmps57
   go_upto_region 1 with fail
   clear c1 c6 c0 g0
   obtain⟨lp,fp,qp,hf1⟩:=HS.out.focE HC.out.2.1
   obtain⟨S3,hS3⟩:=HS.out.env
   obtain⟨S4,hS4⟩:=HS.out.first
   obtain⟨l9,f9,q9,hr9⟩:=hS3.cls HC.out.1
   have hEb:=HE.out.1.box hS4
   have hpb:=hf1.rest.box
   have ho:∀ e,PkX k mb ps P (over W e) S3:=fun e=>(good_pkX _ _ _ _).kept hS3 (over_below W e).size fun b hb=>over_heap W e b ((good_pkX _ _ _ _).lt hS3 b hb)
   have hlk:∀ e,(Instr.lookup 66 (.map (some mb)) (.int .i64 c.pa) false).run Tryz.prog (over W e)=.ok (.pointer (some ⟨ps c.pa,0,none⟩)) (over W e):=fun e=>by
    have hB:=HC.out.2.2.1.toPkB
    have:=(ho e).look (wf_small (hB.ids _ _ HC.out.2.1).1 (hB.ids _ _ HC.out.2.1).2)
    rw [HC.out.2.1] at this
    exact this
   have o1:=fun e=>(over_cell (w:=W) (e:=e) (o:=0) hEb.lt).trans (hEb.cell 0)
   have o2:=fun e=>(over_cell (w:=W) (e:=e) (o:=0) hS3.box.lt).trans (hS3.box.cell 0)
   have o3:=fun e=>(over_cell (w:=W) (e:=e) (o:=0) hr9.blk.lt).trans (hr9.blk.cell 0)
   have o4:=fun e=>(over_cell (w:=W) (e:=e) (o:=5) hpb.lt).trans (hpb.cell 5)
   unfold clsC at o3 o4
   simp only [lTA,lCZ,lCS] at o1 o2 o3 o4
   have HF1:=Lib.hid hf1
   clear hf1 hS3 hS4 hr9 hEb hpb ho HS
   refine wp_region_over_tail 13 (by kernel_rfl) (by kernel_rfl) ?_
   simp only [List.take_succ_cons,List.take_zero,List.drop_succ_cons,List.drop_zero]
   repeat (first | go_big_quiet_skip | (go_big_quiet_want;go_big_quiet_op;go_big_quiet_on))
   refine wpQuiet_nil ?_
   rintro w3 ⟨e,he⟩
   have hb3:=over_below W e
   rw [← he] at hb3
   have hf3:=HF1.out.later (HE.out.1.good.star good_focC) hb3
   have HD:=Lib.hid (hf3.famE HE.out.1.good HC.out.2.1 (fo_sleep id HE.out.2))
   clear he hb3 hf3 HF1 o1 o2 o3 o4 hlk
   go_upto_region 2 with (go_at_call 59;refine HD.out.mono ?_;rintro e w4 ⟨rfl,h4⟩;have H4:=Lib.hid h4;clear h4)
   have h4:=H4.out
   rw [← updF_is (g:=sleepF id) HC.out.1 HC.out.2.1] at h4
   obtain⟨S5,hS5⟩:=h4.first
   have d0:=(HE.out.1.box hS5).cell 0
   simp only [lTA,lCZ,lCS] at d0
   obtain⟨c1,hc1⟩:=HC.out.2.2.2.2
   have HN:=Lib.hid (h4.actR HE.out.1.good (good_pkX k mb ps _) (po_note id h0 hc1 HC.out.2.2.2.1))
   clear h4 H4 HD hS5 hc1
   go_wp2_with (go_at_call 46;refine HN.out.mono ?_;rintro e w5 ⟨rfl,h5⟩;have H5:=Lib.hid h5;clear h5)
   go_returns
   exact⟨rfl,H5.out.done⟩
 | false =>
   have htr:c.tr=[]:=hgo.elim (fun e=>by rw [hlf] at e;cases e) fun e=>e
   rw [hlf] at c1
   rw [htr] at hln
   clear hgo hlf htr
   go_enter Tryz.func57,Tryz.ntmps57
   go_upto_region 1 with (go_at_call 58;refine hln.mono ?_;rintro e w1 ⟨rfl,rfl⟩)
   clear c1 c6 c0 g0 hln
   obtain⟨lp,fp,qp,hf1⟩:=HS.out.focE HC.out.2.1
   obtain⟨S3,hS3⟩:=HS.out.env
   obtain⟨S4,hS4⟩:=HS.out.first
   obtain⟨l9,f9,q9,hr9⟩:=hS3.cls HC.out.1
   have hEb:=HE.out.1.box hS4
   have hpb:=hf1.rest.box
   have ho:∀ e,PkX k mb ps P (over W e) S3:=fun e=>(good_pkX _ _ _ _).kept hS3 (over_below W e).size fun b hb=>over_heap W e b ((good_pkX _ _ _ _).lt hS3 b hb)
   have hlk:∀ e,(Instr.lookup 66 (.map (some mb)) (.int .i64 c.pa) false).run Tryz.prog (over W e)=.ok (.pointer (some ⟨ps c.pa,0,none⟩)) (over W e):=fun e=>by
    have hB:=HC.out.2.2.1.toPkB
    have:=(ho e).look (wf_small (hB.ids _ _ HC.out.2.1).1 (hB.ids _ _ HC.out.2.1).2)
    rw [HC.out.2.1] at this
    exact this
   have o1:=fun e=>(over_cell (w:=W) (e:=e) (o:=0) hEb.lt).trans (hEb.cell 0)
   have o2:=fun e=>(over_cell (w:=W) (e:=e) (o:=0) hS3.box.lt).trans (hS3.box.cell 0)
   have o3:=fun e=>(over_cell (w:=W) (e:=e) (o:=0) hr9.blk.lt).trans (hr9.blk.cell 0)
   have o4:=fun e=>(over_cell (w:=W) (e:=e) (o:=5) hpb.lt).trans (hpb.cell 5)
   unfold clsC at o3 o4
   simp only [lTA,lCZ,lCS] at o1 o2 o3 o4
   have HF1:=Lib.hid hf1
   clear hf1 hS3 hS4 hr9 hEb hpb ho HS
   refine wp_region_over_tail 13 (by kernel_rfl) (by kernel_rfl) ?_
   simp only [List.take_succ_cons,List.take_zero,List.drop_succ_cons,List.drop_zero]
   repeat (first | go_big_quiet_skip | (go_big_quiet_want;go_big_quiet_op;go_big_quiet_on))
   refine wpQuiet_nil ?_
   rintro w3 ⟨e,he⟩
   have hb3:=over_below W e
   rw [← he] at hb3
   have hf3:=HF1.out.later (HE.out.1.good.star good_focC) hb3
   have HD:=Lib.hid (hf3.famE HE.out.1.good HC.out.2.1 (fo_sleep id HE.out.2))
   clear he hb3 hf3 HF1 o1 o2 o3 o4 hlk
   go_upto_region 2 with (go_at_call 59;refine HD.out.mono ?_;rintro e w4 ⟨rfl,h4⟩;have H4:=Lib.hid h4;clear h4)
   have h4:=H4.out
   rw [← updF_is (g:=sleepF id) HC.out.1 HC.out.2.1] at h4
   obtain⟨S5,hS5⟩:=h4.first
   have d0:=(HE.out.1.box hS5).cell 0
   simp only [lTA,lCZ,lCS] at d0
   obtain⟨c1,hc1⟩:=HC.out.2.2.2.2
   have HN:=Lib.hid (h4.actR HE.out.1.good (good_pkX k mb ps _) (po_note id h0 hc1 HC.out.2.2.2.1))
   clear h4 H4 HD hS5 hc1
   go_wp2_with (go_at_call 46;refine HN.out.mono ?_;rintro e w5 ⟨rfl,h5⟩;have H5:=Lib.hid h5;clear h5)
   go_returns
   exact⟨rfl,H5.out.done⟩
end
section
open Go.RowKit Go.Maps
attribute [local go_sem ↓] Go.wp_at_zero Go.wp_at_succ
attribute [local go_sem] quietR quietAtR quietUponR midAt midUpon
def EnvO2 (B D k:Nat)(now:Int):Ob:=Star (BoxO D 28 #[.int .u64 now]) (BoxO B 24 #[.pointer (some ⟨k,0,none⟩)])
theorem envO2 (B D k:Nat)(now:Int):EnvW (EnvO2 B D k now) B D k now :=
 ⟨⟨(good_box _ _ _).star (good_box _ _ _),fun ⟨_,_,_,_,_,h⟩=>h.1⟩,fun ⟨_,_,_,_,h,_⟩=>h.1⟩
structure WakeWay (k mb:Nat)(ps:Int→Nat)(P:Pk)(leaf now:Int)(l:List Int)(I1 I2:Pk→List Int→Prop):Prop where
 up:Up P leaf l
 up1:Up (l.foldl (wake1 now) P) leaf l
 i1:I1 P l
 i2:I2 (l.foldl (wake1 now) P) l
 c1:∀ E B D,EnvW E B D k now→Climb 42 #[.pointer (some ⟨B,0,none⟩),.pointer (some ⟨D,0,none⟩)] E k mb ps (wake1 now) I1
 c2:∀ E B,EnvP E B k→Climb 45 #[.pointer (some ⟨B,0,none⟩)] E k mb ps (noteP owL) I2
theorem po_wake {W:World} {k mb:Nat} {ps:Int→Nat} {P:Pk} {leaf now:Int} {l:List Int} {I1 I2:Pk→List Int→Prop} {c:Cls} (hw:WakeWay k mb ps P leaf now l I1 I2)(h1:1≤leaf)(hid:(Lit.int .i64 leaf).wf=true)(hc:lookM P leaf=some c)(hlf:c.lf=true)(hsh:c.sh=true) :
  Acts (fun e=>e=.returned (.tuple #[])) (PkX k mb ps P) (PkX k mb ps (l.foldl (noteP owL) (l.foldl (wake1 now) P))) 11 #[.pointer (some ⟨k,0,none⟩),.int .i64 leaf,.int .u64 now] Tryz.prog W:=fun A h=>by
 have hs0:=((Sx.start (P:=PkX k mb ps P) h).alloc (good_pkX _ _ _ _) #[.pointer (some ⟨k,0,none⟩)] 24).alloc ((good_box _ _ _).star (good_pkX _ _ _ _)) #[.int .u64 now] 28
 rw [World.size_alloc] at hs0
 have H0:=Lib.hid hs0
 have HW:=Lib.hid (And.intro hw (And.intro hid (And.intro hc (And.intro hlf hsh))))
 clear h hs0 hw hid hc hlf hsh
 go_enter Tryz.func11,Tryz.ntmps11
 go_upto_region 1 with fail
 try simp only [World.size_alloc]
 generalize (W.alloc (.cells #[.pointer (some ⟨k,0,none⟩)] 24)).alloc (.cells #[.int .u64 now] 28)=W1 at H0 ⊢
 obtain⟨B,hB⟩:∃ B,B=W.heap.size:=⟨_,rfl⟩
 obtain⟨D,hD⟩:∃ D,D=W.heap.size+1:=⟨_,rfl⟩
 rw [← hD,← hB] at H0 ⊢
 clear hB hD
 have h1':Sx W A W1 (Star (EnvO2 B D k now) (PkX k mb ps P)):=H0.out.weak Star.unassoc
 obtain⟨S2,hS2⟩:=h1'.env
 obtain⟨l9,f9,q9,hr⟩:=hS2.cls HW.out.2.2.1
 have b0:=H0.out.rest.box.cell 0
 have c1:=hr.blk.cell 1
 have c2:=hr.blk.cell 2
 unfold clsC at c1 c2
 rw [HW.out.2.2.2.1] at c1
 rw [HW.out.2.2.2.2] at c2
 simp only [lTA,lCZ,lCS] at b0 c1 c2
 have ha:=pat_any leaf HW.out.2.1 hS2
 unfold cpV at ha
 rw [HW.out.2.2.1] at ha
 dsimp only at ha
 have HD1:=Lib.hid (h1'.act0 (above_wake B D k mb ps _ (envO2 B D k now).good (wake1 now) I1 (HW.out.1.c1 _ B D (envO2 B D k now)) leaf l P W1 HW.out.1.up HW.out.1.i1))
 clear hS2 hr h1' H0
 go_upto_region 4 with (first
  | (go_at_call 34;refine ha.mono ?_;rintro e w1 ⟨rfl,rfl⟩)
  | (go_at_call 41;refine HD1.out.mono ?_;rintro e w2 ⟨rfl,h2⟩;have H2:=Lib.hid h2;clear h2))
 obtain⟨S3,hS3⟩:=H2.out.first
 have b2:=((envO2 B D k now).box hS3).cell 0
 simp only [lTA,lCZ,lCS] at b2
 have HD2:=Lib.hid (H2.out.act0 (above_note B k mb ps _ (envO2 B D k now).good (noteP owL) I2 (HW.out.1.c2 _ B (envO2 B D k now).toEnvP) leaf l _ w2 HW.out.1.up1 HW.out.1.i2))
 clear hS3 H2 b0 c1 c2
 go_wp2_with (go_at_call 41;refine HD2.out.mono ?_;rintro e w3 ⟨rfl,h3⟩;have H3:=Lib.hid h3;clear h3)
 go_returns
 exact⟨rfl,H3.out.rest.done⟩
end
section
open Go.RowKit Go.Maps
attribute [local go_sem ↓] Go.wp_at_zero Go.wp_at_succ
attribute [local go_sem] quietR quietAtR quietUponR midAt midUpon
def EnvO3 (Q B D k:Nat)(now:Int)(sl:Bool):Ob:=Star (BoxO Q 4 #[.bool sl]) (EnvO2 B D k now)
theorem envO3 (Q B D k:Nat)(now:Int)(sl:Bool):EnvS (EnvO3 Q B D k now sl) B Q k sl :=
 ⟨⟨(good_box _ _ _).star (envO2 B D k now).good,fun ⟨_,_,_,_,_,h⟩=>(envO2 B D k now).box h⟩,fun ⟨_,_,_,_,h,_⟩=>h.1⟩
structure SentWay (k mb:Nat)(ps:Int→Nat)(P:Pk)(leaf n:Int)(more:Bool)(l:List Int)(I1 I2:Pk→List Int→Prop):Prop where
 up:Up P leaf l
 up1:Up (l.foldl (sent1 reachR n) P) leaf l
 i1:I1 P l
 i2:I2 (l.foldl (sent1 reachR n) P) l
 b1:PkB (l.foldl (sent1 reachR n) P)
 c1:∀ E B D,EnvW E B D k n→Climb 55 #[.pointer (some ⟨D,0,none⟩),.pointer (some ⟨B,0,none⟩)] E k mb ps (sent1 reachR n) I1
 c2:∀ E B Q,EnvS E B Q k (!more && awP (l.foldl (sent1 reachR n) P) leaf)→Climb 57 #[.pointer (some ⟨Q,0,none⟩),.pointer (some ⟨B,0,none⟩)] E k mb ps (sent2 owL (!more && awP (l.foldl (sent1 reachR n) P) leaf)) I2
theorem po_sent {W:World} {k mb:Nat} {ps:Int→Nat} {P:Pk} {leaf n:Int} {more:Bool} {l:List Int} {I1 I2:Pk→List Int→Prop} {c:Cls} (hw:SentWay k mb ps P leaf n more l I1 I2)(h1:1≤leaf)(hid:(Lit.int .i64 leaf).wf=true)(hc:lookM P leaf=some c)(hlf:c.lf=true) :
  Acts (fun e=>e=.returned (.tuple #[])) (PkX k mb ps P) (PkX k mb ps (l.foldl (sent2 owL (!more && awP (l.foldl (sent1 reachR n) P) leaf)) (l.foldl (sent1 reachR n) P))) 15 #[.pointer (some ⟨k,0,none⟩),.int .i64 leaf,.int .u64 n,.bool more] Tryz.prog W:=fun A h=>by
 have hs0:=((Sx.start (P:=PkX k mb ps P) h).alloc (good_pkX _ _ _ _) #[.pointer (some ⟨k,0,none⟩)] 24).alloc ((good_box _ _ _).star (good_pkX _ _ _ _)) #[.int .u64 n] 28
 rw [World.size_alloc] at hs0
 have H0:=Lib.hid hs0
 have HW:=Lib.hid (And.intro hw (And.intro hid (And.intro hc hlf)))
 obtain⟨sl,hsl⟩:∃ sl,sl=(!more && awP (l.foldl (sent1 reachR n) P) leaf):=⟨_,rfl⟩
 rw [← hsl]
 have HSL:=Lib.hid hsl
 clear h hs0 hw hid hc hlf hsl
 go_enter Tryz.func15,Tryz.ntmps15
 go_upto_region 1 with fail
 try simp only [World.size_alloc]
 generalize (W.alloc (.cells #[.pointer (some ⟨k,0,none⟩)] 24)).alloc (.cells #[.int .u64 n] 28)=W1 at H0 ⊢
 obtain⟨B,hB⟩:∃ B,B=W.heap.size:=⟨_,rfl⟩
 obtain⟨D,hD⟩:∃ D,D=W.heap.size+1:=⟨_,rfl⟩
 rw [← hD,← hB] at H0 ⊢
 clear hB hD
 have h1':Sx W A W1 (Star (EnvO2 B D k n) (PkX k mb ps P)):=H0.out.weak Star.unassoc
 obtain⟨S2,hS2⟩:=h1'.env
 obtain⟨l9,f9,q9,hr⟩:=hS2.cls HW.out.2.2.1
 have b0:=H0.out.rest.box.cell 0
 have c1:=hr.blk.cell 1
 unfold clsC at c1
 rw [HW.out.2.2.2] at c1
 simp only [lTA,lCZ,lCS] at b0 c1
 have ha:=pat_any leaf HW.out.2.1 hS2
 unfold cpV at ha
 rw [HW.out.2.2.1] at ha
 dsimp only at ha
 have HD1:=Lib.hid (h1'.act0 (above_gain D B k mb ps _ (envO2 B D k n).good (sent1 reachR n) I1 (HW.out.1.c1 _ B D (envO2 B D k n)) leaf l P W1 HW.out.1.up HW.out.1.i1))
 clear hS2 hr h1' H0
 go_upto_region 4 with (first
  | (go_at_call 34;refine ha.mono ?_;rintro e w1 ⟨rfl,rfl⟩)
  | (go_at_call 41;refine HD1.out.mono ?_;rintro e w2 ⟨rfl,h2⟩;have H2:=Lib.hid h2;clear h2))
 obtain⟨S3,hS3⟩:=H2.out.first
 obtain⟨S4,hS4⟩:=H2.out.env
 have b2:=((envO2 B D k n).box hS3).cell 0
 simp only [lTA,lCZ,lCS] at b2
 have haw:=pawake_any leaf HW.out.2.1 hS4 HW.out.1.b1
 have hlater:∀ w3:World,Below w2.heap.size w2 w3→Sx W A (w3.alloc (.cells #[.bool sl] 4)) (Star (EnvO3 w3.heap.size B D k n sl) (PkX k mb ps (l.foldl (sent1 reachR n) P))):=fun w3 hb3 =>
  ((H2.out.later ((envO2 B D k n).good.star (good_pkX _ _ _ _)) hb3).alloc ((envO2 B D k n).good.star (good_pkX _ _ _ _)) #[.bool sl] 4).weak Star.unassoc
 have HL:=Lib.hid hlater
 clear hS3 hS4 H2 b0 c1 hlater HD1 ha
 cases more with
 | true =>
  clear haw
  go_upto_region 5 with fail
  have hsl:sl=false:=HSL.out
  have hq:=HL.out w2 (Below.refl _ _)
  obtain⟨S5,hS5⟩:=hq.first
  have b5:=((envO3 _ B D k n _).box hS5).cell 0
  simp only [lTA,lCZ,lCS] at b5
  have hc2:=HW.out.1.c2 (EnvO3 w2.heap.size B D k n sl) B w2.heap.size (by rw [← HSL.out];exact envO3 _ _ _ _ _ _)
  rw [← HSL.out] at hc2
  have HD2:=Lib.hid (hq.act0 (above_rest w2.heap.size B k mb ps _ (envO3 _ B D k n sl).good (sent2 owL sl) I2 hc2 leaf l _ _ HW.out.1.up1 HW.out.1.i2))
  clear hS5 hc2 b2
  rw [hsl] at hq HD2 b5
  go_wp2_with (go_at_call 41;refine HD2.out.mono ?_;rintro e w6 ⟨rfl,h6⟩;have H6:=Lib.hid h6;clear h6)
  go_returns
  rw [hsl]
  exact⟨rfl,H6.out.rest.done⟩
 | false =>
  go_upto_region 5 with (go_at_call 23;refine haw.mono ?_;rintro e w3 ⟨rfl,hb3⟩;have H3:=Lib.hid (HL.out _ hb3);clear hb3)
  have hsl:sl=awP (l.foldl (sent1 reachR n) P) leaf:=HSL.out
  have hq:=H3.out
  obtain⟨S5,hS5⟩:=hq.first
  have b5:=((envO3 _ B D k n _).box hS5).cell 0
  simp only [lTA,lCZ,lCS] at b5
  have hc2:=HW.out.1.c2 (EnvO3 w3.heap.size B D k n sl) B w3.heap.size (by rw [← HSL.out];exact envO3 _ _ _ _ _ _)
  rw [← HSL.out] at hc2
  have HD2:=Lib.hid (hq.act0 (above_rest w3.heap.size B k mb ps _ (envO3 _ B D k n sl).good (sent2 owL sl) I2 hc2 leaf l _ _ HW.out.1.up1 HW.out.1.i2))
  clear hS5 hc2 b2
  rw [hsl] at hq HD2 b5
  go_wp2_with (go_at_call 41;refine HD2.out.mono ?_;rintro e w6 ⟨rfl,h6⟩;have H6:=Lib.hid h6;clear h6)
  go_returns
  rw [hsl]
  exact⟨rfl,H6.out.rest.done⟩
end
section
open Go.RowKit Go.Maps
structure RnZ (n:Nat)(r:Rn):Prop where
 x:0≤r.x∧r.x≤9223372036854775808
 few:r.A.length≤n
structure FamZ (n:Nat)(F:Fam):Prop where
 rise:Rising F.m
 v:∀ x m,lookM F.m x=some m→0≤m.v∧m.v≤9223372036854775808
 tot:∀ x m,lookM F.m x=some m→0≤m.tot∧m.tot≤4611686018427387904
 rn:∀ x m,lookM F.m x=some m→RnZ n m.rn
 mark:0≤F.mark∧F.mark≤9223372036854775808
 len:F.m.length≤n
structure PkZ (n:Nat)(P:Pk):Prop where
 tot:∀ id c,lookM P id=some c→0≤c.tot∧c.tot≤4611686018427387904
 few:∀ id c,lookM P id=some c→c.tr.length≤n
 lim:∀ id c x,lookM P id=some c→c.lim=some x→RnZ n x
 fam:∀ id c,lookM P id=some c→FamZ n c.fam
 un:∀ id c,lookM P id=some c→-(n:Int)≤c.un∧c.un≤n
section
variable {n n' : Nat} {F : Fam} {P : Pk}
theorem RnZ.mono {r:Rn} (h:RnZ n r)(hn:n≤n'):RnZ n' r:=⟨h.x,by have:=h.few;omega⟩
theorem FamZ.mono (h:FamZ n F)(hn:n≤n'):FamZ n' F:=⟨h.rise,h.v,h.tot,fun x m hx=>(h.rn x m hx).mono hn,h.mark,by have:=h.len;omega⟩
theorem PkZ.mono (h:PkZ n P)(hn:n≤n'):PkZ n' P:=⟨h.tot,fun i c hc=>by have:=h.few i c hc;omega,fun i c x hc hx=>(h.lim i c x hc hx).mono hn,fun i c hc=>(h.fam i c hc).mono hn,fun i c hc=>by have:=h.un i c hc;omega⟩
theorem FamZ.famN (h:FamZ n F)(hn:n < 100000):FamN F:=⟨h.v,h.tot,fun x m hx=>by have:=(h.rn x m hx).few;omega,h.mark,by have:=h.len;omega⟩
theorem PkZ.pkM (h:PkZ n P)(hn:n < 100000)(hB:PkB P):PkM P :=
 ⟨⟨hB,fun id c hc=>by have:=h.tot id c hc;unfold U;omega,fun id c hc=>by have:=h.few id c hc;omega⟩,fun id c hc=>(h.fam id c hc).famN hn,fun id c x hc hx=>by have:=(h.lim id c x hc hx).few;omega⟩
theorem back_is (v:Int→Int) {x:Int} (y:Int)(h0:0≤x)(h1:x≤9223372036854775808):∃ n,Back v x y n:=by
 by_cases hx:x=9223372036854775808
 ·exact⟨x,.inr (.inl ⟨hx,hx⟩)⟩
 by_cases hv:v 9223372036854775807 < y
 ·exact⟨_,.inl ⟨rfl,by omega,hv⟩⟩
 have key:∀ (k:Nat) (t:Int),x≤t→t < 9223372036854775808→t - x≤k→y≤v t→∃ n,Back v x y n:=by
  intro k
  induction k with
  | zero=>intro t a b c d;exact⟨t,.inr (.inr (.inl ⟨b,by omega,d⟩))⟩
  | succ k ih =>
   intro t a b c d
   by_cases ht:t=x
   ·exact⟨t,.inr (.inr (.inl ⟨b,by omega,d⟩))⟩
   ·by_cases hp:y≤v (t - 1)
    ·exact ih (t - 1) (by omega) (by omega) (by omega) hp
    ·exact⟨t,.inr (.inr (.inr ⟨b,by omega,d,by omega⟩))⟩
 exact key (9223372036854775807 - x).toNat 9223372036854775807 (by omega) (by omega) (by omega) (by omega)
theorem reachR_bd {r:Rn} (h:RnZ n r)(y:Int):0≤reachR r y∧reachR r y≤9223372036854775808:=by
 unfold reachR qR
 split
 ·unfold nevB;split <;> omega
 ·have hb:=back_is (fun t=>vA r.F r.L r.R r.A (max t r.x)) y h.x.1 h.x.2
  have hs:Back (fun t=>vA r.F r.L r.R r.A (max t r.x)) r.x y (ansI (fun t=>vA r.F r.L r.R r.A (max t r.x)) r.x y):=Classical.epsilon_spec hb
  have:=hs.x_le
  have:=hs.le_never
  have:=h.x
  omega
theorem rnZ_start {r:Rn} (h:RnZ n r)(t y:Int):RnZ (n+1) (startR r t y):=by
 have:=h.x
 refine⟨?_,?_⟩
 ·unfold startR nevC;dsimp only;omega
 ·unfold startR;dsimp only;rw [List.length_append];have:=h.few;simp only [List.length_cons,List.length_nil];omega
theorem owL_bd {o:Option Rn} (h:∀ x,o=some x→RnZ n x)(y:Int):0≤owL o y∧owL o y≤9223372036854775808:=by
 cases o with
 | none=>unfold owL;dsimp only;omega
 | some r=>exact reachR_bd (h r rfl) y
theorem famZ_put (h:FamZ n F) {id:Int} {m m':Mem} {mark:Int} (hm:lookM F.m id=some m)(hv:0≤m'.v∧m'.v≤9223372036854775808)(ht:0≤m'.tot∧m'.tot≤4611686018427387904)(hf:RnZ (n+1) m'.rn)(hk:0≤mark∧mark≤9223372036854775808):FamZ (n+1) ⟨putM F.m id m',mark⟩:=by
 have key:∀ x k,lookM (putM F.m id m') x=some k→k=m'∨lookM F.m x=some k:=fun x k hx=>by
  by_cases e:x=id
  ·subst e
   rw [look_put_same] at hx
   exact .inl (Option.some.inj hx).symm
  ·rw [look_put_other _ e] at hx
   exact .inr hx
 refine⟨rising_put _ _ h.rise,fun x k hx=>?_,fun x k hx=>?_,fun x k hx=>?_,hk,?_⟩
 ·rcases key x k hx with rfl | hx
  ·exact hv
  ·exact h.v x k hx
 ·rcases key x k hx with rfl | hx
  ·exact ht
  ·exact h.tot x k hx
 ·rcases key x k hx with rfl | hx
  ·exact hf
  ·exact (h.rn x k hx).mono (Nat.le_succ _)
 ·show (putM F.m id m').length≤n+1
  rw [put_len_same h.rise hm]
  have:=h.len
  omega
theorem famZ_sleep (h:FamZ n F)(id:Int):FamZ (n+1) (sleepF id F):=by
 unfold sleepF
 cases hm:lookM F.m id with
 | none=>exact h.mono (Nat.le_succ _)
 | some m=>exact famZ_put h hm (h.v id m hm) (h.tot id m hm) ((h.rn id m hm).mono (Nat.le_succ _)) h.mark
theorem famZ_wake (h:FamZ n F)(id:Int):FamZ (n+1) (wakeF id F):=by
 unfold wakeF
 cases hm:lookM F.m id with
 | none=>exact h.mono (Nat.le_succ _)
 | some m =>
  dsimp only
  by_cases ha:m.aw=true
  ·rw [if_pos ha];exact h.mono (Nat.le_succ _)
  ·rw [if_neg ha]
   have hb:=startV_bound h.rise h.v h.mark hm
   have:=h.mark
   exact famZ_put h hm hb (h.tot id m hm) (rnZ_start (h.rn id m hm) _ _) (by omega)
theorem famZ_gain (h:FamZ n F)(id:Int) {k:Int} (hk:0≤k):FamZ (n+1) (gainF reachR id k F):=by
 unfold gainF
 cases hm:lookM F.m id with
 | none=>exact h.mono (Nat.le_succ _)
 | some m =>
  dsimp only
  have ht:=h.tot id m hm
  have ht2:0≤m.tot+min k (capC - m.tot)∧m.tot+min k (capC - m.tot)≤4611686018427387904:=by unfold capC;omega
  by_cases ha:m.aw=true
  ·rw [if_pos ha]
   have hb:=reachR_bd (h.rn id m hm) (m.tot+min k (capC - m.tot))
   have:=h.mark
   exact famZ_put h hm hb ht2 ((h.rn id m hm).mono (Nat.le_succ _)) (by omega)
  ·rw [if_neg ha]
   exact famZ_put h hm (h.v id m hm) ht2 ((h.rn id m hm).mono (Nat.le_succ _)) h.mark
theorem famZ_add (h:FamZ n F)(id:Int)(c:Int × Int × Int):FamZ (n+1) (addF id c F):=by
 have key:∀ x k,lookM (putM F.m id (mem0 c)) x=some k→k=mem0 c∨lookM F.m x=some k:=fun x k hx=>by
  by_cases e:x=id
  ·subst e
   rw [look_put_same] at hx
   exact .inl (Option.some.inj hx).symm
  ·rw [look_put_other _ e] at hx
   exact .inr hx
 refine⟨rising_put _ _ h.rise,fun x k hx=>?_,fun x k hx=>?_,fun x k hx=>?_,h.mark,?_⟩
 ·rcases key x k hx with rfl | hx
  ·unfold mem0;dsimp only;omega
  ·exact h.v x k hx
 ·rcases key x k hx with rfl | hx
  ·unfold mem0;dsimp only;omega
  ·exact h.tot x k hx
 ·rcases key x k hx with rfl | hx
  ·exact⟨by unfold mem0 rn0;dsimp only;omega,Nat.zero_le _⟩
  ·exact (h.rn x k hx).mono (Nat.le_succ _)
 ·show (putM F.m id (mem0 c)).length≤n+1
  have:=h.len
  cases hl:lookM F.m id with
  | none=>rw [put_len_new _ hl];omega
  | some m=>rw [put_len_same h.rise hl];omega
theorem famZ_out (h:FamZ n F)(id:Int):FamZ n (outF id F):=by
 have key:∀ x k,lookM (delM F.m id) x=some k→lookM F.m x=some k:=fun x k hx=>by
  by_cases e:x=id
  ·subst e
   rw [look_del_same] at hx
   cases hx
  ·rwa [look_del_other e] at hx
 exact⟨rising_del h.rise _,fun x k hx=>h.v x k (key x k hx),fun x k hx=>h.tot x k (key x k hx),fun x k hx=>h.rn x k (key x k hx),h.mark,Nat.le_trans (del_length _ _) h.len⟩
theorem famZ_0:FamZ n fam0:=⟨List.Pairwise.nil,fun x m h=>(by cases h),fun x m h=>(by cases h),fun x m h=>(by cases h),by unfold fam0;dsimp only;omega,Nat.zero_le _⟩
theorem pkZ_upd (h:PkZ n P)(id:Int) {f:Cls→Cls} (hf:∀ c,lookM P id=some c→(0≤(f c).tot∧(f c).tot≤4611686018427387904)∧(f c).tr.length≤n+1∧(∀ x,(f c).lim=some x→RnZ (n+1) x)∧FamZ (n+1) (f c).fam∧(-(n:Int) - 1≤(f c).un∧(f c).un≤n+1)):PkZ (n+1) (updP P id f):=by
 have key:∀ j c',lookM (updP P id f) j=some c'→(∃ c,lookM P id=some c∧c'=f c)∨lookM P j=some c':=fun j c' hj=>by
  rw [look_upd] at hj
  by_cases e:j=id
  ·rw [if_pos e] at hj
   obtain⟨c,hc,rfl⟩:=Option.map_eq_some_iff.1 hj
   exact .inl ⟨c,hc,rfl⟩
  ·rw [if_neg e] at hj
   exact .inr hj
 refine⟨fun j c' hj=>?_,fun j c' hj=>?_,fun j c' x hj hx=>?_,fun j c' hj=>?_,fun j c' hj=>?_⟩
 ·rcases key j c' hj with ⟨c,hc,rfl⟩ | hj
  ·exact (hf c hc).1
  ·exact h.tot j c' hj
 ·rcases key j c' hj with ⟨c,hc,rfl⟩ | hj
  ·exact (hf c hc).2.1
  ·have:=h.few j c' hj;omega
 ·rcases key j c' hj with ⟨c,hc,rfl⟩ | hj
  ·exact (hf c hc).2.2.1 x hx
  ·exact (h.lim j c' x hj hx).mono (Nat.le_succ _)
 ·rcases key j c' hj with ⟨c,hc,rfl⟩ | hj
  ·exact (hf c hc).2.2.2.1
  ·exact (h.fam j c' hj).mono (Nat.le_succ _)
 ·rcases key j c' hj with ⟨c,hc,rfl⟩ | hj
  ·have:=(hf c hc).2.2.2.2;omega
  ·have:=h.un j c' hj;omega
theorem pkZ_updF (h:PkZ n P)(id:Int) {g:Fam→Fam} (hg:∀ F,FamZ n F→FamZ (n+1) (g F)):PkZ (n+1) (updF P id g):=by
 unfold updF
 cases paP P id with
 | none=>exact h.mono (Nat.le_succ _)
 | some q=>exact pkZ_upd h q fun c hc=>⟨h.tot q c hc,by have:=h.few _ _ hc;show c.tr.length≤n+1;omega,fun x hx=>(h.lim _ _ x hc hx).mono (Nat.le_succ _),hg _ (h.fam _ _ hc),by have:=h.un _ _ hc;show -(n:Int) - 1≤c.un∧c.un≤n+1;omega⟩
theorem pkZ_note {ow:Option Rn→Int→Int} (h:PkZ n P)(id:Int):PkZ (n+1) (noteP ow P id):=by
 unfold noteP
 cases paP P id with
 | none=>exact h.mono (Nat.le_succ _)
 | some q =>
  refine pkZ_upd h q fun c hc=>⟨h.tot q c hc,?_,fun x hx=>(h.lim _ _ x hc hx).mono (Nat.le_succ _),(h.fam _ _ hc).mono (Nat.le_succ _),by have:=h.un _ _ hc;show -(n:Int) - 1≤c.un∧c.un≤n+1;omega⟩
  have:=h.few _ _ hc
  dsimp only
  split
  ·have:=put_le c.tr id (vP P id) (fitP ow P id);omega
  ·have:=drop_le c.tr id;omega
theorem pkZ_wake1 (h:PkZ n P)(now id:Int):PkZ (n+2) (wake1 now P id):=by
 unfold wake1
 split
 ·exact h.mono (by omega)
 ·refine pkZ_upd (pkZ_updF h id fun F hF=>famZ_wake hF id) id fun c hc=>?_
  have h1:=pkZ_updF h id fun F hF=>famZ_wake hF id
  refine⟨h1.tot id c hc,by have:=h1.few _ _ hc;show c.tr.length≤n+1+1;omega,fun x hx=>?_,(h1.fam _ _ hc).mono (Nat.le_succ _),by have:=h1.un _ _ hc;show -((n+1:Nat):Int) - 1≤c.un∧c.un≤((n+1:Nat):Int)+1;omega⟩
  obtain⟨r,hr,rfl⟩:=Option.map_eq_some_iff.1 hx
  exact rnZ_start (h1.lim _ _ r hc hr) _ _
theorem pkZ_sent1 (h:PkZ n P) {k:Int} (hk:0≤k)(id:Int):PkZ (n+2) (sent1 reachR k P id):=by
 have h1:PkZ (n+1) (updP P id fun c=>{ c with tot:=c.tot+min k (capC - c.tot) }):=by
  refine pkZ_upd h id fun c hc=>⟨?_,?_,fun x hx=>(h.lim _ _ x hc hx).mono (Nat.le_succ _),(h.fam _ _ hc).mono (Nat.le_succ _),?_⟩
  ·have:=h.tot _ _ hc
   unfold capC
   dsimp only
   omega
  ·have:=h.few _ _ hc;show c.tr.length≤n+1;omega
  ·have:=h.un _ _ hc;show -(n:Int) - 1≤c.un∧c.un≤n+1;omega
 exact pkZ_updF h1 id fun F hF=>famZ_gain hF id hk
theorem pkZ_sent2 {ow:Option Rn→Int→Int} (h:PkZ n P)(sl:Bool)(id:Int):PkZ (n+2) (sent2 ow sl P id):=by
 unfold sent2
 split
 ·exact pkZ_note (pkZ_updF h id fun F hF=>famZ_sleep hF id) id
 ·exact (pkZ_note h id).mono (by omega)
theorem PkB.stat {Q:Pk} (h:PkB P)(hs:∀ j,statP Q j=statP P j):PkB Q:=by
 refine⟨fun id c hc=>?_,fun id c hc h0=>?_⟩
 ·obtain⟨c0,hc0,_⟩:=stat_back (hs id) hc
  exact h.ids id c0 hc0
 ·obtain⟨c0,hc0,hpa,_⟩:=stat_back (hs id) hc
  obtain⟨p,hp⟩:=h.par id c0 hc0 h0
  rw [hpa]
  have:=look_of_stat (hs c0.pa)
  rw [hp] at this
  exact Option.isSome_iff_exists.1 this
end
end
end Go.Proofs.YtmmeopjemkjllaaGreat
