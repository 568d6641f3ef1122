/- Lemmas of the claim. No conditions beyond those that each states. -/
import Derived.Test.YtmmeopjemkjllaaGreatPU37
set_option linter.unusedVariables false
set_option linter.unusedSimpArgs false
set_option maxRecDepth 100000
set_option maxHeartbeats 8000000
namespace Go.Proofs.YtmmeopjemkjllaaGreat
section
open Go.RowKit Go.Maps
attribute [local go_sem ↓] Go.wp_at_zero Go.wp_at_succ
attribute [local go_sem] quietR quietAtR quietUponR midAt midUpon
section
variable {w0 W W' : World} {A : Nat → Prop} {P1 P2 P3 P Q R : Ob} {φ : Ending → Prop} {f : FuncId} {args : Array Value} {prog : Program}
theorem Sx.act2 (hP1:Good P1)(hP:Good P)(hR:Good R)(h:Sx w0 A W (Star P1 (Star P R)))(ha:Acts φ P Q f args prog W):Calls prog f args W fun e W'=>φ e∧Sx w0 A W' (Star P1 (Star Q R)) :=
 (h.swap.act hP (hP1.star hR) ha).mono fun e W' ⟨h1,h2⟩=>⟨h1,h2.swap⟩
theorem Sx.act3 (hP1:Good P1)(hP2:Good P2)(hP:Good P)(hR:Good R)(h:Sx w0 A W (Star P1 (Star P2 (Star P R))))(ha:Acts φ P Q f args prog W):Calls prog f args W fun e W'=>φ e∧Sx w0 A W' (Star P1 (Star P2 (Star Q R))) :=
 (h.swap2.act2 hP1 hP (hP2.star hR) ha).mono fun e W' ⟨h1,h2⟩=>⟨h1,h2.swap2⟩
theorem Sx.act4 (hP1:Good P1)(hP2:Good P2)(hP3:Good P3)(hP:Good P)(hR:Good R)(h:Sx w0 A W (Star P1 (Star P2 (Star P3 (Star P R)))))(ha:Acts φ P Q f args prog W):Calls prog f args W fun e W'=>φ e∧Sx w0 A W' (Star P1 (Star P2 (Star P3 (Star Q R)))) :=
 (h.swap3.act3 hP1 hP2 hP (hP3.star hR) ha).mono fun e W' ⟨h1,h2⟩=>⟨h1,h2.swap3⟩
end
def RestP (k mb:Nat)(ps:Int→Nat)(P:Pk)(id:Int):Ob:=Star (BoxO k 68 #[.map (some mb)]) (Star (MapO mb (ptV ps P)) (StarL (fun q=>ClsO (ps q.1) q.2) (delM P id)))
theorem good_restP (k mb:Nat)(ps:Int→Nat)(P:Pk)(id:Int):Good (RestP k mb ps P id):=(good_box _ _ _).star ((good_map _ _).star (good_starL (fun q=>good_cls _ _) _))
def FocC (k mb:Nat)(ps:Int→Nat)(P:Pk)(id:Int)(l:Option Nat)(f q:Nat)(cs:Array Value)(lim:Option Rn)(fam:Fam)(tr:List En):Ob :=
 Star (BoxO (ps id) 65 cs) (Star (LimX l lim) (Star (FamO f fam) (Star (TrO q tr) (RestP k mb ps P id))))
section
variable {w0 W W' : World} {A : Nat → Prop} {k mb f q : Nat} {ps : Int → Nat} {P : Pk} {id : Int} {l : Option Nat} {c c' : Cls} {cs cs' : Array Value} {lim : Option Rn} {fam : Fam} {tr : List En}
theorem good_focC3:Good (Star (TrO q tr) (RestP k mb ps P id)):=(good_tr _ _).star (good_restP _ _ _ _ _)
theorem good_focC2:Good (Star (FamO f fam) (Star (TrO q tr) (RestP k mb ps P id))):=(good_fam _ _).star good_focC3
theorem good_focC1:Good (Star (LimX l lim) (Star (FamO f fam) (Star (TrO q tr) (RestP k mb ps P id)))):=(good_limX _ _).star good_focC2
theorem good_focC:Good (FocC k mb ps P id l f q cs lim fam tr):=(good_box _ _ _).star good_focC1
theorem Sx.pfocus (h:Sx w0 A W (PkX k mb ps P))(hc:lookM P id=some c):∃ l f q,Sx w0 A W (FocC k mb ps P id l f q (clsC c l f q) c.lim c.fam c.tr):=by
 obtain⟨S,hf,hw⟩:=h
 have hR:=hf.rising
 have h1:Star (BoxO k 68 #[.map (some mb)]) (Star (MapO mb (ptV ps P)) (Star (ClsO (ps id) c) (StarL (fun q=>ClsO (ps q.1) q.2) (delM P id)))) W S :=
  hf.under fun h=>h.under fun h=>(starL_look hR hc).1 h
 have h2:Star (ClsO (ps id) c) (RestP k mb ps P id) W S:=Star.swap (h1.under Star.swap)
 obtain⟨A1,B,hS,hd,⟨l,f,q,hp⟩,hq⟩:=h2
 refine⟨l,f,q,S,?_,hw⟩
 have h3:Star (ClsX (ps id) (clsC c l f q) l f q c.lim c.fam c.tr) (RestP k mb ps P id) W S:=⟨A1,B,hS,hd,hp,hq⟩
 exact (Star.assoc h3).under fun h=>(Star.assoc h).under Star.assoc
theorem Sx.punfocus (h:Sx w0 A W (FocC k mb ps P id l f q (clsC c' l f q) c'.lim c'.fam c'.tr))(hc:lookM P id=some c):Sx w0 A W (PkX k mb ps (putM P id c')):=by
 have hR:Rising P:=by
  obtain⟨S,hs⟩:=h.rest.rest.rest.rest.rest.first
  exact rising_pt.1 (hs.1.rising (int_keyed Tryz.underlying3))
 refine h.weak fun {S} h=>?_
 have h3:Star (ClsX (ps id) (clsC c' l f q) l f q c'.lim c'.fam c'.tr) (RestP k mb ps P id) W S:=Star.unassoc (Star.under h fun h=>Star.unassoc (h.under Star.unassoc))
 have h2:Star (ClsO (ps id) c') (RestP k mb ps P id) W S:=h3.over fun h=>⟨l,f,q,h⟩
 have h1:Star (BoxO k 68 #[.map (some mb)]) (Star (MapO mb (ptV ps P)) (Star (ClsO (ps id) c') (StarL (fun q=>ClsO (ps q.1) q.2) (delM P id)))) W S:=(Star.swap h2).under Star.swap
 refine h1.under fun h=>(h.under fun h=>(starL_put hR).2 h).over fun h=>?_
 have:ptV ps (putM P id c')=ptV ps P:=by
  rw [put_pt (ps:=ps) hR fun _ _ _=>rfl]
  exact put_look (rising_pt.2 hR) (by rw [look_pt,hc];rfl)
 rw [this]
 exact h
end
structure PkN (P:Pk):Prop extends PkB P where
 tot:∀ id c,lookM P id=some c→U c.tot
 few:∀ id c,lookM P id=some c→c.tr.length < 800000
theorem po_note {W:World} {k mb:Nat} {ps:Int→Nat} {P:Pk} (id:Int) {c:Cls} (h0:0 < id)(hc:lookM P id=some c)(hN:PkN P) :
  Acts (fun e=>e=.returned (.tuple #[])) (PkX k mb ps P) (PkX k mb ps (noteP owL P id)) 46 #[.pointer (some ⟨k,0,none⟩),.int .i64 id] Tryz.prog W:=fun A h=>by
 have hB:=hN.toPkB
 have hid:=wf_small (hB.ids _ _ hc).1 (hB.ids _ _ hc).2
 obtain⟨p,hp⟩:=hB.par id c hc (by omega)
 have hfp:fitP owL P id=fitC owL c:=by unfold fitP;rw [hc]
 have hno:noteP owL P id=putM P c.pa { p with tr:=if awP P id=true then putI p.tr id (vP P id) (fitC owL c) else dropI p.tr id }:=by
  unfold noteP
  rw [paP_of hc]
  show updP P c.pa _=_
  unfold updP
  rw [hp,hfp]
 rw [hno]
 clear hno hfp
 obtain⟨t,ht⟩:∃ t,t=if awP P id=true then putI p.tr id (vP P id) (fitC owL c) else dropI p.tr id:=⟨_,rfl⟩
 rw [← ht]
 have HT:=Lib.hid ht
 clear ht
 obtain⟨l,f,q,hs⟩:=(Sx.start (P:=PkX k mb ps P) h).pfocus hp
 have ho:∀ e,PkX k mb ps P (over W e) A:=fun e=>(good_pkX _ _ _ _).kept h (over_below W e).size fun b hb=>over_heap W e b ((good_pkX _ _ _ _).lt h b hb)
 have hlk0:=h.look hid
 rw [hc] at hlk0
 dsimp only [Option.map_some,Option.getD_some] at hlk0
 have hlk:∀ e,(Instr.lookup 66 (.map (some mb)) (.int .i64 c.pa) false).run Tryz.prog (over W e)=.ok (.pointer (some ⟨ps c.pa,0,none⟩)) (over W e):=fun e=>by
  have:=(ho e).look (wf_small (hB.ids _ _ hp).1 (hB.ids _ _ hp).2)
  rw [hp] at this
  exact this
 obtain⟨l1,f1,q1,hcr⟩:=h.cls hc
 have k0:=h.box.cell 0
 have c0:=fun e=>(over_cell (w:=W) (e:=e) (o:=0) h.box.lt).trans (h.box.cell 0)
 have d0:=fun e=>(over_cell (w:=W) (e:=e) (o:=0) hcr.blk.lt).trans (hcr.blk.cell 0)
 have e6:=fun e=>(over_cell (w:=W) (e:=e) (o:=6) hs.box.lt).trans (hs.box.cell 6)
 unfold clsC at d0 e6
 simp only [lTA,lCZ,lCS] at k0 c0 d0 e6
 have H:=Lib.hid (And.intro h hs)
 have HC:=Lib.hid (And.intro hc (And.intro hp (And.intro hN hB)))
 have HID:=Lib.hid hid
 clear h hs ho hcr hc hp hN hB
 go_enter Tryz.func46,Tryz.ntmps46
 go_upto_region 1 with fail
 refine wp_region_over (by kernel_rfl) (by kernel_rfl) ?_
 repeat (first | go_big_quiet_skip | (go_big_quiet_want;go_big_quiet_op;go_big_quiet_on))
 refine wpQuiet_nil ?_
 rintro w1 ⟨e,he⟩
 have hb1:=over_below W e
 rw [← he] at hb1
 have h1:PkX k mb ps P w1 A:=(good_pkX _ _ _ _).kept H.out.1 hb1.size fun b hb=>hb1.block b ((good_pkX _ _ _ _).lt H.out.1 b hb)
 have H1:=Lib.hid (And.intro h1 (H.out.2.later good_focC hb1))
 have haw:=pawake_any id HID.out h1 HC.out.2.2.2
 clear he hb1 k0 c0 d0 e6 hlk hlk0 H h1
 have hkp:∀ w w':World,Below w.heap.size w w'→PkX k mb ps P w A→PkX k mb ps P w' A:=fun w w' hb hp=>(good_pkX _ _ _ _).kept hp hb.size fun b hb2=>hb.block b ((good_pkX _ _ _ _).lt hp b hb2)
 have HK:=Lib.hid hkp
 clear hkp
 cases hw:awP P id with
 | true =>
  have ht:t=putI p.tr id (vP P id) (fitC owL c):=by rw [HT.out,if_pos hw]
  have HT2:=Lib.hid ht
  rw [hw] at haw
  clear hw ht HT
  go_wp2_with (first
   | (go_at_call 23;refine haw.mono ?_;rintro e w2 ⟨rfl,hb2⟩;have H2:=Lib.hid (And.intro (HK.out _ _ hb2 H1.out.1) (H1.out.2.later good_focC hb2));clear hb2)
   | (go_at_call 30;refine (pv_any id HID.out H2.out.1 HC.out.2.2.2).mono ?_;rintro e w3 ⟨rfl,hb3⟩;have H3:=Lib.hid (And.intro (HK.out _ _ hb3 H2.out.1) (H2.out.2.later good_focC hb3));clear hb3)
   | (go_at_call 72;obtain⟨l1,f1,q1,hcr⟩:=H3.out.1.cls HC.out.1;refine (cfit_any hcr (HC.out.2.2.1.tot _ _ HC.out.1)).mono ?_;rintro e w4 ⟨rfl,hb4⟩;have H4:=Lib.hid (And.intro (HK.out _ _ hb4 H3.out.1) (H3.out.2.later good_focC hb4));clear hb4 hcr)
   | (go_at_call 90;refine (H4.out.2.act4 (good_box _ _ _) (good_limX _ _) (good_fam _ _) (good_tr _ _) (good_restP _ _ _ _ _) (tr_put id _ _ HID.out (by have:=HC.out.2.2.1.few _ _ HC.out.2.1;omega))).mono ?_;rintro e w5 ⟨rfl,h5⟩;have H5:=Lib.hid h5;clear h5))
  go_returns
  rw [HT2.out]
  exact⟨rfl,(Sx.punfocus (c':={ p with tr:=putI p.tr id (vP P id) (fitC owL c) }) H5.out HC.out.2.1).done⟩
 | false =>
  have ht:t=dropI p.tr id:=by rw [HT.out,if_neg (by rw [hw];decide)]
  have HT2:=Lib.hid ht
  rw [hw] at haw
  clear hw ht HT
  go_wp2_with (first
   | (go_at_call 23;refine haw.mono ?_;rintro e w2 ⟨rfl,hb2⟩;have H2:=Lib.hid (And.intro (HK.out _ _ hb2 H1.out.1) (H1.out.2.later good_focC hb2));clear hb2)
   | (go_at_call 91;refine (H2.out.2.act4 (good_box _ _ _) (good_limX _ _) (good_fam _ _) (good_tr _ _) (good_restP _ _ _ _ _) (tr_drop id HID.out (by have:=HC.out.2.2.1.few _ _ HC.out.2.1;omega))).mono ?_;rintro e w5 ⟨⟨b5,rfl⟩,h5⟩;have H5:=Lib.hid h5;clear h5))
  go_returns
  rw [HT2.out]
  exact⟨rfl,(Sx.punfocus (c':={ p with tr:=dropI p.tr id }) H5.out HC.out.2.1).done⟩
end
section
open Go.RowKit Go.Maps
attribute [local go_sem ↓] Go.wp_at_zero Go.wp_at_succ
attribute [local go_sem] quietR quietAtR quietUponR midAt midUpon
noncomputable def fitA (P:Pk)(id:Int):Int:=if awP P id=true then fitP owL P id else nevC
section
variable {W : World} {k mb : Nat} {ps : Int → Nat} {P : Pk} {S : Nat → Prop}
theorem pfit_any (id:Int)(hid:(Lit.int .i64 id).wf=true)(h:PkX k mb ps P W S)(hN:PkN P)(ha:awP P id=true→∃ c,lookM P id=some c) :
  Calls Tryz.prog 24 #[.pointer (some ⟨k,0,none⟩),.int .i64 id] W fun e W'=>e=.returned (.int .u64 (fitA P id))∧Below W.heap.size W W':=by
 have haw:=pawake_any id hid h hN.toPkB
 unfold fitA
 cases hw:awP P id with
 | false =>
  rw [hw] at haw
  rw [if_neg (by decide)]
  clear h hN ha hw
  go_enter Tryz.func24,Tryz.ntmps24
  go_wp2_with (go_at_call 23;refine haw.mono ?_;rintro e w1 ⟨rfl,hb1⟩)
  go_returns
  exact⟨rfl,hb1⟩
 | true =>
  obtain⟨c,hc⟩:=ha hw
  rw [hw] at haw
  rw [if_pos rfl]
  have hft:fitP owL P id=fitC owL c:=by unfold fitP;rw [hc]
  rw [hft]
  have hkp:∀ w':World,Below W.heap.size W w'→PkX k mb ps P w' S:=fun w' hb=>(good_pkX _ _ _ _).kept h hb.size fun b hb2=>hb.block b ((good_pkX _ _ _ _).lt h b hb2)
  have hall:∀ w':World,Below W.heap.size W w'→w'.cell? ⟨k,0,none⟩=some (.map (some mb))∧(Instr.lookup 66 (.map (some mb)) (.int .i64 id) false).run Tryz.prog w'=.ok (.pointer (some ⟨ps id,0,none⟩)) w'∧Calls Tryz.prog 72 #[.pointer (some ⟨ps id,0,none⟩)] w' fun e W'=>e=.returned (.int .u64 (fitC owL c))∧Below w'.heap.size w' W':=fun w' hb=>by
   have h':=hkp w' hb
   obtain⟨l,f,q,hr⟩:=h'.cls hc
   have hl:=h'.look hid
   rw [hc] at hl
   exact⟨h'.box.cell 0,hl,cfit_any hr (hN.tot _ _ hc)⟩
  have HA:=Lib.hid hall
  clear h hN ha hw hkp hall hft hc
  go_enter Tryz.func24,Tryz.ntmps24
  go_wp2_with (first
   | (go_at_call 23;refine haw.mono ?_;rintro e w1 ⟨rfl,hb1⟩;obtain⟨k1,k2,k3⟩:=HA.out w1 hb1;have HF:=Lib.hid k3;clear k3)
   | (go_at_call 72;refine HF.out.mono ?_;rintro e w2 ⟨rfl,hb2⟩))
  go_returns
  exact⟨rfl,hb1.trans (hb2.mono hb1.size)⟩
end
end
section
section
variable {ow : Option Rn → Int → Int} {dp : Int → Nat} {P : Pk} {wt : Int → Bool}
theorem PInv.entry (h:PInv ow dp P wt) {q:Int} {p:Cls} (hp:lookM P q=some p) {e:En} (he:e∈p.tr):∃ c,lookM P e.1.2=some c∧c.pa=q∧0 < e.1.2∧awP P e.1.2=true∧e=((vP P e.1.2,e.1.2),fitC ow c):=by
 obtain⟨h0,hpa⟩:=h.wf.kids q p e hp he
 obtain⟨c,hc,hcq⟩:=paP_some hpa
 have hn:=h.noted e.1.2 c p h0 (fun h=>h) hc (by rw [hcq];exact hp)
 rw [getE_mem (h.wf.inv q p hp).ids he] at hn
 cases ha:awP P e.1.2 with
 | false=>rw [ha] at hn;cases hn
 | true =>
  rw [ha,if_pos rfl] at hn
  exact⟨c,hc,hcq,h0,rfl,Option.some.inj hn⟩
theorem PInv.inTree (h:PInv ow dp P wt) {id:Int} {c p:Cls} (hc:lookM P id=some c)(hp:lookM P c.pa=some p)(ha:awP P id=true):((vP P id,id),fitC ow c)∈p.tr:=by
 have hn:=h.noted id c p (awP_pos ha) (fun h=>h) hc hp
 rw [ha,if_pos rfl] at hn
 exact (getE_some hn).1
theorem awP_look {P:Pk} {id:Int} (h:awP P id=true):∃ c,lookM P id=some c:=by
 cases hc:lookM P id with
 | none=>rw [awP_none hc] at h;cases h
 | some c=>exact⟨c,rfl⟩
end
end
section
abbrev SortK (L:List Ky):Prop:=L.Pairwise fun a b=>lessK a b=true
def insK (o:List Ky)(k:Ky):List Ky:=o.takeWhile (fun a=>lessK a k) ++ k :: o.dropWhile (fun a=>lessK a k)
def awK (o:List Ky)(q:Int × Mem):List Ky:=if q.2.aw=true then insK o (q.2.v,q.1) else o
def ordK (M:List (Int × Mem)):List Ky:=M.foldl awK []
theorem mem_insK {o:List Ky} {k x:Ky}:x∈insK o k↔x=k∨x∈o:=by
 unfold insK
 have e:=List.takeWhile_append_dropWhile (p:=fun a=>lessK a k) (l:=o)
 constructor
 ·intro h
  rcases List.mem_append.1 h with h | h
  ·exact .inr (e ▸ List.mem_append_left _ h)
  ·rcases List.mem_cons.1 h with h | h
   ·exact .inl h
   ·exact .inr (e ▸ List.mem_append_right _ h)
 ·rintro (rfl | h)
  ·exact List.mem_append_right _ (.head _)
  ·rw [← e] at h
   rcases List.mem_append.1 h with h | h
   ·exact List.mem_append_left _ h
   ·exact List.mem_append_right _ (.tail _ h)
theorem sort_insK {k:Ky}:∀ {o:List Ky},SortK o→(∀ a∈o,a≠k)→SortK (insK o k)
 | [],_,_=>by simp [insK,SortK]
 | x :: o,h,hk=>by
  obtain⟨hx,ho⟩:=List.pairwise_cons.1 h
  cases hl:lessK x k with
  | true =>
   have e:insK (x :: o) k=x :: insK o k:=by unfold insK;simp [hl]
   rw [e]
   refine List.pairwise_cons.2 ⟨fun a ha=>?_,sort_insK ho fun a ha=>hk a (.tail _ ha)⟩
   rcases mem_insK.1 ha with rfl | ha
   ·exact hl
   ·exact hx a ha
  | false =>
   have e:insK (x :: o) k=k :: x :: o:=by unfold insK;simp [hl]
   rw [e]
   have hkx:lessK k x=true:=by
    cases h2:lessK k x with
    | true=>rfl
    | false=>exact absurd (lessK_tri hl h2) (hk x (.head _))
   refine List.pairwise_cons.2 ⟨fun a ha=>?_,h⟩
   rcases List.mem_cons.1 ha with rfl | ha
   ·exact hkx
   ·exact lessK_trans hkx (hx a ha)
theorem mem_awK {o:List Ky} {q:Int × Mem} {x:Ky}:x∈awK o q↔x∈o∨(q.2.aw=true∧x=(q.2.v,q.1)):=by
 unfold awK
 by_cases h:q.2.aw=true
 ·rw [if_pos h,mem_insK]
  exact⟨fun h2=>h2.elim (fun e=>.inr ⟨h,e⟩) .inl,fun h2=>h2.elim .inr fun e=>.inl e.2⟩
 ·rw [if_neg h]
  exact⟨.inl,fun h2=>h2.elim id fun e=>absurd e.1 h⟩
theorem mem_foldK {x:Ky}:∀ {M:List (Int × Mem)} {o:List Ky},x∈M.foldl awK o↔x∈o∨∃ q∈M,q.2.aw=true∧x=(q.2.v,q.1)
 | [],o=>⟨.inl,fun h=>h.elim id fun ⟨q,hq,_⟩=>by cases hq⟩
 | p :: M,o=>by
  rw [List.foldl_cons,mem_foldK,mem_awK]
  constructor
  ·rintro ((h | h) | ⟨q,hq,h⟩)
   ·exact .inl h
   ·exact .inr ⟨p,.head _,h⟩
   ·exact .inr ⟨q,.tail _ hq,h⟩
  ·rintro (h | ⟨q,hq,h⟩)
   ·exact .inl (.inl h)
   ·rcases List.mem_cons.1 hq with rfl | hq
    ·exact .inl (.inr h)
    ·exact .inr ⟨q,hq,h⟩
theorem mem_ordK {M:List (Int × Mem)} {x:Ky}:x∈ordK M↔∃ q∈M,q.2.aw=true∧x=(q.2.v,q.1):=by
 unfold ordK
 rw [mem_foldK]
 exact⟨fun h=>h.elim (fun h=>by cases h) id,.inr⟩
theorem sort_foldK:∀ {M:List (Int × Mem)} {o:List Ky},Rising M→SortK o→(∀ a∈o,∀ q∈M,a.2 < q.1)→SortK (M.foldl awK o)
 | [],o,_,h,_=>h
 | p :: M,o,hR,h,hlt=>by
  obtain⟨hp,hR2⟩:=List.pairwise_cons.1 hR
  rw [List.foldl_cons]
  refine sort_foldK hR2 ?_ fun a ha q hq=>?_
  ·unfold awK
   split
   ·refine sort_insK h fun a ha e=>?_
    have:=hlt a ha p (.head _)
    rw [e] at this
    exact absurd this (Int.lt_irrefl _)
   ·exact h
  ·rcases mem_awK.1 ha with ha | ⟨_,rfl⟩
   ·exact hlt a ha q (.tail _ hq)
   ·exact hp q hq
theorem sort_ordK {M:List (Int × Mem)} (hR:Rising M):SortK (ordK M):=sort_foldK hR .nil fun a h=>by cases h
theorem sortK_ext:∀ {A B:List Ky},SortK A→SortK B→(∀ x,x∈A↔x∈B)→A=B
 | [],[],_,_,_=>rfl
 | [],b :: B,_,_,h=>by have:=(h b).2 (.head _);cases this
 | a :: A,[],_,_,h=>by have:=(h a).1 (.head _);cases this
 | a :: A,b :: B,hA,hB,h=>by
  obtain⟨ha,hA2⟩:=List.pairwise_cons.1 hA
  obtain⟨hb,hB2⟩:=List.pairwise_cons.1 hB
  have e:a=b:=by
   rcases List.mem_cons.1 ((h a).1 (.head _)) with e | h1
   ·exact e
   ·rcases List.mem_cons.1 ((h b).2 (.head _)) with e | h2
    ·exact e.symm
    ·have:=lessK_asym (hb a h1)
     rw [ha b h2] at this
     cases this
  subst e
  rw [sortK_ext hA2 hB2 fun x=>?_]
  constructor
  ·intro hx
   rcases List.mem_cons.1 ((h x).1 (.tail _ hx)) with rfl | h1
   ·have:=ha _ hx;rw [lessK_irr] at this;cases this
   ·exact h1
  ·intro hx
   rcases List.mem_cons.1 ((h x).2 (.tail _ hx)) with rfl | h1
   ·have:=hb _ hx;rw [lessK_irr] at this;cases this
   ·exact h1
theorem lowV_more (e:En):∀ L:List En,lowV (L ++ [e])=some (match lowV L with
  | none=>e.2
  | some m=>if e.2 < m then e.2 else m)
 | []=>rfl
 | x :: L=>by
  have ih:=lowV_more e L
  rw [List.cons_append]
  unfold lowV
  rw [ih]
  cases lowV L with
  | none =>
   congr 1
   dsimp only
   split <;> omega
  | some m =>
   congr 1
   dsimp only
   split <;> split <;> omega
structure FlatP (P:Pk):Prop where
 pa:∀ id c,lookM P id=some c→c.pa=0
 lf:∀ id c,lookM P id=some c→id≠0→c.lf=true
section
variable {ow : Option Rn → Int → Int} {dp : Int → Nat} {P : Pk} {wt : Int → Bool}
theorem flat_fit (hF:FlatP P) {id:Int} {c:Cls} (hc:lookM P id=some c)(h0:id≠0):fitC ow c=ow c.lim c.tot:=by
 unfold fitC
 rw [if_pos (hF.lf id c hc h0)]
theorem flat_tree (h:PAll ow dp P wt)(hF:FlatP P) {c0:Cls} (hc0:lookM P 0=some c0)(hR:Rising c0.fam.m):c0.tr=(ordK c0.fam.m).map fun k=>(k,fitP ow P k.2):=by
 have hi:=h.wf.inv 0 c0 hc0
 have hk:c0.tr.map (·.1)=ordK c0.fam.m:=by
  refine sortK_ext (List.pairwise_map.2 hi.sort) (sort_ordK hR) fun x=>?_
  rw [mem_ordK]
  constructor
  ·intro hx
   obtain⟨e,he,rfl⟩:=List.mem_map.1 hx
   obtain⟨c,hc,hpa,h0,ha,hee⟩:=h.toPInv.entry hc0 he
   rw [awP_fam h0 hc (by rw [hpa];exact hc0)] at ha
   have hv:=vP_fam h0 hc (by rw [hpa];exact hc0)
   unfold fawF at ha
   unfold fvF at hv
   cases hm:lookM c0.fam.m e.1.2 with
   | none=>rw [hm] at ha;cases ha
   | some m =>
    rw [hm] at ha hv
    refine⟨(e.1.2,m),mem_of_look hm,ha,?_⟩
    have h1:e.1=(vP P e.1.2,e.1.2):=congrArg (·.1) hee
    rw [h1,hv]
  ·rintro ⟨q,hq,ha,rfl⟩
   have hl:lookM c0.fam.m q.1=some q.2:=look_of_mem hR hq
   obtain⟨h0,hpa⟩:=h.fams 0 q.1 (by rw [kf_of hc0,hl];rfl)
   obtain⟨c,hc,hcp⟩:=paP_some hpa
   have haw:awP P q.1=true:=by rw [awP_fam h0 hc (by rw [hcp];exact hc0)];unfold fawF;rw [hl];exact ha
   have hv:vP P q.1=q.2.v:=by rw [vP_fam h0 hc (by rw [hcp];exact hc0)];unfold fvF;rw [hl]
   have:=h.toPInv.inTree hc (by rw [hcp];exact hc0) haw
   rw [hv] at this
   exact List.mem_map.2 ⟨_,this,rfl⟩
 rw [← hk,List.map_map]
 refine (List.map_id _).symm.trans (List.map_congr_left fun e he=>?_)
 obtain⟨c,hc,_,_,_,hee⟩:=h.toPInv.entry hc0 he
 have hf:fitP ow P e.1.2=fitC ow c:=by unfold fitP;rw [hc]
 show e=(e.1,fitP ow P e.1.2)
 rw [hf]
 exact Prod.ext rfl (congrArg (·.2) hee)
end
end
section
open Go.RowKit Go.Maps
attribute [local go_sem ↓] Go.wp_at_zero Go.wp_at_succ
attribute [local go_sem] quietR quietAtR quietUponR midAt midUpon
def mbrC (rs:Int→Nat)(q:Int × Mem):List Value:=[.int .i64 q.1,.int .u64 q.2.tot,.int .u64 q.2.v,.pointer (some ⟨rs q.1,0,none⟩),.bool q.2.aw]
theorem mbrC_len (rs:Int→Nat)(q:Int × Mem):(mbrC rs q).length=5:=rfl
abbrev MbrR (rs:Int→Nat)(v:Value)(M:List (Int × Mem)):Ob:=RecO 141 5 (mbrC rs) v M
def FamDX (f:Nat)(v:Value)(rs:Int→Nat)(F:Fam):Ob:=Star (BoxO f 74 #[v,.int .u64 F.mark]) (Star (MbrR rs v F.m) (StarL (fun q=>RfO (rs q.1) q.2.rn) F.m))
theorem good_famDX (f:Nat)(v:Value)(rs:Int→Nat)(F:Fam):Good (FamDX f v rs F):=(good_box _ _ _).star (good_rec.star (good_starL (fun q=>good_rf _ _) _))
def FamD (f:Nat)(F:Fam):Ob:=fun W S=>∃ v rs,FamDX f v rs F W S
theorem good_famD (f:Nat)(F:Fam):Good (FamD f F) :=
 ⟨fun ⟨v,rs,h⟩ b hb=>(good_famDX _ _ _ _).lt h b hb,fun ⟨v,rs,h⟩ hs hk=>⟨v,rs,(good_famDX _ _ _ _).kept h hs hk⟩⟩
def PosM (M:List (Int × Mem))(id r:Int):Prop:=(∃ (i:Nat) (m:Mem),M[i]?=some (id,m)∧r=i∧lookM M id=some m)∨(r=-1∧lookM M id=none)
section
variable {W : World} {f : Nat} {v : Value} {rs : Int → Nat} {F : Fam} {S : Nat → Prop}
theorem FamDX.box (h:FamDX f v rs F W S):Blk W f 74 #[v,.int .u64 F.mark]:=by
 obtain⟨_,B,_,_,hp,_⟩:=h
 exact hp.1
theorem FamDX.row (h:FamDX f v rs F W S):∃ S,MbrR rs v F.m W S:=by
 obtain⟨_,B,_,_,_,C,_,_,_,hm,_⟩:=h
 exact⟨_,hm⟩
theorem FamDX.cells (h:FamDX f v rs F W S) {i:Nat} {q:Int × Mem} (hq:F.m[i]?=some q):∃ g cap,v=.slice (some ⟨g,0,none⟩) F.m.length cap∧F.m.length≤cap∧g < W.heap.size ∧
  W.cell? ⟨g,i*5,none⟩=some (.int .i64 q.1)∧W.cell? ⟨g,i*5+1,none⟩=some (.int .u64 q.2.tot)∧W.cell? ⟨g,i*5+2,none⟩=some (.int .u64 q.2.v)∧W.cell? ⟨g,i*5+3,none⟩=some (.pointer (some ⟨rs q.1,0,none⟩))∧W.cell? ⟨g,i*5+4,none⟩=some (.bool q.2.aw)∧∀ j,W.frozen? ⟨g,j,none⟩=false:=by
 obtain⟨S,hr⟩:=h.row
 obtain⟨g,cap,rfl,hc,hg⟩:=hr.isS hq
 refine⟨g,cap,rfl,hc,hg,?_,?_,?_,?_,?_,fun j=>hr.1.frozenAt j⟩
 ·exact hr.cell (mbrC_len rs) hq 0 (by decide)
 ·exact hr.cell (mbrC_len rs) hq 1 (by decide)
 ·exact hr.cell (mbrC_len rs) hq 2 (by decide)
 ·exact hr.cell (mbrC_len rs) hq 3 (by decide)
 ·exact hr.cell (mbrC_len rs) hq 4 (by decide)
theorem posM_at {M:List (Int × Mem)} {id:Int} {i:Nat} {q:Int × Mem} (hq:M[i]?=some q)(hid:q.1=id)(hno:∀ (j:Nat) x,j < i→M[j]?=some x→x.1≠id):PosM M id i:=by
 refine .inl ⟨i,q.2,by rw [hq,← hid],rfl,?_⟩
 induction M generalizing i with
 | nil=>cases hq
 | cons x M ih =>
  unfold lookM
  cases i with
  | zero=>cases hq;rw [if_pos hid]
  | succ i =>
   rw [if_neg (hno 0 x (by omega) rfl)]
   exact ih hq fun j y hj hy=>hno (j+1) y (by omega) hy
theorem fdat_any (id:Int)(h:FamDX f v rs F W S)(hl:F.m.length≤1000000) :
  Calls Tryz.prog 85 #[.pointer (some ⟨f,0,none⟩),.int .i64 id] W fun e w'=>∃ r,e=.returned (.int .i64 r)∧PosM F.m id r∧w'=W:=by
 obtain⟨_,hr⟩:=h.row
 obtain⟨a,cap,rfl⟩:=hr.slice
 have c0:=h.box.cell 0
 simp only [lTA,lCZ,lCS] at c0
 have H:=Lib.hid h
 clear h hr
 go_enter Tryz.func85,Tryz.ntmps85
 go_wp2_with fail
 go_loopw [5] (fun v5 wr=>∃ i:Nat,v5=.int .i64 i∧i≤F.m.length∧wr=W∧∀ (j:Nat) x,j < i→F.m[j]?=some x→x.1≠id) (fun v5 _=>(F.m.length - Go.RowKit.intOf v5).toNat)
 case atStart=>exact⟨0,rfl,Nat.zero_le _,rfl,fun j x hj=>by omega⟩
 case round =>
  obtain⟨i,rfl,hi,hwr,hno⟩:=hrel
  rw [hwr]
  clear hwr
  have HNO:=Lib.hid hno
  clear hno
  by_cases hlt:i < F.m.length
  ·obtain⟨q,hq⟩:∃ q,F.m[i]?=some q:=⟨_,List.getElem?_eq_getElem hlt⟩
   obtain⟨g,cp,hsl,hcap,hg,k0,_⟩:=H.out.cells hq
   obtain⟨rfl,rfl⟩:a=some ⟨g,0,none⟩∧cap=cp:=by cases hsl;exact⟨rfl,rfl⟩
   by_cases hid:q.1=id
   ·have heq:(q.1 == id)=true:=by simpa using hid
    have HG:=Lib.hid (posM_at hq hid HNO.out)
    clear hid hq hsl
    go_wp2_with fail
    go_ret
    exact⟨_,rfl,HG.out,rfl⟩
   ·have heq:(q.1 == id)=false:=by simpa using hid
    have HID:=Lib.hid (And.intro hid hq)
    clear hid hsl hq
    go_wp2_with fail
    go_roundw
    case measure=>(simp [Go.RowKit.intOf];try omega)
    case rel=>exact⟨i+1,by go_num,by omega,(by first | rfl | trivial),fun j x hj hx=>by
     by_cases hji:j=i
     ·subst hji
      rw [HID.out.2] at hx
      cases hx
      exact HID.out.1
     ·exact HNO.out j x (by omega) hx⟩
  ·have hn:lookM F.m id=none:=look_none.2 fun p hp=>by
    obtain⟨j,hj,hej⟩:=List.mem_iff_getElem.1 hp
    exact HNO.out j p (by omega) (by rw [List.getElem?_eq_getElem hj,hej])
   have HG:=Lib.hid (show PosM F.m id (-1) from .inr ⟨rfl,hn⟩)
   clear hn
   go_wp2_with fail
   go_ret
   exact⟨_,rfl,HG.out,rfl⟩
theorem fdv_any (id:Int)(h:FamDX f v rs F W S)(hl:F.m.length≤1000000) :
  Calls Tryz.prog 93 #[.pointer (some ⟨f,0,none⟩),.int .i64 id] W fun e w'=>e=.returned (.int .u64 (fvF F id))∧W=w':=by
 have hat:=fdat_any id h hl
 have c0:=h.box.cell 0
 simp only [lTA,lCZ,lCS] at c0
 have H:=Lib.hid h
 clear h
 obtain⟨x,hx⟩:∃ x,fvF F id=x:=⟨_,rfl⟩
 rw [hx]
 have HX:=Lib.hid hx
 clear hx
 go_enter Tryz.func93,Tryz.ntmps93
 go_wp2_with fail
 refine hat.mono ?_
 clear hat
 rintro e w1 ⟨r,rfl,hpos,rfl⟩
 rcases hpos with ⟨i,m,hq,rfl,hlk⟩ | ⟨rfl,hlk⟩
 ·obtain rfl:x=m.v:=by rw [← HX.out];unfold fvF;rw [hlk]
  obtain⟨g,cap,rfl,hcap,hg,_,_,k2,_⟩:=H.out.cells hq
  have hlt:=(List.getElem?_eq_some_iff.1 hq).1
  clear hq hlk H HX
  go_wp2_with fail
  go_ret
  exact⟨rfl,rfl⟩
 ·obtain rfl:x=0:=by rw [← HX.out];unfold fvF;rw [hlk]
  clear hlk H HX
  go_wp2_with fail
  go_ret
  exact⟨rfl,rfl⟩
theorem fdaw_any (id:Int)(h:FamDX f v rs F W S)(hl:F.m.length≤1000000) :
  Calls Tryz.prog 92 #[.pointer (some ⟨f,0,none⟩),.int .i64 id] W fun e w'=>e=.returned (.bool (fawF F id))∧W=w':=by
 have hat:=fdat_any id h hl
 have c0:=h.box.cell 0
 simp only [lTA,lCZ,lCS] at c0
 have H:=Lib.hid h
 clear h
 obtain⟨x,hx⟩:∃ x,fawF F id=x:=⟨_,rfl⟩
 rw [hx]
 have HX:=Lib.hid hx
 clear hx
 go_enter Tryz.func92,Tryz.ntmps92
 go_wp2_with fail
 refine hat.mono ?_
 clear hat
 rintro e w1 ⟨r,rfl,hpos,rfl⟩
 rcases hpos with ⟨i,m,hq,rfl,hlk⟩ | ⟨rfl,hlk⟩
 ·obtain rfl:x=m.aw:=by rw [← HX.out];unfold fawF;rw [hlk]
  obtain⟨g,cap,rfl,hcap,hg,_,_,_,_,k4,_⟩:=H.out.cells hq
  have hlt:=(List.getElem?_eq_some_iff.1 hq).1
  clear hq hlk H HX
  go_wp2_with fail
  go_ret
  exact⟨rfl,rfl⟩
 ·obtain rfl:x=false:=by rw [← HX.out];unfold fawF;rw [hlk]
  clear hlk H HX
  go_wp2_with fail
  go_ret
  exact⟨rfl,rfl⟩
end
end
section
open Go.RowKit Go.Maps
attribute [local go_sem ↓] Go.wp_at_zero Go.wp_at_succ
attribute [local go_sem] quietR quietAtR quietUponR midAt midUpon
theorem starL_same {α:Type} {f:α→Ob} {W:World} {a':α}:∀ {l:List α} {S:Nat→Prop} {i:Nat} {a:α},l[i]?=some a→f a'=f a→(StarL f l W S↔StarL f (l.set i a') W S)
 | [],S,i,a,h,_=>by cases h
 | x :: l,S,0,a,h,he=>by
  cases h
  show Star (f x) (StarL f l) W S↔Star (f a') (StarL f l) W S
  rw [he]
 | x :: l,S,i+1,a,h,he=>by
  show Star (f x) (StarL f l) W S↔Star (f x) (StarL f (l.set i a')) W S
  have hi:l[i]?=some a:=h
  exact⟨fun h2=>h2.under fun h3=>(starL_same hi he).1 h3,fun h2=>h2.under fun h3=>(starL_same hi he).2 h3⟩
theorem starL_at {α:Type} {f:α→Ob} {W:World} {a:α}:∀ {l:List α} {S:Nat→Prop} {i:Nat},l[i]?=some a→(StarL f l W S↔Star (f a) (StarL f (l.eraseIdx i)) W S)
 | [],S,i,h=>by cases h
 | x :: l,S,0,h=>by cases h;exact Iff.rfl
 | x :: l,S,i+1,h=>by
  show Star (f x) (StarL f l) W S↔Star (f a) (Star (f x) (StarL f (l.eraseIdx i))) W S
  have hi:l[i]?=some a:=h
  exact⟨fun h2=>Star.swap (h2.under fun h3=>(starL_at hi).1 h3),fun h2=>(Star.swap h2).under fun h3=>(starL_at hi).2 h3⟩
theorem set_erase {α:Type} {a':α}:∀ (l:List α)(i:Nat),(l.set i a').eraseIdx i=l.eraseIdx i
 | [],i=>rfl
 | x :: l,0=>rfl
 | x :: l,i+1=>by
  show x :: (l.set i a').eraseIdx i=x :: l.eraseIdx i
  rw [set_erase l i]
theorem set_put {α:Type} {m':α}:∀ {M:List (Int × α)} {i:Nat} {id:Int} {m:α},Rising M→M[i]?=some (id,m)→M.set i (id,m')=putM M id m'
 | [],i,id,m,_,h=>by cases h
 | p :: M,0,id,m,hR,h=>by
  cases h
  show (id,m') :: M=_
  unfold putM
  rw [if_neg (Int.lt_irrefl _),if_pos rfl]
 | p :: M,i+1,id,m,hR,h=>by
  have h2:M[i]?=some (id,m):=h
  have hlt:=(List.pairwise_cons.1 hR).1 _ (List.mem_of_getElem? h2)
  show p :: M.set i (id,m')=_
  unfold putM
  rw [if_neg (by dsimp only at hlt;omega),if_neg (by dsimp only at hlt;omega),set_put (List.pairwise_cons.1 hR).2 h2]
section
variable {w0 W : World} {A S : Nat → Prop} {f g cap : Nat} {v : Value} {rs : Int → Nat} {F : Fam}
theorem Sx.setD (h:Sx w0 A W (FamDX f (.slice (some ⟨g,0,none⟩) F.m.length cap) rs F)) {i:Nat} {id:Int} {m m':Mem} (hq:F.m[i]?=some (id,m)) {c:Nat} (hc:c < 5) {u:Value} (hu:mbrC rs (id,m')=(mbrC rs (id,m)).set c u)(hr:m'.rn=m.rn) :
  Sx w0 A (W.setCell ⟨g,i*5+c,none⟩ u) (FamDX f (.slice (some ⟨g,0,none⟩) F.m.length cap) rs ⟨F.m.set i (id,m'),F.mark⟩):=by
 have h1:=h.swap.setR (mbrC_len rs) ((good_box _ _ _).star (good_starL (fun q=>good_rf _ _) _)) hq hc hu
 refine h1.swap.weak fun h2=>h2.under fun h3=>h3.under fun h4=>(starL_same hq ?_).1 h4
 show RfO (rs id) m'.rn=RfO (rs id) m.rn
 rw [hr]
theorem Sx.markD (h:Sx w0 A W (FamDX f v rs F))(x:Int):Sx w0 A (W.setCell ⟨f,1,none⟩ (.int .u64 x)) (FamDX f v rs ⟨F.m,x⟩) :=
 Sx.set (good_rec.star (good_starL (fun q=>good_rf _ _) _)) h rfl
theorem fdset_any {i:Nat} {id:Int} {m:Mem} (hq:F.m[i]?=some (id,m))(x:Int)(hl:F.m.length≤1000000) :
  Acts (fun e=>e=.returned (.tuple #[])) (FamDX f v rs F) (FamDX f v rs ⟨F.m.set i (id,{ m with v:=x }),max F.mark x⟩) 94 #[.pointer (some ⟨f,0,none⟩),.int .i64 i,.int .u64 x] Tryz.prog W:=fun A h=>by
 obtain⟨g,cap,rfl,hcap,hg,_,_,k2,_,_,z⟩:=h.cells hq
 have hlt:=(List.getElem?_eq_some_iff.1 hq).1
 have z2:=z (i*5+2)
 have c0:=h.box.cell 0
 simp only [lTA,lCZ,lCS] at c0
 have h1:=(Sx.start (P:=FamDX _ _ rs F) h).setD (m':={ m with v:=x }) hq (c:=2) (by decide) (u:=.int .u64 x) rfl rfl
 have hn:((F.m.length:Nat):Int)≤1000000:=by omega
 obtain⟨mk,hmk⟩:∃ mk,max F.mark x=mk:=⟨_,rfl⟩
 rw [hmk]
 have H1:=Lib.hid h1
 clear h h1 z hq
 generalize hn2:F.m.length=n at *
 go_enter Tryz.func94,Tryz.ntmps94
 go_upto_region 1 with fail
 clear k2 z2 c0
 generalize W.setCell ⟨g,i*5+2,none⟩ (.int .u64 x)=w1 at H1 ⊢
 obtain⟨S1,hS1,hw1⟩:=H1.out
 have c1:=hS1.box.cell 1
 have f1:=hS1.box.frozen 1
 simp only [lTA,lCZ,lCS] at c1
 clear hS1 hw1
 by_cases hm:F.mark < x
 ·obtain rfl:mk=x:=by omega
  clear hmk
  go_wp2_with fail
  go_returns
  exact⟨rfl,(H1.out.markD _).done⟩
 ·obtain rfl:F.mark=mk:=by omega
  clear hmk
  go_wp2_with fail
  go_returns
  exact⟨rfl,H1.out.done⟩
theorem fdsleep_any (id:Int)(hR:Rising F.m)(hl:F.m.length≤1000000) :
  Acts (fun e=>e=.returned (.tuple #[])) (FamDX f v rs F) (FamDX f v rs (sleepF id F)) 61 #[.pointer (some ⟨f,0,none⟩),.int .i64 id] Tryz.prog W:=fun A h=>by
 have hat:=fdat_any id h hl
 have c0:=h.box.cell 0
 simp only [lTA,lCZ,lCS] at c0
 have H:=Lib.hid h
 clear h
 obtain⟨F',hF'⟩:∃ F',sleepF id F=F':=⟨_,rfl⟩
 rw [hF']
 have HF:=Lib.hid hF'
 clear hF'
 go_enter Tryz.func61,Tryz.ntmps61
 go_wp2_with fail
 refine hat.mono ?_
 clear hat
 rintro e w1 ⟨r,rfl,hpos,rfl⟩
 rcases hpos with ⟨i,m,hq,rfl,hlk⟩ | ⟨rfl,hlk⟩
 ·obtain rfl:F'=⟨putM F.m id { m with aw:=false },F.mark⟩:=by rw [← HF.out];unfold sleepF;rw [hlk]
  obtain⟨g,cap,rfl,hcap,hg,_,_,_,_,k4,z⟩:=H.out.cells hq
  have hlt:=(List.getElem?_eq_some_iff.1 hq).1
  have z4:=z (i*5+4)
  have h1:=(Sx.start (P:=FamDX _ _ rs F) H.out).setD (m':={ m with aw:=false }) hq (c:=4) (by decide) (u:=.bool false) rfl rfl
  rw [set_put hR hq] at h1
  have H1:=Lib.hid h1
  clear hlk H HF h1 z hq
  go_wp2_with fail
  go_returns
  exact⟨rfl,H1.out.done⟩
 ·obtain rfl:F'=F:=by rw [← HF.out];unfold sleepF;rw [hlk]
  clear hlk HF
  go_wp2_with fail
  go_returns
  exact⟨rfl,A,H.out,Went.refl _ _⟩
end
end
section
open Go.RowKit Go.Maps
attribute [local go_sem ↓] Go.wp_at_zero Go.wp_at_succ
attribute [local go_sem] quietR quietAtR quietUponR midAt midUpon
section
variable {w0 W : World} {A S : Nat → Prop} {f g cap : Nat} {v : Value} {rs : Int → Nat} {F : Fam}
theorem FamDX.run (h:FamDX f v rs F W S) {i:Nat} {q:Int × Mem} (hq:F.m[i]?=some q):∃ B,RfO (rs q.1) q.2.rn W B:=by
 obtain⟨_,B,_,_,_,C,D,_,_,_,hl⟩:=h
 obtain⟨A,B',_,_,hp,_⟩:=(starL_at hq).1 hl
 exact⟨A,hp⟩
theorem famDX_over (h:FamDX f v rs F W S)(e:World):FamDX f v rs F (over W e) S :=
 (good_famDX _ _ _ _).kept h (over_below W e).size fun b hb=>over_heap W e b ((good_famDX _ _ _ _).lt h b hb)
theorem set_at {α:Type} {L:List α} {i:Nat} {a b:α} (h:L[i]?=some a):(L.set i b)[i]?=some b:=by
 rw [List.getElem?_set_self (List.getElem?_eq_some_iff.1 h).1]
theorem set_twice {α:Type}:∀ (L:List α)(i:Nat)(a b:α),(L.set i a).set i b=L.set i b
 | [],i,a,b=>rfl
 | x :: L,0,a,b=>rfl
 | x :: L,i+1,a,b=>by
  show x :: ((L.set i a).set i b)=x :: L.set i b
  rw [set_twice L i a b]
theorem fd_tail {i:Nat} {id t':Int} {m:Mem} (hR:Rising F.m)(hq:F.m[i]?=some (id,m))(x:Int) :
  (⟨(F.m.set i (id,{ m with tot:=t' })).set i (id,{ { m with tot:=t' } with v:=x }),max F.mark x⟩:Fam)=⟨putM F.m id { m with tot:=t',v:=x },max F.mark x⟩:=by
 rw [set_twice,set_put hR hq]
theorem fdgain_any (id n:Int)(hn:U n)(hN:FamN F)(hR:Rising F.m) :
  Acts (fun e=>e=.returned (.tuple #[])) (FamDX f v rs F) (FamDX f v rs (gainF reachR id n F)) 60 #[.pointer (some ⟨f,0,none⟩),.int .i64 id,.int .u64 n] Tryz.prog W:=fun A h=>by
 have hl:F.m.length≤1000000:=by have:=hN.len;omega
 have hat:=fdat_any id h hl
 have c0:=h.box.cell 0
 simp only [lTA,lCZ,lCS] at c0
 have H:=Lib.hid h
 clear h
 obtain⟨F',hF'⟩:∃ F',gainF reachR id n F=F':=⟨_,rfl⟩
 rw [hF']
 have HF:=Lib.hid hF'
 clear hF'
 go_enter Tryz.func60,Tryz.ntmps60
 go_wp2_with fail
 refine hat.mono ?_
 clear hat
 rintro e w1 ⟨r,rfl,hpos,rfl⟩
 rcases hpos with ⟨i,m,hq,rfl,hlk⟩ | ⟨rfl,hlk⟩
 rotate_left
 ·obtain rfl:F'=F:=by rw [← HF.out];unfold gainF;rw [hlk]
  clear hlk HF
  go_wp2_with fail
  go_returns
  exact⟨rfl,A,H.out,Went.refl _ _⟩
 obtain⟨g,cap,rfl,hcap,hg,k0,k1,_,_,_,z⟩:=H.out.cells hq
 have hlt:=(List.getElem?_eq_some_iff.1 hq).1
 have hln:((F.m.length:Nat):Int)≤1000000:=by omega
 have z1:=z (i*5+1)
 have htb:=hN.tot id m hlk
 obtain⟨n0,n1⟩:=hn
 obtain⟨t',ht'⟩:∃ t',t'=m.tot+min n (capC - m.tot):=⟨_,rfl⟩
 have hsub:0≤4611686018427387904 - m.tot:=by omega
 have hU:U t':=by unfold capC at ht';unfold U;omega
 have hgf:gainF reachR id n F=if m.aw=true then ⟨putM F.m id { m with tot:=t',v:=reachR m.rn t' },max F.mark (reachR m.rn t')⟩ else ⟨putM F.m id { m with tot:=t' },F.mark⟩:=by
  unfold gainF
  rw [hlk,ht']
 have HG:=Lib.hid (HF.out.symm.trans hgf)
 have h1:=(Sx.start (P:=FamDX _ _ rs F) H.out).setD (m':={ m with tot:=t' }) hq (c:=1) (by decide) (u:=.int .u64 t') rfl rfl
 have hq1:=set_at (b:=(id,({ m with tot:=t' }:Mem))) hq
 have HQ:=Lib.hid (And.intro hq (And.intro hq1 (And.intro hU hR)))
 have H1:=Lib.hid h1
 unfold capC at ht'
 clear hlk HF hgf h1 hq1 hq hU hN hR z k0
 have HT:=Lib.hid ht'
 clear ht'
 go_upto_if 22 with fail
 go_cut [] from 12 to 46 (fun wx=>Sx w1 A wx (FamDX f (.slice (some ⟨g,0,none⟩) F.m.length cap) rs ⟨F.m.set i (id,{ m with tot:=t' }),F.mark⟩))
 case first =>
  by_cases hc:4611686018427387904 - m.tot < n
  ·obtain rfl:t'=4611686018427387904:=by have:=HT.out;omega
   clear HT
   go_wp2_with fail
   go_meet
   exact H1.out
  ·obtain rfl:t'=m.tot+n:=by have:=HT.out;omega
   have hwr:IntKind.u64.wrap (m.tot+n)=m.tot+n:=IntWalk.u64_in _ (by omega)
   clear HT
   go_upto_region 4 with fail
   go_region
   all_goals
    go_wp2_with fail
    go_meet
    exact H1.out.later (good_famDX _ _ _ _) (by go_grown)
 case rest =>
  have HC:=Lib.hid hcut
  clear hcut H1 c0 k1 z1
  obtain⟨S2,hS2,hw2⟩:=HC.out
  have hq2:=HQ.out.2.1
  obtain⟨g2,cp2,hsl2,-,hg2,-,l1,-,l3,l4,-⟩:=hS2.cells hq2
  have d0:=hS2.box.cell 0
  simp only [lTA,lCZ,lCS] at d0
  obtain⟨rfl,rfl⟩:g=g2∧cap=cp2:=by
   rw [List.length_set] at hsl2
   cases hsl2
   exact⟨rfl,rfl⟩
  cases haw:m.aw with
  | false =>
   have hf:=HG.out
   rw [haw,if_neg (by decide)] at hf
   subst hf
   dsimp only at l4
   rw [haw] at l4
   clear hS2 hw2 hsl2
   go_wp2_with fail
   go_returns
   have h9:=HC.out
   rw [set_put HQ.out.2.2.2 HQ.out.1] at h9
   rw [haw] at h9
   exact⟨rfl,h9.done⟩
  | true =>
   have hf:=HG.out
   rw [haw,if_pos rfl] at hf
   obtain⟨x,hx⟩:∃ x,reachR m.rn t'=x:=⟨_,rfl⟩
   rw [hx] at hf
   subst hf
   dsimp only at l1 l3 l4
   rw [haw] at l4
   have hrun:∀ e,Calls Tryz.prog 104 #[.pointer (some ⟨rs id,0,none⟩),.int .u64 t'] (over wc e) fun r W'=>r=.returned (.int .u64 x)∧Below (over wc e).heap.size (over wc e) W':=fun e=>by
    obtain⟨B,hB⟩:=(famDX_over hS2 e).run hq2
    rw [← hx]
    exact rf_reach hB t' HQ.out.2.2.1
   have HR:=Lib.hid hrun
   have o0:=fun e=>(over_cell (w:=wc) (e:=e) (o:=0) hS2.box.lt).trans d0
   have o1:=fun e=>(over_cell (w:=wc) (e:=e) (o:=i*5+1) hg2).trans l1
   have o3:=fun e=>(over_cell (w:=wc) (e:=e) (o:=i*5+3) hg2).trans l3
   clear hrun hS2 hw2 hsl2 hx
   go_upto_region 6 with fail
   clear d0 l1 l3 l4
   refine wp_region_over_tail 19 (by kernel_rfl) (by kernel_rfl) ?_
   simp only [List.take_succ_cons,List.take_zero,List.drop_succ_cons,List.drop_zero]
   repeat (first | go_big_quiet_skip | (go_big_quiet_want;go_big_quiet_op;first | go_big_quiet_on | (apply Exists.intro;refine⟨fun e=>?_,?_⟩;(focus (go_at_call 104;with_reducible exact calls_over (HR.out e)));go_big_quiet_on)))
   refine wpQuiet_nil ?_
   rintro W2 ⟨e,rfl⟩
   have h5:=HC.out.later (good_famDX _ _ _ _) (over_below wc e)
   have H5:=Lib.hid h5
   clear h5 o0 o1 o3
   generalize over wc e=W2 at H5 ⊢
   have hset:=fdset_any (v:=.slice (some ⟨g,0,none⟩) F.m.length cap) (W:=W2) (f:=f) (rs:=rs) (F:=⟨F.m.set i (id,{ m with tot:=t' }),F.mark⟩) HQ.out.2.1 x (by show (F.m.set i _).length≤1000000;rw [List.length_set];exact hl)
   have HSET:=Lib.hid hset
   clear hset
   go_wp2_with (go_at_call 94;refine (H5.out.act0 HSET.out).mono ?_;rintro e9 w9 ⟨rfl,h9⟩;have H9:=Lib.hid h9;clear h9)
   go_returns
   have h9:=H9.out
   rw [fd_tail HQ.out.2.2.2 HQ.out.1 x] at h9
   rw [haw] at h9
   exact⟨rfl,h9.done⟩
end
end
section
open Go.RowKit Go.Maps
attribute [local go_sem ↓] Go.wp_at_zero Go.wp_at_succ
attribute [local go_sem] quietR quietAtR quietUponR midAt midUpon
theorem info_intD:(Tryz.prog.info? 3).map (fun i=>(i.zero,i.size,i.bytes))=some (some (.int .i64 0),1,8):=by kernel_rfl
theorem owns_takeD {w:World} {base g cap m sz at_:Nat} {e:TypeId} {xs:List Value} (h:w.ownsRow base e sz (.slice (some ⟨g,0,none⟩) m cap) m xs)(ha:at_≤m) :
  w.ownsRow base e sz (.slice (some ⟨g,0,none⟩) at_ cap) at_ (xs.take (at_*sz)):=by
 obtain⟨h1,h2⟩:=h
 have hm:at_*sz≤m*sz:=Nat.mul_le_mul_right sz ha
 refine⟨by rw [List.length_take];omega,?_⟩
 rcases h2 with ⟨h2,_⟩ | ⟨g',c',cur,e',h3,h4,h5,h6,h7,h8⟩
 ·cases h2
 ·simp only [Value.slice.injEq,Option.some.injEq,Addr.mk.injEq,and_true,true_and] at e'
  obtain⟨rfl,rfl⟩:=e'
  exact .inr ⟨_,_,cur,rfl,h3,h4,by omega,h6,h7,by rw [← h8,List.take_take,Nat.min_eq_left hm]⟩
def SrcI (w:World)(a:Option Addr)(B:List Int):Prop:=B=[]∨∃ b off,a=some ⟨b,off,none⟩∧b < w.heap.size∧∀ (j:Nat) x,B[j]?=some x→w.cell? ⟨b,off+j,none⟩=some (.int .i64 x)
theorem SrcI.later {w w':World} {a:Option Addr} {B:List Int} (h:SrcI w a B)(hb:Below w.heap.size w w'):SrcI w' a B :=
 h.imp id fun ⟨b,off,e,hl,hc⟩=>⟨b,off,e,Nat.lt_of_lt_of_le hl hb.size,fun j x hx=>(hb.cell (p:=⟨b,off+j,none⟩) hl).trans (hc j x hx)⟩
abbrev RowI (w:World)(base:Nat)(v:Value)(A:List Int):Prop:=w.ownsRow base 3 1 v A.length (A.map (Value.int .i64))
theorem RowI.later {w w':World} {base:Nat} {v:Value} {A:List Int} (h:RowI w base v A)(hb:Below w.heap.size w w'):RowI w' base v A:=h.kept (Below.grownNone hb) (Classical.em _)
theorem RowI.src {w:World} {base:Nat} {a:Option Addr} {n cap:Nat} {A:List Int} (h:RowI w base (.slice a n cap) A)(hn:A.length=n):SrcI w a A:=by
 subst hn
 rcases h.2 with ⟨h1,h2⟩ | ⟨g,c,cur,h1,_,h3,_⟩
 ·exact .inl (List.eq_nil_of_length_eq_zero h2)
 ·cases h1
  refine .inr ⟨g,0,rfl,(Array.getElem?_eq_some_iff.1 h3).1,fun j x hx=>?_⟩
  have hj:=(List.getElem?_eq_some_iff.1 hx).1
  rw [Nat.zero_add,h.cellAt j (by omega),List.getElem?_map,hx]
  rfl
theorem RowI.cellAt' {w:World} {base g n cap:Nat} {A:List Int} (h:RowI w base (.slice (some ⟨g,0,none⟩) n cap) A)(hn:A.length=n) {j:Nat} {x:Int} (hx:A[j]?=some x):g < w.heap.size∧w.cell? ⟨g,j,none⟩=some (.int .i64 x):=by
 subst hn
 have hj:=(List.getElem?_eq_some_iff.1 hx).1
 refine⟨(h.lt g rfl).2,?_⟩
 rw [h.cellAt j (by omega),List.getElem?_map,hx]
 rfl
theorem RowI.take {w:World} {base g n cap k:Nat} {A:List Int} (h:RowI w base (.slice (some ⟨g,0,none⟩) n cap) A)(hn:A.length=n)(hk:k≤n):RowI w base (.slice (some ⟨g,0,none⟩) k cap) (A.take k):=by
 subst hn
 have hl:(A.take k).length=k:=by rw [List.length_take];omega
 have h1:=owns_takeD h hk
 unfold RowI
 rw [hl,List.map_take]
 simpa using h1
theorem SrcI.drop {w:World} {b off k:Nat} {A:List Int} (h:SrcI w (some ⟨b,off,none⟩) A):SrcI w (some ⟨b,off+k,none⟩) (A.drop k):=by
 rcases h with rfl | ⟨b',off',e,hl,hc⟩
 ·exact .inl (by simp)
 ·cases e
  refine .inr ⟨b,off+k,rfl,hl,fun j x hx=>?_⟩
  rw [List.getElem?_drop] at hx
  rw [show off+k+j=off+(k+j) by omega]
  exact hc _ x hx
theorem app_src (ty:TypeId) {A B:List Int} {w:World} {v:Value} {base m c:Nat} {a:Option Addr} (hown:RowI w base v A)(hm:B.length=m)(hsrc:SrcI w a B)(hb:base≤w.heap.size)(hl:A.length+m≤1000000) :
  ∃ v' w',(Builtin.append_ #[51,51] ty #[v,.slice a m c]).run Tryz.prog w=.ok v' w'∧RowI w' base v' (A ++ B)∧w.grownBy w' v.ownBlock∧(v'.ownBlock=v.ownBlock∨v'.ownBlock=some w.heap.size):=by
 subst hm
 obtain⟨i0,hi0,hz0,hz1,hz2⟩:=info_parts info_intD
 rcases hsrc with rfl | ⟨b,off,rfl,hbl,hc⟩
 ·have hs:Src Tryz.prog i0.size 51 (.slice a ([]:List Int).length c) 0 [] w:=by
   cases a with
   | none=>exact Src.ofNil w Tryz.underlying51 c
   | some ad=>exact Src.ofSlice w Tryz.underlying51 ad 0 c [] (by simp) (fun j u hj=>by simp at hj) (fun u hu=>by simp at hu)
  have hg:w.grownBy w v.ownBlock:=⟨rfl,rfl,rfl,Nat.le_refl _,fun _ _ _=>rfl⟩
  rcases hown.2 with ⟨rfl,h0⟩ | ⟨g,c',cur,rfl,h1,h2,h3,h4⟩
  ·refine⟨_,w,run_append_nothing w _ _ ty _ i0 Tryz.underlying51 hi0 _ 0 0 (Nat.le_refl _) _ hs,?_,hg,.inl rfl⟩
   simpa [h0] using hown
  ·exact⟨_,w,run_append_nothing w _ _ ty _ i0 Tryz.underlying51 hi0 _ A.length c' h3 _ hs,by simpa using hown,hg,.inl rfl⟩
 ·obtain⟨v',w',hr,ho,hg,_,hat⟩:=run_append_own_at (P:=Tryz.prog) w base 51 ty 3 i0 _ 1 8 Tryz.underlying51 hi0 hz0 hz1 hz2 rfl (by decide) v A.length _ hown ⟨b,off,none⟩ B.length c (B.map (Value.int .i64)) (by simp) (fun j u hj=>by
   rw [List.getElem?_map] at hj
   obtain⟨x,hx,rfl⟩:=Option.map_eq_some_iff.1 hj
   rw [Addr.add_lit]
   exact hc j x hx) (by intro u hu;obtain⟨x,_,rfl⟩:=List.mem_map.1 hu;rfl) (by unfold maxLen;omega) (by omega) hb
  exact⟨v',w',hr,by unfold RowI;simpa using ho,hg,hat⟩
theorem RowI.form {w:World} {base:Nat} {v:Value} {A:List Int} {n:Nat} (h:RowI w base v A)(hn:A.length=n):(v=.slice none n 0∧n=0)∨∃ g c,v=.slice (some ⟨g,0,none⟩) n c∧n≤c∧base≤g:=by
 subst hn
 rcases h.2 with ⟨h1,h2⟩ | ⟨g,c,cur,h1,h3,_,h5,_⟩
 ·exact .inl ⟨by rw [h1,h2],h2⟩
 ·exact .inr ⟨g,c,h1,h5,h3⟩
theorem step_append_run {P:Program} {ops:Array Oper} {o:Oper} {a:Act} {w w':World} {K:Act→World→Prop} {Q:Exit→Act→World→Prop} {E:Prop} (hgd:o.guard=none)(s x:Operand)(t:TypeId)
  (ho:o.op=.call { callee:=.builtin .append,args:=#[s,x],argTypes:=#[t,t] }) (va vx v:Value) (hs:a.eval s=va) (hx:a.eval x=vx)
  (hr:(Builtin.append_ #[t,t] o.type #[va,vx]).run P w=.ok v w') (h:K (a.put o.dst v) w') :
  if Region.wanted o (yielded ops a.tmps)=true then Oper.wp P o a w K Q else E:=by
 have hw:Region.wanted o (yielded ops a.tmps)=true:=by simp [Region.wanted,hgd]
 rw [if_pos hw]
 unfold Oper.wp execOp
 simp only [ho,resolve,invoke,builtin,Sem.run_bind,Sem.run_pure,Result.andThen_ok,List.map_toArray,List.map_cons,List.map_nil,hs,hx,hr]
 exact h
theorem srcI_lit (w:World)(x:Int):SrcI (w.alloc (.cells #[.int .i64 x] 3)) (some ⟨w.heap.size,0,none⟩) [x] :=
 .inr ⟨w.heap.size,0,rfl,by simp,fun j y hy=>by
  cases j with
  | zero =>
   cases hy
   exact (Blk.new w 3 #[.int .i64 x]).cell 0
  | succ j=>cases hy⟩
theorem own_ne {w w0:World} {b1 b2 k n c d:Nat} {a a':Option Addr} {A B:List Int} (h:RowI w b1 (.slice a n c) A)(h2:RowI w0 b2 (.slice a' k d) B)(hb:w0.heap.size≤b1):(Value.slice a n c).ownBlock=none∨(Value.slice a n c).ownBlock≠(Value.slice a' k d).ownBlock:=by
 cases e:(Value.slice a n c).ownBlock with
 | none=>exact .inl rfl
 | some b =>
  refine .inr fun e2=>?_
  have h3:=(h.lt b e).1
  have h4:=(h2.lt b e2.symm).2
  omega
theorem rest_row (ty:TypeId) {wc:World} {a':Option Addr} {B:List Int} {m:Nat} (c:Nat)(hm:B.length=m)(hs:SrcI wc a' B)(hl:m≤1000000) :
  ∃ v1 w2,(Builtin.append_ #[51,51] ty #[.slice (some ⟨wc.heap.size,0,none⟩) 0 0,.slice a' m c]).run Tryz.prog (wc.alloc (.cells #[] 3))=.ok v1 w2∧RowI w2 wc.heap.size v1 B∧Below wc.heap.size wc w2:=by
 have hb0:=(Below.refl wc.heap.size wc).alloc (Nat.le_refl _) (.cells #[] 3)
 obtain⟨v1,w2,hr,ho,hg,_⟩:=app_src (A:=[]) (B:=B) (base:=wc.heap.size) (c:=c) ty (World.ownsRow_made (base:=wc.heap.size) (e:=3) (size:=1) wc #[] 0 (Nat.le_refl _) (by decide) rfl) hm (hs.later hb0) hb0.size (by simpa using hl)
 exact⟨v1,w2,hr,ho,hb0.trans ((Below.refl wc.heap.size _).grown hg hb0.size fun k hk=>by cases hk;exact Nat.le_refl _)⟩
theorem step_append_src {ops:Array Oper} {o:Oper} {a:Act} {w:World} {K:Act→World→Prop} {Q:Exit→Act→World→Prop} {E:Prop} (hgd:o.guard=none)(s x:Operand)
  (ho:o.op=.call { callee:=.builtin .append,args:=#[s,x],argTypes:=#[51,51] }) {A B:List Int} {v:Value} {base m c:Nat} {a':Option Addr} (hs:a.eval s=v) (hx:a.eval x=.slice a' m c)
  (hown:RowI w base v A) (hm:B.length=m) (hsrc:SrcI w a' B) (hb:base≤w.heap.size) (hl:A.length+m≤1000000) {n:Nat} (hn:(A ++ B).length=n)
  (h:∀ v' w',RowI w' base v' (A ++ B)→w.grownBy w' v.ownBlock→(v'.ownBlock=v.ownBlock∨v'.ownBlock=some w.heap.size)→(∃ a2 c2,v'=.slice a2 n c2)→K (a.put o.dst v') w') :
  if Region.wanted o (yielded ops a.tmps)=true then Oper.wp Tryz.prog o a w K Q else E:=by
 obtain⟨v',w',hr,h1,h2,h3⟩:=app_src (c:=c) o.type hown hm hsrc hb hl
 refine step_append_run hgd s x _ ho _ _ _ hs hx hr (h v' w' h1 h2 h3 ?_)
 rcases h1.form hn with ⟨e,_⟩ | ⟨g,c,e,_⟩
 ·exact⟨_,_,e⟩
 ·exact⟨_,_,e⟩
section
variable {W : World} {f : Nat} {v : Value} {rs : Int → Nat} {F : Fam} {S : Nat → Prop}
theorem ord_v (hR:Rising F.m) {i:Nat} {x:Ky} (hx:x∈ordK (F.m.take i)):fvF F x.2=x.1:=by
 obtain⟨q,hq,_,rfl⟩:=mem_ordK.1 hx
 unfold fvF
 rw [look_of_mem (c:=q.2) hR (List.mem_of_mem_take hq)]
theorem ord_len:∀ (M:List (Int × Mem))(O:List Ky),(M.foldl awK O).length≤O.length+M.length
 | [],O=>Nat.le_refl _
 | p :: M,O=>by
  rw [List.foldl_cons]
  have:=ord_len M (awK O p)
  have h2:(awK O p).length≤O.length+1:=by
   unfold awK
   split
   ·unfold insK
    rw [List.length_append,List.length_cons]
    have e:=congrArg List.length (List.takeWhile_append_dropWhile (p:=fun a=>lessK a (p.2.v,p.1)) (l:=O))
    rw [List.length_append] at e
    omega
   ·omega
  rw [List.length_cons]
  omega
theorem insK_at {k:Ky}:∀ {O:List Ky} {n:Nat},n≤O.length→(∀ (j:Nat) x,j < n→O[j]?=some x→lessK x k=true)→(∀ x,O[n]?=some x→lessK x k=false)→insK O k=O.take n ++ k :: O.drop n
 | [],n,hn,_,_=>by
  obtain rfl:n=0:=by simpa using hn
  rfl
 | x :: O,0,_,_,h2=>by
  have:=h2 x rfl
  unfold insK
  simp [this]
 | x :: O,n+1,hn,h1,h2=>by
  have hx:=h1 0 x (by omega) rfl
  have ih:=insK_at (k:=k) (O:=O) (n:=n) (by simpa using hn) (fun j y hj hy=>h1 (j+1) y (by omega) hy) (fun y hy=>h2 y hy)
  unfold insK at ih ⊢
  simp only [List.takeWhile_cons,List.dropWhile_cons,hx,if_true,List.take_succ_cons,List.drop_succ_cons,List.cons_append]
  rw [ih]
theorem fdids_any (h:FamDX f v rs F W S)(hR:Rising F.m)(hl:F.m.length≤1000) :
  Calls Tryz.prog 53 #[.pointer (some ⟨f,0,none⟩)] W (IdsW W ((ordK F.m).map (·.2))):=by
 have ho:∀ W',Below W.heap.size W W'→FamDX f v rs F W' S:=fun W' hb=>(good_famDX _ _ _ _).kept h hb.size fun b hb2=>hb.block b ((good_famDX _ _ _ _).lt h b hb2)
 have HO:=Lib.hid ho
 have HR:=Lib.hid hR
 obtain⟨_,hr⟩:=h.row
 obtain⟨a,cap,hv⟩:=hr.slice
 clear h ho hR hr
 unfold IdsW
 go_enter Tryz.func53,Tryz.ntmps53
 go_wp2_with fail
 go_loopw [3,4] (fun vo vi wr=>∃ (i:Nat) (O:List Ky),vi=.int .i64 i∧i≤F.m.length∧RowI wr W.heap.size vo (O.map (·.2))∧Below W.heap.size W wr∧O=ordK (F.m.take i)) (fun _ vi _=>(F.m.length - Go.RowKit.intOf vi).toNat)
 case atStart=>exact⟨0,[],rfl,Nat.zero_le _,World.ownsRow_nil _ _ _ _,Below.refl _ _,by simp [ordK]⟩
 case round =>
  obtain⟨i,O,rfl,hi,hown,hbr,hO⟩:=hrel
  obtain⟨w1,hw1⟩:∃ w1,w1=wr:=⟨wr,rfl⟩
  subst hw1
  have hF:=HO.out _ hbr
  have c0:=hF.box.cell 0
  simp only [lTA,lCZ,lCS] at c0
  rw [hv] at c0
  have hOl:O.length≤i:=by
   rw [hO]
   have:=ord_len (F.m.take i) []
   rw [List.length_take] at this
   simp only [List.length_nil] at this
   unfold ordK
   omega
  by_cases hlt:i < F.m.length
  ·obtain⟨q,hq⟩:∃ q,F.m[i]?=some q:=⟨_,List.getElem?_eq_getElem hlt⟩
   obtain⟨g,cp,hsl,hcap,hg,k0,_,k2,_,k4,_⟩:=hF.cells hq
   obtain⟨rfl,rfl⟩:a=some ⟨g,0,none⟩∧cap=cp:=by rw [hv] at hsl;cases hsl;exact⟨rfl,rfl⟩
   have hstep:ordK (F.m.take (i+1))=awK O q:=by
    rw [hO,ordK,List.take_add_one,hq,List.foldl_append]
    rfl
   cases haw:q.2.aw with
   | false =>
    rw [haw] at k4
    have hst:ordK (F.m.take (i+1))=O:=by rw [hstep];unfold awK;rw [if_neg (by rw [haw];decide)]
    have HS:=Lib.hid (And.intro hown (And.intro hbr hst))
    clear hown hbr hst hstep hO hF hsl hq
    go_wp2_with fail
    go_roundw
    case measure=>(simp [Go.RowKit.intOf];try omega)
    case rel=>exact⟨i+1,O,by go_num,by omega,HS.out.1,HS.out.2.1,HS.out.2.2.symm⟩
   | true =>
    rw [haw] at k4
    have hst:ordK (F.m.take (i+1))=insK O (q.2.v,q.1):=by rw [hstep];unfold awK;rw [if_pos haw]
    have HQ:=Lib.hid hq
    have HS:=Lib.hid (And.intro hst hO)
    obtain⟨a3,c3,h3,rfl⟩:∃ a3 c3,(O.length≤c3∧((a3=none∧O.length=0∧c3=0)∨∃ g3,a3=some ⟨g3,0,none⟩))∧u3=.slice a3 O.length c3:=by
     rcases hown.form (n:=O.length) (by simp) with ⟨h1,h2⟩ | ⟨g3,c3,h1,h2,_⟩
     ·exact⟨none,0,⟨by omega,.inl ⟨rfl,h2,rfl⟩⟩,h1⟩
     ·exact⟨_,c3,⟨h2,.inr ⟨g3,rfl⟩⟩,h1⟩
    have H3:=Lib.hid h3
    clear h3
    have HB:=Lib.hid (And.intro hbr hown)
    have HF:=Lib.hid hF
    clear hbr hst hstep hO hF hsl hq
    go_wp2_with fail
    go_loopw [5] (fun v5 wr=>∃ k:Nat,v5=.int .i64 k∧k≤O.length∧Below w1.heap.size w1 wr∧∀ (j:Nat) x,j < k→O[j]?=some x→lessK x (q.2.v,q.1)=true) (fun v5 _=>(O.length - Go.RowKit.intOf v5).toNat)
    case atStart=>exact⟨0,rfl,Nat.zero_le _,Below.refl _ _,fun j x hj=>by omega⟩
    case round =>
     obtain⟨k,rfl,hk,hbk,hlo⟩:=hrel
     have hFk:=(good_famDX _ _ _ _).kept HF.out hbk.size fun b hb2=>hbk.block b ((good_famDX _ _ _ _).lt HF.out b hb2)
     have hown:=HB.out.2.later hbk
     have HLO:=Lib.hid hlo
     have HK:=Lib.hid (And.intro hFk (And.intro hown hbk))
     clear hlo hFk hown hbk
     obtain⟨tst,htst⟩:∃ t:Bool,(match O[k]? with | some x=>lessK x (q.2.v,q.1) | none=>false)=t:=⟨_,rfl⟩
     have HT:=Lib.hid htst
     clear htst
     go_upto_region 7 with fail
     go_cut [77] from 25 to 79 (fun vc wx=>vc=.bool tst∧Below w1.heap.size w1 wx)
     case first =>
      by_cases hkl:k < O.length
      ·obtain⟨x,hx⟩:∃ x,O[k]?=some x:=⟨_,List.getElem?_eq_getElem hkl⟩
       obtain⟨g3,rfl⟩:=H3.out.2.resolve_left (fun h=>by omega)
       have hc3:=H3.out.1
       have ht:=HT.out
       rw [hx] at ht
       have ht:lessK x (q.2.v,q.1)=tst:=ht
       have hx2:(O.map (·.2))[k]?=some x.2:=by rw [List.getElem?_map,hx];rfl
       have hfo:=fun e=>(good_famDX _ _ _ _).kept HK.out.1 (over_below wr e).size fun b hb2=>over_heap wr e b ((good_famDX _ _ _ _).lt HK.out.1 b hb2)
       have hv1:=fun e=>fdv_any x.2 (hfo e) (by omega)
       rw [ord_v HR.out (i:=i) (x:=x) (by rw [← HS.out.2];exact List.mem_of_getElem? hx)] at hv1
       have HV:=Lib.hid hv1
       obtain⟨g',cp',hsl',hcap',hg',l0,_,l2,_⟩:=HK.out.1.cells HQ.out
       obtain⟨rfl,rfl⟩:g=g'∧cap=cp':=by rw [hv] at hsl';cases hsl';exact⟨rfl,rfl⟩
       have d0:=HK.out.1.box.cell 0
       simp only [lTA,lCZ,lCS] at d0
       rw [hv] at d0
       have d3:=HK.out.2.1.cellAt' (n:=O.length) (by simp) hx2
       have o0:=fun e=>(over_cell (w:=wr) (e:=e) (o:=0) HK.out.1.box.lt).trans d0
       have o1:=fun e=>(over_cell (w:=wr) (e:=e) (o:=i*5) hg').trans l0
       have o2:=fun e=>(over_cell (w:=wr) (e:=e) (o:=i*5+2) hg').trans l2
       have o3:=fun e=>(over_cell (w:=wr) (e:=e) (o:=k) d3.1).trans d3.2
       obtain⟨xv,xi⟩:=x
       obtain⟨qi,⟨qt,qv,qr,qa⟩⟩:=q
       dsimp only at o1 o2 o3 ht HV
       have HT2:=Lib.hid ht
       clear hfo hv1 ht hx2 hx d0 d3 l0 l2 hsl' k0 k2 k4 c0
       by_cases h1:xv < qv
       ·have ht:tst=true:=by rw [← HT2.out];exact lessK_iff.2 (.inl h1)
        subst ht
        refine wp_region_over (by kernel_rfl) (by kernel_rfl) ?_
        repeat (first | go_big_quiet_skip | (go_big_quiet_want;go_big_quiet_op;first | go_big_quiet_on | (apply Exists.intro;refine⟨fun e=>?_,?_⟩;(focus (go_at_call 93;with_reducible exact calls_over_same (HV.out e)));go_big_quiet_on)))
        refine wpQuiet_nil ?_
        rintro w3 ⟨e,rfl⟩
        go_wp2_with fail
        go_meet
        exact⟨rfl,HK.out.2.2.trans ((over_below _ _).mono HK.out.2.2.size)⟩
       ·have hd1:decide (xv < qv)=false:=by simpa using h1
        by_cases h2:xv=qv
        ·have hd2:(xv == qv)=true:=by simpa using h2
         by_cases h3:xi < qi
         ·have ht:tst=true:=by rw [← HT2.out];exact lessK_iff.2 (.inr ⟨h2,h3⟩)
          subst ht
          have hd3:decide (xi < qi)=true:=by simpa using h3
          clear h1 h2 h3
          refine wp_region_over (by kernel_rfl) (by kernel_rfl) ?_
          repeat (first | go_big_quiet_skip | (go_big_quiet_want;go_big_quiet_op;first | go_big_quiet_on | (apply Exists.intro;refine⟨fun e=>?_,?_⟩;(focus (go_at_call 93;with_reducible exact calls_over_same (HV.out e)));go_big_quiet_on)))
          refine wpQuiet_nil ?_
          rintro w3 ⟨e,rfl⟩
          go_wp2_with fail
          go_meet
          exact⟨rfl,HK.out.2.2.trans ((over_below _ _).mono HK.out.2.2.size)⟩
         ·have ht:tst=false:=by
           rw [← HT2.out]
           cases e9:lessK (xv,xi) (qv,qi)
           ·rfl
           ·have:=lessK_iff.1 e9;dsimp only at this;omega
          subst ht
          have hd3:decide (xi < qi)=false:=by simpa using h3
          clear h1 h2 h3
          refine wp_region_over (by kernel_rfl) (by kernel_rfl) ?_
          repeat (first | go_big_quiet_skip | (go_big_quiet_want;go_big_quiet_op;first | go_big_quiet_on | (apply Exists.intro;refine⟨fun e=>?_,?_⟩;(focus (go_at_call 93;with_reducible exact calls_over_same (HV.out e)));go_big_quiet_on)))
          refine wpQuiet_nil ?_
          rintro w3 ⟨e,rfl⟩
          go_wp2_with fail
          go_meet
          exact⟨rfl,HK.out.2.2.trans ((over_below _ _).mono HK.out.2.2.size)⟩
        ·have hd2:(xv == qv)=false:=by simpa using h2
         have ht:tst=false:=by
          rw [← HT2.out]
          cases e9:lessK (xv,xi) (qv,qi)
          ·rfl
          ·have:=lessK_iff.1 e9;dsimp only at this;omega
         subst ht
         clear h1 h2
         refine wp_region_over (by kernel_rfl) (by kernel_rfl) ?_
         repeat (first | go_big_quiet_skip | (go_big_quiet_want;go_big_quiet_op;first | go_big_quiet_on | (apply Exists.intro;refine⟨fun e=>?_,?_⟩;(focus (go_at_call 93;with_reducible exact calls_over_same (HV.out e)));go_big_quiet_on)))
         refine wpQuiet_nil ?_
         rintro w3 ⟨e,rfl⟩
         go_wp2_with fail
         go_meet
         exact⟨rfl,HK.out.2.2.trans ((over_below _ _).mono HK.out.2.2.size)⟩
      ·have hx:O[k]?=none:=List.getElem?_eq_none (by omega)
       have ht:=HT.out
       rw [hx] at ht
       have ht:false=tst:=ht
       subst ht
       have hd1:decide ((k:Int) < (O.length:Int))=false:=by simpa using hkl
       clear hx
       refine wp_region_over (by kernel_rfl) (by kernel_rfl) ?_
       repeat (first | go_big_quiet_skip | (go_big_quiet_want;go_big_quiet_op;first | go_big_quiet_on | (apply Exists.intro;refine⟨fun e=>?_,?_⟩;(focus (go_at_call 93;with_reducible exact calls_over_same (HV.out e)));go_big_quiet_on)))
       refine wpQuiet_nil ?_
       rintro w3 ⟨e,rfl⟩
       go_wp2_with fail
       go_meet
       exact⟨rfl,HK.out.2.2.trans ((over_below _ _).mono HK.out.2.2.size)⟩
     case rest =>
      obtain⟨hvc,hbc⟩:=hcut
      rw [hvc]
      clear hvc
      have hts:=HT.out
      have HBC:=Lib.hid hbc
      clear hbc
      cases tst with
      | true =>
       have hlt2:k < O.length:=Nat.lt_of_not_le fun h=>by
        rw [List.getElem?_eq_none h] at hts
        cases hts
       have hlo2:∀ (j:Nat) x,j < k+1→O[j]?=some x→lessK x (q.2.v,q.1)=true:=fun j x hj hx=>by
        by_cases hjk:j=k
        ·subst hjk
         rw [hx] at hts
         exact hts
        ·exact HLO.out j x (by omega) hx
       have HL2:=Lib.hid hlo2
       clear hts hlo2
       go_wp2_with fail
       go_roundw
       case measure=>(simp [Go.RowKit.intOf];try omega)
       case rel=>exact⟨k+1,by go_num,by omega,HBC.out,HL2.out⟩
      | false =>
       have hins:insK O (q.2.v,q.1)=O.take k ++ (q.2.v,q.1) :: O.drop k:=insK_at hk HLO.out fun x hx=>by
        rw [hx] at hts
        exact hts
       have HI:=Lib.hid hins
       obtain⟨w2,hw2⟩:∃ w2,w2=wc:=⟨wc,rfl⟩
       subst hw2
       clear hts hins
       go_upto_region 9 with fail
       have hrow:=HB.out.2.later HBC.out
       have HR1:=Lib.hid hrow
       clear hrow
       go_cut [6] from 7 to 99 (fun v6 wx=>RowI wx w2.heap.size v6 ((O.map (·.2)).drop k)∧Below w2.heap.size w2 wx)
       case first =>
        have hs1:(0:Int)≤(k:Int):=by omega
        have hs2:(k:Int)≤(O.length:Int):=by omega
        have hc3:=H3.out.1
        have hkc:k≤c3:=by omega
        rcases H3.out.2 with ⟨rfl,h0,rfl⟩ | ⟨g3,rfl⟩
        ·obtain rfl:O=[]:=List.eq_nil_of_length_eq_zero h0
         obtain rfl:k=0:=by simpa using hk
         obtain⟨v9,w9,r1,o1,b1⟩:=rest_row 51 (wc:=w2) (a':=none) (B:=[]) (m:=0) 0 rfl (.inl rfl) (by decide)
         have HO1:=Lib.hid (And.intro o1 b1)
         clear o1 b1
         go_wp2_with (at_builtin;refine wpList_append_runH rfl _ _ _ rfl _ _ _ rfl rfl r1 ?_;clear r1)
         go_meet
         exact⟨HO1.out.1,HO1.out.2⟩
        ·have hsrc:=HR1.out.src (n:=O.length) (by simp)
         have hsd:=hsrc.drop (k:=k)
         have hdl:((O.map (·.2)).drop k).length=O.length - k:=by simp
         rcases Classical.em (c3=k) with hce | hce
         ·have hce2:(c3=k)=True:=eq_true hce
          have hnil:(O.map (·.2)).drop k=[]:=List.eq_nil_of_length_eq_zero (by rw [hdl];omega)
          obtain⟨v9,w9,r1,o1,b1⟩:=rest_row 51 (wc:=w2) (a':=some ⟨g3,0,none⟩) (B:=(O.map (·.2)).drop k) (m:=O.length - k) (c3 - k) hdl (by rw [hnil];exact .inl rfl) (by omega)
          have HO1:=Lib.hid (And.intro o1 b1)
          clear o1 b1 hce hnil hsrc hsd hdl
          go_wp2_with (at_builtin;refine wpList_append_runH rfl _ _ _ rfl _ _ _ rfl rfl r1 ?_;clear r1)
          go_meet
          exact⟨HO1.out.1,HO1.out.2⟩
         ·rw [Nat.zero_add] at hsd
          obtain⟨v9,w9,r1,o1,b1⟩:=rest_row 51 (wc:=w2) (a':=some ⟨g3,k,none⟩) (B:=(O.map (·.2)).drop k) (m:=O.length - k) (c3 - k) hdl hsd (by omega)
          have HO1:=Lib.hid (And.intro o1 b1)
          clear o1 b1 hsrc hsd hdl
          go_wp2_with (at_builtin;refine wpList_append_runH rfl _ _ _ rfl _ _ _ rfl rfl r1 ?_;clear r1)
          go_meet
          exact⟨HO1.out.1,HO1.out.2⟩
       case rest =>
        obtain⟨ho6,hb6⟩:=hcut
        have hdl:((O.map (·.2)).drop k).length=O.length - k:=by simp
        obtain⟨a6,c6,rfl⟩:∃ a6 c6,u6=.slice a6 (O.length - k) c6:=by
         rcases ho6.form hdl with ⟨e,_⟩ | ⟨g6,c6,e,_⟩
         ·exact⟨_,_,e⟩
         ·exact⟨_,_,e⟩
        have hbW:=HB.out.1.trans ((HBC.out.mono HB.out.1.size).trans (hb6.mono (Nat.le_trans HB.out.1.size HBC.out.size)))
        have hF6:=HO.out _ hbW
        obtain⟨g',cp',hsl',hcap',hg',l0,_⟩:=hF6.cells HQ.out
        obtain⟨rfl,rfl⟩:g=g'∧cap=cp':=by rw [hv] at hsl';cases hsl';exact⟨rfl,rfl⟩
        have d0:=hF6.box.cell 0
        simp only [lTA,lCZ,lCS] at d0
        rw [hv] at d0
        have hs1:(0:Int)≤(k:Int):=by omega
        have hs2:(k:Int)≤(O.length:Int):=by omega
        have hc3:=H3.out.1
        have hkc:k≤c3:=by omega
        have htk:RowI wc W.heap.size (.slice a3 k c3) ((O.map (·.2)).take k):=by
         have h1:=HR1.out.later hb6
         rcases H3.out.2 with ⟨rfl,h0,rfl⟩ | ⟨g3,rfl⟩
         ·obtain rfl:O=[]:=List.eq_nil_of_length_eq_zero h0
          obtain rfl:k=0:=by simpa using hk
          exact h1
         ·exact h1.take (by simp) hk
        have hrest:∀ w w8,Below wc.heap.size wc w→w.grownBy w8 (Value.slice a3 k c3).ownBlock→SrcI w8 a6 ((O.map (·.2)).drop k):=fun w w8 hb hg=>by
         have h1:=ho6.later hb
         have htk0:RowI w2 W.heap.size (.slice a3 k c3) ((O.map (·.2)).take k):=by
          rcases H3.out.2 with ⟨rfl,h0,rfl⟩ | ⟨g3,rfl⟩
          ·obtain rfl:O=[]:=List.eq_nil_of_length_eq_zero h0
           obtain rfl:k=0:=by simpa using hk
           exact HR1.out
          ·exact HR1.out.take (by simp) hk
         exact RowI.src (h1.kept hg (own_ne h1 htk0 (Nat.le_refl _))) hdl
        have HTK:=Lib.hid htk
        have HRS:=Lib.hid hrest
        have HW6:=Lib.hid (And.intro hbW hdl)
        have hmap:(insK O (q.2.v,q.1)).map (·.2)=(O.map (·.2)).take k ++ [q.1] ++ (O.map (·.2)).drop k:=by
         rw [HI.out]
         simp
        have HM:=Lib.hid hmap
        have hOl2:((O.map (·.2)).take k).length≤1000:=by rw [List.length_take,List.length_map];omega
        have HOL:=Lib.hid hOl2
        clear ho6 hb6 htk hrest hbW hmap hdl hOl2 hF6 hsl' c0 k0 k2 k4
        go_upto_region 10 with fail
        go_region_law (first
         | (refine step_append_src rfl _ _ rfl (A:=(O.map (·.2)).take k) (B:=[q.1]) (base:=W.heap.size) rfl rfl (RowI.later HTK.out (by go_grown <;> exact below_drewN (Below.refl _ _) _)) rfl (srcI_lit _ _) (Nat.le_trans HW6.out.1.size (by simp)) (by have:=HOL.out;omega) (n:=k+1) (by simp;omega) ?_;intro v8 w8 ho8 hg8 ha8 hs8;have HO8:=Lib.hid (And.intro ho8 (HRS.out _ _ (by go_grown <;> exact below_drewN (Below.refl _ _) _) hg8));have HG8:=Lib.hid (Below.grown (B:=W.heap.size) (HW6.out.1.trans (Below.mono (by go_grown <;> exact below_drewN (Below.refl _ _) _) HW6.out.1.size)) hg8 (Nat.le_trans HW6.out.1.size (by simp)) fun b e=>(HTK.out.lt b e).1);obtain⟨a8,c8,rfl⟩:=hs8;clear ho8 hg8 ha8)
         | (refine step_append_src rfl _ _ rfl (A:=(O.map (·.2)).take k ++ [q.1]) (B:=(O.map (·.2)).drop k) (base:=W.heap.size) rfl rfl HO8.out.1 HW6.out.2 HO8.out.2 HG8.out.size (by have:=HOL.out;simp only [List.length_append,List.length_cons,List.length_nil];omega) (n:=O.length+1) (by simp;omega) ?_;intro v9 w9 ho9 hg9 ha9 hs9;have HO9:=Lib.hid (And.intro ho9 (HG8.out.grown hg9 HG8.out.size fun b e=>(HO8.out.1.lt b e).1));obtain⟨a9,c9,rfl⟩:=hs9;clear ho9 hg9 ha9))
        all_goals
         go_wp2_with fail
         go_roundw
         case measure=>(simp [Go.RowKit.intOf];try omega)
         case rel=>exact⟨i+1,insK O (q.2.v,q.1),by go_num,by omega,by rw [HM.out];exact HO9.out.1,HO9.out.2,HS.out.1.symm⟩
  ·obtain rfl:i=F.m.length:=by omega
   rw [List.take_length] at hO
   have HE:=Lib.hid (And.intro hown (And.intro hbr hO))
   obtain⟨a3,c3,rfl⟩:∃ a3 c3,u3=.slice a3 O.length c3:=by
    rcases hown.form (n:=O.length) (by simp) with ⟨h1,h2⟩ | ⟨g3,c3,h1,h2,_⟩
    ·exact⟨_,_,h1⟩
    ·exact⟨_,_,h1⟩
   clear hown hbr hO hF
   go_wp2_with fail
   go_ret
   exact⟨_,rfl,by rw [← HE.out.2.2];exact HE.out.1,HE.out.2.1⟩
end
end
section
open Go.RowKit Go.Maps
attribute [local go_sem ↓] Go.wp_at_zero Go.wp_at_succ
attribute [local go_sem] quietR quietAtR quietUponR midAt midUpon
theorem mem_upV {F:Fam} {x:Int}:x∈upV F↔∃ k∈ordK F.m,k.1=x:=by
 unfold upV
 rw [List.mem_map]
 constructor
 ·rintro ⟨q,hq,rfl⟩
  rw [List.mem_filter] at hq
  exact⟨(q.2.v,q.1),mem_ordK.2 ⟨q,hq.1,hq.2,rfl⟩,rfl⟩
 ·rintro ⟨k,hk,rfl⟩
  obtain⟨q,hq,ha,rfl⟩:=mem_ordK.1 hk
  exact⟨q,List.mem_filter.2 ⟨hq,ha⟩,rfl⟩
theorem upV_nil {F:Fam}:upV F=[]↔ordK F.m=[]:=by
 constructor
 ·intro h
  cases e:ordK F.m with
  | nil=>rfl
  | cons k O =>
   have:k.1∈upV F:=mem_upV.2 ⟨k,by rw [e];exact .head _,rfl⟩
   rw [h] at this;cases this
 ·intro h
  cases e:upV F with
  | nil=>rfl
  | cons x L =>
   obtain⟨k,hk,_⟩:=mem_upV.1 (show x∈upV F by rw [e];exact .head _)
   rw [h] at hk;cases hk
theorem ord_first {F:Fam} (hR:Rising F.m) {a:Ky} (ha:(ordK F.m)[0]?=some a):leastL (upV F)=a.1:=by
 have hne:upV F≠[]:=fun h=>by rw [upV_nil.1 h] at ha;cases ha
 obtain⟨h1,h2⟩:=leastL_spec hne
 obtain⟨k,hk,hk1⟩:=mem_upV.1 h1
 have h3:=h2 a.1 (mem_upV.2 ⟨a,List.mem_of_getElem? ha,rfl⟩)
 have hs:=sort_ordK hR
 have h4:a.1≤k.1:=by
  cases e:ordK F.m with
  | nil=>rw [e] at ha;cases ha
  | cons x O =>
   rw [e] at ha hk hs
   cases ha
   rcases List.mem_cons.1 hk with rfl | hk
   ·exact Int.le_refl _
   ·rcases lessK_iff.1 ((List.pairwise_cons.1 hs).1 k hk) with h | h <;> omega
 omega
theorem ord_last {F:Fam} (hR:Rising F.m) {b:Ky} (hb:(ordK F.m)[(ordK F.m).length - 1]?=some b):greatL (upV F)=b.1:=by
 have hne:upV F≠[]:=fun h=>by rw [upV_nil.1 h] at hb;cases hb
 obtain⟨h1,h2⟩:=greatL_spec hne
 obtain⟨k,hk,hk1⟩:=mem_upV.1 h1
 have h3:=h2 b.1 (mem_upV.2 ⟨b,List.mem_of_getElem? hb,rfl⟩)
 have hs:=sort_ordK hR
 have h4:k.1≤b.1:=by
  obtain⟨j,hj,hjk⟩:=List.mem_iff_getElem.1 hk
  obtain⟨hl,hbl⟩:=List.getElem?_eq_some_iff.1 hb
  by_cases e:j=(ordK F.m).length - 1
  ·subst e
   rw [hjk] at hbl
   rw [hbl];exact Int.le_refl _
  ·have:=(List.pairwise_iff_getElem.1 hs) j _ hj hl (by omega)
   rw [hjk,hbl] at this
   rcases lessK_iff.1 this with h | h <;> omega
 omega
theorem wrap64_small {k:Nat} (h:k < 1000):wrap64 (k:Int)=(k:Int):=by
 unfold wrap64
 omega
theorem sub_oneN (k:Nat):((k+1:Nat):Int) - 1=(k:Int):=by omega
theorem pos_oneN (k:Nat):(0:Int) < ((k+1:Nat):Int):=by omega
def midI (a b:Int):Int:=a / 2+b / 2+(a % 2+b % 2) / 2
theorem startV_ord {F:Fam} (hR:Rising F.m)(m:Mem) {a b:Ky} (ha:(ordK F.m)[0]?=some a)(hb:(ordK F.m)[(ordK F.m).length - 1]?=some b):startV F m=max m.v (midI a.1 b.1):=by
 have hne:upV F≠[]:=fun h=>by rw [upV_nil.1 h] at ha;cases ha
 unfold startV midI
 rw [if_neg hne,ord_first hR ha,ord_last hR hb]
 congr 1
 omega
section
variable {w0 W : World} {A S : Nat → Prop} {f g cap : Nat} {v : Value} {rs : Int → Nat} {F : Fam}
theorem Sx.wakeRun {φ:Ending→Prop} {fn:FuncId} {args:Array Value} {prog:Program} (h:Sx w0 A W (FamDX f v rs F)) {i:Nat} {id:Int} {m:Mem} (hq:F.m[i]?=some (id,m)) {x':Rn} (ha:Acts φ (RfO (rs id) m.rn) (RfO (rs id) x') fn args prog W) :
  Calls prog fn args W fun e W'=>φ e∧Sx w0 A W' (FamDX f v rs ⟨F.m.set i (id,{ m with rn:=x' }),F.mark⟩):=by
 have hrest:Good (StarL (fun q:Int × Mem=>RfO (rs q.1) q.2.rn) (F.m.eraseIdx i)):=good_starL (fun q=>good_rf _ _) _
 have h1:Sx w0 A W (Star (RfO (rs id) m.rn) (Star (BoxO f 74 #[v,.int .u64 F.mark]) (Star (MbrR rs v F.m) (StarL (fun q=>RfO (rs q.1) q.2.rn) (F.m.eraseIdx i))))) :=
  (Sx.swap2 (h.weak fun h2=>h2.under fun h3=>h3.under fun h4=>(starL_at hq).1 h4)).swap
 refine (h1.act (good_rf _ _) ((good_box _ _ _).star (good_rec.star hrest)) ha).mono fun e W' ⟨h2,h3⟩=>⟨h2,?_⟩
 refine (Sx.swap2 h3.swap).weak fun h4=>h4.under fun h5=>?_
 obtain⟨A1,B1,hS,hd,hp,hr⟩:=h5
 refine⟨A1,B1,hS,hd,?_,(starL_at (set_at hq)).2 (by rw [set_erase];exact hr)⟩
 have e1:recC (mbrC rs) (F.m.set i (id,{ m with rn:=x' }))=recC (mbrC rs) F.m:=recC_same hq rfl
 show RecO 141 5 (mbrC rs) v (F.m.set i (id,{ m with rn:=x' })) W' A1
 unfold RecO at hp ⊢
 rw [e1,List.length_set]
 exact hp
theorem wakeF_is {id:Int} {m:Mem} (hm:lookM F.m id=some m)(ha:m.aw=false):wakeF id F=⟨putM F.m id ⟨m.tot,startV F m,startR m.rn (startV F m) m.tot,true⟩,max F.mark (startV F m)⟩:=by
 unfold wakeF
 rw [hm]
 dsimp only
 rw [if_neg (by rw [ha];decide)]
theorem fdwake_any (id:Int)(hN:FamN F)(hR:Rising F.m)(hl:F.m.length≤1000) :
  Acts (fun e=>e=.returned (.tuple #[])) (FamDX f v rs F) (FamDX f v rs (wakeF id F)) 50 #[.pointer (some ⟨f,0,none⟩),.int .i64 id] Tryz.prog W:=fun A h=>by
 have hat:=fdat_any id h (by omega)
 have c0:=h.box.cell 0
 have c1:=h.box.cell 1
 simp only [lTA,lCZ,lCS] at c0 c1
 have H:=Lib.hid h
 clear h
 obtain⟨F',hF'⟩:∃ F',wakeF id F=F':=⟨_,rfl⟩
 rw [hF']
 have HF:=Lib.hid hF'
 clear hF'
 go_enter Tryz.func50,Tryz.ntmps50
 go_wp2_with fail
 refine hat.mono ?_
 clear hat
 rintro e w1 ⟨r,rfl,hpos,rfl⟩
 rcases hpos with ⟨i,m,hq,rfl,hlk⟩ | ⟨rfl,hlk⟩
 rotate_left
 ·obtain rfl:F'=F:=by rw [← HF.out];unfold wakeF;rw [hlk]
  clear hlk HF
  go_wp2_with fail
  go_returns
  exact⟨rfl,A,H.out,Went.refl _ _⟩
 obtain⟨g,cap,rfl,hcap,hg,k0,k1,k2,k3,k4,z⟩:=H.out.cells hq
 have hlt:=(List.getElem?_eq_some_iff.1 hq).1
 have hni:¬ (i:Int) < 0:=by omega
 cases haw:m.aw with
 | true =>
  obtain rfl:F'=F:=by rw [← HF.out];unfold wakeF;rw [hlk];dsimp only;rw [if_pos haw]
  rw [haw] at k4
  clear hlk HF z hq
  go_wp2_with fail
  go_returns
  exact⟨rfl,A,H.out,Went.refl _ _⟩
 | false =>
  rw [haw] at k4
  obtain⟨sv,hsv⟩:∃ sv,startV F m=sv:=⟨_,rfl⟩
  have hsb:=startV_bound hR hN.v hN.mark hlk
  rw [hsv] at hsb
  have hfw:=HF.out.symm.trans (wakeF_is hlk haw)
  rw [hsv] at hfw
  subst hfw
  have hids:=fdids_any H.out hR hl
  have hmb:=hN.v id m hlk
  have HQ:=Lib.hid (And.intro hq (And.intro hlk (And.intro hR hN)))
  have HSV:=Lib.hid hsv
  have HM:=Lib.hid hN.mark
  clear HF z hq hlk hsv
  go_upto_region 4 with (go_at_call 53;refine hids.mono ?_;rintro e w2 ⟨v6,rfl,hrow,hb2⟩;clear hids)
  obtain⟨O,hO⟩:∃ O,ordK F.m=O:=⟨_,rfl⟩
  rw [hO] at hrow
  have hrow:RowI w2 w1.heap.size v6 (O.map (·.2)):=hrow
  obtain⟨a6,c6,rfl⟩:∃ a6 c6,v6=.slice a6 O.length c6:=by
   rcases hrow.form (n:=O.length) (by simp) with ⟨e,_⟩ | ⟨g6,c6,e,_⟩
   ·exact⟨_,_,e⟩
   ·exact⟨_,_,e⟩
  obtain⟨V0,hV0,hV1,hV2⟩:∃ V0,sv=max m.v V0∧(O=[]→V0=F.mark)∧∀ a b,O[0]?=some a→O[O.length - 1]?=some b→V0=midI a.1 b.1:=by
   have h1:=HSV.out
   by_cases hn:O=[]
   ·refine⟨F.mark,?_,fun _=>rfl,fun a b ha=>by rw [hn] at ha;cases ha⟩
    rw [← h1]
    unfold startV
    rw [if_pos (upV_nil.2 (hO.trans hn))]
   ·have hl1:0 < O.length:=List.length_pos_iff.2 hn
    obtain⟨a,ha⟩:∃ a,O[0]?=some a:=⟨_,List.getElem?_eq_getElem hl1⟩
    obtain⟨b,hb⟩:∃ b,O[O.length - 1]?=some b:=⟨_,List.getElem?_eq_getElem (by omega)⟩
    refine⟨midI a.1 b.1,?_,fun h=>absurd h hn,fun a' b' ha' hb'=>?_⟩
    ·rw [← h1]
     exact startV_ord hR m (by rw [hO];exact ha) (by rw [hO];exact hb)
    ·rw [ha] at ha';rw [hb] at hb';cases ha';cases hb';rfl
  have HV0:=Lib.hid (And.intro hV0 (And.intro hV1 hV2))
  have HR6:=Lib.hid (And.intro hO (And.intro hrow hb2))
  clear hV0 hV1 hV2 hO hrow hb2 hN hR
  go_upto_if 32 with fail
  go_cut [5] from 7 to 57 (fun v5 wx=>v5=.int .u64 V0∧Below w2.heap.size w2 wx)
  case first =>
   cases O with
   | nil =>
    have hv:=HV0.out.2.1 rfl
    go_wp2_with fail
    go_meet
    exact⟨by rw [hv],Below.refl _ _⟩
   | cons x O' =>
    obtain⟨kk,hkk⟩:∃ kk,(x :: O').length=kk+1:=⟨O'.length,rfl⟩
    obtain⟨b,hb⟩:∃ b,(x :: O')[kk]?=some b:=⟨_,List.getElem?_eq_getElem (by omega)⟩
    have hv:=HV0.out.2.2 x b rfl (by rw [hkk];exact hb)
    obtain⟨g6,rfl⟩:∃ g6,a6=some ⟨g6,0,none⟩:=by
     rcases HR6.out.2.1.form (n:=(x :: O').length) (by simp) with ⟨_,e⟩ | ⟨g6,_,e,_⟩
     ·cases e
     ·cases e;exact⟨_,rfl⟩
    have e0:=HR6.out.2.1.cellAt' (n:=(x :: O').length) (by simp) (j:=0) (x:=x.2) rfl
    have e1:=HR6.out.2.1.cellAt' (n:=(x :: O').length) (by simp) (j:=kk) (x:=b.2) (by rw [List.getElem?_map,hb];rfl)
    have hmx:x∈ordK (F.m.take F.m.length):=by rw [List.take_length,HR6.out.1];exact .head _
    have hmb2:b∈ordK (F.m.take F.m.length):=by rw [List.take_length,HR6.out.1];exact List.mem_of_getElem? hb
    have hF2:FamDX f (.slice (some ⟨g,0,none⟩) F.m.length cap) rs F w2 A:=(good_famDX _ _ _ _).kept H.out HR6.out.2.2.size fun b hb2=>HR6.out.2.2.block b ((good_famDX _ _ _ _).lt H.out b hb2)
    have hva:=fun e=>fdv_any x.2 (famDX_over hF2 e) (by omega)
    have hvb:=fun e=>fdv_any b.2 (famDX_over hF2 e) (by omega)
    rw [ord_v HQ.out.2.2.1 hmx] at hva
    rw [ord_v HQ.out.2.2.1 hmb2] at hvb
    have hbx:0≤x.1∧x.1≤9223372036854775808:=by
     obtain⟨q,hq,_,rfl⟩:=mem_ordK.1 hmx
     exact HQ.out.2.2.2.v q.1 q.2 (look_of_mem HQ.out.2.2.1 (List.mem_of_mem_take hq))
    have hbb:0≤b.1∧b.1≤9223372036854775808:=by
     obtain⟨q,hq,_,rfl⟩:=mem_ordK.1 hmb2
     exact HQ.out.2.2.2.v q.1 q.2 (look_of_mem HQ.out.2.2.1 (List.mem_of_mem_take hq))
    obtain⟨xv,xi⟩:=x
    obtain⟨bv,bi⟩:=b
    dsimp only at hv e0 e1 hva hvb hbx hbb
    have HVA:=Lib.hid hva
    have HVB:=Lib.hid hvb
    have o0:=fun e=>(over_cell (w:=w2) (e:=e) (o:=0) e0.1).trans e0.2
    have o1:=fun e=>(over_cell (w:=w2) (e:=e) (o:=kk) e0.1).trans e1.2
    clear hva hvb hmx hmb2 hF2 hb e0 e1 c0 c1 k0 k1 k2 k3 k4
    have hkl:kk < 1000:=by
     have h5:=ord_len F.m []
     have h6:(ordK F.m).length=kk+1:=by rw [HR6.out.1];exact hkk
     unfold ordK at h6
     simp only [List.length_nil] at h5
     omega
    generalize (((xv,xi) :: O').length)=n6 at *
    subst hkk
    have hw64:wrap64 ((kk:Nat):Int)=(kk:Int):=wrap64_small hkl
    have hm1:=sub_oneN kk
    have hgt:=pos_oneN kk
    clear hkl
    go_upto_region 5 with fail
    refine wp_region_over (by kernel_rfl) (by kernel_rfl) ?_
    repeat (first | go_big_quiet_skip | (go_big_quiet_want;go_big_quiet_op;first | go_big_quiet_on | (apply Exists.intro;refine⟨fun e=>?_,?_⟩;(focus (go_at_call 93;first | with_reducible exact calls_over_same (HVA.out e) | with_reducible exact calls_over_same (HVB.out e)));go_big_quiet_on)))
    refine wpQuiet_nil ?_
    rintro w3 ⟨e,rfl⟩
    have hb3:=over_below w2 e
    generalize over w2 e=w3 at hb3 ⊢
    have t1:IntKind.u64.wrap (xv.tdiv 2)=xv / 2:=by rw [Int.tdiv_eq_ediv_of_nonneg hbx.1];exact IntWalk.u64_in _ (by omega)
    have t2:IntKind.u64.wrap (bv.tdiv 2)=bv / 2:=by rw [Int.tdiv_eq_ediv_of_nonneg hbb.1];exact IntWalk.u64_in _ (by omega)
    have t3:xv.tmod 2=xv % 2:=Int.tmod_eq_emod_of_nonneg hbx.1
    have t4:bv.tmod 2=bv % 2:=Int.tmod_eq_emod_of_nonneg hbb.1
    have t5:IntKind.u64.wrap (xv / 2+bv / 2)=xv / 2+bv / 2:=IntWalk.u64_in _ (by omega)
    have t6:IntKind.u64.wrap (xv % 2+bv % 2)=xv % 2+bv % 2:=IntWalk.u64_in _ (by omega)
    have t7:IntKind.u64.wrap ((xv % 2+bv % 2).tdiv 2)=(xv % 2+bv % 2) / 2:=by rw [Int.tdiv_eq_ediv_of_nonneg (by omega)];exact IntWalk.u64_in _ (by omega)
    have t8:IntKind.u64.wrap (xv / 2+bv / 2+(xv % 2+bv % 2) / 2)=V0:=by
     rw [hv]
     exact IntWalk.u64_in (xv / 2+bv / 2+(xv % 2+bv % 2) / 2) (by omega)
    have hb9:Below w2.heap.size w2 w3:=hb3
    have HB9:=Lib.hid hb9
    clear hv HVA HVB hw64 hm1 hgt hbx hbb hb3 hb9 hlt hni hmb hsb HR6 HV0 hcap hg hl o0 o1
    go_wp2_with fail
    go_meet
    exact⟨rfl,HB9.out⟩
  case rest =>
   obtain⟨hv5,hbc⟩:=hcut
   rw [hv5]
   clear hv5
   obtain⟨w4,hw4⟩:∃ w4,w4=wc:=⟨wc,rfl⟩
   subst hw4
   have hbW:=HR6.out.2.2.trans (hbc.mono HR6.out.2.2.size)
   have hFc:FamDX f (.slice (some ⟨g,0,none⟩) F.m.length cap) rs F w4 A:=(good_famDX _ _ _ _).kept H.out hbW.size fun b hb2=>hbW.block b ((good_famDX _ _ _ _).lt H.out b hb2)
   obtain⟨g',cp',hsl',-,hg',-,l1,l2,l3,-,-⟩:=hFc.cells HQ.out.1
   obtain⟨rfl,rfl⟩:g=g'∧cap=cp':=by cases hsl';exact⟨rfl,rfl⟩
   have d0:=hFc.box.cell 0
   simp only [lTA,lCZ,lCS] at d0
   have HW:=Lib.hid (And.intro hbW hFc)
   clear hbW hFc hbc c0 c1 k0 k1 k2 k3 k4 hsl'
   go_upto_if 67 with fail
   go_cut [5] from 58 to 75 (fun v5 wx=>v5=.int .u64 sv∧wx=w4)
   case first =>
    have hv:=HV0.out.1
    by_cases hc:V0 < m.v
    ·have hs:sv=m.v:=by omega
     clear hv
     go_wp2_with fail
     go_meet
     exact⟨by rw [hs],rfl⟩
    ·have hs:sv=V0:=by omega
     clear hv
     go_wp2_with fail
     go_meet
     exact⟨by rw [hs],rfl⟩
   case rest =>
    obtain⟨hv5,hwc⟩:=hcut
    rw [hv5,hwc]
    clear hv5 hwc
    have hset:=fdset_any (v:=.slice (some ⟨g,0,none⟩) F.m.length cap) (W:=w4) (f:=f) (rs:=rs) (F:=F) HQ.out.1 sv (by omega)
    have hs0:=(Sx.start (P:=FamDX f (.slice (some ⟨g,0,none⟩) F.m.length cap) rs F) H.out).later (good_famDX _ _ _ _) HW.out.1
    have HS:=Lib.hid (And.intro hs0 hset)
    have hfew:=HQ.out.2.2.2.few id m HQ.out.2.1
    have htot:=HQ.out.2.2.2.tot id m HQ.out.2.1
    have HFW:=Lib.hid (And.intro hfew (And.intro htot hsb))
    clear hs0 hset d0 l1 l2 l3 hfew htot hsb hmb
    go_upto_region 10 with (go_at_call 94;refine (HS.out.1.act0 HS.out.2).mono ?_;rintro e9 w5 ⟨rfl,h5⟩;have H5:=Lib.hid h5;clear h5)
    have hq5:=set_at (b:=(id,({ m with v:=sv }:Mem))) HQ.out.1
    obtain⟨S5,hS5,-⟩:=H5.out
    obtain⟨g',cp',hsl',-,hg5,-,l1,-,l3,-,-⟩:=hS5.cells hq5
    obtain⟨rfl,rfl⟩:g=g'∧cap=cp':=by rw [List.length_set] at hsl';cases hsl';exact⟨rfl,rfl⟩
    have d0:=hS5.box.cell 0
    simp only [lTA,lCZ,lCS] at d0
    dsimp only at l1 l3
    have o0:=fun e=>(over_cell (w:=w5) (e:=e) (o:=0) hS5.box.lt).trans d0
    have o1:=fun e=>(over_cell (w:=w5) (e:=e) (o:=i*5+1) hg5).trans l1
    have o3:=fun e=>(over_cell (w:=w5) (e:=e) (o:=i*5+3) hg5).trans l3
    have HQ5:=Lib.hid hq5
    clear hS5 hsl' l1 l3 d0 hq5
    refine wp_region_over_tail 17 (by kernel_rfl) (by kernel_rfl) ?_
    simp only [List.take_succ_cons,List.take_zero,List.drop_succ_cons,List.drop_zero]
    repeat (first | go_big_quiet_skip | (go_big_quiet_want;go_big_quiet_op;go_big_quiet_on))
    refine wpQuiet_nil ?_
    rintro W2 ⟨e,rfl⟩
    have h6:=H5.out.later (good_famDX _ _ _ _) (over_below w5 e)
    have H6:=Lib.hid h6
    clear h6 o0 o1 o3
    generalize over w5 e=W2 at H6 ⊢
    have hst:=H6.out.wakeRun HQ5.out (rf_start (x:=m.rn) sv m.tot ⟨HFW.out.2.2.1,by have:=HFW.out.2.2.2;omega⟩ ⟨HFW.out.2.1.1,by have:=HFW.out.2.1.2;omega⟩ (by have:=HFW.out.1;omega))
    have HST:=Lib.hid hst
    clear hst
    go_upto_region 11 with (go_at_call 95;refine HST.out.mono ?_;rintro e9 w7 ⟨rfl,h7⟩;have H7:=Lib.hid h7;clear h7)
    have hq7:=set_at (b:=(id,(⟨m.tot,sv,startR m.rn sv m.tot,m.aw⟩:Mem))) HQ5.out
    obtain⟨S7,hS7,-⟩:=H7.out
    obtain⟨g',cp',hsl',-,hg7,-,-,-,-,l4,z7⟩:=hS7.cells hq7
    obtain⟨rfl,rfl⟩:g=g'∧cap=cp':=by rw [List.length_set,List.length_set] at hsl';cases hsl';exact⟨rfl,rfl⟩
    have d0:=hS7.box.cell 0
    simp only [lTA,lCZ,lCS] at d0
    have z4:=z7 (i*5+4)
    have h8:=H7.out
    have e1:((F.m.set i (id,{ m with v:=sv })).set i (id,{ { m with v:=sv } with rn:=startR m.rn sv m.tot })).length=F.m.length:=by rw [List.length_set,List.length_set]
    rw [← e1] at h8
    have h9:=Sx.setD (F:=⟨(F.m.set i (id,{ m with v:=sv })).set i (id,{ { m with v:=sv } with rn:=startR m.rn sv m.tot }),max F.mark sv⟩) h8 (m:=⟨m.tot,sv,startR m.rn sv m.tot,m.aw⟩) (m':=⟨m.tot,sv,startR m.rn sv m.tot,true⟩) hq7 (c:=4) (by decide) (u:=.bool true) rfl rfl
    rw [e1] at h9
    dsimp only at h9
    rw [set_twice,set_twice,set_put HQ.out.2.2.1 HQ.out.1] at h9
    have H9:=Lib.hid h9
    clear hS7 hsl' h8 h9 hq7 e1 z7
    go_wp2_with fail
    go_returns
    exact⟨rfl,H9.out.done⟩
end
end
end Go.Proofs.YtmmeopjemkjllaaGreat
