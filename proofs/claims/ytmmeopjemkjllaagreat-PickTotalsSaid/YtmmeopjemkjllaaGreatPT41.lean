/- Lemmas of the claim. No conditions beyond those that each states. -/
import Derived.Test.YtmmeopjemkjllaaGreatPT40
import Derived.Test.YtmmeopjemkjllaaGreatPT38
set_option linter.unusedVariables false
set_option linter.unusedSimpArgs false
set_option maxRecDepth 100000
set_option maxHeartbeats 8000000
namespace Go.Proofs.YtmmeopjemkjllaaGreat
section
open Go.RowKit Go.Maps
attribute [local go_sem ↓] Go.wp_at_zero Go.wp_at_succ
attribute [local go_sem] quietR quietAtR quietUponR midAt midUpon
structure WayI (N:Nat)(P:Pk)(l:List Int):Prop where
 pb:PkB P
 num:∃ n,PkZ n P∧n+2*l.length≤N
 is:∀ j∈l,0 < j∧(lookM P j).isSome=true
section
variable {N k mb B D : Nat} {ps : Int → Nat} {P Q : Pk} {E : Ob} {l : List Int} {id : Int}
theorem WayI.look (h:WayI N P (id :: l)):∃ c,lookM P id=some c:=Option.isSome_iff_exists.1 (h.is id (.head _)).2
theorem WayI.pkM (hN:N < 100000)(h:WayI N P l):PkM P:=by
 obtain⟨n,hz,hn⟩:=h.num
 exact hz.pkM (by omega) h.pb
theorem WayI.step (h:WayI N P (id :: l))(hs:∀ j,statP Q j=statP P j)(hz:∀ n,PkZ n P→PkZ (n+2) Q):WayI N Q l:=by
 obtain⟨n,h1,h2⟩:=h.num
 refine⟨h.pb.stat hs,⟨n+2,hz n h1,by simp only [List.length_cons] at h2;omega⟩,fun j hj=>?_⟩
 have:=h.is j (.tail _ hj)
 exact⟨this.1,by rw [look_of_stat (hs j)];exact this.2⟩
theorem wake1_stat (now:Int)(P:Pk)(id j:Int):statP (wake1 now P id) j=statP P j :=
 (wake1_moved (ow:=owL) (dp:=fun _=>0) (X:=fun _=>True) (now:=now) (P:=P) (id:=id) trivial).stat j
theorem sent1_stat (n:Int)(P:Pk)(id j:Int):statP (sent1 reachR n P id) j=statP P j :=
 (sent1_moved (ow:=owL) (dp:=fun _=>0) (X:=fun _=>True) (n:=n) (P:=P) (id:=id) trivial).stat j
theorem sleep_stat (P:Pk)(id j:Int):statP (updF P id (sleepF id)) j=statP P j :=
 (updF_moved (ow:=owL) (dp:=fun _=>0) (X:=fun _=>True) (P:=P) (id:=id) (only_sleep id) (keep_sleep id) trivial).stat j
theorem sent2_stat (sl:Bool)(P:Pk)(id j:Int):statP (sent2 owL sl P id) j=statP P j:=by
 unfold sent2
 split
 ·exact (note_stat _ _ _ _).trans (sleep_stat P id j)
 ·exact note_stat _ _ _ _
theorem WayI.fold {f:Pk→Int→Pk} (hs:∀ P id j,statP (f P id) j=statP P j)(hz:∀ n P id,PkZ n P→PkZ (n+2) (f P id)):∀ {l:List Int} {P:Pk},WayI N P l→WayI N (l.foldl f P) []
 | [],P,h=>h
 | i :: l,P,h=>WayI.fold hs hz (l:=l) (h.step (fun j=>hs P i j) fun n hn=>hz n P i hn)
theorem stat_fold {f:Pk→Int→Pk} (hs:∀ P id j,statP (f P id) j=statP P j):∀ (l:List Int)(P:Pk)(j:Int),statP (l.foldl f P) j=statP P j
 | [],_,_=>rfl
 | i :: l,P,j=>(stat_fold hs l (f P i) j).trans (hs P i j)
theorem WayI.again {l0:List Int} (h:WayI N P l0)(hs:∀ j,statP Q j=statP P j)(hq:WayI N Q []):WayI (N+2*l0.length) Q l0:=by
 obtain⟨n,h1,h2⟩:=hq.num
 exact⟨hq.pb,⟨n,h1,by simp only [List.length_nil] at h2;omega⟩,fun j hj=>by
  have:=h.is j hj
  exact⟨this.1,by rw [look_of_stat (hs j)];exact this.2⟩⟩
theorem climb_wake {now:Int} (hN:N < 100000)(hnow:U now)(hE:EnvW E B D k now):Climb 42 #[.pointer (some ⟨B,0,none⟩),.pointer (some ⟨D,0,none⟩)] E k mb ps (wake1 now) (WayI N) :=
 ⟨fun P id l h=>⟨h.pb,h.look⟩,fun P id l h=>by
  obtain⟨c,hc⟩:=h.look
  exact step_wake hE hnow id (h.is id (.head _)).1 hc (h.pkM hN),fun P id l h=>h.step (fun j=>wake1_stat now P id j) fun n hn=>pkZ_wake1 hn now id,fun P id l h j=>pa_of_stat (wake1_stat now P id j)⟩
theorem climb_note (hN:N < 100000)(hE:EnvP E B k):Climb 45 #[.pointer (some ⟨B,0,none⟩)] E k mb ps (noteP owL) (WayI N) :=
 ⟨fun P id l h=>⟨h.pb,h.look⟩,fun P id l h=>by
  obtain⟨c,hc⟩:=h.look
  exact step_note hE id (h.is id (.head _)).1 hc (h.pkM hN).toPkN,fun P id l h=>h.step (fun j=>note_stat owL P id j) fun n hn=>(pkZ_note hn id).mono (Nat.le_succ _),fun P id l h j=>pa_of_stat (note_stat owL P id j)⟩
theorem climb_gain {n:Int} (hN:N < 100000)(hn:U n)(hE:EnvW E B D k n):Climb 55 #[.pointer (some ⟨D,0,none⟩),.pointer (some ⟨B,0,none⟩)] E k mb ps (sent1 reachR n) (WayI N) :=
 ⟨fun P id l h=>⟨h.pb,h.look⟩,fun P id l h=>by
  obtain⟨c,hc⟩:=h.look
  obtain⟨m,hz,_⟩:=h.num
  exact step_gain hE hn id (h.is id (.head _)).1 hc (h.pkM hN) (hz.tot _ _ hc).2,fun P id l h=>h.step (fun j=>sent1_stat n P id j) fun m hm=>pkZ_sent1 hm hn.1 id,fun P id l h j=>pa_of_stat (sent1_stat n P id j)⟩
theorem climb_rest {sl:Bool} (hN:N < 100000)(hE:EnvS E B D k sl):Climb 57 #[.pointer (some ⟨D,0,none⟩),.pointer (some ⟨B,0,none⟩)] E k mb ps (sent2 owL sl) (WayI N) :=
 ⟨fun P id l h=>⟨h.pb,h.look⟩,fun P id l h=>by
  obtain⟨c,hc⟩:=h.look
  have h0:=(h.is id (.head _)).1
  have hM:=h.pkM hN
  have hlf:lfP P id=c.lf:=lfP_of hc
  have htr:trP P id=c.tr:=by unfold trP;rw [hc]
  unfold sent2
  rw [hlf,htr]
  by_cases hgo:sl=true∧(c.lf=true∨c.tr=[])
  ·rw [if_pos hgo]
   obtain⟨hsl,hgo⟩:=hgo
   subst hsl
   obtain⟨n,hz,hn⟩:=h.num
   have hst:=sleep_stat P id
   have hz1:PkZ (n+1) (updF P id (sleepF id)):=pkZ_updF hz id fun F hF=>famZ_sleep hF id
   refine step_rest_go hE id h0 hc hM.toPkN (hz1.pkM (by simp only [List.length_cons] at hn;omega) (h.pb.stat hst)).toPkN ?_ hgo
   have:=look_of_stat (hst id)
   rw [hc] at this
   exact Option.isSome_iff_exists.1 this
  ·rw [if_neg hgo]
   exact step_rest_no hE id h0 hc hM.toPkN hgo,fun P id l h=>h.step (fun j=>sent2_stat sl P id j) fun n hn=>pkZ_sent2 hn sl id,fun P id l h j=>pa_of_stat (sent2_stat sl P id j)⟩
theorem wayI_start {n:Nat} {leaf:Int} (hB:PkB P)(hZ:PkZ n P)(hU:Up P leaf l):WayI (n+2*l.length) P l :=
 ⟨hB,⟨n,hZ,Nat.le_refl _⟩,fun j hj=>⟨hU.pos j hj,hU.look j hj⟩⟩
theorem wake_way {n:Nat} {leaf now:Int} (hB:PkB P)(hZ:PkZ n P)(hU:Up P leaf l)(hn:n+4*l.length < 100000)(hnow:U now) :
  WakeWay k mb ps P leaf now l (WayI (n+2*l.length)) (WayI (n+2*l.length+2*l.length))∧PkZ (n+4*l.length) (l.foldl (noteP owL) (l.foldl (wake1 now) P))∧∀ j,statP (l.foldl (noteP owL) (l.foldl (wake1 now) P)) j=statP P j:=by
 have h0:=wayI_start hB hZ hU
 have hf:=h0.fold (wake1_stat now) fun n P id hn=>pkZ_wake1 hn now id
 have hs1:=stat_fold (wake1_stat now) l P
 have h1:=h0.again hs1 hf
 have hf2:=h1.fold (note_stat owL) fun n P id hn=>(pkZ_note hn id).mono (Nat.le_succ _)
 refine⟨⟨hU,hU.congr fun j=>pa_of_stat (hs1 j),h0,h1,fun E B D hE=>climb_wake (by omega) hnow hE,fun E B hE=>climb_note (by omega) hE⟩,?_,fun j=>(stat_fold (note_stat owL) l _ j).trans (hs1 j)⟩
 obtain⟨m,hm,hm2⟩:=hf2.num
 exact hm.mono (by simp only [List.length_nil] at hm2;omega)
theorem sent_way {n:Nat} {leaf g:Int} {more:Bool} (hB:PkB P)(hZ:PkZ n P)(hU:Up P leaf l)(hn:n+4*l.length < 100000)(hg:U g) :
  SentWay k mb ps P leaf g more l (WayI (n+2*l.length)) (WayI (n+2*l.length+2*l.length))∧(∀ sl,PkZ (n+4*l.length) (l.foldl (sent2 owL sl) (l.foldl (sent1 reachR g) P)))∧∀ sl j,statP (l.foldl (sent2 owL sl) (l.foldl (sent1 reachR g) P)) j=statP P j:=by
 have h0:=wayI_start hB hZ hU
 have hf:=h0.fold (sent1_stat g) fun n P id hn=>pkZ_sent1 hn hg.1 id
 have hs1:=stat_fold (sent1_stat g) l P
 have h1:=h0.again hs1 hf
 have hf2:=fun sl=>h1.fold (sent2_stat sl) fun n P id hn=>pkZ_sent2 hn sl id
 refine⟨⟨hU,hU.congr fun j=>pa_of_stat (hs1 j),h0,h1,h1.pb,fun E B D hE=>climb_gain (by omega) hg hE,fun E B Q hE=>climb_rest (by omega) hE⟩,fun sl=>?_,fun sl j=>(stat_fold (sent2_stat sl) l _ j).trans (hs1 j)⟩
 obtain⟨m,hm,hm2⟩:=(hf2 sl).num
 exact hm.mono (by simp only [List.length_nil] at hm2;omega)
end
section
variable {W : World} {k mb n : Nat} {ps : Int → Nat} {P : Pk} {leaf : Int} {l : List Int} {c : Cls}
theorem pwake_not {now:Int} (hid:(Lit.int .i64 leaf).wf=true)(hc:lookM P leaf=some c)(hno:c.lf=false∨c.sh=false) :
  Acts (fun e=>e=.returned (.tuple #[])) (PkX k mb ps P) (PkX k mb ps P) 11 #[.pointer (some ⟨k,0,none⟩),.int .i64 leaf,.int .u64 now] Tryz.prog W:=fun A h=>by
 have hs0:=((Sx.start (P:=PkX k mb ps P) h).alloc (good_pkX _ _ _ _) #[.pointer (some ⟨k,0,none⟩)] 24).alloc ((good_box _ _ _).star (good_pkX _ _ _ _)) #[.int .u64 now] 28
 obtain⟨S2,hS2⟩:=hs0.rest.env
 have b0:=hs0.rest.box.cell 0
 obtain⟨l9,f9,q9,hr⟩:=hS2.cls hc
 have c1:=hr.blk.cell 1
 have c2:=hr.blk.cell 2
 unfold clsC at c1 c2
 simp only [lTA,lCZ,lCS] at b0 c1 c2
 have ha:=pat_any leaf hid hS2
 unfold cpV at ha
 rw [hc] at ha
 dsimp only at ha
 have H:=Lib.hid hs0
 clear h hs0 hS2 hc hr
 cases hlf:c.lf with
 | false =>
  rw [hlf] at c1
  clear hno hlf
  go_enter Tryz.func11,Tryz.ntmps11
  go_wp2_with (go_at_call 34;refine ha.mono ?_;rintro e w1 ⟨rfl,rfl⟩)
  all_goals (go_returns;exact⟨rfl,H.out.rest.rest.done⟩)
 | true =>
  have hsh:c.sh=false:=hno.elim (fun e=>by rw [hlf] at e;cases e) fun e=>e
  rw [hlf] at c1
  rw [hsh] at c2
  clear hno hlf hsh
  go_enter Tryz.func11,Tryz.ntmps11
  go_wp2_with (go_at_call 34;refine ha.mono ?_;rintro e w1 ⟨rfl,rfl⟩)
  all_goals (go_returns;exact⟨rfl,H.out.rest.rest.done⟩)
theorem pwake_any {now:Int} (hB:PkB P)(hZ:PkZ n P)(hU:Up P leaf l)(hn:n+4*l.length < 100000)(hnow:U now)(h1:1≤leaf)(hc:lookM P leaf=some c)(hlf:c.lf=true) :
  Acts (fun e=>e=.returned (.tuple #[])) (PkX k mb ps P) (PkX k mb ps (wakeP owL now leaf l P)) 11 #[.pointer (some ⟨k,0,none⟩),.int .i64 leaf,.int .u64 now] Tryz.prog W:=by
 have hid:=wf_small (hB.ids _ _ hc).1 (hB.ids _ _ hc).2
 unfold wakeP
 rw [lfP_of hc,shP_of hc,hlf]
 cases hsh:c.sh with
 | true =>
  rw [if_pos ⟨rfl,rfl⟩]
  exact po_wake (wake_way hB hZ hU hn hnow).1 h1 hid hc hlf hsh
 | false =>
  rw [if_neg (fun h=>by cases h.2)]
  exact pwake_not hid hc (.inr hsh)
theorem wakeP_num {now:Int} (hB:PkB P)(hZ:PkZ n P)(hU:Up P leaf l)(hn:n+4*l.length < 100000)(hnow:U now):PkZ (n+4*l.length) (wakeP owL now leaf l P)∧∀ j,statP (wakeP owL now leaf l P) j=statP P j:=by
 unfold wakeP
 split
 ·exact⟨(wake_way (k:=0) (mb:=0) (ps:=fun _=>0) hB hZ hU hn hnow).2.1,(wake_way (k:=0) (mb:=0) (ps:=fun _=>0) hB hZ hU hn hnow).2.2⟩
 ·exact⟨hZ.mono (by omega),fun _=>rfl⟩
theorem psent_any {g:Int} {more:Bool} (hB:PkB P)(hZ:PkZ n P)(hU:Up P leaf l)(hn:n+4*l.length < 100000)(hg:U g)(h1:1≤leaf)(hc:lookM P leaf=some c)(hlf:c.lf=true) :
  Acts (fun e=>e=.returned (.tuple #[])) (PkX k mb ps P) (PkX k mb ps (sentP owL reachR leaf g more l P)) 15 #[.pointer (some ⟨k,0,none⟩),.int .i64 leaf,.int .u64 g,.bool more] Tryz.prog W:=by
 have hid:=wf_small (hB.ids _ _ hc).1 (hB.ids _ _ hc).2
 unfold sentP
 rw [lfP_of hc,if_pos hlf]
 exact po_sent (sent_way hB hZ hU hn hg).1 h1 hid hc hlf
theorem sentP_num {g:Int} {more:Bool} (hB:PkB P)(hZ:PkZ n P)(hU:Up P leaf l)(hn:n+4*l.length < 100000)(hg:U g):PkZ (n+4*l.length) (sentP owL reachR leaf g more l P)∧∀ j,statP (sentP owL reachR leaf g more l P) j=statP P j:=by
 unfold sentP
 split
 ·exact⟨(sent_way (k:=0) (mb:=0) (ps:=fun _=>0) (more:=more) hB hZ hU hn hg).2.1 _,(sent_way (k:=0) (mb:=0) (ps:=fun _=>0) (more:=more) hB hZ hU hn hg).2.2 _⟩
 ·exact⟨hZ.mono (by omega),fun _=>rfl⟩
end
end
section
open Go.RowKit Go.Maps
section
variable {ow : Option Rn → Int → Int} {dp dp' : Int → Nat} {P Q : Pk} {wt : Int → Bool}
theorem PAll.deep (h:PAll ow dp P wt)(he:∀ id c,lookM P id=some c→dp' id=dp id):PAll ow dp' P wt:=by
 refine⟨⟨⟨h.wf.rise,h.wf.root,fun id c hc h0=>?_,h.wf.pos,h.wf.inv,h.wf.kids⟩,h.noted,h.awk⟩,h.fams⟩
 obtain⟨p,hp,hl,hd⟩:=h.wf.par id c hc h0
 exact⟨p,hp,hl,by rw [he id c hc,he c.pa p hp,hd]⟩
def totL (P:Pk)(j:Int):Option Int:=(lookM P j).map (·.tot)
theorem totL_of {j:Int} {c:Cls} (h:lookM P j=some c):totL P j=some c.tot:=by unfold totL;rw [h];rfl
theorem tot_upd (P:Pk)(q:Int) {f:Cls→Cls} (hf:∀ c,(f c).tot=c.tot)(j:Int):totL (updP P q f) j=totL P j:=by
 unfold totL
 rw [look_upd]
 by_cases e:j=q
 ·rw [if_pos e,e]
  cases lookM P q with
  | none=>rfl
  | some c=>exact congrArg some (hf c)
 ·rw [if_neg e]
theorem tot_updF (P:Pk)(id:Int)(g:Fam→Fam)(j:Int):totL (updF P id g) j=totL P j:=by
 unfold updF
 cases paP P id with
 | none=>rfl
 | some q=>exact tot_upd P q (by intro c;rfl) j
theorem tot_note (P:Pk)(id j:Int):totL (noteP ow P id) j=totL P j:=by
 unfold noteP
 cases paP P id with
 | none=>rfl
 | some q=>exact tot_upd P q (by intro c;rfl) j
theorem tot_wake1 (now:Int)(P:Pk)(id j:Int):totL (wake1 now P id) j=totL P j:=by
 unfold wake1
 split
 ·rfl
 ·exact (tot_upd _ id (by intro c;rfl) j).trans (tot_updF P id _ j)
theorem tot_sent2 (sl:Bool)(P:Pk)(id j:Int):totL (sent2 ow sl P id) j=totL P j:=by
 unfold sent2
 split
 ·exact (tot_note _ _ _).trans (tot_updF P id _ j)
 ·exact tot_note _ _ _
theorem tot_sent1 (n:Int)(P:Pk)(id j:Int):totL (sent1 reachR n P id) j=if j=id then (totL P j).map (fun t=>t+min n (capC - t)) else totL P j:=by
 unfold sent1
 rw [tot_updF]
 unfold totL
 rw [look_upd]
 by_cases e:j=id
 ·rw [if_pos e,if_pos e,e]
  cases lookM P id <;> rfl
 ·rw [if_neg e,if_neg e]
theorem tot_fold {f:Pk→Int→Pk} (hf:∀ P id j,totL (f P id) j=totL P j):∀ (l:List Int)(P:Pk)(j:Int),totL (l.foldl f P) j=totL P j
 | [],_,_=>rfl
 | i :: l,P,j=>(tot_fold hf l (f P i) j).trans (hf P i j)
theorem tot_sents (n:Int):∀ (l:List Int)(P:Pk)(j:Int),l.Nodup→totL (l.foldl (sent1 reachR n) P) j=if j∈l then (totL P j).map (fun t=>t+min n (capC - t)) else totL P j
 | [],P,j,_=>by rw [if_neg (by simp)];rfl
 | i :: l,P,j,hn=>by
  obtain⟨h1,h2⟩:=List.nodup_cons.1 hn
  show totL (l.foldl (sent1 reachR n) (sent1 reachR n P i)) j=_
  rw [tot_sents n l _ j h2,tot_sent1]
  by_cases e:j=i
  ·subst e
   rw [if_neg h1,if_pos rfl,if_pos (.head _)]
  ·rw [if_neg e]
   by_cases hm:j∈l
   ·rw [if_pos hm,if_pos (.tail _ hm)]
   ·rw [if_neg hm,if_neg (fun h=>by rcases List.mem_cons.1 h with h | h;exact e h;exact hm h)]
theorem Up.nodup (hW:WfP dp P):∀ {id:Int} {l:List Int},Up P id l→l.Nodup
 | _,_,.root=>.nil
 | _,_,@Up.step _ i q l h1 h2 h3=>List.nodup_cons.2 ⟨Up.fresh hW (.step h1 h2 h3),h3.nodup hW⟩
theorem tot_wakeP {now leaf:Int} {l:List Int} (j:Int):totL (wakeP ow now leaf l P) j=totL P j:=by
 unfold wakeP
 split
 ·exact (tot_fold (fun P id j=>tot_note P id j) l _ j).trans (tot_fold (tot_wake1 now) l P j)
 ·rfl
theorem tot_sentP {n leaf:Int} {more:Bool} {l:List Int} (hl:l.Nodup)(hlf:lfP P leaf=true)(j:Int):totL (sentP ow reachR leaf n more l P) j=if j∈l then (totL P j).map (fun t=>t+min n (capC - t)) else totL P j:=by
 unfold sentP
 rw [if_pos hlf]
 exact (tot_fold (fun P id j=>tot_sent2 _ P id j) l _ j).trans (tot_sents n l P j hl)
end
structure SpR (c:Cls)(s:Cl):Prop where
 pa:c.pa=s.1.pa
 lf:c.lf=s.1.lf
 sh:c.sh=!noneB s.1.s
structure GInv (n k:Nat)(P:Pk)(M:Mp)(wt:Int→Bool)(sent:Int→Int):Prop where
 all:PAll owL (dep M) P wt
 inv:InvT M
 num:PkZ n P
 len:P.length≤M.length+1
 ids:∀ id c,lookM M id=some c→id≤63
 is:∀ id,id≠0→(lookM P id).isSome=(lookM M id).isSome
 rel:∀ id c s,id≠0→lookM P id=some c→lookM M id=some s→SpR c s∧c.tot=sent id
 sent:∀ id,0≤sent id∧sent id≤k*524288
section
variable {n k : Nat} {P : Pk} {M : Mp} {wt : Int → Bool} {sent : Int → Int}
theorem GInv.ne (h:GInv n k P M wt sent) {id:Int} {s:Cl} (hs:lookM M id=some s):id≠0:=fun e=>by rw [e,h.inv.zero] at hs;cases hs
theorem GInv.tree (h:GInv n k P M wt sent) {id:Int} {c:Cls} (h0:id≠0)(hc:lookM P id=some c):∃ s,lookM M id=some s∧SpR c s∧c.tot=sent id:=by
 have:=h.is id h0
 rw [hc] at this
 obtain⟨s,hs⟩:=Option.isSome_iff_exists.1 this.symm
 exact⟨s,hs,h.rel id c s h0 hc hs⟩
theorem GInv.pick (h:GInv n k P M wt sent) {id:Int} {s:Cl} (hs:lookM M id=some s):∃ c,lookM P id=some c∧SpR c s∧c.tot=sent id:=by
 have h0:=h.ne hs
 have:=h.is id h0
 rw [hs] at this
 obtain⟨c,hc⟩:=Option.isSome_iff_exists.1 this
 exact⟨c,hc,h.rel id c s h0 hc hs⟩
theorem GInv.pb (h:GInv n k P M wt sent):PkB P:=by
 refine⟨fun id c hc=>?_,fun id c hc h0=>?_⟩
 ·have hp:=h.all.wf.pos id c hc
  by_cases h0:id=0
  ·omega
  ·obtain⟨s,hs,_⟩:=h.tree h0 hc
   have:=h.ids id s hs
   omega
 ·obtain⟨p,hp,_⟩:=h.all.wf.par id c hc h0
  exact⟨p,hp⟩
theorem GInv.depth (h:GInv n k P M wt sent)(id:Int):dep M id≤8:=by
 unfold dep
 cases e:lookM M id with
 | none=>exact Nat.zero_le _
 | some c=>have:=(h.inv.ok _ _ e).d8;simp;omega
theorem GInv.up (h:GInv n k P M wt sent):∀ (d:Nat) {id:Int} {s:Cl},dep M id≤d→lookM M id=some s→Up P id (pathM M id)
 | d,id,s,hd,hs=>by
  obtain⟨c,hc,hr,_⟩:=h.pick hs
  have hk:=h.inv.kid_dep hs rfl
  obtain⟨d',rfl⟩:∃ d',d=d'+1:=⟨d - 1,by omega⟩
  have h1:=(h.inv.pos hs).1
  rw [h.inv.path_step hs]
  refine .step (by omega) (show paP P id=some s.1.pa by rw [paP_of hc,hr.pa]) ?_
  rcases (h.inv.ok _ _ hs).up with ⟨h0,_⟩ | ⟨p,hp,_⟩
  ·rw [h0,h.inv.path_no h.inv.zero];exact .root
  ·exact h.up d' (by omega) hp
theorem InvT.path_len {M:Mp} (h:InvT M)(id:Int):(pathM M id).length≤8:=by
 cases e:lookM M id with
 | none=>rw [h.path_no e];simp
 | some c =>
  have h8:=(h.ok _ _ e).d8
  have:=h.pathF_len 8 e (by omega)
  show (pathF M 8 id).length≤8
  omega
theorem GInv.upL (h:GInv n k P M wt sent) {id:Int} {s:Cl} (hs:lookM M id=some s):Up P id (pathM M id):=h.up 8 (h.depth id) hs
theorem GInv.pa (h:GInv n k P M wt sent) {id:Int} {s:Cl} (hs:lookM M id=some s):paP P id=some s.1.pa:=by
 obtain⟨c,hc,hr,_⟩:=h.pick hs
 rw [paP_of hc,hr.pa]
theorem GInv.kid (h:GInv n k P M wt sent) {q x:Int}:x∈kids M q↔paP P x=some q∧x≠0:=by
 rw [mem_kids h.inv.rise]
 constructor
 ·rintro ⟨s,hs,rfl⟩
  exact⟨h.pa hs,h.ne hs⟩
 ·rintro ⟨hp,h0⟩
  obtain⟨c,hc,rfl⟩:=paP_some hp
  obtain⟨s,hs,hr,_⟩:=h.tree h0 hc
  exact⟨s,hs,hr.pa.symm⟩
theorem GInv.lookP (h:GInv n k P M wt sent) {id:Int} {s:Cl} (hs:lookM M id=some s):lfP P id=s.1.lf∧shP P id=!noneB s.1.s:=by
 obtain⟨c,hc,hr,_⟩:=h.pick hs
 exact⟨by rw [lfP_of hc,hr.lf],by rw [shP_of hc,hr.sh]⟩
theorem GInv.put_len {P Q:Pk} (hR:Rising P)(hR2:Rising Q)(h:∀ j,(lookM Q j).isSome=(lookM P j).isSome):Q.length=P.length:=by
 have key:∀ {P Q:Pk},Rising P→Rising Q→(∀ j,(lookM Q j).isSome=true→(lookM P j).isSome=true)→Q.length≤P.length:=fun {P Q} h1 h2 h3=>by
  have:=nodup_leH (l:=Q.map (·.1)) (m:=P.map (·.1)) (List.pairwise_map.2 (List.Pairwise.imp (fun h=>by omega) h2)) fun x hx=>by
   obtain⟨⟨y,c⟩,hm,rfl⟩:=List.mem_map.1 hx
   have h4:=h3 y (by rw [look_of_mem h2 hm];rfl)
   obtain⟨c',hc'⟩:=Option.isSome_iff_exists.1 h4
   exact List.mem_map.2 ⟨(y,c'),mem_of_look hc',rfl⟩
  simpa using this
 have h1:=key hR hR2 fun j hj=>by rw [← h j];exact hj
 have h2:=key hR2 hR fun j hj=>by rw [h j];exact hj
 omega
theorem GInv.wake (h:GInv n k P M wt sent) {id now:Int} {s:Cl} (hs:lookM M id=some s)(hl:s.1.lf=true)(hnow:U now)(hn:n+32 < 100000) :
  GInv (n+32) k (wakeP owL now id (pathM M id) P) M (fun j=>if j=id then true else wt j) sent:=by
 have hU:=h.upL hs
 have hlen:=h.inv.path_len id
 have hlf:lfP P id=true:=by rw [(h.lookP hs).1,hl]
 obtain⟨h1,h2⟩:=h.all.wake (now:=now) hU hlf (by have:=h.inv.pos hs;omega)
 obtain⟨h3,_⟩:=wakeP_num (leaf:=id) (now:=now) h.pb h.num hU (by omega) hnow
 have htot:∀ j,totL (wakeP owL now id (pathM M id) P) j=totL P j:=fun j=>tot_wakeP j
 generalize wakeP owL now id (pathM M id) P=Q at *
 refine⟨h1,h.inv,h3.mono (by omega),?_,h.ids,fun j hj=>(look_of_stat (h2 j)).trans (h.is j hj),fun j c s' hj hc hs'=>?_,h.sent⟩
 ·rw [GInv.put_len h.all.wf.rise h1.wf.rise fun j=>look_of_stat (h2 j)];exact h.len
 ·obtain⟨c0,hc0,e1,e2,e3,_⟩:=stat_back (h2 j) hc
  obtain⟨r,ht⟩:=h.rel j c0 s' hj hc0 hs'
  have:=htot j
  rw [totL_of hc,totL_of hc0] at this
  exact⟨⟨e1.trans r.pa,e2.trans r.lf,e3.trans r.sh⟩,(Option.some.inj this).trans ht⟩
theorem GInv.sends (h:GInv n k P M wt sent) {id g:Int} {more:Bool} {s:Cl} (hs:lookM M id=some s)(hl:s.1.lf=true)(hw:wt id=true)(hg:0≤g)(hg2:g < 524288)(hn:n+32 < 100000)(hk:k < 1000) :
  GInv (n+32) (k+1) (sentP owL reachR id g more (pathM M id) P) M (fun j=>if j=id then more else wt j) (fun j=>if j∈pathM M id then sent j+g else sent j):=by
 have hU:=h.upL hs
 have hlen:=h.inv.path_len id
 have hlf:lfP P id=true:=by rw [(h.lookP hs).1,hl]
 obtain⟨h1,h2⟩:=h.all.sent (rc:=reachR) (n:=g) (more:=more) hU hlf (by have:=h.inv.pos hs;omega) hw
 obtain⟨h3,_⟩:=sentP_num (leaf:=id) (g:=g) (more:=more) h.pb h.num hU (by omega) (show U g by unfold U;omega)
 have htot:∀ j,totL (sentP owL reachR id g more (pathM M id) P) j=_:=fun j=>tot_sentP (hU.nodup h.all.wf) hlf j
 generalize sentP owL reachR id g more (pathM M id) P=Q at *
 refine⟨h1,h.inv,h3.mono (by omega),?_,h.ids,fun j hj=>(look_of_stat (h2 j)).trans (h.is j hj),fun j c s' hj hc hs'=>?_,fun j=>?_⟩
 ·rw [GInv.put_len h.all.wf.rise h1.wf.rise fun j=>look_of_stat (h2 j)];exact h.len
 ·obtain⟨c0,hc0,e1,e2,e3,_⟩:=stat_back (h2 j) hc
  obtain⟨r,ht⟩:=h.rel j c0 s' hj hc0 hs'
  have:=htot j
  rw [totL_of hc,totL_of hc0] at this
  refine⟨⟨e1.trans r.pa,e2.trans r.lf,e3.trans r.sh⟩,?_⟩
  have hb:=h.sent j
  by_cases hm:j∈pathM M id
  ·rw [if_pos hm] at this ⊢
   have ht2:=Option.some.inj this
   rw [ht2,ht]
   unfold capC
   dsimp only
   omega
  ·rw [if_neg hm] at this ⊢
   rw [Option.some.inj this,ht]
 ·have hb:=h.sent j
  by_cases hm:j∈pathM M id
  ·rw [if_pos hm];omega
  ·rw [if_neg hm];omega
theorem may_shared {s:Sp} (h:mayS s=true):okC s.s=true∧okC s.u=true∧(s.lf=false→noneB s.s=false):=by
 unfold mayS curvesB shapedB at h
 simp only [Bool.and_eq_true] at h
 refine⟨h.1.1.1.2.1.2,h.1.1.1.2.2,fun hl=>?_⟩
 have:=h.1.1.2
 rw [hl] at this
 simp only [Bool.false_eq_true,if_false,Bool.and_eq_true,Bool.not_eq_true'] at this
 exact this.1.1.2
theorem addM_ok {s:Sp} (h:(addM M s).1=0):mayS s=true∧lookM M s.id=none∧depthM M s.pa≠0∧(addM M s).2=putM M s.id (s,depthM M s.pa):=by
 unfold addM at h ⊢
 by_cases h1:mayS s=false
 ·rw [if_pos h1] at h;exact absurd (show (130:Int)=0 from h) (by decide)
 rw [if_neg h1] at h ⊢
 by_cases h2:64≤M.length
 ·rw [if_pos h2] at h;exact absurd (show (4:Int)=0 from h) (by decide)
 rw [if_neg h2] at h ⊢
 by_cases h3:(lookM M s.id).isSome=true
 ·rw [if_pos h3] at h;exact absurd (show (80:Int)=0 from h) (by decide)
 rw [if_neg h3] at h ⊢
 by_cases h4:depthM M s.pa=0
 ·rw [if_pos h4] at h;exact absurd (show (160:Int)=0 from h) (by decide)
 rw [if_neg h4]
 exact⟨by simpa using h1,by simpa using h3,h4,rfl⟩
theorem changeM_ok {s:Sp} (h:(changeM M s).1=0):∃ c,lookM M s.id=some c∧mayS (withC c.1 s)=true∧(changeM M s).2=putM M s.id (withC c.1 s,c.2):=by
 unfold changeM at h ⊢
 cases e:lookM M s.id with
 | none =>
  rw [e] at h
  exact absurd (show (81:Int)=0 from h) (by decide)
 | some c =>
  rw [e] at h
  dsimp only at h ⊢
  by_cases h1:mayS (withC c.1 s)=false
  ·rw [if_pos h1] at h
   exact absurd (show (130:Int)=0 from h) (by decide)
  ·rw [if_neg h1];exact⟨c,rfl,by simpa using h1,rfl⟩
theorem dep_of {id:Int} {s:Cl} (h:lookM M id=some s):dep M id=s.2.toNat:=by unfold dep;rw [h];rfl
theorem GInv.parent (h:GInv n k P M wt sent) {pa:Int} (hd:depthM M pa≠0):∃ p,lookM P pa=some p∧p.lf=false∧(depthM M pa).toNat=dep M pa+1∧(pa=0∨(lookM M pa).isSome=true):=by
 unfold depthM at hd ⊢
 by_cases h0:pa=0
 ·obtain⟨r,hr,hl⟩:=h.all.wf.root
  rw [if_pos h0]
  refine⟨r,by rw [h0];exact hr,hl,?_,.inl h0⟩
  unfold dep
  rw [h0,h.inv.zero];rfl
 ·rw [if_neg h0] at hd ⊢
  cases e:lookM M pa with
  | none=>rw [e] at hd;exact absurd rfl hd
  | some s =>
   rw [e] at hd
   dsimp only at hd ⊢
   by_cases hx:s.1.lf=true∨8≤s.2
   ·rw [if_pos hx] at hd;exact absurd rfl hd
   ·rw [if_neg hx]
    obtain⟨c,hc,hr,_⟩:=h.pick e
    have:=(h.inv.ok _ _ e).d1
    refine⟨c,hc,?_,?_,.inr rfl⟩
    ·rw [hr.lf]
     cases hl:s.1.lf with
     | false=>rfl
     | true=>exact absurd (.inl hl) hx
    ·rw [dep_of e];omega
theorem limZ (n:Nat)(u:Int × Int × Int):∀ x,limN u=some x→RnZ n x:=fun x hx=>by
 unfold limN at hx
 split at hx
 ·cases hx
 ·cases hx
  exact⟨by unfold rn0;dsimp only;omega,Nat.zero_le _⟩
theorem GInv.put (h:GInv n k P M wt sent) {s:Sp} (hw:WfSp s)(hid:s.id≤63)(hok:(addM M s).1=0) :
  GInv (n+1) k (putP P s.id s.pa s.lf (!noneB s.s) s.s (limN s.u)) (addM M s).2 (fun j=>if j=s.id then false else wt j) (fun j=>if j=s.id then 0 else sent j)∧lookM P s.id=none∧∃ p,lookM P s.pa=some p∧p.lf=false:=by
 obtain⟨hm,hno,hd,hM⟩:=addM_ok hok
 have hnm:=may_named hm
 have hsm:=may_shared hm
 obtain⟨p,hp,hpl,hpd,_⟩:=h.parent hd
 have hnP:lookM P s.id=none:=by
  have:=h.is s.id (by omega)
  rw [hno] at this
  simpa using this
 obtain⟨h1,hlook⟩:=put_inv (share:=s.s) (lim:=limN s.u) (lf:=s.lf) (sh:=!noneB s.s) h.all (by omega) hnP hp hpl fun hl=>by rw [hsm.2.2 hl];rfl
 have hinv:=h.inv.add hw
 rw [hM] at hinv ⊢
 have hpne:s.pa≠s.id:=fun e=>by rw [e,hnP] at hp;cases hp
 refine⟨?_,hnP,p,hp,hpl⟩
 have hdp:∀ id c,lookM (putP P s.id s.pa s.lf (!noneB s.s) s.s (limN s.u)) id=some c→dep (putM M s.id (s,depthM M s.pa)) id=if id=s.id then dep M s.pa+1 else dep M id:=fun id c _=>by
  by_cases e:id=s.id
  ·rw [if_pos e,e,dep_of (look_put_same _ _ _)]
   exact hpd
  ·rw [if_neg e]
   unfold dep
   rw [look_put_other _ e]
 have h2:=h1.deep hdp
 have hlenQ:(putP P s.id s.pa s.lf (!noneB s.s) s.s (limN s.u)).length=P.length+1:=by
  unfold putP
  rw [GInv.put_len (P:=putM P s.id (cls0 s.pa s.lf (!noneB s.s) (limN s.u))) (rising_put _ _ h.all.wf.rise) (rising_upd (rising_put _ _ h.all.wf.rise) _ _) fun j=>?_,put_len_new _ hnP]
  rw [look_upd]
  by_cases e:j=s.pa
  ·rw [if_pos e,e];exact Option.isSome_map
  ·rw [if_neg e]
 generalize putP P s.id s.pa s.lf (!noneB s.s) s.s (limN s.u)=Q at *
 refine⟨h2,hinv,⟨fun id c hc=>?_,fun id c hc=>?_,fun id c x hc hx=>?_,fun id c hc=>?_,fun id c hc=>?_⟩,?_,fun id c hc=>?_,fun id h0=>?_,fun id c s' h0 hc hs'=>?_,fun id=>?_⟩
 ·rw [hlook] at hc
  split at hc
  ·cases hc;unfold cls0;dsimp only;omega
  ·split at hc
   ·cases hc;exact h.num.tot s.pa p hp
   ·exact h.num.tot id c hc
 ·rw [hlook] at hc
  split at hc
  ·cases hc;exact Nat.zero_le _
  ·split at hc
   ·cases hc;have:=h.num.few _ _ hp;show p.tr.length≤n+1;omega
   ·have:=h.num.few id c hc;omega
 ·rw [hlook] at hc
  split at hc
  ·cases hc;exact limZ _ _ x hx
  ·split at hc
   ·cases hc;exact (h.num.lim _ _ x hp hx).mono (Nat.le_succ _)
   ·exact (h.num.lim id c x hc hx).mono (Nat.le_succ _)
 ·rw [hlook] at hc
  split at hc
  ·cases hc;exact famZ_0
  ·split at hc
   ·cases hc
    dsimp only
    split
    ·exact famZ_add (h.num.fam _ _ hp) _ _
    ·exact (h.num.fam _ _ hp).mono (Nat.le_succ _)
   ·exact (h.num.fam id c hc).mono (Nat.le_succ _)
 ·rw [hlook] at hc
  split at hc
  ·cases hc;unfold cls0;dsimp only;omega
  ·split at hc
   ·cases hc;have:=h.num.un _ _ hp;dsimp only;omega
   ·have:=h.num.un id c hc;omega
 ·rw [hlenQ,put_len_newH hno];have:=h.len;omega
 ·by_cases e:id=s.id
  ·omega
  ·rw [look_put_other _ e] at hc;exact h.ids id c hc
 ·rw [hlook]
  by_cases e:id=s.id
  ·rw [if_pos e,e,look_put_same];rfl
  ·rw [if_neg e,look_put_other _ e]
   by_cases e2:id=s.pa
   ·have:=h.is id h0
    rw [e2,hp] at this
    rw [if_pos e2,e2];exact this
   ·rw [if_neg e2];exact h.is id h0
 ·rw [hlook] at hc
  by_cases e:id=s.id
  ·rw [if_pos e] at hc
   rw [e,look_put_same] at hs'
   cases hc
   cases hs'
   rw [if_pos e]
   exact⟨⟨rfl,rfl,rfl⟩,rfl⟩
  ·rw [if_neg e] at hc ⊢
   rw [look_put_other _ e] at hs'
   by_cases e2:id=s.pa
   ·rw [if_pos e2] at hc
    cases hc
    obtain⟨r,ht⟩:=h.rel id p s' h0 (by rw [e2];exact hp) hs'
    exact⟨⟨r.pa,r.lf,r.sh⟩,ht⟩
   ·rw [if_neg e2] at hc
    exact h.rel id c s' h0 hc hs'
 ·have:=h.sent id
  by_cases e:id=s.id
  ·rw [if_pos e];omega
  ·rw [if_neg e];exact this
theorem GInv.drop (h:GInv n k P M wt sent) {id:Int} {s:Cl} {c:Cls} (hs:lookM M id=some s)(hc:lookM P id=some c)(hk:kids M id=[])(haw:awP P id=false) :
  GInv (n+1) k (dropP P id c.pa) (delM M id) wt sent∧(dropM M id)=(0,delM M id):=by
 have h0:=h.ne hs
 have h1:=(h.inv.pos hs).1
 obtain⟨p,hp,_,_⟩:=h.all.wf.par id c hc h0
 have hno:∀ x,paP P x=some id→x=0∨x=id:=fun x hx=>by
  by_cases e:x=0
  ·exact .inl e
  ·have:=(h.kid (q:=id) (x:=x)).2 ⟨hx,e⟩
   rw [hk] at this;cases this
 have h2:=drop_inv h.all (by omega) hc hp haw hno
 have hlook:=drop_look (id:=id) hp
 have hdm:dropM M id=(0,delM M id):=by unfold dropM;rw [hs];dsimp only;rw [if_pos hk]
 have hinv:=h.inv.drop id
 rw [hdm] at hinv
 have hpne:c.pa≠id:=fun e=>by
  rcases hno id (by rw [paP_of hc,e]) with k | _
  ·omega
  ·obtain⟨_,_,_,hd⟩:=h.all.wf.par id c hc h0
   rw [e] at hd;omega
 refine⟨?_,hdm⟩
 have hlenQ:(dropP P id c.pa).length+1=P.length:=by
  unfold dropP
  have hR:=rising_upd h.all.wf.rise c.pa fun p:Cls=>{ p with fam:=outF id p.fam,un:=p.un - 1 }
  obtain⟨c',hc'⟩:∃ c',lookM (updP P c.pa fun p=>{ p with fam:=outF id p.fam,un:=p.un - 1 }) id=some c':=by
   rw [look_upd,if_neg (fun e=>hpne e.symm)];exact⟨c,hc⟩
  rw [del_len hR hc']
  refine GInv.put_len h.all.wf.rise hR fun j=>?_
  rw [look_upd]
  by_cases e:j=c.pa
  ·rw [if_pos e,e];exact Option.isSome_map
  ·rw [if_neg e]
 have hlenM:=del_len h.inv.rise hs
 have h3:=h2.deep (dp':=dep (delM M id)) fun j c' hj=>by
  rw [hlook] at hj
  have e:j≠id:=fun e=>by rw [if_pos e] at hj;cases hj
  unfold dep
  rw [look_del_other e]
 generalize dropP P id c.pa=Q at *
 refine⟨h3,hinv,⟨fun j c' hc'=>?_,fun j c' hc'=>?_,fun j c' x hc' hx=>?_,fun j c' hc'=>?_,fun j c' hc'=>?_⟩,?_,fun j c' hc'=>?_,fun j hj=>?_,fun j c' s' hj hc' hs'=>?_,h.sent⟩
 ·rw [hlook] at hc'
  split at hc'
  ·cases hc'
  ·split at hc'
   ·cases hc';exact h.num.tot c.pa p hp
   ·exact h.num.tot j c' hc'
 ·rw [hlook] at hc'
  split at hc'
  ·cases hc'
  ·split at hc'
   ·cases hc';have:=h.num.few _ _ hp;show p.tr.length≤n+1;omega
   ·have:=h.num.few j c' hc';omega
 ·rw [hlook] at hc'
  split at hc'
  ·cases hc'
  ·split at hc'
   ·cases hc';exact (h.num.lim _ _ x hp hx).mono (Nat.le_succ _)
   ·exact (h.num.lim j c' x hc' hx).mono (Nat.le_succ _)
 ·rw [hlook] at hc'
  split at hc'
  ·cases hc'
  ·split at hc'
   ·cases hc';exact (famZ_out (h.num.fam _ _ hp) _).mono (Nat.le_succ _)
   ·exact (h.num.fam j c' hc').mono (Nat.le_succ _)
 ·rw [hlook] at hc'
  split at hc'
  ·cases hc'
  ·split at hc'
   ·cases hc';have:=h.num.un _ _ hp;dsimp only;omega
   ·have:=h.num.un j c' hc';omega
 ·have:=h.len;omega
 ·have e:j≠id:=fun e=>by rw [e,look_del_same] at hc';cases hc'
  rw [look_del_other e] at hc';exact h.ids j c' hc'
 ·rw [hlook]
  by_cases e:j=id
  ·rw [if_pos e,e,look_del_same];rfl
  ·rw [if_neg e,look_del_other e]
   by_cases e2:j=c.pa
   ·have:=h.is j hj
    rw [e2,hp] at this
    rw [if_pos e2,e2];exact this
   ·rw [if_neg e2];exact h.is j hj
 ·rw [hlook] at hc'
  have e:j≠id:=fun e=>by rw [if_pos e] at hc';cases hc'
  rw [if_neg e] at hc'
  rw [look_del_other e] at hs'
  by_cases e2:j=c.pa
  ·rw [if_pos e2] at hc'
   cases hc'
   obtain⟨r,ht⟩:=h.rel j p s' hj (by rw [e2];exact hp) hs'
   exact⟨⟨r.pa,r.lf,r.sh⟩,ht⟩
  ·rw [if_neg e2] at hc'
   exact h.rel j c' s' hj hc' hs'
theorem GInv.renew (h:GInv n k P M wt sent) {s:Sp} {c:Cls} (hw:WfSp s)(hc:lookM P s.id=some c)(hok:(changeM M s).1=0)(haw:awP P s.id=false)(hwt:wt s.id=false) :
  GInv (n+1) k (renewP P s.id c.pa (!noneB s.s) s.s (limN s.u)) (changeM M s).2 wt (fun j=>if j=s.id then 0 else sent j)∧okC s.s=true∧okC s.u=true:=by
 obtain⟨s0,hs,hm,hM⟩:=changeM_ok hok
 have h0:=h.ne hs
 have hsm:=may_shared hm
 obtain⟨r0,_⟩:=h.rel s.id c s0 h0 hc hs
 have hinv:=h.inv.change hw
 rw [hM] at hinv ⊢
 have h1:=(h.inv.pos hs).1
 obtain⟨p,hp,_,hdp⟩:=h.all.wf.par s.id c hc h0
 have hpne:c.pa≠s.id:=fun e=>by rw [e] at hdp;omega
 have h2:=renew_inv (sh:=!noneB s.s) (share:=s.s) (lim:=limN s.u) h.all (by omega) hc hp haw (fun _ _=>hwt) (fun hl=>by
  have:noneB s.s=false:=hsm.2.2 (by rw [withC_lf,← r0.lf,hl])
  rw [this];rfl)
 have hlook:=renew_look (sh:=!noneB s.s) (share:=s.s) (lim:=limN s.u) hc hp hpne
 refine⟨?_,hsm.1,hsm.2.1⟩
 have hdm:∀ j,dep (putM M s.id (withC s0.1 s,s0.2)) j=dep M j:=fun j=>by
  by_cases e:j=s.id
  ·rw [e,dep_of (look_put_same _ _ _),dep_of hs]
  ·unfold dep;rw [look_put_other _ e]
 have h3:=h2.deep (dp':=dep (putM M s.id (withC s0.1 s,s0.2))) fun j c' hj=>hdm j
 have hlenQ:(renewP P s.id c.pa (!noneB s.s) s.s (limN s.u)).length=P.length:=by
  refine GInv.put_len h.all.wf.rise h3.wf.rise fun j=>?_
  rw [hlook]
  by_cases e:j=s.id
  ·rw [if_pos e,e,hc];rfl
  ·rw [if_neg e]
   by_cases e2:j=c.pa
   ·rw [if_pos e2,e2,hp];rfl
   ·rw [if_neg e2]
 generalize renewP P s.id c.pa (!noneB s.s) s.s (limN s.u)=Q at *
 refine⟨h3,hinv,⟨fun j c' hc'=>?_,fun j c' hc'=>?_,fun j c' x hc' hx=>?_,fun j c' hc'=>?_,fun j c' hc'=>?_⟩,?_,fun j c' hc'=>?_,fun j hj=>?_,fun j c' s' hj hc' hs'=>?_,fun j=>?_⟩
 ·rw [hlook] at hc'
  split at hc'
  ·cases hc';dsimp only;omega
  ·split at hc'
   ·cases hc';exact h.num.tot c.pa p hp
   ·exact h.num.tot j c' hc'
 ·rw [hlook] at hc'
  split at hc'
  ·cases hc';have:=h.num.few _ _ hc;show c.tr.length≤n+1;omega
  ·split at hc'
   ·cases hc';have:=h.num.few _ _ hp;show p.tr.length≤n+1;omega
   ·have:=h.num.few j c' hc';omega
 ·rw [hlook] at hc'
  split at hc'
  ·cases hc';exact limZ _ _ x hx
  ·split at hc'
   ·cases hc';exact (h.num.lim _ _ x hp hx).mono (Nat.le_succ _)
   ·exact (h.num.lim j c' x hc' hx).mono (Nat.le_succ _)
 ·rw [hlook] at hc'
  split at hc'
  ·cases hc';exact (h.num.fam _ _ hc).mono (Nat.le_succ _)
  ·split at hc'
   ·cases hc'
    dsimp only
    split
    ·exact famZ_add (famZ_out (h.num.fam _ _ hp) _) _ _
    ·exact (famZ_out (h.num.fam _ _ hp) _).mono (Nat.le_succ _)
   ·exact (h.num.fam j c' hc').mono (Nat.le_succ _)
 ·rw [hlook] at hc'
  split at hc'
  ·cases hc';have:=h.num.un _ _ hc;dsimp only;omega
  ·split at hc'
   ·cases hc';have:=h.num.un _ _ hp;dsimp only;omega
   ·have:=h.num.un j c' hc';omega
 ·rw [hlenQ,put_len_same h.inv.rise hs];exact h.len
 ·by_cases e:j=s.id
  ·rw [e];exact h.ids _ _ hs
  ·rw [look_put_other _ e] at hc';exact h.ids j c' hc'
 ·rw [hlook]
  by_cases e:j=s.id
  ·rw [if_pos e,e,look_put_same];rfl
  ·rw [if_neg e,look_put_other _ e]
   by_cases e2:j=c.pa
   ·have:=h.is j hj
    rw [e2,hp] at this
    rw [if_pos e2,e2];exact this
   ·rw [if_neg e2];exact h.is j hj
 ·rw [hlook] at hc'
  by_cases e:j=s.id
  ·rw [if_pos e] at hc'
   rw [e,look_put_same] at hs'
   cases hc'
   cases hs'
   rw [if_pos e]
   exact⟨⟨r0.pa,r0.lf,rfl⟩,rfl⟩
  ·rw [if_neg e] at hc' ⊢
   rw [look_put_other _ e] at hs'
   by_cases e2:j=c.pa
   ·rw [if_pos e2] at hc'
    cases hc'
    obtain⟨r,ht⟩:=h.rel j p s' hj (by rw [e2];exact hp) hs'
    exact⟨⟨r.pa,r.lf,r.sh⟩,ht⟩
   ·rw [if_neg e2] at hc'
    exact h.rel j c' s' hj hc' hs'
 ·have:=h.sent j
  by_cases e:j=s.id
  ·rw [if_pos e];omega
  ·rw [if_neg e];exact this
end
end
section
open Go.RowKit Go.Maps
attribute [local go_sem ↓] Go.wp_at_zero Go.wp_at_succ
attribute [local go_sem] quietR quietAtR quietUponR midAt midUpon
theorem wpList_insert {P:Program} (w w1:World) {ops:Array Oper} {rest:List Oper} {o:Oper} {a:Act} {Q:Exit→Act→World→Prop} (hg:o.guard=none)(m x v:Operand)(t:TypeId)(hop:o.op=Op.insert t m x v) {vm vx vv:Value}
  (hm:a.eval m=vm) (hx:a.eval x=vx) (hv:a.eval v=vv) (hrun:(Instr.mapUpdate t vm vx vv).run P w=.ok () w1) (h:wpList P ops Q rest (a.put o.dst undef) w1):wpList P ops Q (o :: rest) a w:=by
 refine wpList_plain hg fun K' hK'=>?_
 unfold Oper.wp
 simp [execOp,hop,hm,hx,hv,hrun,Result.andThen]
 exact hK' _ _ h
def pk0:Pk:=[(0,⟨0,false,false,0,none,fam0,[],0⟩)]
theorem cls_made {w0 W:World} {A:Nat→Prop} {p q f:Nat} {c:Cls} {R:Ob} {l:Option Nat} (h:Sx w0 A W (Star (BoxO p 65 (clsC c l f q)) (Star (TrO q c.tr) (Star (FamO f c.fam) (Star (LimX l c.lim) R))))):Sx w0 A W (Star (ClsO p c) R):=by
 have h1:Sx w0 A W (Star (BoxO p 65 (clsC c l f q)) (Star (LimX l c.lim) (Star (FamO f c.fam) (Star (TrO q c.tr) R)))):=h.weak fun h=>h.under fun h=>(Star.swap (h.under Star.swap)).under Star.swap
 refine h1.weak fun h=>?_
 have h2:=Star.unassoc (Star.under h fun h=>Star.unassoc (h.under Star.unassoc))
 exact h2.over fun h=>⟨l,f,q,h⟩
theorem pk_laid {w0 W W':World} {A:Nat→Prop} {k mb p:Nat} {ps:Int→Nat} {P:Pk} {id:Int} {c:Cls} {E:Ob} (hE:Good E)(hn:lookM P id=none)
  (h:Sx w0 A W (Star (ClsO p c) (Star E (PkX k mb ps P)))) (hm:MapI Tryz.prog 3 W' mb (putM (ptV ps P) id (.pointer (some ⟨p,0,none⟩)))) (ht:W.mapTurned W' mb):Sx w0 A W' (Star E (PkX k mb (fun j=>if j=id then p else ps j) (putM P id c))):=by
 have h1:Sx w0 A W (Star (MapO mb (ptV ps P)) (Star (ClsO p c) (Star E (Star (BoxO k 68 #[.map (some mb)]) (StarL (fun q=>ClsO (ps q.1) q.2) P))))):=(h.swap3.swap2.swap)
 have hR:Rising P:=by
  obtain⟨S,hs⟩:=h1.first
  exact rising_pt.1 (hs.1.rising (int_keyed Tryz.underlying3))
 have h2:=h1.turn ((good_cls _ _).star (hE.star ((good_box _ _ _).star (good_starL (fun q=>good_cls _ _) _)))) hm ht
 have h3:Sx w0 A W' (Star E (Star (BoxO k 68 #[.map (some mb)]) (Star (MapO mb (putM (ptV ps P) id (.pointer (some ⟨p,0,none⟩)))) (Star (ClsO p c) (StarL (fun q=>ClsO (ps q.1) q.2) P))))):=h2.weak fun h=>(Star.swap (h.under fun h=>(Star.swap h).under Star.swap)).under Star.swap
 refine h3.weak fun {S} h=>h.under fun h=>?_
 have hne:∀ q∈P,q.1≠id:=look_none.1 hn
 have e1:ptV (fun j=>if j=id then p else ps j) (putM P id c)=putM (ptV ps P) id (.pointer (some ⟨p,0,none⟩)):=by
  rw [put_pt (ps:=ps) hR fun q hq hk=>if_neg hk,if_pos rfl]
 refine h.under fun h=>(h.over fun h=>?_).under fun h=>?_
 ·show MapO mb (ptV _ (putM P id c)) _ _
  rw [e1];exact h
 ·refine (starL_put hR).2 ?_
  rw [del_none hn]
  refine (h.over fun h=>?_).under fun h=>starL_congr (fun q hq S hs=>?_) h
  ·show ClsO (if id=id then p else ps id) c _ _
   rw [if_pos rfl];exact h
  ·show ClsO (if q.1=id then p else ps q.1) q.2 _ _
   rw [if_neg (hne q hq)];exact hs
theorem pnew_any (w:World):Calls Tryz.prog 7 #[] w (NewO w fun k=>PkO k pk0):=by
 have hmm:=@run_makeMap Tryz.prog
 have h1:Sx w (fun _=>False) (w.alloc (.map #[] 0)) (Star (MapO w.heap.size []) Emp) :=
  (Sx.start (P:=Emp) (fun b h=>h)).made (S:=fun b=>b=w.heap.size) good_emp (good_map _ _) ((Below.refl w.heap.size w).alloc (Nat.le_refl _) (.map #[] 0)) ⟨MapI.made w,fun b=>Iff.rfl⟩ fun b hb=>by rw [hb];exact Nat.le_refl _
 have H1:=Lib.hid h1
 have hst:∀ f q w3,Sx w (fun _=>False) w3 (Star (TrO q []) (Star (FamO f fam0) (Star (MapO w.heap.size []) Emp)))→∃ W5,(Instr.mapUpdate 66 (.map (some w.heap.size)) (.int .i64 0) (.pointer (some ⟨w3.heap.size,0,none⟩))).run Tryz.prog (w3.alloc (.cells #[.int .i64 0,.bool false,.bool false,.int .u64 0,.pointer none,.pointer (some ⟨f,0,none⟩),.pointer (some ⟨q,0,none⟩),.int .i64 0] 65))=.ok () W5 ∧
   Sx w (fun _=>False) (W5.alloc (.cells #[.map (some w.heap.size)] 68)) (PkO W5.heap.size pk0):=fun f q w3 h3=>by
  obtain⟨c0,hc0⟩:∃ c0:Cls,c0=⟨0,false,false,0,none,fam0,[],0⟩:=⟨_,rfl⟩
  have h4:=h3.alloc ((good_tr _ _).star ((good_fam _ _).star ((good_map _ _).star good_emp))) (clsC c0 none f q) 65
  have h5:Sx w (fun _=>False) (w3.alloc (.cells (clsC c0 none f q) 65)) (Star (BoxO w3.heap.size 65 (clsC c0 none f q)) (Star (TrO q c0.tr) (Star (FamO f c0.fam) (Star (LimX none c0.lim) (Star (MapO w.heap.size []) Emp))))):=by
   subst hc0
   exact h4.weak fun h=>h.under fun h=>h.under fun h=>h.under fun h=>⟨fun _=>False,_,fun b=>by simp,fun b h=>h.elim,⟨rfl,fun b h=>h⟩,h⟩
  have h6:=(cls_made h5).swap
  obtain⟨S6,hS6⟩:=h6.first
  obtain⟨W5,hr5,hm5,ht5⟩:=hS6.1.store (k:=0) (E:=58) (T:=66) Tryz.underlying3 Tryz.underlying66 (by decide) (by decide) (.pointer (some ⟨w3.heap.size,0,none⟩))
  subst hc0
  refine⟨W5,hr5,?_⟩
  have h7:=h6.turn ((good_cls _ _).star good_emp) hm5 ht5
  have h8:=h7.alloc ((good_map _ _).star ((good_cls _ _).star good_emp)) #[.map (some w.heap.size)] 68
  exact h8.weak fun h=>⟨w.heap.size,fun _=>w3.heap.size,h⟩
 have HST:=Lib.hid hst
 clear hst h1
 go_enter Tryz.func7,Tryz.ntmps7
 go_wp2_with (first
  | (go_at_call 31;refine (fo_new _).mono ?_;rintro e w2 hw2;obtain⟨f,rfl,h2⟩:=H1.out.new ((good_map _ _).star good_emp) (fun q=>good_fam q _) hw2;have H2:=Lib.hid h2;clear h2 hw2)
  | (go_at_call 32;refine (tr_new _).mono ?_;rintro e w3 hw3;obtain⟨q,rfl,h3⟩:=H2.out.new ((good_fam _ _).star ((good_map _ _).star good_emp)) (fun q=>good_tr q _) hw3;obtain⟨W5,hr5,h5⟩:=HST.out f q w3 h3;have H5:=Lib.hid h5;clear h3 hw3 h5)
  | (refine wpList_insert _ _ rfl _ _ _ _ rfl rfl rfl rfl hr5 ?_))
 go_ret
 obtain⟨S,hs,hw⟩:=H5.out
 exact⟨_,rfl,⟨hw.fr.os,hw.fr.tape,hw.fr.output,hw.fr.size,fun b hb=>hw.fr.block b hb fun h=>h⟩,S,hs,fun b hb=>(hw.own b hb).elim (fun h=>h.elim) id⟩
def shB (s:Sp):Bool:=!noneB s.s && okC s.s
theorem shares_any (s:Sp)(W:World)(hw:WfSp s):Calls Tryz.prog 35 #[spV s] W fun e W'=>e=.returned (.bool (shB s))∧Below W.heap.size W W':=by
 have hX:=Blk.new W 32 (spC s)
 have hb:=(Below.refl W.heap.size W).alloc (Nat.le_refl _) (.cells (spC s) 32)
 have hc1:=fun W=>cnoneH_any s.s.1 s.s.2.1 s.s.2.2 W
 have hc2:=fun W=>may_any s.s.1 s.s.2.1 s.s.2.2 W hw.2.2.1.2.1.1
 unfold spV spC at *
 have HX:=Lib.hid hX
 have HC2:=Lib.hid hc2
 unfold shB okC
 clear hw hX hc2
 generalize hn:noneB s.s=n at hc1 ⊢
 clear hn
 cases n with
 | true =>
  go_enter Tryz.func35,Tryz.ntmps35
  go_wp2_with (go_at_call 81;refine (hc1 _).mono ?_;rintro e w1 ⟨rfl,hb1⟩;have HB1:=Lib.hid (hb.trans (hb1.mono hb.size));clear hb1)
  go_ret
  exact⟨rfl,HB1.out⟩
 | false =>
  go_enter Tryz.func35,Tryz.ntmps35
  go_wp2_with (first
   | (go_at_call 81;refine (hc1 _).mono ?_;rintro e w1 ⟨rfl,hb1⟩;have n1:=HX.out.below hb1 HX.out.lt;have a6:=n1.cell 6;have a7:=n1.cell 7;have a8:=n1.cell 8;simp only [lTA,lCZ,lCS] at a6 a7 a8;have HB1:=Lib.hid (hb.trans (hb1.mono hb.size));clear hb1 n1)
   | (go_at_call 82;refine (HC2.out _).mono ?_;rintro e w2 ⟨rfl,hb2⟩;have HB2:=Lib.hid (HB1.out.trans (hb2.mono HB1.out.size));clear hb2))
  go_ret
  exact⟨by simp,HB2.out⟩
end
section
open Go.RowKit Go.Maps
def TreO (g:Nat)(M:Mp):Ob:=fun W S=>∃ ma mu,TO g ma mu M W S
theorem good_treO (g:Nat)(M:Mp):Good (TreO g M) :=
 ⟨fun ⟨ma,mu,h⟩ b hb=>(good_tree _ _ _ _).lt h b hb,fun ⟨ma,mu,h⟩ hs hk=>⟨ma,mu,(good_tree _ _ _ _).kept h hs hk⟩⟩
section
variable {W W' : World} {g ma mu : Nat} {M : Mp}
theorem tro_turn {U:List (Int × Value)} (h:TreeX W 0 g ma mu U M) {A:Nat→Prop} (hA:∀ b,A b↔b=g∨own ma mu U b) {r:Int × Mp} {e:Ending} (ha:ActW W 0 g ma mu U r e W'):e=.returned (.int .i64 r.1)∧∃ A',TreO g r.2 W' A'∧Went W W' A A':=by
 obtain⟨U',he,ht,hfr,hown⟩:=ha
 refine⟨he,fun b=>b=g∨own ma mu U' b,⟨ma,mu,U',ht,fun b=>Iff.rfl⟩,hfr.weak fun b _ hb=>(hA b).2 (.inr hb),fun b hb=>?_⟩
 rcases hb with rfl | hb
 ·exact .inl ((hA b).2 (.inl rfl))
 ·exact (hown b hb).imp (fun h=>(hA b).2 (.inr h)) id
theorem tro_add (s:Sp)(hw:WfSp s):Acts (fun e=>e=.returned (.int .i64 (addM M s).1)) (TreO g M) (TreO g (addM M s).2) 107 #[.pointer (some ⟨g,0,none⟩),spV s] Tryz.prog W:=fun A ⟨ma,mu,U,h,hA⟩ =>
 (tadd_any s 0 g ma mu U M W hw h).mono fun e W' ha=>tro_turn h hA ha
theorem tro_change (s:Sp)(hw:WfSp s):Acts (fun e=>e=.returned (.int .i64 (changeM M s).1)) (TreO g M) (TreO g (changeM M s).2) 105 #[.pointer (some ⟨g,0,none⟩),spV s] Tryz.prog W:=fun A ⟨ma,mu,U,h,hA⟩ =>
 (tchange_any s 0 g ma mu U M W hw h).mono fun e W' ha=>tro_turn h hA ha
theorem tro_drop (id:Int)(hid:(Lit.int .i64 id).wf=true):Acts (fun e=>e=.returned (.int .i64 (dropM M id).1)) (TreO g M) (TreO g (dropM M id).2) 109 #[.pointer (some ⟨g,0,none⟩),.int .i64 id] Tryz.prog W:=fun A ⟨ma,mu,U,h,hA⟩ =>
 (tdrop_any id 0 g ma mu U M W hid h).mono fun e W' ha=>tro_turn h hA ha
theorem tro_get (id:Int)(hid:(Lit.int .i64 id).wf=true) {S:Nat→Prop} (h:TreO g M W S):Calls Tryz.prog 26 #[.pointer (some ⟨g,0,none⟩),.int .i64 id] W (GetW W M id):=by
 obtain⟨ma,mu,U,h,_⟩:=h
 exact tget_any id 0 g ma mu U M W hid h
theorem tro_ids {S:Nat→Prop} (h:TreO g M W S):Calls Tryz.prog 25 #[.pointer (some ⟨g,0,none⟩)] W (IdsW W (M.map (·.1))):=by
 obtain⟨ma,mu,U,h,_⟩:=h
 exact tids_any 0 g ma mu U M W h
theorem tro_under (id:Int)(hid:(Lit.int .i64 id).wf=true) {S:Nat→Prop} (h:TreO g M W S):Calls Tryz.prog 22 #[.pointer (some ⟨g,0,none⟩),.int .i64 id] W (IdsW W (kids M id)):=by
 obtain⟨ma,mu,U,h,_⟩:=h
 exact tunder_any id 0 g ma mu U M W hid h
theorem tro_path (id:Int)(hid:(Lit.int .i64 id).wf=true) {S:Nat→Prop} (h:TreO g M W S):Calls Tryz.prog 29 #[.pointer (some ⟨g,0,none⟩),.int .i64 id] W (IdsW W (pathM M id)):=by
 obtain⟨ma,mu,U,h,_⟩:=h
 exact tpath_any id 0 g ma mu U M W hid h
theorem tro_leaves (id:Int)(hid:(Lit.int .i64 id).wf=true) {S:Nat→Prop} (h:TreO g M W S):Calls Tryz.prog 28 #[.pointer (some ⟨g,0,none⟩),.int .i64 id] W (IdsW W (leavesM M id)):=by
 obtain⟨ma,mu,U,h,_⟩:=h
 exact tleaves_any 9 id 0 g ma mu U M W hid h (by omega)
theorem TreeX.low0 {base:Nat} {U:List (Int × Value)} (h:TreeX W base g ma mu U M):TreeX W 0 g ma mu U M :=
 ⟨h.blk,h.all,h.und,fun k=>owns_baseH (h.rows k) (Nat.zero_le _),h.apart,Nat.zero_le _,Nat.zero_le _,Nat.zero_le _,h.ne,h.keys,h.inv⟩
end
theorem tro_new (w:World):Calls Tryz.prog 66 #[] w (NewO w fun g=>TreO g []) :=
 (tnew_any w).mono fun e w' ⟨g,ma,mu,he,ht,hb⟩=>⟨g,he,hb,fun b=>b=g∨own ma mu [] b,⟨ma,mu,[],ht.low0,fun b=>Iff.rfl⟩,fun b hb2=>by
  rcases hb2 with rfl | hb2
  ·exact ht.gb
  ·exact (ht.owned hb2).1⟩
end
section
open Go.RowKit Go.Maps
attribute [local go_sem ↓] Go.wp_at_zero Go.wp_at_succ
attribute [local go_sem] quietR quietAtR quietUponR midAt midUpon
def gameC (p t:Nat)(now:Int)(sent:Int→Int)(wt:Int→Bool):Array Value :=
 ([Value.pointer (some ⟨p,0,none⟩),Value.pointer (some ⟨t,0,none⟩),Value.int .u64 now] ++ ((List.range 64).map fun i:Nat=>Value.int .u64 (sent (i:Int))) ++ ((List.range 64).map fun i:Nat=>Value.bool (wt (i:Int)))).toArray
section
variable {p t : Nat} {now : Int} {sent : Int → Int} {wt : Int → Bool} {i : Nat}
theorem game_p:(gameC p t now sent wt)[0]?=some (.pointer (some ⟨p,0,none⟩)):=rfl
theorem game_t:(gameC p t now sent wt)[1]?=some (.pointer (some ⟨t,0,none⟩)):=rfl
theorem game_now:(gameC p t now sent wt)[2]?=some (.int .u64 now):=rfl
theorem game_sent (hi:i < 64):(gameC p t now sent wt)[3+i]?=some (.int .u64 (sent i)):=by
 unfold gameC
 rw [List.getElem?_toArray,List.getElem?_append_left (by simp;omega),List.getElem?_append_right (by simp),List.length_cons,List.length_cons,List.length_cons,List.length_nil]
 rw [show 3+i - (0+1+1+1)=i by omega,List.getElem?_map,List.getElem?_range hi]
 rfl
theorem game_wait (hi:i < 64):(gameC p t now sent wt)[67+i]?=some (.bool (wt i)):=by
 unfold gameC
 rw [List.getElem?_toArray,List.getElem?_append_right (by simp)]
 simp only [List.length_append,List.length_cons,List.length_nil,List.length_map,List.length_range]
 rw [show 67+i - (0+1+1+1+64)=i by omega,List.getElem?_map,List.getElem?_range hi]
 rfl
theorem game_size:(gameC p t now sent wt).size=131:=by
 unfold gameC
 simp
theorem game_ext {cs:Array Value} {p t:Nat} {now:Int} {sent:Int→Int} {wt:Int→Bool} (hs:cs.size=131)(h0:cs[0]?=some (.pointer (some ⟨p,0,none⟩)))(h1:cs[1]?=some (.pointer (some ⟨t,0,none⟩)))(h2:cs[2]?=some (.int .u64 now))
  (h3:∀ i,i < 64→cs[3+i]?=some (.int .u64 (sent i))) (h4:∀ i,i < 64→cs[67+i]?=some (.bool (wt i))):cs=gameC p t now sent wt:=by
 refine Array.ext_getElem? fun k=>?_
 by_cases e0:k=0
 ·rw [e0,h0,game_p]
 by_cases e1:k=1
 ·rw [e1,h1,game_t]
 by_cases e2:k=2
 ·rw [e2,h2,game_now]
 by_cases e3:k < 67
 ·obtain⟨i,rfl⟩:∃ i,k=3+i:=⟨k - 3,by omega⟩
  rw [h3 i (by omega),game_sent (by omega)]
 by_cases e4:k < 131
 ·obtain⟨i,rfl⟩:∃ i,k=67+i:=⟨k - 67,by omega⟩
  rw [h4 i (by omega),game_wait (by omega)]
 ·rw [Array.getElem?_eq_none (by omega),Array.getElem?_eq_none (by rw [game_size];omega)]
theorem game_set_now {x:Int}:(gameC p t now sent wt).setIfInBounds 2 (.int .u64 x)=gameC p t x sent wt:=by
 refine game_ext (by rw [Array.size_setIfInBounds,game_size]) ?_ ?_ ?_ (fun i hi=>?_) fun i hi=>?_
 ·rw [Array.getElem?_setIfInBounds_ne (by omega),game_p]
 ·rw [Array.getElem?_setIfInBounds_ne (by omega),game_t]
 ·rw [Array.getElem?_setIfInBounds_self_of_lt (by rw [game_size];omega)]
 ·rw [Array.getElem?_setIfInBounds_ne (by omega),game_sent hi]
 ·rw [Array.getElem?_setIfInBounds_ne (by omega),game_wait hi]
theorem game_set_sent {x:Int} (hi:i < 64):(gameC p t now sent wt).setIfInBounds (3+i) (.int .u64 x)=gameC p t now (fun j=>if j=i then x else sent j) wt:=by
 refine game_ext (by rw [Array.size_setIfInBounds,game_size]) ?_ ?_ ?_ (fun k hk=>?_) fun k hk=>?_
 ·rw [Array.getElem?_setIfInBounds_ne (by omega),game_p]
 ·rw [Array.getElem?_setIfInBounds_ne (by omega),game_t]
 ·rw [Array.getElem?_setIfInBounds_ne (by omega),game_now]
 ·by_cases e:k=i
  ·rw [e,Array.getElem?_setIfInBounds_self_of_lt (by rw [game_size];omega)]
   rw [if_pos rfl]
  ·rw [Array.getElem?_setIfInBounds_ne (by omega),game_sent hk]
   rw [if_neg (by omega)]
 ·rw [Array.getElem?_setIfInBounds_ne (by omega),game_wait hk]
theorem game_set_wait {x:Bool} (hi:i < 64):(gameC p t now sent wt).setIfInBounds (67+i) (.bool x)=gameC p t now sent (fun j=>if j=i then x else wt j):=by
 refine game_ext (by rw [Array.size_setIfInBounds,game_size]) ?_ ?_ ?_ (fun k hk=>?_) fun k hk=>?_
 ·rw [Array.getElem?_setIfInBounds_ne (by omega),game_p]
 ·rw [Array.getElem?_setIfInBounds_ne (by omega),game_t]
 ·rw [Array.getElem?_setIfInBounds_ne (by omega),game_now]
 ·rw [Array.getElem?_setIfInBounds_ne (by omega),game_sent hk]
 ·by_cases e:k=i
  ·rw [e,Array.getElem?_setIfInBounds_self_of_lt (by rw [game_size];omega)]
   rw [if_pos rfl]
  ·rw [Array.getElem?_setIfInBounds_ne (by omega),game_wait hk]
   rw [if_neg (by omega)]
end
structure GAct where
 k:Int
 s:Sp
 af:Int
 g:Int
 mo:Bool
def actC (a:GAct):Array Value:=#[.int .u8 a.k,.int .i64 a.s.id,.int .i64 a.s.pa,.bool a.s.lf,.int .u64 a.s.r.1,.int .u64 a.s.r.2.1,.int .u64 a.s.r.2.2,.int .u64 a.s.s.1,.int .u64 a.s.s.2.1,.int .u64 a.s.s.2.2,.int .u64 a.s.u.1,.int .u64 a.s.u.2.1,.int .u64 a.s.u.2.2,.int .i64 a.s.pk,.int .i64 a.s.by_,.int .u64 a.af,.int .u64 a.g,.bool a.mo]
def actV (a:GAct):Value:=.agg (actC a)
structure WfA (a:GAct):Prop where
 k:0≤a.k∧a.k≤255
 s:WfSp a.s
 af:U a.af
 g:U a.g
def GamO (g p t:Nat)(now:Int)(P:Pk)(M:Mp)(sent:Int→Int)(wt:Int→Bool):Ob:=Star (BoxO g 49 (gameC p t now sent wt)) (Star (PkO p P) (TreO t M))
theorem good_gam (g p t:Nat)(now:Int)(P:Pk)(M:Mp)(sent:Int→Int)(wt:Int→Bool):Good (GamO g p t now P M sent wt):=(good_box _ _ _).star ((good_pk _ _).star (good_treO _ _))
end
section
open Go.RowKit Go.Maps
attribute [local go_sem ↓] Go.wp_at_zero Go.wp_at_succ
attribute [local go_sem] quietR quietAtR quietUponR midAt midUpon
theorem put_cells {w0 W:World} {A:Nat→Prop} {B k mb:Nat} {ps:Int→Nat} {P:Pk} {s:Sp} (h:Sx w0 A W (Star (BoxO B 32 (spC s)) (PkX k mb ps P))) :
  W.cell? ⟨k,0,none⟩=some (.map (some mb))∧W.cell? ⟨B,0,none⟩=some (.int .i64 s.id)∧W.cell? ⟨B,1,none⟩=some (.int .i64 s.pa)∧W.cell? ⟨B,2,none⟩=some (.bool s.lf)∧W.cell? ⟨B,3,none⟩=some (.int .u64 s.r.1)∧W.cell? ⟨B,4,none⟩=some (.int .u64 s.r.2.1)∧W.cell? ⟨B,5,none⟩=some (.int .u64 s.r.2.2) ∧
   W.cell? ⟨B,6,none⟩=some (.int .u64 s.s.1)∧W.cell? ⟨B,7,none⟩=some (.int .u64 s.s.2.1)∧W.cell? ⟨B,8,none⟩=some (.int .u64 s.s.2.2)∧W.cell? ⟨B,9,none⟩=some (.int .u64 s.u.1)∧W.cell? ⟨B,10,none⟩=some (.int .u64 s.u.2.1)∧W.cell? ⟨B,11,none⟩=some (.int .u64 s.u.2.2)∧W.cell? ⟨B,12,none⟩=some (.int .i64 s.pk)∧W.cell? ⟨B,13,none⟩=some (.int .i64 s.by_):=by
 obtain⟨S,hS⟩:=h.env
 exact⟨hS.box.cell 0,h.box.cell 0,h.box.cell 1,h.box.cell 2,h.box.cell 3,h.box.cell 4,h.box.cell 5,h.box.cell 6,h.box.cell 7,h.box.cell 8,h.box.cell 9,h.box.cell 10,h.box.cell 11,h.box.cell 12,h.box.cell 13⟩
structure PkG (P:Pk):Prop extends PkB P where
 fam:∀ id c,lookM P id=some c→FamN c.fam
 un:∀ id c,lookM P id=some c→-1000000≤c.un∧c.un≤1000000
 len:P.length < 100000
theorem pput_any {W:World} {k mb:Nat} {ps:Int→Nat} {P:Pk} (s:Sp) {p:Cls} (hw:WfSp s)(hG:PkG P)(h1:1≤s.id)(hn:lookM P s.id=none)(hp:lookM P s.pa=some p)(hpl:p.lf=false)(hnm:lookM p.fam.m s.id=none) :
  Acts (fun e=>e=.returned (.bool true)) (PkX k mb ps P) (PkO k (putP P s.id s.pa s.lf (shB s) s.s (limN s.u))) 9 #[.pointer (some ⟨k,0,none⟩),spV s] Tryz.prog W:=fun A h=>by
 have hid:(Lit.int .i64 s.id).wf=true:=hw.1.1
 have hpa:(Lit.int .i64 s.pa).wf=true:=hw.1.2.1
 have hs0:=(Sx.start (P:=PkX k mb ps P) h).alloc (good_pkX _ _ _ _) (spC s) 32
 have H0:=Lib.hid hs0
 have HC:=Lib.hid (And.intro hw (And.intro hG (And.intro hn (And.intro hp hnm))))
 have HID:=Lib.hid (And.intro hid hpa)
 have hshw:=fun W=>shares_any s W hw
 obtain⟨sb,hsb⟩:∃ sb,shB s=sb:=⟨_,rfl⟩
 simp only [hsb] at hshw ⊢
 have HSB:=Lib.hid hsb
 clear hsb
 have hlim:=fun W=>lim_newO s.u W hw.2.2.2.1.1 hw.2.2.2.2.1.1 hw.2.2.2.2.2.1
 unfold spV spC at *
 clear h hs0 hw hG hid hpa
 go_enter Tryz.func9,Tryz.ntmps9
 go_upto_region 1 with fail
 generalize hW1:W.alloc (.cells #[.int .i64 s.id,.int .i64 s.pa,.bool s.lf,.int .u64 s.r.1,.int .u64 s.r.2.1,.int .u64 s.r.2.2,.int .u64 s.s.1,.int .u64 s.s.2.1,.int .u64 s.s.2.2,.int .u64 s.u.1,.int .u64 s.u.2.1,.int .u64 s.u.2.2,.int .i64 s.pk,.int .i64 s.by_] 32)=W1 at H0 ⊢
 obtain⟨B,hB⟩:∃ B,B=W.heap.size:=⟨_,rfl⟩
 rw [← hB] at H0 ⊢
 clear hB hW1
 obtain⟨k0,b0,b1,b2,b3,b4,b5,b6,b7,b8,b9,b10,b11,b12,b13⟩:=put_cells (s:=s) H0.out
 obtain⟨S1,hS1⟩:=H0.out.env
 have ha1:=pat_any s.pa HID.out.2 hS1
 have ha2:=pat_any s.id HID.out.1 hS1
 unfold cpV at ha1 ha2
 rw [hp] at ha1
 rw [hn] at ha2
 dsimp only at ha1 ha2
 obtain⟨lp,fp,qp,hr⟩:=hS1.cls hp
 have c1:=hr.blk.cell 1
 unfold clsC at c1
 rw [hpl] at c1
 simp only [lTA,lCZ,lCS] at c1
 clear hS1 hr hn hp hnm hpl
 go_upto_region 4 with (first
  | (go_at_call 34;with_reducible refine ha1.mono ?_;rintro e w1 ⟨rfl,rfl⟩;clear ha1)
  | (go_at_call 34;with_reducible refine ha2.mono ?_;rintro e w1 ⟨rfl,rfl⟩;clear ha2))
 clear k0 b0 b1 b2 b3 b4 b5 b6 b7 b8 b9 b10 b11 b12 b13 c1
 have hst:∀ l f q w6,Sx W A w6 (Star (TrO q []) (Star (FamO f fam0) (Star (LimO l (limN s.u)) (Star (BoxO B 32 (spC s)) (PkX k mb ps P))))) →
   ∃ W7,(Instr.mapUpdate 66 (.map (some mb)) (.int .i64 s.id) (.pointer (some ⟨w6.heap.size,0,none⟩))).run Tryz.prog (w6.alloc (.cells #[.int .i64 s.pa,.bool s.lf,.bool sb,.int .u64 0,.pointer (some ⟨l,0,none⟩),.pointer (some ⟨f,0,none⟩),.pointer (some ⟨q,0,none⟩),.int .i64 0] 65))=.ok () W7 ∧
    Sx W A W7 (Star (BoxO B 32 (spC s)) (PkX k mb (fun j=>if j=s.id then w6.heap.size else ps j) (putM P s.id (cls0 s.pa s.lf sb (limN s.u))))):=fun l f q w6 h6=>by
  obtain⟨c0,hc0⟩:∃ c0:Cls,c0=cls0 s.pa s.lf sb (limN s.u):=⟨_,rfl⟩
  have h7:=h6.alloc ((good_tr _ _).star ((good_fam _ _).star ((good_lim _ _).star ((good_box _ _ _).star (good_pkX _ _ _ _))))) (clsC c0 (some l) f q) 65
  have h8:Sx W A (w6.alloc (.cells (clsC c0 (some l) f q) 65)) (Star (BoxO w6.heap.size 65 (clsC c0 (some l) f q)) (Star (TrO q c0.tr) (Star (FamO f c0.fam) (Star (LimX (some l) c0.lim) (Star (BoxO B 32 (spC s)) (PkX k mb ps P)))))):=by
   subst hc0
   exact h7
  have h9:=cls_made h8
  obtain⟨S9,hS9⟩:=h9.rest.env
  obtain⟨W7,hr7,hm7,ht7⟩:=hS9.map.store (k:=s.id) (E:=58) (T:=66) Tryz.underlying3 Tryz.underlying66 HID.out.1 (by unfold ptV;rw [List.length_map];have:=HC.out.2.1.len;unfold maxLen;omega) (.pointer (some ⟨w6.heap.size,0,none⟩))
  subst hc0
  exact⟨W7,hr7,pk_laid (good_box _ _ _) HC.out.2.2.1 h9 hm7 ht7⟩
 unfold spC at hst
 have HST:=Lib.hid hst
 clear hst
 have s1:=put_cells (s:=s) H0.out
 go_region_held3 (fun W'=>W'.cell? ⟨k,0,none⟩=some (.map (some mb))∧W'.cell? ⟨B,0,none⟩=some (.int .i64 s.id)∧W'.cell? ⟨B,1,none⟩=some (.int .i64 s.pa)∧W'.cell? ⟨B,2,none⟩=some (.bool s.lf)∧W'.cell? ⟨B,3,none⟩=some (.int .u64 s.r.1)∧W'.cell? ⟨B,4,none⟩=some (.int .u64 s.r.2.1)∧W'.cell? ⟨B,5,none⟩=some (.int .u64 s.r.2.2)∧W'.cell? ⟨B,6,none⟩=some (.int .u64 s.s.1)∧W'.cell? ⟨B,7,none⟩=some (.int .u64 s.s.2.1)∧W'.cell? ⟨B,8,none⟩=some (.int .u64 s.s.2.2)∧W'.cell? ⟨B,9,none⟩=some (.int .u64 s.u.1)∧W'.cell? ⟨B,10,none⟩=some (.int .u64 s.u.2.1)∧W'.cell? ⟨B,11,none⟩=some (.int .u64 s.u.2.2)∧W'.cell? ⟨B,12,none⟩=some (.int .i64 s.pk)∧W'.cell? ⟨B,13,none⟩=some (.int .i64 s.by_)) (first | exact s1 | exact s3 | exact s4 | exact s5 | exact s6 | exact s7 | exact s8) (first
  | (go_at_call 35;refine (hshw _).mono ?_;rintro e w3 ⟨rfl,hb3⟩;have h3:=(H0.out.later ((good_box _ _ _).star (good_pkX _ _ _ _)) (by first | exact Below.refl _ _ | exact⟨rfl,rfl,rfl,Nat.le_refl _,fun _ _=>rfl⟩)).later ((good_box _ _ _).star (good_pkX _ _ _ _)) hb3;have s3:=put_cells (s:=s) h3;have H3:=Lib.hid h3;clear h3 hb3)
  | (go_at_call 36;refine (hlim _).mono ?_;rintro e w4 hw4;obtain⟨l,rfl,h4⟩:=(H3.out.later ((good_box _ _ _).star (good_pkX _ _ _ _)) (by first | exact Below.refl _ _ | exact⟨rfl,rfl,rfl,Nat.le_refl _,fun _ _=>rfl⟩)).new ((good_box _ _ _).star (good_pkX _ _ _ _)) (fun q=>good_lim q _) hw4;have s4:=put_cells (s:=s) h4.rest;have H4:=Lib.hid h4;clear h4 hw4)
  | (go_at_call 31;refine (fo_new _).mono ?_;rintro e w5 hw5;obtain⟨f,rfl,h5⟩:=(H4.out.later ((good_lim _ _).star ((good_box _ _ _).star (good_pkX _ _ _ _))) (by first | exact Below.refl _ _ | exact⟨rfl,rfl,rfl,Nat.le_refl _,fun _ _=>rfl⟩)).new ((good_lim _ _).star ((good_box _ _ _).star (good_pkX _ _ _ _))) (fun q=>good_fam q _) hw5;have s5:=put_cells (s:=s) h5.rest.rest;have H5:=Lib.hid h5;clear h5 hw5)
  | (go_at_call 32;refine (tr_new _).mono ?_;rintro e w6 hw6;obtain⟨q,rfl,h6⟩:=(H5.out.later ((good_fam _ _).star ((good_lim _ _).star ((good_box _ _ _).star (good_pkX _ _ _ _)))) (by first | exact Below.refl _ _ | exact⟨rfl,rfl,rfl,Nat.le_refl _,fun _ _=>rfl⟩)).new ((good_fam _ _).star ((good_lim _ _).star ((good_box _ _ _).star (good_pkX _ _ _ _)))) (fun q=>good_tr q _) hw6;have s6:=put_cells (s:=s) h6.rest.rest.rest;have s7:=put_cells (s:=s) (h6.alloc ((good_tr _ _).star ((good_fam _ _).star ((good_lim _ _).star ((good_box _ _ _).star (good_pkX _ _ _ _))))) #[.int .i64 s.pa,.bool s.lf,.bool sb,.int .u64 0,.pointer (some ⟨l,0,none⟩),.pointer (some ⟨f,0,none⟩),.pointer (some ⟨q,0,none⟩),.int .i64 0] 65).rest.rest.rest.rest;obtain⟨W7,hr7,h7⟩:=HST.out l f q w6 h6;have s8:=put_cells (s:=s) h7;have H7:=Lib.hid h7;clear h6 hw6 h7))
 clear hlim H3 H4 H5 s1 s3 s4 s5 s6 s7 s8 hr7 HST H0
 have hpne:s.pa≠s.id:=fun e=>by
  have h1:=HC.out.2.2.1
  have h2:=HC.out.2.2.2.1
  rw [e,h1] at h2;cases h2
 obtain⟨P1,hP1⟩:∃ P1,P1=putM P s.id (cls0 s.pa s.lf sb (limN s.u)):=⟨_,rfl⟩
 have hp1:lookM P1 s.pa=some p:=by rw [hP1,look_put_other _ hpne];exact HC.out.2.2.2.1
 have h7:=H7.out
 rw [← hP1] at h7
 obtain⟨ps1,hps1⟩:∃ ps1:Int→Nat,ps1=fun j=>if j=s.id then w6.heap.size else ps j:=⟨_,rfl⟩
 rw [← hps1] at h7
 have hpsa:ps s.pa=ps1 s.pa:=by rw [hps1];exact (if_neg hpne).symm
 rw [hpsa]
 have hfin:∀ c',putM P1 s.pa c'=updP P1 s.pa fun _=>c':=fun c'=>by unfold updP;rw [hp1]
 obtain⟨lp2,fp2,qp2,hf⟩:=h7.focE hp1
 have HP:=Lib.hid (And.intro hp1 hP1)
 have HF:=Lib.hid hf
 clear hP1 h7 hps1 hpsa hp1 H7 hf
 have hun:=HC.out.2.1.un _ _ HC.out.2.2.2.1
 cases sb with
 | false =>
  go_wp2_with (go_at_call 35;refine (hshw _).mono ?_;rintro e w8 ⟨rfl,hb8⟩;have h8:=HF.out.later ((good_box _ _ _).star good_focC) hb8;have c7:=h8.rest.box.cell 7;have f7:=h8.rest.box.frozen 7;unfold clsC at c7;simp only [lTA,lCZ,lCS] at c7;have H8:=Lib.hid h8;clear h8 hb8)
  go_returns
  have h9:=Sx.setE (good_box _ _ _) H8.out (u:=.int .i64 (p.un+1)) (i:=7) (cs':=clsC { p with un:=p.un+1 } lp2 fp2 qp2) rfl
  have h10:=Sx.unfocE (c':={ p with un:=p.un+1 }) h9 HP.out.1
  refine⟨rfl,?_⟩
  have hq:putP P s.id s.pa s.lf false s.s (limN s.u)=putM P1 s.pa { p with un:=p.un+1 }:=by
   unfold putP
   rw [← HP.out.2]
   unfold updP
   rw [HP.out.1]
   rfl
  rw [hq]
  exact (h10.rest.weak fun h=>⟨mb,ps1,h⟩).done
 | true =>
  go_upto_region 6 with (go_at_call 35;refine (hshw _).mono ?_;rintro e w8 ⟨rfl,hb8⟩;have h8:=HF.out.later ((good_box _ _ _).star good_focC) hb8;have H8:=Lib.hid h8;clear h8 hb8)
  have hbx:=H8.out.box
  have hbp:=H8.out.rest.box
  have o0:=fun e=>(over_cell (w:=w8) (e:=e) (o:=0) hbx.lt).trans (hbx.cell 0)
  have o6:=fun e=>(over_cell (w:=w8) (e:=e) (o:=6) hbx.lt).trans (hbx.cell 6)
  have o7:=fun e=>(over_cell (w:=w8) (e:=e) (o:=7) hbx.lt).trans (hbx.cell 7)
  have o8:=fun e=>(over_cell (w:=w8) (e:=e) (o:=8) hbx.lt).trans (hbx.cell 8)
  have o5:=fun e=>(over_cell (w:=w8) (e:=e) (o:=5) hbp.lt).trans (hbp.cell 5)
  unfold clsC at o5
  unfold spC at o0 o6 o7 o8
  simp only [lTA,lCZ,lCS] at o0 o5 o6 o7 o8
  clear hbx hbp hshw HF
  refine wp_region_over_tail 8 (by kernel_rfl) (by kernel_rfl) ?_
  simp only [List.take_succ_cons,List.take_zero,List.drop_succ_cons,List.drop_zero]
  repeat (first | go_big_quiet_skip | (go_big_quiet_want;go_big_quiet_op;go_big_quiet_on))
  refine wpQuiet_nil ?_
  rintro w3 ⟨e,he⟩
  have hb3:=over_below w8 e
  rw [← he] at hb3
  have hf3:=H8.out.later ((good_box _ _ _).star good_focC) hb3
  have hsb:=HSB.out
  unfold shB okC at hsb
  simp only [Bool.and_eq_true] at hsb
  have HD:=Lib.hid (Sx.act4 (good_box _ _ _) (good_box _ _ _) (good_limX _ _) (good_fam _ _) good_focC3 hf3 (fo_add s.id s.s HID.out.1 HC.out.2.2.2.2 HC.out.1.2.2.1.1.1 HC.out.1.2.2.1.2.1.1 HC.out.1.2.2.1.2.2.1 hsb.2 (HC.out.2.1.fam _ _ HC.out.2.2.2.1).len))
  clear he hb3 hf3 o0 o5 o6 o7 o8 H8 hsb
  go_wp2_with (go_at_call 37;refine HD.out.mono ?_;rintro e w9 ⟨rfl,h9⟩;have c7:=h9.rest.box.cell 7;have f7:=h9.rest.box.frozen 7;unfold clsC at c7;simp only [lTA,lCZ,lCS] at c7;have H9:=Lib.hid h9;clear h9)
  go_returns
  have h10:=Sx.setE (good_box _ _ _) H9.out (u:=.int .i64 (p.un+1)) (i:=7) (cs':=clsC { p with fam:=addF s.id s.s p.fam,un:=p.un+1 } lp2 fp2 qp2) rfl
  have h11:=Sx.unfocE (c':={ p with fam:=addF s.id s.s p.fam,un:=p.un+1 }) h10 HP.out.1
  refine⟨rfl,?_⟩
  have hq:putP P s.id s.pa s.lf true s.s (limN s.u)=putM P1 s.pa { p with fam:=addF s.id s.s p.fam,un:=p.un+1 }:=by
   unfold putP
   rw [← HP.out.2]
   unfold updP
   rw [HP.out.1]
   rfl
  rw [hq]
  exact (h11.rest.weak fun h=>⟨mb,ps1,h⟩).done
end
section
open Go.RowKit Go.Maps
attribute [local go_sem ↓] Go.wp_at_zero Go.wp_at_succ
attribute [local go_sem] quietR quietAtR quietUponR midAt midUpon
theorem pk_cut {w0 W W':World} {A:Nat→Prop} {k mb:Nat} {ps:Int→Nat} {P:Pk} {id:Int} {c:Cls} (hc:lookM P id=some c)
  (h:Sx w0 A W (PkX k mb ps P)) (hm:MapI Tryz.prog 3 W' mb (delM (ptV ps P) id)) (ht:W.mapTurned W' mb):Sx w0 A W' (PkX k mb ps (delM P id)):=by
 have h0:Sx w0 A W (Star (MapO mb (ptV ps P)) (Star (BoxO k 68 #[.map (some mb)]) (StarL (fun q=>ClsO (ps q.1) q.2) P))):=h.swap
 have hR:Rising P:=by
  obtain⟨S,hs⟩:=h0.first
  exact rising_pt.1 (hs.1.rising (int_keyed Tryz.underlying3))
 have h1:=h0.turn ((good_box _ _ _).star (good_starL (fun q=>good_cls _ _) _)) hm ht
 rw [← del_pt] at h1
 have h2:=h1.weak fun h=>h.under fun h=>h.under fun h=>(starL_look hR hc).1 h
 exact h2.swap2.swap.rest.swap
theorem pdrop_no {W:World} {k mb:Nat} {ps:Int→Nat} {P:Pk} {id:Int} {c:Cls} (hG:PkG P)(h1:1≤id)(hc:lookM P id=some c)(hno:¬ (c.un≤0∧awP P id=false)) :
  Acts (fun e=>e=.returned (.bool false)) (PkX k mb ps P) (PkX k mb ps P) 108 #[.pointer (some ⟨k,0,none⟩),.int .i64 id] Tryz.prog W:=fun A h=>by
 have hid:=wf_small (hG.ids _ _ hc).1 (hG.ids _ _ hc).2
 have ha:=pat_any id hid h
 have haw:=pawake_any id hid h hG.toPkB
 unfold cpV at ha
 rw [hc] at ha
 dsimp only at ha
 obtain⟨l,f,q,hr⟩:=h.cls hc
 have c7:=hr.blk.cell 7
 unfold clsC at c7
 simp only [lTA,lCZ,lCS] at c7
 have hs:=Sx.start (P:=PkX k mb ps P) h
 have H:=Lib.hid hs
 have hdone:∀ w',Below W.heap.size W w'→∃ A',PkX k mb ps P w' A'∧Went W w' A A':=fun w' hb=>(H.out.later (good_pkX _ _ _ _) hb).done
 have HD:=Lib.hid hdone
 clear h hs hr hdone hc
 by_cases hu:0 < c.un
 ·have hd:decide (0 < c.un)=true:=decide_eq_true hu
  clear haw hno
  go_enter Tryz.func108,Tryz.ntmps108
  go_wp2_with (go_at_call 34;refine ha.mono ?_;rintro e w1 ⟨rfl,rfl⟩)
  go_returns
  exact⟨rfl,HD.out _ (Below.refl _ _)⟩
 ·have hd:decide (0 < c.un)=false:=decide_eq_false hu
  have haw2:awP P id=true:=by
   cases e:awP P id with
   | true=>rfl
   | false=>exact absurd ⟨by omega,e⟩ hno
  rw [haw2] at haw
  clear hno haw2
  go_enter Tryz.func108,Tryz.ntmps108
  go_wp2_with (first
   | (go_at_call 34;refine ha.mono ?_;rintro e w1 ⟨rfl,rfl⟩)
   | (go_at_call 23;refine haw.mono ?_;rintro e w2 ⟨rfl,hb2⟩))
  go_returns
  exact⟨rfl,HD.out _ hb2⟩
theorem pdrop_yes {W:World} {k mb:Nat} {ps:Int→Nat} {P:Pk} {id:Int} {c p:Cls} (hG:PkG P)(h1:1≤id)(hc:lookM P id=some c)(hp:lookM P c.pa=some p)(hne:c.pa≠id)(hu:c.un≤0)(haw2:awP P id=false) :
  Acts (fun e=>e=.returned (.bool true)) (PkX k mb ps P) (PkX k mb ps (dropP P id c.pa)) 108 #[.pointer (some ⟨k,0,none⟩),.int .i64 id] Tryz.prog W:=fun A h=>by
 have hid:=wf_small (hG.ids _ _ hc).1 (hG.ids _ _ hc).2
 have hid2:=wf_small (hG.ids _ _ hp).1 (hG.ids _ _ hp).2
 have ha:=pat_any id hid h
 have haw:=pawake_any id hid h hG.toPkB
 rw [haw2] at haw
 unfold cpV at ha
 rw [hc] at ha
 dsimp only at ha
 obtain⟨l,f,q,hr⟩:=h.cls hc
 have c7:=hr.blk.cell 7
 unfold clsC at c7
 simp only [lTA,lCZ,lCS] at c7
 have hd:decide (0 < c.un)=false:=decide_eq_false (by omega)
 have hun:=hG.un _ _ hp
 have H:=Lib.hid (Sx.start (P:=PkX k mb ps P) h)
 have HC:=Lib.hid (And.intro hc (And.intro hp (And.intro hG (And.intro hid hid2))))
 have HNE:=Lib.hid hne
 clear h hr hc hp hG hne haw2 hid2
 go_enter Tryz.func108,Tryz.ntmps108
 go_upto_region 4 with (first
  | (go_at_call 34;refine ha.mono ?_;rintro e w1 ⟨rfl,rfl⟩)
  | (go_at_call 23;refine haw.mono ?_;rintro e w2 ⟨rfl,hb2⟩;have H2:=Lib.hid (H.out.later (good_pkX _ _ _ _) hb2);clear hb2))
 clear c7 ha haw H
 obtain⟨S3,hS3,hw3⟩:=H2.out
 obtain⟨l9,f9,q9,hr9⟩:=hS3.cls HC.out.1
 have ho:∀ e,PkX k mb ps P (over w2 e) S3:=fun e=>(good_pkX _ _ _ _).kept hS3 (over_below w2 e).size fun b hb=>over_heap w2 e b ((good_pkX _ _ _ _).lt hS3 b hb)
 have hlk:∀ e,(Instr.lookup 66 (.map (some mb)) (.int .i64 c.pa) false).run Tryz.prog (over w2 e)=.ok (.pointer (some ⟨ps c.pa,0,none⟩)) (over w2 e):=fun e=>by
  have:=(ho e).look HC.out.2.2.2.2
  rw [HC.out.2.1] at this
  exact this
 have o2:=fun e=>(over_cell (w:=w2) (e:=e) (o:=0) hS3.box.lt).trans (hS3.box.cell 0)
 have o3:=fun e=>(over_cell (w:=w2) (e:=e) (o:=0) hr9.blk.lt).trans (hr9.blk.cell 0)
 unfold clsC at o3
 simp only [lTA,lCZ,lCS] at o2 o3
 clear hS3 hw3 hr9 ho
 refine wp_region_over (by kernel_rfl) (by kernel_rfl) ?_
 repeat (first | go_big_quiet_skip | (go_big_quiet_want;go_big_quiet_op;go_big_quiet_on))
 refine wpQuiet_nil ?_
 rintro w3 ⟨e,he⟩
 have hb3:=over_below w2 e
 rw [← he] at hb3
 obtain⟨lp,fp,qp,hf⟩:=(H2.out.later (good_pkX _ _ _ _) hb3).pfocus HC.out.2.1
 have c5:=hf.box.cell 5
 unfold clsC at c5
 simp only [lTA,lCZ,lCS] at c5
 have HD:=Lib.hid (Sx.act3 (good_box _ _ _) (good_limX _ _) (good_fam _ _) good_focC3 hf (fo_drop id HC.out.2.2.2.1))
 clear he hb3 hf o2 o3 hlk H2
 go_upto_region 7 with (go_at_call 130;refine HD.out.mono ?_;rintro e w4 ⟨⟨b,rfl⟩,h4⟩;have c7:=h4.box.cell 7;have f7:=h4.box.frozen 7;unfold clsC at c7;simp only [lTA,lCZ,lCS] at c7;have H4:=Lib.hid h4;clear h4)
 have h5:=H4.out.set good_focC1 (u:=.int .i64 (p.un - 1)) (i:=7) (cs':=clsC { p with fam:=outF id p.fam,un:=p.un - 1 } lp fp qp) rfl
 have h6:=Sx.punfocus (c':={ p with fam:=outF id p.fam,un:=p.un - 1 }) h5 HC.out.2.1
 obtain⟨P1,hP1⟩:∃ P1,P1=putM P c.pa { p with fam:=outF id p.fam,un:=p.un - 1 }:=⟨_,rfl⟩
 rw [← hP1] at h6
 have hc1:lookM P1 id=some c:=by rw [hP1,look_put_other _ (fun e=>HNE.out e.symm)];exact HC.out.1
 obtain⟨S6,hS6,hw6⟩:=h6
 have k6:=hS6.box.cell 0
 simp only [lTA,lCZ,lCS] at k6
 obtain⟨W7,hr7,hm7,ht7⟩:=hS6.map.drop (k:=id) (E:=58) (T:=66) Tryz.underlying3 Tryz.underlying66 HC.out.2.2.2.1 0
 have h7:=pk_cut hc1 ⟨S6,hS6,hw6⟩ hm7 ht7
 have hfin:dropP P id c.pa=delM P1 id:=by
  unfold dropP
  rw [hP1]
  unfold updP
  rw [HC.out.2.1]
 have H7:=Lib.hid h7
 clear h5 H4 HD c7 f7 c5 hS6 hw6 hm7 ht7 h7 hP1
 go_wp2_with fail
 go_returns
 rw [hfin]
 exact⟨rfl,H7.out.done⟩
end
section
open Go.RowKit Go.Maps
attribute [local go_sem ↓] Go.wp_at_zero Go.wp_at_succ
attribute [local go_sem] quietR quietAtR quietUponR midAt midUpon
theorem rise_ext {α:Type}:∀ {A B:List (Int × α)},Rising A→Rising B→(∀ j,lookM A j=lookM B j)→A=B
 | [],[],_,_,_=>rfl
 | [],q :: B,_,_,h=>by
  have:=h q.1
  rw [show lookM (q :: B) q.1=some q.2 by simp [lookM]] at this
  cases this
 | p :: A,[],_,_,h=>by
  have:=h p.1
  rw [show lookM (p :: A) p.1=some p.2 by simp [lookM]] at this
  cases this
 | p :: A,q :: B,ha,hb,h=>by
  have ha1:=(List.pairwise_cons.1 ha).1
  have hb1:=(List.pairwise_cons.1 hb).1
  have e:p.1=q.1:=by
   have h1:=h p.1
   rw [show lookM (p :: A) p.1=some p.2 by simp [lookM]] at h1
   have h2:=h q.1
   rw [show lookM (q :: B) q.1=some q.2 by simp [lookM]] at h2
   rcases List.mem_cons.1 (mem_of_look h1.symm) with e | hm
   ·rw [← e]
   ·rcases List.mem_cons.1 (mem_of_look h2) with e | hm2
    ·rw [← e]
    ·have:=hb1 _ hm;have:=ha1 _ hm2;dsimp only at *;omega
  have h1:=h p.1
  rw [show lookM (p :: A) p.1=some p.2 by simp [lookM],e,show lookM (q :: B) q.1=some q.2 by simp [lookM]] at h1
  have e2:p=q:=Prod.ext e (Option.some.inj h1)
  subst e2
  refine congrArg (p :: ·) (rise_ext (List.pairwise_cons.1 ha).2 (List.pairwise_cons.1 hb).2 fun j=>?_)
  by_cases hj:p.1=j
  ·subst hj
   rw [look_none.2 fun x hx=>by have:=ha1 x hx;omega,look_none.2 fun x hx=>by have:=hb1 x hx;omega]
  ·have:=h j
   rwa [show lookM (p :: A) j=lookM A j by simp [lookM,hj],show lookM (p :: B) j=lookM B j by simp [lookM,hj]] at this
def ZO (k mb:Nat)(ps:Int→Nat)(P:Pk)(pa id:Int)(l:Option Nat)(f q:Nat)(cs:Array Value)(lim:Option Rn)(fam:Fam)(tr:List En):Ob :=
 Star (BoxO (ps pa) 65 cs) (Star (LimX l lim) (Star (FamO f fam) (Star (TrO q tr) (Star (BoxO k 68 #[.map (some mb)]) (Star (MapO mb (ptV ps P)) (StarL (fun q=>ClsO (ps q.1) q.2) (delM (delM P pa) id)))))))
section
variable {W : World} {S : Nat → Prop} {k mb f q : Nat} {ps : Int → Nat} {P : Pk} {pa id : Int} {l : Option Nat} {c c' : Cls} {cs : Array Value} {lim : Option Rn} {fam : Fam} {tr : List En}
theorem good_zo:Good (ZO k mb ps P pa id l f q cs lim fam tr):=(good_box _ _ _).star ((good_limX _ _).star ((good_fam _ _).star ((good_tr _ _).star ((good_box _ _ _).star ((good_map _ _).star (good_starL (fun q=>good_cls _ _) _))))))
theorem foc_split (hR:Rising P)(hc:lookM P id=some c)(hne:id≠pa)(h:FocC k mb ps P pa l f q cs lim fam tr W S):Star (ClsO (ps id) c) (ZO k mb ps P pa id l f q cs lim fam tr) W S :=
 Star.swap (Star.under h fun h=>Star.swap (Star.under h fun h=>Star.swap (Star.under h fun h=>Star.swap (Star.under h fun h=>Star.swap (Star.under h fun h=>Star.swap (Star.under h fun h=>(starL_look (rising_del hR pa) (by rw [look_del_other hne];exact hc)).1 h))))))
theorem foc_join (hR:Rising P)(hc:lookM P id=some c)(hne:id≠pa)(h:Star (ClsO (ps id) c) (ZO k mb ps P pa id l f q cs lim fam tr) W S):FocC k mb ps P pa l f q cs lim fam tr W S :=
 Star.under (Star.swap h) fun h=>Star.under (Star.swap h) fun h=>Star.under (Star.swap h) fun h=>Star.under (Star.swap h) fun h=>Star.under (Star.swap h) fun h=>Star.under (Star.swap h) fun h=>(starL_look (rising_del hR pa) (by rw [look_del_other hne];exact hc)).2 h
theorem del_putS {α:Type} {M:List (Int × α)} (hR:Rising M)(k:Int)(v:α):delM (putM M k v) k=delM M k :=
 rise_ext (rising_del (rising_put _ _ hR) _) (rising_del hR _) fun j=>by
  by_cases e:j=k
  ·subst e;rw [look_del_same,look_del_same]
  ·rw [look_del_other e,look_del_other e,look_put_other _ e]
theorem del_comm {α:Type} {M:List (Int × α)} (hR:Rising M)(a b:Int):delM (delM M a) b=delM (delM M b) a :=
 rise_ext (rising_del (rising_del hR _) _) (rising_del (rising_del hR _) _) fun j=>by
  by_cases e:j=b
  ·subst e
   rw [look_del_same]
   by_cases e2:j=a
   ·subst e2;rw [look_del_same]
   ·rw [look_del_other e2,look_del_same]
  ·rw [look_del_other e]
   by_cases e2:j=a
   ·subst e2;rw [look_del_same,look_del_same]
   ·rw [look_del_other e2,look_del_other e2,look_del_other e]
theorem zo_put (hR:Rising P)(hc:lookM P id=some c):ZO k mb ps (putM P id c') pa id l f q cs lim fam tr=ZO k mb ps P pa id l f q cs lim fam tr:=by
 unfold ZO
 have e1:ptV ps (putM P id c')=ptV ps P:=by
  rw [put_pt (ps:=ps) hR fun _ _ _=>rfl]
  exact put_look (rising_pt.2 hR) (by rw [look_pt,hc];rfl)
 have e2:delM (delM (putM P id c') pa) id=delM (delM P pa) id:=by
  rw [del_comm (rising_put _ _ hR),del_putS hR,del_comm hR]
 rw [e1,e2]
end
theorem cls_open {w0 W:World} {A:Nat→Prop} {p:Nat} {c:Cls} {R:Ob} (h:Sx w0 A W (Star (ClsO p c) R)):∃ l f q,Sx w0 A W (Star (BoxO p 65 (clsC c l f q)) (Star (LimX l c.lim) (Star (FamO f c.fam) (Star (TrO q c.tr) R)))):=by
 obtain⟨S,⟨A1,B,hS,hd,⟨l,f,q,hp⟩,hq⟩,hw⟩:=h
 have h3:Star (ClsX p (clsC c l f q) l f q c.lim c.fam c.tr) R W S:=⟨A1,B,hS,hd,hp,hq⟩
 exact⟨l,f,q,S,(Star.assoc h3).under fun h=>(Star.assoc h).under Star.assoc,hw⟩
theorem cls_close {w0 W:World} {A:Nat→Prop} {p f q:Nat} {l:Option Nat} {c:Cls} {R:Ob} (h:Sx w0 A W (Star (BoxO p 65 (clsC c l f q)) (Star (LimX l c.lim) (Star (FamO f c.fam) (Star (TrO q c.tr) R))))):Sx w0 A W (Star (ClsO p c) R) :=
 h.weak fun h=>(Star.unassoc (Star.under h fun h=>Star.unassoc (h.under Star.unassoc))).over fun h=>⟨l,f,q,h⟩
theorem sp_cells {W:World} {B:Nat} {s:Sp} (h:Blk W B 32 (spC s)):W.cell? ⟨B,0,none⟩=some (.int .i64 s.id)∧W.cell? ⟨B,1,none⟩=some (.int .i64 s.pa)∧W.cell? ⟨B,2,none⟩=some (.bool s.lf)∧W.cell? ⟨B,3,none⟩=some (.int .u64 s.r.1)∧W.cell? ⟨B,4,none⟩=some (.int .u64 s.r.2.1)∧W.cell? ⟨B,5,none⟩=some (.int .u64 s.r.2.2)∧W.cell? ⟨B,6,none⟩=some (.int .u64 s.s.1)∧W.cell? ⟨B,7,none⟩=some (.int .u64 s.s.2.1)∧W.cell? ⟨B,8,none⟩=some (.int .u64 s.s.2.2)∧W.cell? ⟨B,9,none⟩=some (.int .u64 s.u.1)∧W.cell? ⟨B,10,none⟩=some (.int .u64 s.u.2.1)∧W.cell? ⟨B,11,none⟩=some (.int .u64 s.u.2.2)∧W.cell? ⟨B,12,none⟩=some (.int .i64 s.pk)∧W.cell? ⟨B,13,none⟩=some (.int .i64 s.by_) :=
 ⟨h.cell 0,h.cell 1,h.cell 2,h.cell 3,h.cell 4,h.cell 5,h.cell 6,h.cell 7,h.cell 8,h.cell 9,h.cell 10,h.cell 11,h.cell 12,h.cell 13⟩
theorem sp_set {W:World} {B b i:Nat} {s:Sp} {u:Value} (hne:¬ b=B)(h:W.cell? ⟨B,0,none⟩=some (.int .i64 s.id)∧W.cell? ⟨B,1,none⟩=some (.int .i64 s.pa)∧W.cell? ⟨B,2,none⟩=some (.bool s.lf)∧W.cell? ⟨B,3,none⟩=some (.int .u64 s.r.1)∧W.cell? ⟨B,4,none⟩=some (.int .u64 s.r.2.1)∧W.cell? ⟨B,5,none⟩=some (.int .u64 s.r.2.2)∧W.cell? ⟨B,6,none⟩=some (.int .u64 s.s.1)∧W.cell? ⟨B,7,none⟩=some (.int .u64 s.s.2.1)∧W.cell? ⟨B,8,none⟩=some (.int .u64 s.s.2.2)∧W.cell? ⟨B,9,none⟩=some (.int .u64 s.u.1)∧W.cell? ⟨B,10,none⟩=some (.int .u64 s.u.2.1)∧W.cell? ⟨B,11,none⟩=some (.int .u64 s.u.2.2)∧W.cell? ⟨B,12,none⟩=some (.int .i64 s.pk)∧W.cell? ⟨B,13,none⟩=some (.int .i64 s.by_)):(W.setCell ⟨b,i,none⟩ u).cell? ⟨B,0,none⟩=some (.int .i64 s.id)∧(W.setCell ⟨b,i,none⟩ u).cell? ⟨B,1,none⟩=some (.int .i64 s.pa)∧(W.setCell ⟨b,i,none⟩ u).cell? ⟨B,2,none⟩=some (.bool s.lf)∧(W.setCell ⟨b,i,none⟩ u).cell? ⟨B,3,none⟩=some (.int .u64 s.r.1)∧(W.setCell ⟨b,i,none⟩ u).cell? ⟨B,4,none⟩=some (.int .u64 s.r.2.1)∧(W.setCell ⟨b,i,none⟩ u).cell? ⟨B,5,none⟩=some (.int .u64 s.r.2.2)∧(W.setCell ⟨b,i,none⟩ u).cell? ⟨B,6,none⟩=some (.int .u64 s.s.1)∧(W.setCell ⟨b,i,none⟩ u).cell? ⟨B,7,none⟩=some (.int .u64 s.s.2.1)∧(W.setCell ⟨b,i,none⟩ u).cell? ⟨B,8,none⟩=some (.int .u64 s.s.2.2)∧(W.setCell ⟨b,i,none⟩ u).cell? ⟨B,9,none⟩=some (.int .u64 s.u.1)∧(W.setCell ⟨b,i,none⟩ u).cell? ⟨B,10,none⟩=some (.int .u64 s.u.2.1)∧(W.setCell ⟨b,i,none⟩ u).cell? ⟨B,11,none⟩=some (.int .u64 s.u.2.2)∧(W.setCell ⟨b,i,none⟩ u).cell? ⟨B,12,none⟩=some (.int .i64 s.pk)∧(W.setCell ⟨b,i,none⟩ u).cell? ⟨B,13,none⟩=some (.int .i64 s.by_):=by
 have key:∀ j,(W.setCell ⟨b,i,none⟩ u).cell? ⟨B,j,none⟩=W.cell? ⟨B,j,none⟩:=fun j=>World.cell?_of_block (w:=W) (w':=W.setCell ⟨b,i,none⟩ u) (a:=⟨B,j,none⟩) (Below.heap_setCell W ⟨b,i,none⟩ u B fun e=>hne e.symm)
 simp only [key]
 exact h
theorem prenew_any {W:World} {k mb:Nat} {ps:Int→Nat} {P:Pk} (s:Sp) {c p:Cls} (hw:WfSp s)(hG:PkG P)(h1:1≤s.id)(hc:lookM P s.id=some c)(hp:lookM P c.pa=some p)(hne:c.pa≠s.id)(haw2:awP P s.id=false) :
  Acts (fun e=>e=.returned (.bool true)) (PkX k mb ps P) (PkX k mb ps (renewP P s.id c.pa (shB s) s.s (limN s.u))) 106 #[.pointer (some ⟨k,0,none⟩),spV s] Tryz.prog W:=fun A h=>by
 have hid:(Lit.int .i64 s.id).wf=true:=hw.1.1
 have hid2:=wf_small (hG.ids _ _ hp).1 (hG.ids _ _ hp).2
 have hs0:=(Sx.start (P:=PkX k mb ps P) h).alloc (good_pkX _ _ _ _) (spC s) 32
 have hRis:=h.rising
 have H0:=Lib.hid hs0
 have HC:=Lib.hid (And.intro hc (And.intro hp (And.intro hG (And.intro hid (And.intro hid2 (And.intro hw hRis))))))
 have HNE:=Lib.hid hne
 have hshw:=fun W=>shares_any s W hw
 obtain⟨sb,hsb⟩:∃ sb,shB s=sb:=⟨_,rfl⟩
 simp only [hsb] at hshw ⊢
 have HSB:=Lib.hid hsb
 clear hsb
 have hlim:=fun W=>lim_newO s.u W hw.2.2.2.1.1 hw.2.2.2.2.1.1 hw.2.2.2.2.2.1
 unfold spV at *
 clear h hs0 hw hne hRis
 unfold spC at hshw H0 ⊢
 go_enter Tryz.func106,Tryz.ntmps106
 go_upto_region 1 with fail
 generalize hW1:W.alloc (.cells #[.int .i64 s.id,.int .i64 s.pa,.bool s.lf,.int .u64 s.r.1,.int .u64 s.r.2.1,.int .u64 s.r.2.2,.int .u64 s.s.1,.int .u64 s.s.2.1,.int .u64 s.s.2.2,.int .u64 s.u.1,.int .u64 s.u.2.1,.int .u64 s.u.2.2,.int .i64 s.pk,.int .i64 s.by_] 32)=W1 at H0 ⊢
 obtain⟨B,hB⟩:∃ B,B=W.heap.size:=⟨_,rfl⟩
 rw [← hB] at H0 ⊢
 clear hB hW1
 have hbx:=sp_cells (s:=s) H0.out.box
 obtain⟨b0,b1,b2,b3,b4,b5,b6,b7,b8,b9,b10,b11,b12,b13⟩:=hbx
 obtain⟨S1,hS1⟩:=H0.out.env
 have ha1:=pat_any s.id hid hS1
 have haw:=pawake_any s.id hid hS1 hG.toPkB
 rw [haw2] at haw
 unfold cpV at ha1
 rw [hc] at ha1
 dsimp only at ha1
 clear hS1 hc hp hG haw2 hid2
 go_upto_region 4 with (first
  | (go_at_call 34;refine ha1.mono ?_;rintro e w1 ⟨rfl,rfl⟩)
  | (go_at_call 23;refine haw.mono ?_;rintro e w2 ⟨rfl,hb2⟩;have H2:=Lib.hid (H0.out.later ((good_box _ _ _).star (good_pkX _ _ _ _)) hb2);clear hb2))
 clear b0 b1 b2 b3 b4 b5 b6 b7 b8 b9 b10 b11 b12 b13 ha1 haw H0
 obtain⟨S3,hS3⟩:=H2.out.env
 obtain⟨lp,fp,qp,hf⟩:=H2.out.focE HC.out.2.1
 obtain⟨l9,f9,q9,hr9⟩:=hS3.cls HC.out.1
 have ho:∀ e,PkX k mb ps P (over w2 e) S3:=fun e=>(good_pkX _ _ _ _).kept hS3 (over_below w2 e).size fun b hb=>over_heap w2 e b ((good_pkX _ _ _ _).lt hS3 b hb)
 have hlk:∀ e,(Instr.lookup 66 (.map (some mb)) (.int .i64 c.pa) false).run Tryz.prog (over w2 e)=.ok (.pointer (some ⟨ps c.pa,0,none⟩)) (over w2 e):=fun e=>by
  have:=(ho e).look HC.out.2.2.2.2.1
  rw [HC.out.2.1] at this
  exact this
 have hpb:=hf.rest.box
 have o2:=fun e=>(over_cell (w:=w2) (e:=e) (o:=0) hS3.box.lt).trans (hS3.box.cell 0)
 have o3:=fun e=>(over_cell (w:=w2) (e:=e) (o:=0) hr9.blk.lt).trans (hr9.blk.cell 0)
 have o4:=fun e=>(over_cell (w:=w2) (e:=e) (o:=5) hpb.lt).trans (hpb.cell 5)
 unfold clsC at o3 o4
 simp only [lTA,lCZ,lCS] at o2 o3 o4
 have HF:=Lib.hid hf
 clear hS3 hr9 ho hpb hf H2
 refine wp_region_over (by kernel_rfl) (by kernel_rfl) ?_
 repeat (first | go_big_quiet_skip | (go_big_quiet_want;go_big_quiet_op;go_big_quiet_on))
 refine wpQuiet_nil ?_
 rintro w3 ⟨e,he⟩
 have hb3:=over_below w2 e
 rw [← he] at hb3
 have hf3:=HF.out.later ((good_box _ _ _).star good_focC) hb3
 have b0:=hf3.box.cell 0
 simp only [lTA,lCZ,lCS] at b0
 have HD:=Lib.hid (Sx.act4 (good_box _ _ _) (good_box _ _ _) (good_limX _ _) (good_fam _ _) good_focC3 hf3 (fo_drop s.id HC.out.2.2.2.1))
 clear he hb3 hf3 o2 o3 o4 hlk HF
 go_upto_region 6 with (go_at_call 130;refine HD.out.mono ?_;rintro e w4 ⟨⟨b,rfl⟩,h4⟩;have H4:=Lib.hid h4;clear h4)
 clear b0 HD
 obtain⟨l2,f2,q2,h5⟩:=cls_open (H4.out.weak fun h=>Star.swap (h.under fun h=>foc_split HC.out.2.2.2.2.2.2 HC.out.1 (fun e=>HNE.out e.symm) h))
 have s4:=sp_cells (s:=s) h5.rest.rest.rest.rest.box
 have H5:=Lib.hid h5
 clear h5 H4
 have g5:Good (Star (BoxO (ps s.id) 65 (clsC c l2 f2 q2)) (Star (LimX l2 c.lim) (Star (FamO f2 c.fam) (Star (TrO q2 c.tr) (Star (BoxO B 32 (spC s)) (ZO k mb ps P c.pa s.id lp fp qp (clsC p lp fp qp) p.lim (outF s.id p.fam) p.tr)))))):=(good_box _ _ _).star ((good_limX _ _).star ((good_fam _ _).star ((good_tr _ _).star ((good_box _ _ _).star good_zo))))
 have G5:=Lib.hid g5
 have hbne:¬ ps s.id=B:=fun e=>by
  have h1:=H5.out.box
  have h2:=H5.out.rest.rest.rest.rest.box
  rw [e] at h1
  have:=h1.symm.trans h2
  simp only [Option.some.injEq,Obj.cells.injEq] at this
  exact absurd this.2.1 (by decide)
 have hbne2:¬ B=ps s.id:=fun e=>hbne e.symm
 clear g5
 go_region_held3 (fun W'=>W'.cell? ⟨B,0,none⟩=some (.int .i64 s.id)∧W'.cell? ⟨B,1,none⟩=some (.int .i64 s.pa)∧W'.cell? ⟨B,2,none⟩=some (.bool s.lf)∧W'.cell? ⟨B,3,none⟩=some (.int .u64 s.r.1)∧W'.cell? ⟨B,4,none⟩=some (.int .u64 s.r.2.1)∧W'.cell? ⟨B,5,none⟩=some (.int .u64 s.r.2.2)∧W'.cell? ⟨B,6,none⟩=some (.int .u64 s.s.1)∧W'.cell? ⟨B,7,none⟩=some (.int .u64 s.s.2.1)∧W'.cell? ⟨B,8,none⟩=some (.int .u64 s.s.2.2)∧W'.cell? ⟨B,9,none⟩=some (.int .u64 s.u.1)∧W'.cell? ⟨B,10,none⟩=some (.int .u64 s.u.2.1)∧W'.cell? ⟨B,11,none⟩=some (.int .u64 s.u.2.2)∧W'.cell? ⟨B,12,none⟩=some (.int .i64 s.pk)∧W'.cell? ⟨B,13,none⟩=some (.int .i64 s.by_)) (first | exact s4 | exact s6 | exact s7 | exact sp_set hbne s7 | exact sp_set hbne (sp_set hbne s7) | exact sp_set hbne (sp_set hbne (sp_set hbne s7))) (first
  | (go_at_call 35;refine (hshw _).mono ?_;rintro e w6 ⟨rfl,hb6⟩;have h6:=(H5.out.later G5.out (by first | exact Below.refl _ _ | exact⟨rfl,rfl,rfl,Nat.le_refl _,fun _ _=>rfl⟩)).later G5.out hb6;have s6:=sp_cells (s:=s) h6.rest.rest.rest.rest.box;have H6:=Lib.hid h6;clear h6 hb6)
  | (go_at_call 36;refine (hlim _).mono ?_;rintro e w7 hw7;obtain⟨l,rfl,h7⟩:=(H6.out.later G5.out (by first | exact Below.refl _ _ | exact⟨rfl,rfl,rfl,Nat.le_refl _,fun _ _=>rfl⟩)).new G5.out (fun q=>good_lim q _) hw7;have s7:=sp_cells (s:=s) h7.rest.rest.rest.rest.rest.box;have c2:=h7.rest.box.cell 2;have c3:=h7.rest.box.cell 3;have c4:=h7.rest.box.cell 4;have n2:=h7.rest.box.frozen 2;have n3:=h7.rest.box.frozen 3;have n4:=h7.rest.box.frozen 4;unfold clsC at c2 c3 c4;simp only [lTA,lCZ,lCS] at c2 c3 c4;have H7:=Lib.hid h7;clear h7 hw7))
 clear hlim hshw s4 s6 s7 c2 c3 c4 n2 n3 n4 H5 H6 hbne hbne2
 obtain⟨c',hc'⟩:∃ c':Cls,c'={ c with sh:=sb,tot:=0,lim:=limN s.u }:=⟨_,rfl⟩
 have gR:Good (Star (LimO l (limN s.u)) (Star (LimX l2 c.lim) (Star (FamO f2 c.fam) (Star (TrO q2 c.tr) (Star (BoxO B 32 (spC s)) (ZO k mb ps P c.pa s.id lp fp qp (clsC p lp fp qp) p.lim (outF s.id p.fam) p.tr)))))):=(good_lim _ _).star ((good_limX _ _).star ((good_fam _ _).star ((good_tr _ _).star ((good_box _ _ _).star good_zo))))
 have h9:=((H7.out.swap.set gR (u:=.bool sb) (i:=2) (cs':=clsC { c with sh:=sb } l2 f2 q2) rfl).set gR (u:=.int .u64 0) (i:=3) (cs':=clsC { c with sh:=sb,tot:=0 } l2 f2 q2) rfl).set gR (u:=.pointer (some ⟨l,0,none⟩)) (i:=4) (cs':=clsC c' (some l) f2 q2) (by rw [hc'];rfl)
 clear gR H7 G5
 generalize ((w7.setCell ⟨ps s.id,2,none⟩ (.bool sb)).setCell ⟨ps s.id,3,none⟩ (.int .u64 0)).setCell ⟨ps s.id,4,none⟩ (.pointer (some ⟨l,0,none⟩))=w8 at h9 ⊢
 have c2:=h9.box.cell 2
 unfold clsC at c2
 rw [show c'.sh=sb by rw [hc']] at c2
 simp only [lTA,lCZ,lCS] at c2
 have h10:Sx W A w8 (Star (BoxO (ps s.id) 65 (clsC c' (some l) f2 q2)) (Star (LimX (some l) c'.lim) (Star (FamO f2 c'.fam) (Star (TrO q2 c'.tr) (Star (BoxO B 32 (spC s)) (ZO k mb ps P c.pa s.id lp fp qp (clsC p lp fp qp) p.lim (outF s.id p.fam) p.tr)))))):=by
  rw [hc'] at h9 ⊢
  exact h9.swap2.swap.rest
 have h11:=(cls_close h10).swap
 obtain⟨P1,hP1⟩:∃ P1,P1=putM P s.id c':=⟨_,rfl⟩
 have hR:=HC.out.2.2.2.2.2.2
 have hR1:Rising P1:=by rw [hP1];exact rising_put _ _ hR
 have hc1:lookM P1 s.id=some c':=by rw [hP1];exact look_put_same _ _ _
 have hp1:lookM P1 c.pa=some p:=by rw [hP1,look_put_other _ HNE.out];exact HC.out.2.1
 rw [← zo_put (c':=c') hR HC.out.1,← hP1] at h11
 have h12:=h11.weak fun h=>h.under fun h=>foc_join hR1 hc1 (fun e=>HNE.out e.symm) h
 have hfin:∀ F,(F=if sb=true then addF s.id s.s (outF s.id p.fam) else outF s.id p.fam)→putM P1 c.pa { p with fam:=F }=renewP P s.id c.pa sb s.s (limN s.u):=fun F hF=>by
  refine rise_ext (rising_put _ _ hR1) (rising_upd (rising_upd hR _ _) _ _) fun j=>?_
  rw [renew_look HC.out.1 HC.out.2.1 HNE.out]
  by_cases e:j=s.id
  ·rw [if_pos e,e,look_put_other _ (fun e=>HNE.out e.symm),hc1,hc']
  ·rw [if_neg e]
   by_cases e2:j=c.pa
   ·rw [if_pos e2,e2,look_put_same,hF]
   ·rw [if_neg e2,look_put_other _ e2,hP1,look_put_other _ e]
 have HP:=Lib.hid (And.intro hp1 hfin)
 have H12:=Lib.hid h12
 clear h9 h10 h11 h12 hc' hP1 hR hR1 hc1 hp1 hfin
 cases sb with
 | false =>
  go_wp2_with fail
  go_returns
  have h13:=Sx.unfocE (c':={ p with fam:=outF s.id p.fam }) H12.out HP.out.1
  rw [HP.out.2 (outF s.id p.fam) rfl] at h13
  exact⟨rfl,h13.rest.done⟩
 | true =>
  have b0:=H12.out.box.cell 0;have b6:=H12.out.box.cell 6;have b7:=H12.out.box.cell 7;have b8:=H12.out.box.cell 8
  unfold spC at b0 b6 b7 b8
  simp only [lTA,lCZ,lCS] at b0 b6 b7 b8
  have hsb:=HSB.out
  unfold shB okC at hsb
  simp only [Bool.and_eq_true] at hsb
  have hw:=HC.out.2.2.2.2.2.1
  have HD:=Lib.hid (Sx.act4 (good_box _ _ _) (good_box _ _ _) (good_limX _ _) (good_fam _ _) good_focC3 H12.out (fo_add s.id s.s HC.out.2.2.2.1 (look_del_same _ _) hw.2.2.1.1.1 hw.2.2.1.2.1.1 hw.2.2.1.2.2.1 hsb.2 (Nat.lt_of_le_of_lt (del_length _ _) (HC.out.2.2.1.fam _ _ HC.out.2.1).len)))
  clear hsb hw H12
  go_wp2_with (go_at_call 37;refine HD.out.mono ?_;rintro e w9 ⟨rfl,h9⟩;have H9:=Lib.hid h9;clear h9)
  go_returns
  have h13:=Sx.unfocE (c':={ p with fam:=addF s.id s.s (outF s.id p.fam) }) H9.out HP.out.1
  rw [HP.out.2 (addF s.id s.s (outF s.id p.fam)) rfl] at h13
  exact⟨rfl,h13.rest.done⟩
end
end Go.Proofs.YtmmeopjemkjllaaGreat
