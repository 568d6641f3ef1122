/- Lemmas of the claim. No conditions beyond those that each states. -/
import Derived.Test.YtmmeopjemkjllaaGreatPT29
import Derived.Test.YtmmeopjemkjllaaGreatPT18
import Derived.Test.YtmmeopjemkjllaaGreatPT26
import Derived.Laws.AppendOwnNone
set_option linter.unusedVariables false
set_option linter.unusedSimpArgs false
set_option maxRecDepth 100000
set_option maxHeartbeats 8000000
namespace Go.Proofs.YtmmeopjemkjllaaGreat
section
open Go.RowKit Go.Maps Go.Shelf
def SortedW (w : World) (M : List (Int × Value)) (e : Ending) (w' : World) : Prop :=
  ∃ (v : Value) (ks : List Int), e = .returned v ∧ ks.Pairwise (· < ·) ∧ (∀ x, x ∈ ks ↔ (lookM M x).isSome = true) ∧ (v = .slice none 0 0 ∧ ks = [] ∨ ∃ g cap, v = .slice (some ⟨g, 0, none⟩) ks.length cap ∧ RowW w' g ks.toArray) ∧ Below w.heap.size w w'
theorem once_len {M:List (Int × Value)} (hr:Rising M) {ss:List Int} (h:Once M ss):ss.length=M.length:=by
 have hn:(M.map (·.1)).Nodup:=by
  rw [List.Nodup,List.pairwise_map]
  exact hr.imp fun {p q} h=>by omega
 have hp:ss.Perm (M.map (·.1)):=(List.perm_ext_iff_of_nodup h.1 hn).2 fun x=>by
  rw [h.2 x]
  clear h hn hr
  induction M with
  | nil=>simp [lookM]
  | cons p r ih =>
   rw [lookM,List.map_cons,List.mem_cons]
   by_cases e:p.1=x
   ·simp [e]
   ·rw [if_neg e,ih];simp [Ne.symm e]
 rw [hp.length_eq,List.length_map]
theorem insertW0 (w:World):Calls Tryz.prog 216 #[.slice none 0 0,.int .i64 0,.int .i64 0] w fun e w'=>e=.returned (.tuple #[])∧w'=w:=by
 go_enter Tryz.func216,Tryz.ntmps216
 go_wp2
 refine wp_loop_rounds 1 ?_
 rw [rounds_succ]
 go_wp2
 go_returns
 exact⟨rfl,rfl⟩
theorem pdqW0 (w:World):Calls Tryz.prog 214 #[.slice none 0 0,.int .i64 0,.int .i64 0,.int .i64 0] w fun e w'=>e=.returned (.tuple #[])∧w'=w:=by
 go_enter Tryz.func214,Tryz.ntmps214
 go_wp2
 refine wp_loop_rounds 1 ?_
 rw [rounds_succ]
 go_wp2_with fail
 refine (insertW0 w).mono ?_
 rintro e w' ⟨rfl,rfl⟩
 go_wp2
 go_returns
 exact⟨rfl,rfl⟩
theorem sortW0 (w:World):Calls Tryz.prog 208 #[.slice none 0 0] w fun e w'=>e=.returned (.tuple #[])∧w'=w:=by
 have hlen:=lenW 0 w (by omega) (by omega)
 rw [show ((Lib.bitLen (0:Int).toNat:Nat):Int)=0 from rfl] at hlen
 go_enter Tryz.func208,Tryz.ntmps208
 go_wp2_with fail
 refine hlen.mono ?_
 rintro e w1 ⟨rfl,rfl⟩
 clear hlen
 go_wp2_with fail
 refine (pdqW0 _).mono ?_
 rintro e w2 ⟨rfl,rfl⟩
 go_wp2_with fail
 go_returns
 exact⟨rfl,rfl⟩
theorem RowW.of_owns {w:World} {base g cap:Nat} {E:TypeId} {ss:List Int} (h:w.ownsRow base E 1 (.slice (some ⟨g,0,none⟩) ss.length cap) ss.length (ss.map (Value.int .u64))):RowW w g ss.toArray:=by
 refine⟨fun j hj=>?_,(h.lt g rfl).2⟩
 have hj':j < ss.length:=by simpa using hj
 rw [Nat.zero_add]
 refine⟨?_,h.frozenAt j⟩
 rw [h.cellAt j (by omega),List.getElem?_map,List.getElem?_eq_getElem hj',getElem!_pos ss.toArray j hj]
 simp [eW]
theorem sortedU_any (Bm b:Nat)(M:List (Int × Value))(w:World)(hBm:Bm < w.heap.size)(hm:w.cell? ⟨Bm,0,none⟩=some (.map (some b)))(hown:MapU Tryz.prog 28 w b M)(hl:M.length≤12) :
  Calls Tryz.prog 198 #[.func (.func 209) #[] #[.pointer (some ⟨Bm,0,none⟩)]] w (SortedW w M):=by
 have hr:=hown.rising (int_keyed Tryz.underlying28)
 have hseq:=keysU_stops Fence.wide 3 trivial rfl (by omega) Bm b M w hBm hm hown
 have hc:=callsIn_wide.1 (collectU_in Fence.wide 5 trivial trivial rfl (by omega) 209 #[.pointer (some ⟨Bm,0,none⟩)] trivial (enters_of Tryz.func209 (by kernel_rfl) rfl) (Once M) M.length (by omega) w hseq (fun ss h=>by rw [once_len hr h];exact Nat.le_refl _))
 clear hseq hown hm
 have HR:=Lib.hid hr
 clear hr
 go_enter Tryz.func198,Tryz.ntmps198
 go_wp2_with fail
 refine hc.mono ?_
 clear hc
 rintro e w1 ⟨v,ss,rfl,hS,hrow,hb⟩
 have hsl:=once_len HR.out hS
 rcases hrow.2 with ⟨rfl,h0⟩ | ⟨g,cap,cur,rfl,h1,h2,h3,h4,h5,h6⟩
 ·obtain rfl:ss=[]:=List.eq_nil_of_length_eq_zero h0
  have HS:=Lib.hid hS;have HB:=Lib.hid hb
  clear hS hb hrow hsl
  go_wp2_with fail
  refine (sortW0 _).mono ?_
  rintro e w2 ⟨rfl,rfl⟩
  go_wp2_with fail
  go_ret
  exact⟨_,[],rfl,.nil,HS.out.2,.inl ⟨rfl,rfl⟩,HB.out⟩
 ·have hsort:=sortS g cap ss w1 (RowW.of_owns hrow) (by omega)
  have HS:=Lib.hid hS;have HB:=Lib.hid hb
  clear hS hb hrow hsl h2 h3 h4 h5 h6
  go_wp2_with fail
  refine hsort.mono ?_
  clear hsort
  rintro e w2 ⟨rfl,k,k1,k2,k3,hR,hG⟩
  have HK:=Lib.hid (And.intro k1 (And.intro k2 (And.intro k3 (And.intro hR hG))))
  clear k1 k2 k3 hR hG
  go_wp2_with fail
  go_ret
  obtain⟨k1,k2,k3,hR,hG⟩:=HK.out
  refine⟨_,k.toList,rfl,?_,fun x=>by rw [k2.mem_iff];exact HS.out.2 x,.inr ⟨g,cap,by rw [show k.toList.length=ss.length by simpa using k1];rfl,hR⟩,HB.out.grown hG HB.out.size (fun j e=>by cases e;exact h1)⟩
  have hn:k.toList.Nodup:=k2.nodup_iff.2 HS.out.1
  exact (k3.and hn).imp fun {a b} h=>by have:=h.1;have:=h.2;omega
def CornersW (w:World)(l:List Cv)(e:Ending)(w':World):Prop :=
 ∃ (v:Value) (ks:List Int),e=.returned v∧IsCorn l ks∧w'.ownsRow w.heap.size 28 1 v (ks.length+1) ((0 :: ks).map (Value.int .u64))∧Below w.heap.size w w'
structure SeenAt (W:World)(b:Nat)(f:List Cv)(M:List (Int × Value)):Prop where
 map:MapU Tryz.prog 28 W b M
 iff:∀ x,(lookM M x).isSome=true↔∃ c∈f,c.2.1=x
 num:∀ x v,lookM M x=some v→∃ n:Nat,v=.int .i64 n∧n≤f.length
 len:M.length≤f.length
theorem SeenAt.put {W W':World} {b:Nat} {f:List Cv} {M:List (Int × Value)} (h:SeenAt W b f M)(c:Cv)(n:Nat)(hn:n≤f.length)(hm:MapU Tryz.prog 28 W' b (putM M c.2.1 (.int .i64 ((n:Int)+1)))):SeenAt W' b (f ++ [c]) (putM M c.2.1 (.int .i64 ((n:Int)+1))):=by
 refine⟨hm,fun x=>?_,fun x v hv=>?_,by have:=put_length c.2.1 (.int .i64 ((n:Int)+1)) M;have:=h.len;simp;omega⟩
 ·by_cases e:x=c.2.1
  ·subst e;rw [look_put_same];simp
  ·rw [look_put_other _ e,h.iff];simp [Ne.symm e]
 ·by_cases e:x=c.2.1
  ·subst e;rw [look_put_same] at hv
   exact⟨n+1,by cases hv;simp,by simp;omega⟩
  ·rw [look_put_other _ e] at hv
   obtain⟨m,h1,h2⟩:=h.num x v hv
   exact⟨m,h1,by simp;omega⟩
theorem wf_word {x:Int} (h:U x):(Lit.int .u64 x).wf=true:=by
 have:=h.1;have:=h.2
 simp [Lit.wf,IntKind.min,IntKind.max,IntKind.signed,IntKind.bits]
 omega
theorem corners_any (v:Value)(l:List Cv)(w:World)(h:CvAt w v l)(hfew:l.length≤12) :
  Calls Tryz.prog 191 #[v] w (CornersW w l):=by
 have hm:=fun w h=>smay_any v l w h
 have H:=Lib.hid h;have HM:=Lib.hid hm
 clear h hm
 have hmm:=@run_makeMap Tryz.prog
 obtain⟨i0,hi,hz0,hz1,hz2⟩:=info_parts info_u64K
 go_enter Tryz.func191,Tryz.ntmps191
 go_wp2_with fail
 refine (HM.out _ (H.out.later ((Below.refl w.heap.size w).alloc (Nat.le_refl _) _))).mono ?_
 rintro e w1 ⟨v1,rfl,⟨hc1,hown⟩,hb1⟩
 obtain⟨a1,cap1,rfl⟩:∃ a cap,v1=.slice a (l.filter okC).length cap:=by obtain⟨_,_,a,cap,e,_⟩:=hc1;exact⟨a,cap,e⟩
 have hS:SeenAt w1 w.heap.size [] []:=⟨(MapU.made w).heap (hb1.block _ (by simp)),fun x=>by simp [lookM],fun x v hv=>by simp [lookM] at hv,by simp⟩
 have hbw:=((Below.refl w.heap.size w).alloc (Nat.le_refl _) (.map #[] 0)).trans (hb1.mono (by simp))
 obtain⟨f,hf⟩:∃ f,f=l.filter okC:=⟨_,rfl⟩
 rw [← hf] at hc1 ⊢
 obtain⟨b,hb⟩:∃ b,b=w.heap.size:=⟨_,rfl⟩
 rw [← hb] at hS ⊢
 have hfl:=hc1.2.1
 have hbf:∀ k,(Value.slice a1 f.length cap1).ownBlock=some k→b < k:=fun k e=>by have:=hown k (by rw [← e,hf]);simp at this;omega
 have HC:=Lib.hid hc1;have HS:=Lib.hid hS;have HB:=Lib.hid hbw;have HF:=Lib.hid hf;have HBB:=Lib.hid hb;have HO:=Lib.hid hbf
 clear hc1 hS hbw hf hb hb1 hown hbf hmm H HM
 go_wp2_with fail
 go_loopw [10] (fun vi W=>∃ (k:Nat) (M:List (Int × Value)),vi=.int .i64 k∧k≤f.length∧CvAt W (.slice a1 f.length cap1) f∧SeenAt W b (f.take k) M∧Below w.heap.size w W) (fun vi _=>f.length - (Go.RowKit.intOf vi).toNat)
 case atStart=>exact⟨0,[],rfl,by omega,HC.out,by simpa using HS.out,HB.out⟩
 case round =>
  obtain⟨k,M,rfl,hk,hC,hS,hB⟩:=hrel
  have HK:=Lib.hid hC;have HS2:=Lib.hid hS;have HB2:=Lib.hid hB
  by_cases hlt:k < f.length
  ·obtain⟨c,hc⟩:∃ c,f[k]?=some c:=⟨_,List.getElem?_eq_getElem (by omega)⟩
   obtain⟨hu,_,a',cap',e',h0 | ⟨bb,off,e2,hbl,_,hcells⟩⟩:=hC
   ·rw [h0] at hlt;simp at hlt
   ·simp only [Value.slice.injEq,true_and] at e'
    obtain⟨rfl,rfl⟩:=e'
    subst e2
    obtain⟨c0,c1,c2⟩:=hcells k c hc
    have hUc:=hu c (List.mem_of_getElem? hc)
    have hT:f.take (k+1)=f.take k ++ [c]:=by rw [List.take_add_one,hc];rfl
    obtain⟨F,L,R⟩:=c
    dsimp only at c0 c1 c2 hUc
    have hS1:=hS.map.kept (World.grownBy_alloc wr (.cells #[.int .u64 F,.int .u64 L,.int .u64 R] 30) none) (by simp)
    have hwf:=wf_word hUc.2.1
    have hlook:=hS1.look (k:=L) (E:=3) (T:=253) (z:=.int .i64 0) Tryz.underlying28 Tryz.underlying253 (by exact Tryz.zeroValue3 _) hwf
    obtain⟨q,hq,hqk⟩:∃ q:Nat,(lookM M L).getD (.int .i64 0)=.int .i64 q∧q≤(f.take k).length:=by
     cases hl:lookM M L with
     | none=>exact⟨0,rfl,by omega⟩
     | some u=>obtain⟨q,rfl,h2⟩:=hS.num L u hl;exact⟨q,rfl,h2⟩
    rw [hq] at hlook
    have hqs:q≤1000000:=by rw [List.length_take] at hqk;omega
    obtain⟨W2,hrun,hM2,hturn⟩:=hS1.store (k:=L) (E:=3) (T:=253) Tryz.underlying28 Tryz.underlying253 hwf (by have:=hS.len;rw [List.length_take] at this;unfold maxLen;omega) (.int .i64 ((q:Int)+1))
    have hS2:=hS.put (F,L,R) q hqk hM2
    have hg:=hturn.grown
    have hbw:b < wr.heap.size:=hS.map.lt
    have HG:=Lib.hid hg;have HS3:=Lib.hid hS2;have HT:=Lib.hid hT
    clear hcells hu hS hB hc hT hS1 hM2 hturn hS2 hg hq hqk
    go_wp2_with fail
    go_roundw
    case measure=>(simp [Go.RowKit.intOf];try omega)
    case rel =>
     have hb0:=(Below.refl wr.heap.size wr).alloc (Nat.le_refl _) (.cells #[.int .u64 F,.int .u64 L,.int .u64 R] 30)
     refine⟨k+1,_,by go_num,by omega,(HK.out.later hb0).grown HG.out (fun j e=>by have:=HO.out j e;simp;omega),by rw [HT.out];exact HS3.out,?_⟩
     exact (HB2.out.trans (hb0.mono HB2.out.size)).grown HG.out (by have:=HB2.out.size;simp;omega) (fun j e=>by cases e;have:=HBB.out;omega)
  ·obtain rfl:k=f.length:=by omega
   rw [List.take_length] at HS2
   have hS:=HS2.out
   obtain⟨W2,hrun,hM2,hturn⟩:=hS.map.drop (k:=0) (E:=3) (T:=253) Tryz.underlying28 Tryz.underlying253 (by decide) 0
   have hbw:b < wr.heap.size:=hS.map.lt
   have hmem:∀ x,(lookM (delM M 0) x).isSome=true↔x≠0∧∃ c∈f,c.2.1=x:=fun x=>by
    by_cases e:x=0
    ·subst e;rw [look_del_same];simp
    ·rw [look_del_other e,hS.iff];simp [e]
   have hlen:(delM M 0).length≤12:=by have:=del_length 0 M;have:=hS.len;have h3:=HF.out;have h4:=List.length_filter_le okC l;rw [← h3] at h4;omega
   have hb2:Below w.heap.size w W2:=HB2.out.grown hturn.grown HB2.out.size (fun j e=>by cases e;have:=HBB.out;omega)
   have hu:=HK.out.1
   have hrow:(W2.alloc (.cells #[.int .u64 0] 28)).ownsRow w.heap.size 28 1 (.slice (some ⟨W2.heap.size,0,none⟩) 1 1) 1 [.int .u64 0]:=⟨rfl,.inr ⟨_,1,#[.int .u64 0],rfl,hb2.size,World.alloc_heap_new W2 _,by omega,by decide,rfl,rfl⟩⟩
   have hk:=fun mb W=>callsIn_wide.1 (keysU_in Fence.wide 5 trivial rfl mb W)
   have hs:=sortedU_any (W2.heap.size+1) b (delM M 0) ((W2.alloc (.cells #[.int .u64 0] 28)).alloc (.cells #[.map (some b)] 253)) (by simp) (by have:=Blk.new (W2.alloc (.cells #[.int .u64 0] 28)) 253 #[.map (some b)];rw [World.size_alloc] at this;exact this.cell 0) ((hM2.kept (World.grownBy_alloc _ _ none) (by simp)).kept (World.grownBy_alloc _ _ none) (by simp)) hlen
   have hb3:Below w.heap.size w ((W2.alloc (.cells #[.int .u64 0] 28)).alloc (.cells #[.map (some b)] 253)):=(hb2.alloc hb2.size _).alloc (by have:=hb2.size;simp;omega) _
   have hrow2:=hrow.alloc (.cells #[.map (some b)] 253)
   have HMEM:=Lib.hid hmem;have HB3:=Lib.hid hb3;have HU:=Lib.hid hu;have HROW:=Lib.hid hrow2
   clear hS hM2 hturn hmem hb2 hu hlen hrow hb3 hC hB hrow2
   go_wp2_with fail
   refine (hk _ _).mono ?_
   clear hk
   rintro e w3 ⟨rfl,rfl⟩
   go_wp2_with fail
   refine hs.mono ?_
   clear hs
   rintro e w5 ⟨v2,ks,rfl,hup,hks,hcase,hb5⟩
   have hIC:IsCorn l ks:=by
    have hF:=HF.out
    have hm:∀ n,n∈ks↔∃ c∈l,okC c=true∧c.2.1≠0∧c.2.1=n:=fun n=>by
     rw [hks,HMEM.out,hF]
     constructor
     ·rintro ⟨h0,c,hc,rfl⟩
      exact⟨c,(List.mem_filter.1 hc).1,(List.mem_filter.1 hc).2,h0,rfl⟩
     ·rintro ⟨c,hc,ho,h0,rfl⟩
      exact⟨h0,c,List.mem_filter.2 ⟨hc,ho⟩,rfl⟩
    refine⟨List.pairwise_cons.2 ⟨fun x hx=>?_,hup⟩,hm⟩
    obtain⟨h0,c,hc,rfl⟩:=(HMEM.out x).1 ((hks x).1 hx)
    have:=(HU.out c hc).2.1.1
    omega
   have hkl:ks.length≤1000000:=by
    have h1:ks.length≤f.length:=by
     have hn:ks.Nodup:=hup.imp fun {a b} h=>by omega
     have hsub:∀ x∈ks,x∈f.map (fun c=>c.2.1):=fun x hx=>by
      obtain⟨_,c,hc,rfl⟩:=(HMEM.out x).1 ((hks x).1 hx)
      exact List.mem_map.2 ⟨c,hc,rfl⟩
     have:=List.Nodup.length_le_of_subset hn hsub
     simpa using this
    omega
   have hrow5:=HROW.out.kept (grown_none hb5) (.inr (by simp [Value.ownBlock]))
   have hb6:=HB3.out.trans (hb5.mono HB3.out.size)
   have HIC:=Lib.hid hIC;have HB6:=Lib.hid hb6
   clear hIC hup hks HMEM hb5
   rcases hcase with ⟨rfl,rfl⟩ | ⟨g,cap,rfl,hR⟩
   ·go_wp2_with (at_builtin;refine wpList_append_own_none rfl _ _ 23 rfl w.heap.size 28 i0 1 Tryz.underlying23 hi _ _ _ rfl hrow5 rfl ?_)
    go_ret
    exact⟨_,[],rfl,HIC.out,hrow5,HB6.out⟩
   ·have hg6:=HB6.out.size
    go_wp2_with (at_builtin;refine wpList_append_own _ rfl _ _ 23 rfl w.heap.size 28 i0 (.int .u64 0) 1 8 Tryz.underlying23 hi hz0 hz1 hz2 rfl (by decide) _ _ _ rfl hrow5 ⟨g,0,none⟩ ks.length cap (ks.map (Value.int .u64)) rfl (by simp) (fun j u hj=>by rw [List.getElem?_map] at hj;obtain⟨x,hx,rfl⟩:=Option.map_eq_some_iff.1 hj;have hjl:=(List.getElem?_eq_some_iff.1 hx).1;have:=hR.cell (i:=j) (by simpa using hjl);rw [getElem!_pos ks.toArray j (by simpa using hjl)] at this;rw [Addr.add_lit,Nat.zero_add,this];simp [(List.getElem?_eq_some_iff.1 hx).2]) (fun u hu=>by obtain⟨x,_,rfl⟩:=List.mem_map.1 hu;rfl) (by unfold maxLen;omega) (by omega) hg6 ?_;intro v' w6 hown' hgrow _)
    go_ret
    refine⟨v',ks,rfl,HIC.out,?_,HB6.out.grown hgrow HB6.out.size (fun j e=>by cases e;exact (hrow5.lt _ rfl).1)⟩
    rw [Nat.add_comm]
    simpa using hown'
end
end Go.Proofs.YtmmeopjemkjllaaGreat
