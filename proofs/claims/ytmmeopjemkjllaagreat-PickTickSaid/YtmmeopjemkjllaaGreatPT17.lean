/- Lemmas of the claim. No conditions beyond those that each states. -/
import Derived.Test.YtmmeopjemkjllaaGreatPT15
import Derived.Test.YtmmeopjemkjllaaGreatPT16
import Derived.Laws.Bits64
import Derived.Laws.Bits64b
import Derived.Deep.CutBlock
import Derived.Deep.DeepCutAuto
import Derived.Laws.AppendOwnNone
import Derived.Deep.DrawnRows
set_option linter.unusedVariables false
set_option linter.unusedSimpArgs false
set_option maxRecDepth 100000
set_option maxHeartbeats 8000000
namespace Go.Proofs.YtmmeopjemkjllaaGreat
section
open Go.RowKit Go.Sort
theorem bitLen_bounds:∀ n:Nat,n < 18446744073709551616→n < 2 ^ Lib.bitLen n∧(1≤n→2 ^ Lib.bitLen n≤2*n):=by
 intro n
 induction n using Nat.strongRecOn with
 | _ n ih =>
  intro h
  by_cases h0:n=0
  ·subst h0;exact⟨by decide,by omega⟩
  ·by_cases h1:n=1
   ·subst h1;exact⟨by decide,fun _=>by decide⟩
   have e:=Lib.bitLen_half n h0 (by simpa using h)
   obtain⟨i1,i2⟩:=ih (n / 2) (by omega) (by omega)
   rw [e,Nat.pow_add]
   generalize 2 ^ Lib.bitLen (n / 2)=k at i1 i2 ⊢
   refine⟨by omega,fun _=>?_⟩
   have:=i2 (by omega)
   omega
theorem lenW (n:Int)(w:World)(h0:0≤n)(h1:n≤18446744073709551615):Calls Tryz.prog 117 #[.int .u64 n] w fun e w'=>e=.returned (.int .i64 (Lib.bitLen n.toNat))∧w'=w:=Any.bits_Len lenB n w h0 h1
def PdqW (w:World)(g a b:Nat)(d:Array Int)(e:Ending)(w':World):Prop:=e=.returned (.tuple #[])∧∃ k,PermIn a b d k∧SortedIn ltInt a b k∧RowW w' g k∧w.grownBy w' (some g)
theorem pdqS (g cap a b lim:Nat)(d:Array Int)(w:World)(hm:b - a≤12)(h:RowW w g d)(hab:a≤b)(hb:b≤d.size)(hsz:d.size≤1000000) :
  Calls Tryz.prog 214 #[.slice (some ⟨g,0,none⟩) d.size cap,.int .i64 a,.int .i64 b,.int .i64 lim] w (PdqW w g a b d):=by
 have hc:=insertW g cap a b d w h hab hb hsz
 obtain⟨s1,s2⟩:=insertionSort_holds (lt:=ltInt) swo_ltInt d a b hab hb
 have HC:=Lib.hid (And.intro hc (And.intro s1 s2))
 obtain⟨n,hn⟩:∃ n,n=d.size:=⟨_,rfl⟩
 rw [← hn] at hb hsz HC ⊢
 clear h hc s1 s2 hn
 go_enter Tryz.func214,Tryz.ntmps214
 go_wp2
 go_loopw [1,2,3,8,9] (fun v1 v2 v3 v8 v9 W=>v1=.int .i64 a∧v2=.int .i64 b∧v3=.int .i64 lim∧v8=.bool true∧v9=.bool true∧W=w) (fun v1 v2 _ _ _ _=>(Go.RowKit.intOf v2 - Go.RowKit.intOf v1).toNat)
 case atStart=>exact⟨rfl,rfl,rfl,rfl,rfl,rfl⟩
 case round =>
  obtain⟨rfl,rfl,rfl,rfl,rfl,rfl⟩:=hrel
  go_wp2_with fail
  refine HC.out.1.mono ?_
  rintro e w2 ⟨rfl,hR2,hG2⟩
  have HR2:=Lib.hid (And.intro hR2 hG2)
  clear hR2 hG2
  go_wp2_with fail
  go_returns
  exact⟨rfl,_,HC.out.2.1,HC.out.2.2,HR2.out.1,HR2.out.2⟩
def SortW (w : World) (g : Nat) (l : List Int) (e : Ending) (w' : World) : Prop := e = .returned (.tuple #[]) ∧ ∃ k : Array Int, k.size = l.length ∧ k.toList.Perm l ∧ k.toList.Pairwise (· ≤ ·) ∧ RowW w' g k ∧ w.grownBy w' (some g)
theorem sortS (g cap : Nat) (l : List Int) (w : World) (h : RowW w g l.toArray) (hsz : l.length ≤ 12) :
    Calls Tryz.prog 208 #[.slice (some ⟨g, 0, none⟩) l.length cap] w (SortW w g l) := by
  have hlen := fun w => lenW (l.length : Int) w (by omega) (by omega)
  simp only [Int.toNat_natCast] at hlen
  have hb := (bitLen_bounds l.length (by omega))
  have hl64 : Lib.bitLen l.length ≤ 64 := by
    by_cases h0 : 1 ≤ l.length
    · have h2 := hb.2 h0
      by_cases h : Lib.bitLen l.length ≤ 64
      · exact h
      · have := Nat.pow_le_pow_right (show 1 ≤ 2 by omega) (show 65 ≤ Lib.bitLen l.length by omega)
        omega
    · have : l.length = 0 := by omega
      rw [this]; decide
  clear hb
  generalize Lib.bitLen l.length = m at hlen hl64
  have hc := pdqS g cap 0 l.length m l.toArray w (by omega) h (by omega) (by simp) (by simp; omega)
  simp only [List.size_toArray] at hc
  go_enter Tryz.func208, Tryz.ntmps208
  go_wp2_with fail
  refine (hlen _).mono ?_
  rintro e w1 ⟨rfl, rfl⟩
  clear hlen h
  go_wp2_with fail
  refine hc.mono ?_
  clear hc
  rintro e w2 ⟨rfl, k, hP, hS, hR, hG⟩
  have hz : k.size = l.length := by simpa using hP.1
  have hperm : k.toList.Perm l := by
    have := hP.2.2
    rw [show (k.extract 0 l.length) = k by rw [← hz]; simp] at this
    simpa using this
  have hsort : k.toList.Pairwise (· ≤ ·) := by
    rw [List.pairwise_iff_getElem]
    intro i j hi hj hij
    have h1 := hS i j (by omega) hij (by simp at hj; omega)
    simp only [Array.length_toList] at hi hj
    rw [getElem!_pos k i hi, getElem!_pos k j hj] at h1
    simp only [ltInt, decide_eq_false_iff_not, Int.not_lt] at h1
    simpa using h1
  have HX := Lib.hid (And.intro hz (And.intro hperm (And.intro hsort (And.intro hR hG))))
  clear hP hS hR hG hz hperm hsort
  go_wp2_with fail
  go_returns
  exact ⟨rfl, k, HX.out⟩
end
section
open Go.RowKit Go.Maps Go.Shelf
def SortedW (w : World) (M : List (Int × Value)) (e : Ending) (w' : World) : Prop :=
  ∃ (v : Value) (ks : List Int), e = .returned v ∧ ks.Pairwise (· < ·) ∧ (∀ x, x ∈ ks ↔ (lookM M x).isSome = true) ∧ (v = .slice none 0 0 ∧ ks = [] ∨ ∃ g cap, v = .slice (some ⟨g, 0, none⟩) ks.length cap ∧ RowW w' g ks.toArray) ∧ Below w.heap.size w w'
theorem once_len {M:List (Int × Value)} (hr:Rising M) {ss:List Int} (h:Once M ss):ss.length=M.length:=by
 have hn:(M.map (·.1)).Nodup:=by
  rw [List.Nodup,List.pairwise_map]
  exact hr.imp fun {p q} h=>by omega
 have hp:ss.Perm (M.map (·.1)):=(List.perm_ext_iff_of_nodup h.1 hn).2 fun x=>by
  rw [h.2 x]
  clear h hn hr
  induction M with
  | nil=>simp [lookM]
  | cons p r ih =>
   rw [lookM,List.map_cons,List.mem_cons]
   by_cases e:p.1=x
   ·simp [e]
   ·rw [if_neg e,ih];simp [Ne.symm e]
 rw [hp.length_eq,List.length_map]
theorem insertW0 (w:World):Calls Tryz.prog 216 #[.slice none 0 0,.int .i64 0,.int .i64 0] w fun e w'=>e=.returned (.tuple #[])∧w'=w:=by
 go_enter Tryz.func216,Tryz.ntmps216
 go_wp2
 refine wp_loop_rounds 1 ?_
 rw [rounds_succ]
 go_wp2
 go_returns
 exact⟨rfl,rfl⟩
theorem pdqW0 (w:World):Calls Tryz.prog 214 #[.slice none 0 0,.int .i64 0,.int .i64 0,.int .i64 0] w fun e w'=>e=.returned (.tuple #[])∧w'=w:=by
 go_enter Tryz.func214,Tryz.ntmps214
 go_wp2
 refine wp_loop_rounds 1 ?_
 rw [rounds_succ]
 go_wp2_with fail
 refine (insertW0 w).mono ?_
 rintro e w' ⟨rfl,rfl⟩
 go_wp2
 go_returns
 exact⟨rfl,rfl⟩
theorem sortW0 (w:World):Calls Tryz.prog 208 #[.slice none 0 0] w fun e w'=>e=.returned (.tuple #[])∧w'=w:=by
 have hlen:=lenW 0 w (by omega) (by omega)
 rw [show ((Lib.bitLen (0:Int).toNat:Nat):Int)=0 from rfl] at hlen
 go_enter Tryz.func208,Tryz.ntmps208
 go_wp2_with fail
 refine hlen.mono ?_
 rintro e w1 ⟨rfl,rfl⟩
 clear hlen
 go_wp2_with fail
 refine (pdqW0 _).mono ?_
 rintro e w2 ⟨rfl,rfl⟩
 go_wp2_with fail
 go_returns
 exact⟨rfl,rfl⟩
theorem RowW.of_owns {w:World} {base g cap:Nat} {E:TypeId} {ss:List Int} (h:w.ownsRow base E 1 (.slice (some ⟨g,0,none⟩) ss.length cap) ss.length (ss.map (Value.int .u64))):RowW w g ss.toArray:=by
 refine⟨fun j hj=>?_,(h.lt g rfl).2⟩
 have hj':j < ss.length:=by simpa using hj
 rw [Nat.zero_add]
 refine⟨?_,h.frozenAt j⟩
 rw [h.cellAt j (by omega),List.getElem?_map,List.getElem?_eq_getElem hj',getElem!_pos ss.toArray j hj]
 simp [eW]
theorem sortedU_any (Bm b:Nat)(M:List (Int × Value))(w:World)(hBm:Bm < w.heap.size)(hm:w.cell? ⟨Bm,0,none⟩=some (.map (some b)))(hown:MapU Tryz.prog 28 w b M)(hl:M.length≤12) :
  Calls Tryz.prog 198 #[.func (.func 209) #[] #[.pointer (some ⟨Bm,0,none⟩)]] w (SortedW w M):=by
 have hr:=hown.rising (int_keyed Tryz.underlying28)
 have hseq:=keysU_stops Fence.wide 3 trivial rfl (by omega) Bm b M w hBm hm hown
 have hc:=callsIn_wide.1 (collectU_in Fence.wide 5 trivial trivial rfl (by omega) 209 #[.pointer (some ⟨Bm,0,none⟩)] trivial (enters_of Tryz.func209 (by kernel_rfl) rfl) (Once M) M.length (by omega) w hseq (fun ss h=>by rw [once_len hr h];exact Nat.le_refl _))
 clear hseq hown hm
 have HR:=Lib.hid hr
 clear hr
 go_enter Tryz.func198,Tryz.ntmps198
 go_wp2_with fail
 refine hc.mono ?_
 clear hc
 rintro e w1 ⟨v,ss,rfl,hS,hrow,hb⟩
 have hsl:=once_len HR.out hS
 rcases hrow.2 with ⟨rfl,h0⟩ | ⟨g,cap,cur,rfl,h1,h2,h3,h4,h5,h6⟩
 ·obtain rfl:ss=[]:=List.eq_nil_of_length_eq_zero h0
  have HS:=Lib.hid hS;have HB:=Lib.hid hb
  clear hS hb hrow hsl
  go_wp2_with fail
  refine (sortW0 _).mono ?_
  rintro e w2 ⟨rfl,rfl⟩
  go_wp2_with fail
  go_ret
  exact⟨_,[],rfl,.nil,HS.out.2,.inl ⟨rfl,rfl⟩,HB.out⟩
 ·have hsort:=sortS g cap ss w1 (RowW.of_owns hrow) (by omega)
  have HS:=Lib.hid hS;have HB:=Lib.hid hb
  clear hS hb hrow hsl h2 h3 h4 h5 h6
  go_wp2_with fail
  refine hsort.mono ?_
  clear hsort
  rintro e w2 ⟨rfl,k,k1,k2,k3,hR,hG⟩
  have HK:=Lib.hid (And.intro k1 (And.intro k2 (And.intro k3 (And.intro hR hG))))
  clear k1 k2 k3 hR hG
  go_wp2_with fail
  go_ret
  obtain⟨k1,k2,k3,hR,hG⟩:=HK.out
  refine⟨_,k.toList,rfl,?_,fun x=>by rw [k2.mem_iff];exact HS.out.2 x,.inr ⟨g,cap,by rw [show k.toList.length=ss.length by simpa using k1];rfl,hR⟩,HB.out.grown hG HB.out.size (fun j e=>by cases e;exact h1)⟩
  have hn:k.toList.Nodup:=k2.nodup_iff.2 HS.out.1
  exact (k3.and hn).imp fun {a b} h=>by have:=h.1;have:=h.2;omega
def CornersW (w:World)(l:List Cv)(e:Ending)(w':World):Prop :=
 ∃ (v:Value)(ks:List Int),e=.returned v∧IsCorn l ks∧w'.ownsRow w.heap.size 28 1 v (ks.length+1) ((0 :: ks).map (Value.int .u64))∧Below w.heap.size w w'
structure SeenAt (W:World)(b:Nat)(f:List Cv)(M:List (Int × Value)):Prop where
 map:MapU Tryz.prog 28 W b M
 iff:∀ x,(lookM M x).isSome=true↔∃ c∈f,c.2.1=x
 num:∀ x v,lookM M x=some v→∃ n:Nat,v=.int .i64 n∧n≤f.length
 len:M.length≤f.length
theorem SeenAt.put {W W':World} {b:Nat} {f:List Cv} {M:List (Int × Value)} (h:SeenAt W b f M)(c:Cv)(n:Nat)(hn:n≤f.length)(hm:MapU Tryz.prog 28 W' b (putM M c.2.1 (.int .i64 ((n:Int)+1)))):SeenAt W' b (f ++ [c]) (putM M c.2.1 (.int .i64 ((n:Int)+1))):=by
 refine⟨hm,fun x=>?_,fun x v hv=>?_,by have:=put_length c.2.1 (.int .i64 ((n:Int)+1)) M;have:=h.len;simp;omega⟩
 ·by_cases e:x=c.2.1
  ·subst e;rw [look_put_same];simp
  ·rw [look_put_other _ e,h.iff];simp [Ne.symm e]
 ·by_cases e:x=c.2.1
  ·subst e;rw [look_put_same] at hv
   exact⟨n+1,by cases hv;simp,by simp;omega⟩
  ·rw [look_put_other _ e] at hv
   obtain⟨m,h1,h2⟩:=h.num x v hv
   exact⟨m,h1,by simp;omega⟩
theorem wf_word {x:Int} (h:U x):(Lit.int .u64 x).wf=true:=by
 have:=h.1;have:=h.2
 simp [Lit.wf,IntKind.min,IntKind.max,IntKind.signed,IntKind.bits]
 omega
theorem corners_any (v:Value)(l:List Cv)(w:World)(h:CvAt w v l)(hfew:l.length≤12) :
  Calls Tryz.prog 191 #[v] w (CornersW w l):=by
 have hm:=fun w h=>smay_any v l w h
 have H:=Lib.hid h;have HM:=Lib.hid hm
 clear h hm
 have hmm:=@run_makeMap Tryz.prog
 obtain⟨i0,hi,hz0,hz1,hz2⟩:=info_parts info_u64K
 go_enter Tryz.func191,Tryz.ntmps191
 go_wp2_with fail
 refine (HM.out _ (H.out.later ((Below.refl w.heap.size w).alloc (Nat.le_refl _) _))).mono ?_
 rintro e w1 ⟨v1,rfl,⟨hc1,hown⟩,hb1⟩
 obtain⟨a1,cap1,rfl⟩:∃ a cap,v1=.slice a (l.filter okC).length cap:=by obtain⟨_,_,a,cap,e,_⟩:=hc1;exact⟨a,cap,e⟩
 have hS:SeenAt w1 w.heap.size [] []:=⟨(MapU.made w).heap (hb1.block _ (by simp)),fun x=>by simp [lookM],fun x v hv=>by simp [lookM] at hv,by simp⟩
 have hbw:=((Below.refl w.heap.size w).alloc (Nat.le_refl _) (.map #[] 0)).trans (hb1.mono (by simp))
 obtain⟨f,hf⟩:∃ f,f=l.filter okC:=⟨_,rfl⟩
 rw [← hf] at hc1 ⊢
 obtain⟨b,hb⟩:∃ b,b=w.heap.size:=⟨_,rfl⟩
 rw [← hb] at hS ⊢
 have hfl:=hc1.2.1
 have hbf:∀ k,(Value.slice a1 f.length cap1).ownBlock=some k→b < k:=fun k e=>by have:=hown k (by rw [← e,hf]);simp at this;omega
 have HC:=Lib.hid hc1;have HS:=Lib.hid hS;have HB:=Lib.hid hbw;have HF:=Lib.hid hf;have HBB:=Lib.hid hb;have HO:=Lib.hid hbf
 clear hc1 hS hbw hf hb hb1 hown hbf hmm H HM
 go_wp2_with fail
 go_loopw [10] (fun vi W=>∃ (k:Nat)(M:List (Int × Value)),vi=.int .i64 k∧k≤f.length∧CvAt W (.slice a1 f.length cap1) f∧SeenAt W b (f.take k) M∧Below w.heap.size w W) (fun vi _=>f.length - (Go.RowKit.intOf vi).toNat)
 case atStart=>exact⟨0,[],rfl,by omega,HC.out,by simpa using HS.out,HB.out⟩
 case round =>
  obtain⟨k,M,rfl,hk,hC,hS,hB⟩:=hrel
  have HK:=Lib.hid hC;have HS2:=Lib.hid hS;have HB2:=Lib.hid hB
  by_cases hlt:k < f.length
  ·obtain⟨c,hc⟩:∃ c,f[k]?=some c:=⟨_,List.getElem?_eq_getElem (by omega)⟩
   obtain⟨hu,_,a',cap',e',h0 | ⟨bb,off,e2,hbl,_,hcells⟩⟩:=hC
   ·rw [h0] at hlt;simp at hlt
   ·simp only [Value.slice.injEq,true_and] at e'
    obtain⟨rfl,rfl⟩:=e'
    subst e2
    obtain⟨c0,c1,c2⟩:=hcells k c hc
    have hUc:=hu c (List.mem_of_getElem? hc)
    have hT:f.take (k+1)=f.take k ++ [c]:=by rw [List.take_add_one,hc];rfl
    obtain⟨F,L,R⟩:=c
    dsimp only at c0 c1 c2 hUc
    have hS1:=hS.map.kept (World.grownBy_alloc wr (.cells #[.int .u64 F,.int .u64 L,.int .u64 R] 30) none) (by simp)
    have hwf:=wf_word hUc.2.1
    have hlook:=hS1.look (k:=L) (E:=3) (T:=253) (z:=.int .i64 0) Tryz.underlying28 Tryz.underlying253 (by exact Tryz.zeroValue3 _) hwf
    obtain⟨q,hq,hqk⟩:∃ q:Nat,(lookM M L).getD (.int .i64 0)=.int .i64 q∧q≤(f.take k).length:=by
     cases hl:lookM M L with
     | none=>exact⟨0,rfl,by omega⟩
     | some u=>obtain⟨q,rfl,h2⟩:=hS.num L u hl;exact⟨q,rfl,h2⟩
    rw [hq] at hlook
    have hqs:q≤1000000:=by rw [List.length_take] at hqk;omega
    obtain⟨W2,hrun,hM2,hturn⟩:=hS1.store (k:=L) (E:=3) (T:=253) Tryz.underlying28 Tryz.underlying253 hwf (by have:=hS.len;rw [List.length_take] at this;unfold maxLen;omega) (.int .i64 ((q:Int)+1))
    have hS2:=hS.put (F,L,R) q hqk hM2
    have hg:=hturn.grown
    have hbw:b < wr.heap.size:=hS.map.lt
    have HG:=Lib.hid hg;have HS3:=Lib.hid hS2;have HT:=Lib.hid hT
    clear hcells hu hS hB hc hT hS1 hM2 hturn hS2 hg hq hqk
    go_wp2_with fail
    go_roundw
    case measure=>(simp [Go.RowKit.intOf];try omega)
    case rel =>
     have hb0:=(Below.refl wr.heap.size wr).alloc (Nat.le_refl _) (.cells #[.int .u64 F,.int .u64 L,.int .u64 R] 30)
     refine⟨k+1,_,by go_num,by omega,(HK.out.later hb0).grown HG.out (fun j e=>by have:=HO.out j e;simp;omega),by rw [HT.out];exact HS3.out,?_⟩
     exact (HB2.out.trans (hb0.mono HB2.out.size)).grown HG.out (by have:=HB2.out.size;simp;omega) (fun j e=>by cases e;have:=HBB.out;omega)
  ·obtain rfl:k=f.length:=by omega
   rw [List.take_length] at HS2
   have hS:=HS2.out
   obtain⟨W2,hrun,hM2,hturn⟩:=hS.map.drop (k:=0) (E:=3) (T:=253) Tryz.underlying28 Tryz.underlying253 (by decide) 0
   have hbw:b < wr.heap.size:=hS.map.lt
   have hmem:∀ x,(lookM (delM M 0) x).isSome=true↔x≠0∧∃ c∈f,c.2.1=x:=fun x=>by
    by_cases e:x=0
    ·subst e;rw [look_del_same];simp
    ·rw [look_del_other e,hS.iff];simp [e]
   have hlen:(delM M 0).length≤12:=by have:=del_length 0 M;have:=hS.len;have h3:=HF.out;have h4:=List.length_filter_le okC l;rw [← h3] at h4;omega
   have hb2:Below w.heap.size w W2:=HB2.out.grown hturn.grown HB2.out.size (fun j e=>by cases e;have:=HBB.out;omega)
   have hu:=HK.out.1
   have hrow:(W2.alloc (.cells #[.int .u64 0] 28)).ownsRow w.heap.size 28 1 (.slice (some ⟨W2.heap.size,0,none⟩) 1 1) 1 [.int .u64 0]:=⟨rfl,.inr ⟨_,1,#[.int .u64 0],rfl,hb2.size,World.alloc_heap_new W2 _,by omega,by decide,rfl,rfl⟩⟩
   have hk:=fun mb W=>callsIn_wide.1 (keysU_in Fence.wide 5 trivial rfl mb W)
   have hs:=sortedU_any (W2.heap.size+1) b (delM M 0) ((W2.alloc (.cells #[.int .u64 0] 28)).alloc (.cells #[.map (some b)] 253)) (by simp) (by have:=Blk.new (W2.alloc (.cells #[.int .u64 0] 28)) 253 #[.map (some b)];rw [World.size_alloc] at this;exact this.cell 0) ((hM2.kept (World.grownBy_alloc _ _ none) (by simp)).kept (World.grownBy_alloc _ _ none) (by simp)) hlen
   have hb3:Below w.heap.size w ((W2.alloc (.cells #[.int .u64 0] 28)).alloc (.cells #[.map (some b)] 253)):=(hb2.alloc hb2.size _).alloc (by have:=hb2.size;simp;omega) _
   have hrow2:=hrow.alloc (.cells #[.map (some b)] 253)
   have HMEM:=Lib.hid hmem;have HB3:=Lib.hid hb3;have HU:=Lib.hid hu;have HROW:=Lib.hid hrow2
   clear hS hM2 hturn hmem hb2 hu hlen hrow hb3 hC hB hrow2
   go_wp2_with fail
   refine (hk _ _).mono ?_
   clear hk
   rintro e w3 ⟨rfl,rfl⟩
   go_wp2_with fail
   refine hs.mono ?_
   clear hs
   rintro e w5 ⟨v2,ks,rfl,hup,hks,hcase,hb5⟩
   have hIC:IsCorn l ks:=by
    have hF:=HF.out
    have hm:∀ n,n∈ks↔∃ c∈l,okC c=true∧c.2.1≠0∧c.2.1=n:=fun n=>by
     rw [hks,HMEM.out,hF]
     constructor
     ·rintro ⟨h0,c,hc,rfl⟩
      exact⟨c,(List.mem_filter.1 hc).1,(List.mem_filter.1 hc).2,h0,rfl⟩
     ·rintro ⟨c,hc,ho,h0,rfl⟩
      exact⟨h0,c,List.mem_filter.2 ⟨hc,ho⟩,rfl⟩
    refine⟨List.pairwise_cons.2 ⟨fun x hx=>?_,hup⟩,hm⟩
    obtain⟨h0,c,hc,rfl⟩:=(HMEM.out x).1 ((hks x).1 hx)
    have:=(HU.out c hc).2.1.1
    omega
   have hkl:ks.length≤1000000:=by
    have h1:ks.length≤f.length:=by
     have hn:ks.Nodup:=hup.imp fun {a b} h=>by omega
     have hsub:∀ x∈ks,x∈f.map (fun c=>c.2.1):=fun x hx=>by
      obtain⟨_,c,hc,rfl⟩:=(HMEM.out x).1 ((hks x).1 hx)
      exact List.mem_map.2 ⟨c,hc,rfl⟩
     have:=List.Nodup.length_le_of_subset hn hsub
     simpa using this
    omega
   have hrow5:=HROW.out.kept (grown_none hb5) (.inr (by simp [Value.ownBlock]))
   have hb6:=HB3.out.trans (hb5.mono HB3.out.size)
   have HIC:=Lib.hid hIC;have HB6:=Lib.hid hb6
   clear hIC hup hks HMEM hb5
   rcases hcase with ⟨rfl,rfl⟩ | ⟨g,cap,rfl,hR⟩
   ·go_wp2_with (at_builtin;refine wpList_append_own_none rfl _ _ 23 rfl w.heap.size 28 i0 1 Tryz.underlying23 hi _ _ _ rfl hrow5 rfl ?_)
    go_ret
    exact⟨_,[],rfl,HIC.out,hrow5,HB6.out⟩
   ·have hg6:=HB6.out.size
    go_wp2_with (at_builtin;refine wpList_append_own _ rfl _ _ 23 rfl w.heap.size 28 i0 (.int .u64 0) 1 8 Tryz.underlying23 hi hz0 hz1 hz2 rfl (by decide) _ _ _ rfl hrow5 ⟨g,0,none⟩ ks.length cap (ks.map (Value.int .u64)) rfl (by simp) (fun j u hj=>by rw [List.getElem?_map] at hj;obtain⟨x,hx,rfl⟩:=Option.map_eq_some_iff.1 hj;have hjl:=(List.getElem?_eq_some_iff.1 hx).1;have:=hR.cell (i:=j) (by simpa using hjl);rw [getElem!_pos ks.toArray j (by simpa using hjl)] at this;rw [Addr.add_lit,Nat.zero_add,this];simp [(List.getElem?_eq_some_iff.1 hx).2]) (fun u hu=>by obtain⟨x,_,rfl⟩:=List.mem_map.1 hu;rfl) (by unfold maxLen;omega) (by omega) hg6 ?_;intro v' w6 hown' hgrow _)
    go_ret
    refine⟨v',ks,rfl,HIC.out,?_,HB6.out.grown hgrow HB6.out.size (fun j e=>by cases e;exact (hrow5.lt _ rfl).1)⟩
    rw [Nat.add_comm]
    simpa using hown'
end
section
open Go.RowKit
attribute [local go_sem ↓] Go.wp_at_zero Go.wp_at_succ
attribute [local go_sem] quietR quietAtR quietUponR midAt midUpon
def BelowP (a b:Cv):Prop:=okC a=true∧okC b=true∧Under a b
noncomputable instance (a b:Cv):Decidable (BelowP a b):=Classical.propDecidable _
theorem below_of {a b:Cv} {ks:List Int} (oa:okC a=true)(ob:okC b=true)(na:0≤a.2.1)(nb:0≤b.2.1)(hR:a.2.2≤b.2.2)(hk:IsCorn [a,b] ks)(h:∀ t∈0 :: ks,vC a t≤vC b t):Under a b:=by
 have key:∀ c:Cv,c∈[a,b]→okC c=true→vC a c.2.1≤vC b c.2.1:=fun c hc ho=>by
  by_cases e:c.2.1=0
  ·rw [e];exact h 0 (.head _)
  ·exact h _ (.tail _ ((hk.mem _).2 ⟨c,hc,ho,e,rfl⟩))
 exact under_of na nb hR (key a (by simp) oa) (key b (by simp) ob)
theorem vS_one {c:Cv} (h:okC c=true)(t:Int):vS [c] t=vC c t:=by simp [vS,h]
theorem CvAt.of_blk {w:World} {B cap:Nat} {l:List Cv} (h:Blk w B 30 (cvCells l).toArray)(hu:UU l)(hl:l.length≤1000000)(hc:l.length≤cap):CvAt w (.slice (some ⟨B,0,none⟩) l.length cap) l:=by
 refine⟨hu,hl,_,_,rfl,.inr ⟨B,0,rfl,h.lt,hc,fun i c hi=>?_⟩⟩
 obtain⟨c0,c1,c2⟩:=cvCells_get l i c hi
 rw [Nat.zero_add,h.cell,h.cell,h.cell]
 simp only [List.getElem?_toArray]
 exact⟨c0,c1,c2⟩
def BelW (w:World)(a b:Cv)(e:Ending)(w':World):Prop:=e=.returned (.bool (decide (BelowP a b)))∧Below w.heap.size w w'
theorem below_any (a b:Cv)(w:World)(ua:U a.1∧U a.2.1∧U a.2.2)(ub:U b.1∧U b.2.1∧U b.2.2) :
    Calls Tryz.prog 183 #[cvV a,cvV b] w (BelW w a b):=by
  obtain⟨F,L,R⟩:=a
  obtain⟨G,M,S⟩:=b
  unfold cvV
  dsimp only at ua ub ⊢
  have hma:=fun w=>may_any F L R w ua.2.1.1
  have hmb:=fun w=>may_any G M S w ub.2.1.1
  rw [show mayB F L R=okC (F,L,R) from rfl] at hma
  rw [show mayB G M S=okC (G,M,S) from rfl] at hmb
  have hA:=(Blk.new w 30 #[.int .u64 F,.int .u64 L,.int .u64 R]).alloc (.cells #[.int .u64 G,.int .u64 M,.int .u64 S] 30)
  have hB:=Blk.new (w.alloc (.cells #[.int .u64 F,.int .u64 L,.int .u64 R] 30)) 30 #[.int .u64 G,.int .u64 M,.int .u64 S]
  rw [World.size_alloc] at hB
  have hb0:=((Below.refl w.heap.size w).alloc (Nat.le_refl _) (.cells #[.int .u64 F,.int .u64 L,.int .u64 R] 30)).alloc (by simp) (.cells #[.int .u64 G,.int .u64 M,.int .u64 S] 30)
  have hab:∀ W,Below ((w.alloc (.cells #[.int .u64 F,.int .u64 L,.int .u64 R] 30)).alloc (.cells #[.int .u64 G,.int .u64 M,.int .u64 S] 30)).heap.size ((w.alloc (.cells #[.int .u64 F,.int .u64 L,.int .u64 R] 30)).alloc (.cells #[.int .u64 G,.int .u64 M,.int .u64 S] 30)) W →
      ((W.cell? ⟨w.heap.size,0,none⟩=some (.int .u64 F)∧W.cell? ⟨w.heap.size,1,none⟩=some (.int .u64 L)∧W.cell? ⟨w.heap.size,2,none⟩=some (.int .u64 R)) ∧
       (W.cell? ⟨w.heap.size+1,0,none⟩=some (.int .u64 G)∧W.cell? ⟨w.heap.size+1,1,none⟩=some (.int .u64 M)∧W.cell? ⟨w.heap.size+1,2,none⟩=some (.int .u64 S)))∧Below w.heap.size w W∧w.heap.size+2≤W.heap.size:=fun W hW=>by
    have h1:=hA.below hW hA.lt;have h2:=hB.below hW hB.lt
    exact⟨⟨⟨h1.cell 0,h1.cell 1,h1.cell 2⟩,⟨h2.cell 0,h2.cell 1,h2.cell 2⟩⟩,hb0.trans (hW.mono (by simp;omega)),by have:=hW.size;simp at this;omega⟩
  have HAB:=Lib.hid hab
  clear hA hB hb0 hab
  by_cases oa:okC (F,L,R)=true
  · by_cases ob:okC (G,M,S)=true
    · rw [oa] at hma
      rw [ob] at hmb
      have HMA:=Lib.hid hma;have HMB:=Lib.hid hmb
      clear hma hmb
      by_cases hR:R≤S
      · go_enter Tryz.func183,Tryz.ntmps183
        go_wp2_with fail
        refine (HMA.out _).mono ?_
        rintro e w1 ⟨rfl,hb1⟩
        obtain⟨⟨⟨c0,c1,c2⟩,⟨d0,d1,d2⟩⟩,hbw,hsz⟩:=HAB.out _ hb1
        have HB1:=Lib.hid hb1
        clear hb1
        go_wp2_with fail
        refine (HMB.out _).mono ?_
        clear c0 c1 c2 d0 d1 d2 hbw hsz
        rintro e w2 ⟨rfl,hb2⟩
        have hb2':=HB1.out.trans (hb2.mono HB1.out.size)
        obtain⟨⟨⟨c0,c1,c2⟩,⟨d0,d1,d2⟩⟩,hbw,hsz⟩:=HAB.out _ hb2'
        have huu:UU [(F,L,R),(G,M,S)]:=fun c hc=>by
          simp at hc;rcases hc with rfl | rfl
          · exact ua
          · exact ub
        have hcv:CvAt (w2.alloc (.cells #[.int .u64 F,.int .u64 L,.int .u64 R,.int .u64 G,.int .u64 M,.int .u64 S] 30)) (.slice (some ⟨w2.heap.size,0,none⟩) 2 2) [(F,L,R),(G,M,S)]:=CvAt.of_blk (l:=[(F,L,R),(G,M,S)]) (Blk.new w2 30 #[.int .u64 F,.int .u64 L,.int .u64 R,.int .u64 G,.int .u64 M,.int .u64 S]) huu (by simp) (by simp)
        have hcor:=corners_any _ _ _ hcv (by simp)
        have HB2:=Lib.hid hb2';have HBW:=Lib.hid (And.intro hbw hsz);have HUU:=Lib.hid huu
        clear hb2 hb2' HB1 hbw hsz hcv huu
        go_wp2_with fail
        refine hcor.mono ?_
        clear hcor
        rintro e w3 ⟨ve,ks,rfl,hIC,hrow,hb3⟩
        obtain⟨g,cap,rfl,hg1,hg2⟩:=hrow.form (by omega)
        have hce:∀ W,Below w3.heap.size w3 W→∀ (j:Nat)(t:Int),(0 :: ks)[j]?=some t→W.cell? ⟨g,j,none⟩=some (.int .u64 t):=fun W hW j t hj=>by
          rw [hW.cell (p:=⟨g,j,none⟩) hg2,hrow.cellAt j (by have:=(List.getElem?_eq_some_iff.1 hj).1;simp at this;omega),List.getElem?_map,hj];rfl
        have hkl:ks.length≤1000000:=by
          have hn:ks.Nodup:=(List.pairwise_cons.1 hIC.up).2.imp fun {a b} h=>by omega
          have hsub:∀ x∈ks,x∈[L,M]:=fun x hx=>by
            obtain⟨c,hc,_,_,rfl⟩:=(hIC.mem x).1 hx
            simp at hc
            rcases hc with rfl | rfl <;> simp
          have:=List.Nodup.length_le_of_subset hn hsub
          simp at this;omega
        have hb3':Below ((w.alloc (.cells #[.int .u64 F,.int .u64 L,.int .u64 R] 30)).alloc (.cells #[.int .u64 G,.int .u64 M,.int .u64 S] 30)).heap.size ((w.alloc (.cells #[.int .u64 F,.int .u64 L,.int .u64 R] 30)).alloc (.cells #[.int .u64 G,.int .u64 M,.int .u64 S] 30)) w3:=(HB2.out.alloc HB2.out.size _).trans (hb3.mono (by have:=HB2.out.size;simp at this ⊢;omega))
        have hat:=fun (c:Cv)(hc:U c.1∧U c.2.1∧U c.2.2)(W:World)(B:Nat)(t:Int)(ht:U t)(hB:Blk W B 30 #[.int .u64 c.1,.int .u64 c.2.1,.int .u64 c.2.2])=>sat_anyS (.slice (some ⟨B,0,none⟩) 1 1) [c] t W (CvAt.of_blk (l:=[c]) hB (fun d hd=>by simp at hd;subst hd;exact hc) (by simp) (by simp)) ht
        have HCE:=Lib.hid hce;have HIC:=Lib.hid hIC;have HB3:=Lib.hid hb3';have HAT:=Lib.hid hat
        clear hrow hce hIC hb3 hb3' HB2 c0 c1 c2 d0 d1 d2 hat
        go_wp2_with fail
        go_loopw [27] (fun vi W=>∃ k:Nat,vi=.int .i64 k∧k≤ks.length+1∧Below w3.heap.size w3 W∧∀ t∈(0 :: ks).take k,vC (F,L,R) t≤vC (G,M,S) t) (fun vi _=>(ks.length+1 - Go.RowKit.intOf vi).toNat)
        case atStart=>exact⟨0,rfl,by omega,Below.refl _ _,fun t ht=>by simp at ht⟩
        case round =>
          obtain⟨k,rfl,hk,hbW,hall⟩:=hrel
          have HA:=Lib.hid hall;have HBW3:=Lib.hid hbW
          clear hall
          have hb6:=HB3.out.trans (hbW.mono HB3.out.size)
          obtain⟨⟨⟨c0,c1,c2⟩,⟨d0,d1,d2⟩⟩,hbw,hsz⟩:=HAB.out _ hb6
          by_cases hlt:k < ks.length+1
          · obtain⟨t,ht⟩:∃ t,(0 :: ks)[k]?=some t:=⟨_,List.getElem?_eq_getElem (by simpa using hlt)⟩
            have ct:=HCE.out _ hbW k t ht
            have htl:=HIC.out.le t (List.mem_of_getElem? ht)
            have hT:(0 :: ks).take (k+1)=(0 :: ks).take k ++ [t]:=by rw [List.take_add_one,ht];rfl
            have ut:U t:=by unfold U;omega
            have hta:=fun W B h=>HAT.out (F,L,R) ua W B t ut h
            have htb:=fun W B h=>HAT.out (G,M,S) ub W B t ut h
            rw [vS_one oa] at hta
            rw [vS_one ob] at htb
            have ba:=vC_bd (c:=(F,L,R)) oa ua.1.1 ua.2.1.1 ua.2.2.1 ut.1 ut.2
            have bb:=vC_bd (c:=(G,M,S)) ob ub.1.1 ub.2.1.1 ub.2.2.1 ut.1 ut.2
            obtain⟨x,hx⟩:∃ x,vC (F,L,R) t=x:=⟨_,rfl⟩
            obtain⟨y,hy⟩:∃ y,vC (G,M,S) t=y:=⟨_,rfl⟩
            rw [hx] at hta ba
            rw [hy] at htb bb
            have hcmp:=fun W=>cmp_any (hiW x) (loW x) (hiW y) (loW y) W (U_lo _) (U_lo _)
            simp only [num_words] at hcmp
            generalize hiW x=x1 at hta hcmp
            generalize loW x=x0 at hta hcmp
            generalize hiW y=y1 at htb hcmp
            generalize loW y=y0 at htb hcmp
            have HTA:=Lib.hid hta;have HTB:=Lib.hid htb;have HCMP:=Lib.hid hcmp;have HX:=Lib.hid hx;have HY:=Lib.hid hy;have HT:=Lib.hid hT;have HBWW:=Lib.hid (And.intro hbw hsz)
            have l0:w.heap.size < wr.heap.size:=by omega
            have l1:w.heap.size+1 < wr.heap.size:=by omega
            have o0:=fun e=>(over_cell (w:=wr) (e:=e) l0).trans c0
            have o1:=fun e=>(over_cell (w:=wr) (e:=e) l0).trans c1
            have o2:=fun e=>(over_cell (w:=wr) (e:=e) l0).trans c2
            have p0:=fun e=>(over_cell (w:=wr) (e:=e) l1).trans d0
            have p1:=fun e=>(over_cell (w:=wr) (e:=e) l1).trans d1
            have p2:=fun e=>(over_cell (w:=wr) (e:=e) l1).trans d2
            clear hta htb hcmp hx hy hT hbw hsz hb6 hbW ht ba bb
            go_wp2
            refine wp_region_mid (w:=wr) 8 2 [1,3,5,7] [] [(1,fun u W'=>∃ B,u=.slice (some ⟨B,0,none⟩) 1 1∧Blk W' B 30 #[.int .u64 F,.int .u64 L,.int .u64 R]),(3,fun u W'=>u=.agg #[.int .u64 x1,.int .u64 x0]),(5,fun u W'=>∃ B,u=.slice (some ⟨B,0,none⟩) 1 1∧Blk W' B 30 #[.int .u64 G,.int .u64 M,.int .u64 S]),(7,fun u W'=>u=.agg #[.int .u64 y1,.int .u64 y0])] rfl (by kernel_rfl) (by kernel_rfl) (by kernel_rfl) (by kernel_rfl) (fun _ _ _ _ _ h=>h) ⟨?st1,?st2,?st3,?st4,trivial⟩ ?_
            case st1=>exact fun v W1 W2 ⟨b,h1,h2⟩ hb=>⟨b,h1,h2.below hb h2.lt⟩
            case st2=>exact fun v W1 W2 h hb=>h
            case st3=>exact fun v W1 W2 ⟨b,h1,h2⟩ hb=>⟨b,h1,h2.below hb h2.lt⟩
            case st4=>exact fun v W1 W2 h hb=>h
            intro LL hL
            have HL:=Lib.hid hL
            clear hL
            simp only [List.take_succ_cons,List.take_zero,putL]
            repeat (first | refine wpHead_skip (by decide) ?_ | (refine wpHead_step (by decide) (fun K hK=>?_);go_simp;refine hK _ ?_;clear hK K))
            refine wpHead_nil (HL.out _ ⟨?_,?_,?_,?_,trivial⟩ ?_)
            · intro vs W2 hb2 hf
              clear hf HL
              change midAt _ _ (Act.put (Act.put (Act.put (Act.put _ (some 32) (vs 1)) (some 34) (vs 3)) (some 36) (vs 5)) (some 38) (vs 7)) _ _
              go_simp
              exact⟨(Below.refl _ _).alloc (Nat.le_refl _) _,Blk.new _ _ _⟩
            · intro vs W2 hb2 hf
              obtain⟨⟨B,hB1,hB2⟩,hff⟩:=hf
              clear hff HL
              change midAt _ _ (Act.put (Act.put (Act.put (Act.put _ (some 32) (vs 1)) (some 34) (vs 3)) (some 36) (vs 5)) (some 38) (vs 7)) _ _
              rw [hB1]
              clear hB1
              go_simp
              exact HTA.out W2 B hB2
            · intro vs W2 hb2 hf
              clear hf HL
              change midAt _ _ (Act.put (Act.put (Act.put (Act.put _ (some 32) (vs 1)) (some 34) (vs 3)) (some 36) (vs 5)) (some 38) (vs 7)) _ _
              go_simp
              exact⟨(Below.refl _ _).alloc (Nat.le_refl _) _,Blk.new _ _ _⟩
            · intro vs W2 hb2 hf
              obtain⟨⟨B,hB1,hB2⟩,hff⟩:=hf
              clear hff HL
              change midAt _ _ (Act.put (Act.put (Act.put (Act.put _ (some 32) (vs 1)) (some 34) (vs 3)) (some 36) (vs 5)) (some 38) (vs 7)) _ _
              rw [hB1]
              clear hB1
              go_simp
              exact HTB.out W2 B hB2
            · intro vs W2 hb2 hf
              obtain⟨⟨B1,f1,f2⟩,f3,⟨B2,f4,f5⟩,f6,hff⟩:=hf
              clear hff HL
              change wpList _ _ _ _ (Act.put (Act.put (Act.put (Act.put _ (some 32) (vs 1)) (some 34) (vs 3)) (some 36) (vs 5)) (some 38) (vs 7)) _
              rw [f1,f3,f4,f6]
              clear f1 f3 f4 f6 f2 f5 c0 c1 c2 d0 d1 d2 o0 o1 o2 p0 p1 p2 ct
              simp only [List.drop_succ_cons,List.drop_zero,List.take_succ_cons,List.take_zero]
              have HB2:=Lib.hid hb2
              clear hb2
              go_wp2_with fail
              refine (HCMP.out _).mono ?_
              rintro e w4 ⟨rfl,hb4⟩
              have hb4':=HB2.out.trans (hb4.mono HB2.out.size)
              have HB4:=Lib.hid hb4'
              clear hb4 hb4' HB2
              by_cases hxy:x≤y
              · have hc:decide (0 < cmpI x y)=false:=by
                  unfold cmpI;simp;split
                  · omega
                  · split <;> omega
                simp only [hc]
                have hc0:¬ 0 < cmpI x y:=of_decide_eq_false hc
                have HC0:=Lib.hid hc0
                generalize cmpI x y=z at hc hc0 ⊢
                clear hc
                go_wp2_with fail
                go_roundw
                case measure=>(simp [Go.RowKit.intOf];try omega)
                case rel =>
                  refine⟨k+1,by go_num,by omega,HBW3.out.trans (HB4.out.mono HBW3.out.size),fun q hq=>?_⟩
                  rw [HT.out] at hq
                  rcases List.mem_append.1 hq with hq | hq
                  · exact HA.out q hq
                  · simp at hq;subst hq;rw [HX.out,HY.out];exact hxy
              · have hc0:0 < cmpI x y:=by
                  unfold cmpI;split
                  · omega
                  · split <;> omega
                generalize cmpI x y=z at hc0 ⊢
                have hres:decide (BelowP (F,L,R) (G,M,S))=false:=decide_eq_false fun h=>by
                  have:=h.2.2 t ut.1
                  rw [HX.out,HY.out] at this
                  omega
                have HRES:=Lib.hid hres
                clear hres
                go_wp2_with fail
                go_ret
                exact⟨by rw [HRES.out];rfl,HBWW.out.1.trans (HB4.out.mono (by have:=HBWW.out.1.size;omega))⟩
          · obtain rfl:k=ks.length+1:=by omega
            have hres:decide (BelowP (F,L,R) (G,M,S))=true:=decide_eq_true ⟨oa,ob,below_of oa ob ua.2.1.1 ub.2.1.1 hR HIC.out fun t ht=>HA.out t (by rw [List.take_of_length_le (by simp)];exact ht)⟩
            have HRES:=Lib.hid hres;have HBW4:=Lib.hid hbw
            clear hres c0 c1 c2 d0 d1 d2 hbw hsz hb6
            go_wp2_with fail
            go_ret
            exact⟨by rw [HRES.out];rfl,HBW4.out⟩
      · have hres:decide (BelowP (F,L,R) (G,M,S))=false:=decide_eq_false fun h=>hR (under_rest oa ob ⟨ua.1.1,ua.2.1.1,ua.2.2.1⟩ ⟨ub.1.1,ub.2.1.1,ub.2.2.1⟩ (h.2.2 _ (by decide)))
        have HRES:=Lib.hid hres
        clear hres
        have hSR:S < R:=by omega
        go_enter Tryz.func183,Tryz.ntmps183
        go_wp2_with fail
        refine (HMA.out _).mono ?_
        rintro e w1 ⟨rfl,hb1⟩
        obtain⟨⟨⟨c0,c1,c2⟩,⟨d0,d1,d2⟩⟩,hbw,hsz⟩:=HAB.out _ hb1
        have HB1:=Lib.hid hb1
        clear hb1
        go_wp2_with fail
        refine (HMB.out _).mono ?_
        clear c0 c1 c2 d0 d1 d2 hbw hsz
        rintro e w2 ⟨rfl,hb2⟩
        have hb2':=HB1.out.trans (hb2.mono HB1.out.size)
        obtain⟨⟨⟨c0,c1,c2⟩,⟨d0,d1,d2⟩⟩,hbw,hsz⟩:=HAB.out _ hb2'
        have HBW:=Lib.hid hbw
        clear hb2 hb2' hbw hsz
        go_wp2_with fail
        go_ret
        exact⟨by rw [HRES.out];rfl,HBW.out⟩
    · rw [oa] at hma
      have obf:okC (G,M,S)=false:=by simpa using ob
      rw [obf] at hmb
      have hres:decide (BelowP (F,L,R) (G,M,S))=false:=decide_eq_false fun h=>ob h.2.1
      have HMA:=Lib.hid hma;have HMB:=Lib.hid hmb;have HRES:=Lib.hid hres
      clear hma hmb hres
      go_enter Tryz.func183,Tryz.ntmps183
      go_wp2_with fail
      refine (HMA.out _).mono ?_
      rintro e w1 ⟨rfl,hb1⟩
      obtain⟨⟨⟨c0,c1,c2⟩,⟨d0,d1,d2⟩⟩,hbw,hsz⟩:=HAB.out _ hb1
      have HB1:=Lib.hid hb1
      clear hb1
      go_wp2_with fail
      refine (HMB.out _).mono ?_
      clear c0 c1 c2 d0 d1 d2 hbw hsz
      rintro e w2 ⟨rfl,hb2⟩
      obtain⟨_,hbw,hsz⟩:=HAB.out _ (HB1.out.trans (hb2.mono HB1.out.size))
      have HBW:=Lib.hid hbw
      clear hb2 hbw hsz
      go_wp2_with fail
      go_ret
      exact⟨by rw [HRES.out];rfl,HBW.out⟩
  · have oaf:okC (F,L,R)=false:=by simpa using oa
    rw [oaf] at hma
    have hres:decide (BelowP (F,L,R) (G,M,S))=false:=decide_eq_false fun h=>oa h.1
    have HMA:=Lib.hid hma;have HRES:=Lib.hid hres
    clear hma hmb hres
    go_enter Tryz.func183,Tryz.ntmps183
    go_wp2_with fail
    refine (HMA.out _).mono ?_
    rintro e w1 ⟨rfl,hb1⟩
    obtain⟨_,hbw,hsz⟩:=HAB.out _ hb1
    have HBW:=Lib.hid hbw
    clear hb1 hbw hsz
    go_wp2_with fail
    go_ret
    exact⟨by rw [HRES.out];rfl,HBW.out⟩
end
section
open Go.RowKit
attribute [local go_sem ↓] Go.wp_at_zero Go.wp_at_succ
attribute [local go_sem] quietR quietAtR quietUponR midAt midUpon
structure Sp where
 id:Int
 pa:Int
 lf:Bool
 r:Cv
 s:Cv
 u:Cv
 pk:Int
 by_:Int
def spC (s:Sp):Array Value:=#[.int .i64 s.id,.int .i64 s.pa,.bool s.lf,.int .u64 s.r.1,.int .u64 s.r.2.1,.int .u64 s.r.2.2,.int .u64 s.s.1,.int .u64 s.s.2.1,.int .u64 s.s.2.2,.int .u64 s.u.1,.int .u64 s.u.2.1,.int .u64 s.u.2.2,.int .i64 s.pk,.int .i64 s.by_]
def spV (s:Sp):Value:=.agg (spC s)
def UC (c:Cv):Prop:=U c.1∧U c.2.1∧U c.2.2
def WfSp (s:Sp):Prop:=((Lit.int .i64 s.id).wf=true∧(Lit.int .i64 s.pa).wf=true∧(Lit.int .i64 s.pk).wf=true∧(Lit.int .i64 s.by_).wf=true)∧UC s.r∧UC s.s∧UC s.u
def noneB (c:Cv):Bool:=decide (c=(0,0,0))
def inB (n a b:Int):Bool:=decide (a≤n) && decide (n≤b)
def namedB (s:Sp):Bool:=inB s.id 1 65535 && inB s.pa 0 65535 && (s.id != s.pa)
def curvesB (s:Sp):Bool:=okC s.r && okC s.s && okC s.u
def kindB (s:Sp):Int:=if s.lf=false then 4 else if noneB s.r=false then (if noneB s.s=false then 3 else 1) else (if noneB s.s=false then 2 else 0)
def shapedB (s:Sp):Bool:=if s.lf then (!(noneB s.r && noneB s.s)) && inB s.pk 1 4096 && inB s.by_ 1 16777216 else noneB s.r && !noneB s.s && (s.pk == 0) && (s.by_ == 0)
def goesB (c:Cv):Bool:=noneB c || decide (0 < c.2.2)
def sharedB (s:Sp):Bool:=goesB s.s && goesB s.u && (noneB s.u || !noneB s.s)
noncomputable def underB (s:Sp):Bool:=noneB s.r || noneB s.u || decide (BelowP s.r s.u)
noncomputable def mayS (s:Sp):Bool:=namedB s && curvesB s && shapedB s && sharedB s && underB s
def BxAt (w W:World)(t:TypeId)(cs:Array Value):Prop:=Blk W w.heap.size t cs∧Below w.heap.size w W
theorem BxAt.new (w:World)(t:TypeId)(cs:Array Value):BxAt w (w.alloc (.cells cs t)) t cs:=⟨Blk.new w t cs,(Below.refl w.heap.size w).alloc (Nat.le_refl _) _⟩
theorem BxAt.step {w W W':World} {t:TypeId} {cs:Array Value} (h:BxAt w W t cs)(hb:Below W.heap.size W W'):BxAt w W' t cs:=⟨h.1.below hb h.1.lt,h.2.trans (hb.mono h.2.size)⟩
theorem cnoneH_any (F L R:Int)(w:World) :
  Calls Tryz.prog 81 #[.agg #[.int .u64 F,.int .u64 L,.int .u64 R]] w fun e w'=>e=.returned (.bool (noneB (F,L,R)))∧Below w.heap.size w w':=by
 unfold noneB
 by_cases h1:F=0
 ·by_cases h2:L=0
  ·by_cases h3:R=0
   ·subst h1 h2 h3
    go_enter Tryz.func81,Tryz.ntmps81
    go_wp2
    go_ret
    exact⟨rfl,by go_grown⟩
   ·go_enter Tryz.func81,Tryz.ntmps81
    go_wp2
    go_ret
    exact⟨by simp [h3],by go_grown⟩
  ·go_enter Tryz.func81,Tryz.ntmps81
   go_wp2
   go_ret
   exact⟨by simp [h2],by go_grown⟩
 ·go_enter Tryz.func81,Tryz.ntmps81
  go_wp2
  go_ret
  exact⟨by simp [h1],by go_grown⟩
theorem in_any (n a b:Int)(w:World) :
  Calls Tryz.prog 180 #[.int .i64 n,.int .i64 a,.int .i64 b] w fun e w'=>e=.returned (.bool (inB n a b))∧w=w':=by
 by_cases h1:a≤n
 ·by_cases h2:n≤b
  ·have E:=Lib.hid (show inB n a b=true by simp [inB,h1,h2])
   go_enter Tryz.func180,Tryz.ntmps180
   go_wp2
   go_ret
   exact⟨by rw [E.out];rfl,rfl⟩
  ·have E:=Lib.hid (show inB n a b=false by simp [inB,h1,h2])
   go_enter Tryz.func180,Tryz.ntmps180
   go_wp2
   go_ret
   exact⟨by rw [E.out];rfl,rfl⟩
 ·have E:=Lib.hid (show inB n a b=false by simp [inB,h1])
  go_enter Tryz.func180,Tryz.ntmps180
  go_wp2
  go_ret
  exact⟨by rw [E.out];rfl,rfl⟩
theorem goes_any (F L R:Int)(w:World) :
  Calls Tryz.prog 182 #[.agg #[.int .u64 F,.int .u64 L,.int .u64 R]] w fun e w'=>e=.returned (.bool (goesB (F,L,R)))∧Below w.heap.size w w':=by
 have hc:=fun w=>cnoneH_any F L R w
 unfold goesB
 generalize noneB (F,L,R)=b at hc ⊢
 dsimp only
 have H:=Lib.hid (BxAt.new w 30 #[.int .u64 F,.int .u64 L,.int .u64 R])
 have k0:=H.out.1.cell 0;have k1:=H.out.1.cell 1;have k2:=H.out.1.cell 2;simp only [lTA,lCZ,lCS] at k0 k1 k2
 cases b
 ·by_cases h:0 < R
  ·go_enter Tryz.func182,Tryz.ntmps182
   go_wp2_with (go_at_call 81;(with_reducible refine (hc _).mono ?_);rintro e W1 ⟨rfl,hb⟩;have H2:=Lib.hid (BxAt.step H.out hb);clear H hb;clear k0 k1 k2;have H:=Lib.hid H2.out;clear H2;have k0:=H.out.1.cell 0;have k1:=H.out.1.cell 1;have k2:=H.out.1.cell 2;simp only [lTA,lCZ,lCS] at k0 k1 k2)
   go_ret
   exact⟨by simp [h],H.out.2⟩
  ·go_enter Tryz.func182,Tryz.ntmps182
   go_wp2_with (go_at_call 81;(with_reducible refine (hc _).mono ?_);rintro e W1 ⟨rfl,hb⟩;have H2:=Lib.hid (BxAt.step H.out hb);clear H hb;clear k0 k1 k2;have H:=Lib.hid H2.out;clear H2;have k0:=H.out.1.cell 0;have k1:=H.out.1.cell 1;have k2:=H.out.1.cell 2;simp only [lTA,lCZ,lCS] at k0 k1 k2)
   go_ret
   exact⟨by simp [h],H.out.2⟩
 ·go_enter Tryz.func182,Tryz.ntmps182
  go_wp2_with (go_at_call 81;(with_reducible refine (hc _).mono ?_);rintro e W1 ⟨rfl,hb⟩;have H2:=Lib.hid (BxAt.step H.out hb);clear H hb;clear k0 k1 k2;have H:=Lib.hid H2.out;clear H2;have k0:=H.out.1.cell 0;have k1:=H.out.1.cell 1;have k2:=H.out.1.cell 2;simp only [lTA,lCZ,lCS] at k0 k1 k2)
  go_ret
  exact⟨by simp,H.out.2⟩
end
section
open Go.RowKit
attribute [local go_sem ↓] Go.wp_at_zero Go.wp_at_succ
attribute [local go_sem] quietR quietAtR quietUponR midAt midUpon
theorem named_any (s:Sp)(w:World)(hw:WfSp s) :
  Calls Tryz.prog 157 #[spV s] w fun e w'=>e=.returned (.bool (namedB s))∧Below w.heap.size w w':=by
 obtain⟨id,pa,lf,⟨F1,L1,R1⟩,⟨F2,L2,R2⟩,⟨F3,L3,R3⟩,pk,by_⟩:=s
 obtain⟨_,u1,u2,u3⟩:=hw
 unfold UC at u1 u2 u3
 unfold spV spC namedB
 dsimp only at u1 u2 u3 ⊢
 have h1:=fun w=>in_any id 1 65535 w
 have h2:=fun w=>in_any pa 0 65535 w
 generalize inB id 1 65535=b1 at h1 ⊢
 generalize inB pa 0 65535=b2 at h2 ⊢
 generalize hb3:(id != pa)=b3
 have H:=Lib.hid (BxAt.new w 32 #[.int .i64 id,.int .i64 pa,.bool lf,.int .u64 F1,.int .u64 L1,.int .u64 R1,.int .u64 F2,.int .u64 L2,.int .u64 R2,.int .u64 F3,.int .u64 L3,.int .u64 R3,.int .i64 pk,.int .i64 by_])
 have k0:=H.out.1.cell 0;have k1:=H.out.1.cell 1;have k2:=H.out.1.cell 2;have k3:=H.out.1.cell 3;have k4:=H.out.1.cell 4;have k5:=H.out.1.cell 5;have k6:=H.out.1.cell 6;have k7:=H.out.1.cell 7;have k8:=H.out.1.cell 8;have k9:=H.out.1.cell 9;have k10:=H.out.1.cell 10;have k11:=H.out.1.cell 11;have k12:=H.out.1.cell 12;have k13:=H.out.1.cell 13;simp only [lTA,lCZ,lCS] at k0 k1 k2 k3 k4 k5 k6 k7 k8 k9 k10 k11 k12 k13
 cases b1 <;> cases b2 <;> cases b3
 all_goals
  go_enter Tryz.func157,Tryz.ntmps157
  go_wp2_with (first | (go_at_call 180;(with_reducible refine (h1 _).mono ?_);rintro e W1 ⟨rfl,rfl⟩) | (go_at_call 180;(with_reducible refine (h2 _).mono ?_);rintro e W1 ⟨rfl,rfl⟩))
  go_ret
  exact⟨rfl,H.out.2⟩
end
section
open Go.RowKit
attribute [local go_sem ↓] Go.wp_at_zero Go.wp_at_succ
attribute [local go_sem] quietR quietAtR quietUponR midAt midUpon
theorem curves_any (s:Sp)(w:World)(hw:WfSp s) :
  Calls Tryz.prog 158 #[spV s] w fun e w'=>e=.returned (.bool (curvesB s))∧Below w.heap.size w w':=by
 obtain⟨id,pa,lf,⟨F1,L1,R1⟩,⟨F2,L2,R2⟩,⟨F3,L3,R3⟩,pk,by_⟩:=s
 obtain⟨_,u1,u2,u3⟩:=hw
 unfold UC at u1 u2 u3
 unfold spV spC curvesB okC
 dsimp only at u1 u2 u3 ⊢
 have h1:=fun w=>may_any F1 L1 R1 w u1.2.1.1
 have h2:=fun w=>may_any F2 L2 R2 w u2.2.1.1
 have h3:=fun w=>may_any F3 L3 R3 w u3.2.1.1
 generalize mayB F1 L1 R1=b1 at h1 ⊢
 generalize mayB F2 L2 R2=b2 at h2 ⊢
 generalize mayB F3 L3 R3=b3 at h3 ⊢
 have H:=Lib.hid (BxAt.new w 32 #[.int .i64 id,.int .i64 pa,.bool lf,.int .u64 F1,.int .u64 L1,.int .u64 R1,.int .u64 F2,.int .u64 L2,.int .u64 R2,.int .u64 F3,.int .u64 L3,.int .u64 R3,.int .i64 pk,.int .i64 by_])
 have k0:=H.out.1.cell 0;have k1:=H.out.1.cell 1;have k2:=H.out.1.cell 2;have k3:=H.out.1.cell 3;have k4:=H.out.1.cell 4;have k5:=H.out.1.cell 5;have k6:=H.out.1.cell 6;have k7:=H.out.1.cell 7;have k8:=H.out.1.cell 8;have k9:=H.out.1.cell 9;have k10:=H.out.1.cell 10;have k11:=H.out.1.cell 11;have k12:=H.out.1.cell 12;have k13:=H.out.1.cell 13;simp only [lTA,lCZ,lCS] at k0 k1 k2 k3 k4 k5 k6 k7 k8 k9 k10 k11 k12 k13
 cases b1 <;> cases b2 <;> cases b3
 all_goals
  go_enter Tryz.func158,Tryz.ntmps158
  go_wp2_with (first | (go_at_call 82;(with_reducible refine (h1 _).mono ?_);rintro e W1 ⟨rfl,hb⟩;have H2:=Lib.hid (BxAt.step H.out hb);clear H hb;clear k0 k1 k2 k3 k4 k5 k6 k7 k8 k9 k10 k11 k12 k13;have H:=Lib.hid H2.out;clear H2;have k0:=H.out.1.cell 0;have k1:=H.out.1.cell 1;have k2:=H.out.1.cell 2;have k3:=H.out.1.cell 3;have k4:=H.out.1.cell 4;have k5:=H.out.1.cell 5;have k6:=H.out.1.cell 6;have k7:=H.out.1.cell 7;have k8:=H.out.1.cell 8;have k9:=H.out.1.cell 9;have k10:=H.out.1.cell 10;have k11:=H.out.1.cell 11;have k12:=H.out.1.cell 12;have k13:=H.out.1.cell 13;simp only [lTA,lCZ,lCS] at k0 k1 k2 k3 k4 k5 k6 k7 k8 k9 k10 k11 k12 k13) | (go_at_call 82;(with_reducible refine (h2 _).mono ?_);rintro e W1 ⟨rfl,hb⟩;have H2:=Lib.hid (BxAt.step H.out hb);clear H hb;clear k0 k1 k2 k3 k4 k5 k6 k7 k8 k9 k10 k11 k12 k13;have H:=Lib.hid H2.out;clear H2;have k0:=H.out.1.cell 0;have k1:=H.out.1.cell 1;have k2:=H.out.1.cell 2;have k3:=H.out.1.cell 3;have k4:=H.out.1.cell 4;have k5:=H.out.1.cell 5;have k6:=H.out.1.cell 6;have k7:=H.out.1.cell 7;have k8:=H.out.1.cell 8;have k9:=H.out.1.cell 9;have k10:=H.out.1.cell 10;have k11:=H.out.1.cell 11;have k12:=H.out.1.cell 12;have k13:=H.out.1.cell 13;simp only [lTA,lCZ,lCS] at k0 k1 k2 k3 k4 k5 k6 k7 k8 k9 k10 k11 k12 k13) | (go_at_call 82;(with_reducible refine (h3 _).mono ?_);rintro e W1 ⟨rfl,hb⟩;have H2:=Lib.hid (BxAt.step H.out hb);clear H hb;clear k0 k1 k2 k3 k4 k5 k6 k7 k8 k9 k10 k11 k12 k13;have H:=Lib.hid H2.out;clear H2;have k0:=H.out.1.cell 0;have k1:=H.out.1.cell 1;have k2:=H.out.1.cell 2;have k3:=H.out.1.cell 3;have k4:=H.out.1.cell 4;have k5:=H.out.1.cell 5;have k6:=H.out.1.cell 6;have k7:=H.out.1.cell 7;have k8:=H.out.1.cell 8;have k9:=H.out.1.cell 9;have k10:=H.out.1.cell 10;have k11:=H.out.1.cell 11;have k12:=H.out.1.cell 12;have k13:=H.out.1.cell 13;simp only [lTA,lCZ,lCS] at k0 k1 k2 k3 k4 k5 k6 k7 k8 k9 k10 k11 k12 k13))
  go_ret
  exact⟨rfl,H.out.2⟩
end
section
open Go.RowKit
attribute [local go_sem ↓] Go.wp_at_zero Go.wp_at_succ
attribute [local go_sem] quietR quietAtR quietUponR midAt midUpon
theorem kind_any (s:Sp)(w:World)(hw:WfSp s) :
  Calls Tryz.prog 181 #[spV s] w fun e w'=>e=.returned (.int .u8 (kindB s))∧Below w.heap.size w w':=by
 obtain⟨id,pa,lf,⟨F1,L1,R1⟩,⟨F2,L2,R2⟩,⟨F3,L3,R3⟩,pk,by_⟩:=s
 unfold spV spC kindB
 dsimp only
 have h1:=fun w=>cnoneH_any F1 L1 R1 w
 have h2:=fun w=>cnoneH_any F2 L2 R2 w
 generalize noneB (F1,L1,R1)=b1 at h1 ⊢
 generalize noneB (F2,L2,R2)=b2 at h2 ⊢
 have H:=Lib.hid (BxAt.new w 32 #[.int .i64 id,.int .i64 pa,.bool lf,.int .u64 F1,.int .u64 L1,.int .u64 R1,.int .u64 F2,.int .u64 L2,.int .u64 R2,.int .u64 F3,.int .u64 L3,.int .u64 R3,.int .i64 pk,.int .i64 by_])
 cases lf <;> cases b1 <;> cases b2
 all_goals
  go_enter Tryz.func181,Tryz.ntmps181
  go_upto_region 1 with fail
  generalize w.alloc (.cells #[.int .i64 id,.int .i64 pa,_,.int .u64 F1,.int .u64 L1,.int .u64 R1,.int .u64 F2,.int .u64 L2,.int .u64 R2,.int .u64 F3,.int .u64 L3,.int .u64 R3,.int .i64 pk,.int .i64 by_] 32)=W0 at H ⊢
  have l1:=H.out.1.lt
  have o2:=fun e=>(over_cell (w:=W0) (e:=e) (o:=2) l1).trans (H.out.1.cell 2)
  have o3:=fun e=>(over_cell (w:=W0) (e:=e) (o:=3) l1).trans (H.out.1.cell 3)
  have o4:=fun e=>(over_cell (w:=W0) (e:=e) (o:=4) l1).trans (H.out.1.cell 4)
  have o5:=fun e=>(over_cell (w:=W0) (e:=e) (o:=5) l1).trans (H.out.1.cell 5)
  have o6:=fun e=>(over_cell (w:=W0) (e:=e) (o:=6) l1).trans (H.out.1.cell 6)
  have o7:=fun e=>(over_cell (w:=W0) (e:=e) (o:=7) l1).trans (H.out.1.cell 7)
  have o8:=fun e=>(over_cell (w:=W0) (e:=e) (o:=8) l1).trans (H.out.1.cell 8)
  simp only [lTA,lCZ,lCS] at o2 o3 o4 o5 o6 o7 o8
  have g1:=fun e=>h1 (over W0 e)
  have g2:=fun e=>h2 (over W0 e)
  clear h1 h2
  refine wp_region_over (by kernel_rfl) (by kernel_rfl) ?_
  repeat (first | go_big_quiet_skip | (go_big_quiet_want;go_big_quiet_op;first | go_big_quiet_on | (apply Exists.intro;refine⟨fun e=>?_,?_⟩;(focus (go_at_call 81;first | with_reducible exact calls_over (g1 _) | with_reducible exact calls_over (g2 _)));go_big_quiet_on)))
  refine wpQuiet_nil ?_
  rintro W2 ⟨e2,he2⟩
  have hb2:=over_below W0 e2
  rw [← he2] at hb2
  clear he2 o2 o3 o4 o5 o6 o7 o8 g1 g2
  have H2:=Lib.hid (BxAt.step H.out hb2)
  have k2:=H2.out.1.cell 2
  simp only [lTA,lCZ,lCS] at k2
  clear hb2 H l1
  go_wp2_with fail
  go_ret
  exact⟨rfl,H2.out.2⟩
end
section
open Go.RowKit
attribute [local go_sem ↓] Go.wp_at_zero Go.wp_at_succ
attribute [local go_sem] quietR quietAtR quietUponR midAt midUpon
theorem shaped_any (s:Sp)(w:World)(hw:WfSp s) :
  Calls Tryz.prog 159 #[spV s] w fun e w'=>e=.returned (.bool (shapedB s))∧Below w.heap.size w w':=by
 obtain⟨id,pa,lf,⟨F1,L1,R1⟩,⟨F2,L2,R2⟩,⟨F3,L3,R3⟩,pk,by_⟩:=s
 obtain⟨_,u1,u2,u3⟩:=hw
 unfold UC at u1 u2 u3
 unfold spV spC shapedB
 dsimp only at u1 u2 u3 ⊢
 have h0:=fun w=>kind_any ⟨id,pa,lf,(F1,L1,R1),(F2,L2,R2),(F3,L3,R3),pk,by_⟩ w ⟨‹_›,⟨u1,u2,u3⟩⟩
 unfold spV spC kindB at h0
 dsimp only at h0
 have h1:=fun w=>cnoneH_any F1 L1 R1 w
 have h2:=fun w=>cnoneH_any F2 L2 R2 w
 have h3:=fun w=>in_any pk 1 4096 w
 have h4:=fun w=>in_any by_ 1 16777216 w
 generalize noneB (F1,L1,R1)=b1 at h0 h1 ⊢
 generalize noneB (F2,L2,R2)=b2 at h0 h2 ⊢
 generalize inB pk 1 4096=b3 at h3 ⊢
 generalize inB by_ 1 16777216=b4 at h4 ⊢
 generalize hb5:(pk == 0)=b5
 generalize hb6:(by_ == 0)=b6
 have H:=Lib.hid (BxAt.new w 32 #[.int .i64 id,.int .i64 pa,.bool lf,.int .u64 F1,.int .u64 L1,.int .u64 R1,.int .u64 F2,.int .u64 L2,.int .u64 R2,.int .u64 F3,.int .u64 L3,.int .u64 R3,.int .i64 pk,.int .i64 by_])
 have k0:=H.out.1.cell 0;have k1:=H.out.1.cell 1;have k2:=H.out.1.cell 2;have k3:=H.out.1.cell 3;have k4:=H.out.1.cell 4;have k5:=H.out.1.cell 5;have k6:=H.out.1.cell 6;have k7:=H.out.1.cell 7;have k8:=H.out.1.cell 8;have k9:=H.out.1.cell 9;have k10:=H.out.1.cell 10;have k11:=H.out.1.cell 11;have k12:=H.out.1.cell 12;have k13:=H.out.1.cell 13;simp only [lTA,lCZ,lCS] at k0 k1 k2 k3 k4 k5 k6 k7 k8 k9 k10 k11 k12 k13
 cases lf
 ·clear h0 h3 h4
  cases b1 <;> cases b2 <;> cases b5 <;> cases b6
  all_goals
   go_enter Tryz.func159,Tryz.ntmps159
   go_wp2_with (first | (go_at_call 81;(with_reducible refine (h1 _).mono ?_);rintro e W1 ⟨rfl,hb⟩;have H2:=Lib.hid (BxAt.step H.out hb);clear H hb;clear k0 k1 k2 k3 k4 k5 k6 k7 k8 k9 k10 k11 k12 k13;have H:=Lib.hid H2.out;clear H2;have k0:=H.out.1.cell 0;have k1:=H.out.1.cell 1;have k2:=H.out.1.cell 2;have k3:=H.out.1.cell 3;have k4:=H.out.1.cell 4;have k5:=H.out.1.cell 5;have k6:=H.out.1.cell 6;have k7:=H.out.1.cell 7;have k8:=H.out.1.cell 8;have k9:=H.out.1.cell 9;have k10:=H.out.1.cell 10;have k11:=H.out.1.cell 11;have k12:=H.out.1.cell 12;have k13:=H.out.1.cell 13;simp only [lTA,lCZ,lCS] at k0 k1 k2 k3 k4 k5 k6 k7 k8 k9 k10 k11 k12 k13) | (go_at_call 81;(with_reducible refine (h2 _).mono ?_);rintro e W1 ⟨rfl,hb⟩;have H2:=Lib.hid (BxAt.step H.out hb);clear H hb;clear k0 k1 k2 k3 k4 k5 k6 k7 k8 k9 k10 k11 k12 k13;have H:=Lib.hid H2.out;clear H2;have k0:=H.out.1.cell 0;have k1:=H.out.1.cell 1;have k2:=H.out.1.cell 2;have k3:=H.out.1.cell 3;have k4:=H.out.1.cell 4;have k5:=H.out.1.cell 5;have k6:=H.out.1.cell 6;have k7:=H.out.1.cell 7;have k8:=H.out.1.cell 8;have k9:=H.out.1.cell 9;have k10:=H.out.1.cell 10;have k11:=H.out.1.cell 11;have k12:=H.out.1.cell 12;have k13:=H.out.1.cell 13;simp only [lTA,lCZ,lCS] at k0 k1 k2 k3 k4 k5 k6 k7 k8 k9 k10 k11 k12 k13))
   go_ret
   exact⟨rfl,H.out.2⟩
 ·clear h1 h2 hb5 hb6
  cases b1 <;> cases b2 <;> cases b3 <;> cases b4
  all_goals
   simp only [Bool.false_eq_true,Bool.true_eq_false,if_true,if_false] at h0
   go_enter Tryz.func159,Tryz.ntmps159
   go_wp2_with (first | (go_at_call 181;(with_reducible refine (h0 _).mono ?_);rintro e W1 ⟨rfl,hb⟩;have H2:=Lib.hid (BxAt.step H.out hb);clear H hb;clear k0 k1 k2 k3 k4 k5 k6 k7 k8 k9 k10 k11 k12 k13;have H:=Lib.hid H2.out;clear H2;have k0:=H.out.1.cell 0;have k1:=H.out.1.cell 1;have k2:=H.out.1.cell 2;have k3:=H.out.1.cell 3;have k4:=H.out.1.cell 4;have k5:=H.out.1.cell 5;have k6:=H.out.1.cell 6;have k7:=H.out.1.cell 7;have k8:=H.out.1.cell 8;have k9:=H.out.1.cell 9;have k10:=H.out.1.cell 10;have k11:=H.out.1.cell 11;have k12:=H.out.1.cell 12;have k13:=H.out.1.cell 13;simp only [lTA,lCZ,lCS] at k0 k1 k2 k3 k4 k5 k6 k7 k8 k9 k10 k11 k12 k13) | (go_at_call 180;(with_reducible refine (h3 _).mono ?_);rintro e W1 ⟨rfl,rfl⟩) | (go_at_call 180;(with_reducible refine (h4 _).mono ?_);rintro e W1 ⟨rfl,rfl⟩))
   go_ret
   exact⟨rfl,H.out.2⟩
end
section
open Go.RowKit
attribute [local go_sem ↓] Go.wp_at_zero Go.wp_at_succ
attribute [local go_sem] quietR quietAtR quietUponR midAt midUpon
theorem shared_any (s:Sp)(w:World)(hw:WfSp s) :
  Calls Tryz.prog 160 #[spV s] w fun e w'=>e=.returned (.bool (sharedB s))∧Below w.heap.size w w':=by
 obtain⟨id,pa,lf,⟨F1,L1,R1⟩,⟨F2,L2,R2⟩,⟨F3,L3,R3⟩,pk,by_⟩:=s
 obtain⟨_,u1,u2,u3⟩:=hw
 unfold UC at u1 u2 u3
 unfold spV spC sharedB
 dsimp only at u1 u2 u3 ⊢
 have h1:=fun w=>goes_any F2 L2 R2 w
 have h2:=fun w=>goes_any F3 L3 R3 w
 have h3:=fun w=>cnoneH_any F3 L3 R3 w
 have h4:=fun w=>cnoneH_any F2 L2 R2 w
 generalize goesB (F2,L2,R2)=b1 at h1 ⊢
 generalize goesB (F3,L3,R3)=b2 at h2 ⊢
 generalize noneB (F3,L3,R3)=b3 at h3 ⊢
 generalize noneB (F2,L2,R2)=b4 at h4 ⊢
 have H:=Lib.hid (BxAt.new w 32 #[.int .i64 id,.int .i64 pa,.bool lf,.int .u64 F1,.int .u64 L1,.int .u64 R1,.int .u64 F2,.int .u64 L2,.int .u64 R2,.int .u64 F3,.int .u64 L3,.int .u64 R3,.int .i64 pk,.int .i64 by_])
 have k0:=H.out.1.cell 0;have k1:=H.out.1.cell 1;have k2:=H.out.1.cell 2;have k3:=H.out.1.cell 3;have k4:=H.out.1.cell 4;have k5:=H.out.1.cell 5;have k6:=H.out.1.cell 6;have k7:=H.out.1.cell 7;have k8:=H.out.1.cell 8;have k9:=H.out.1.cell 9;have k10:=H.out.1.cell 10;have k11:=H.out.1.cell 11;have k12:=H.out.1.cell 12;have k13:=H.out.1.cell 13;simp only [lTA,lCZ,lCS] at k0 k1 k2 k3 k4 k5 k6 k7 k8 k9 k10 k11 k12 k13
 cases b1 <;> cases b2 <;> cases b3 <;> cases b4
 all_goals
  go_enter Tryz.func160,Tryz.ntmps160
  go_wp2_with (first | (go_at_call 182;(with_reducible refine (h1 _).mono ?_);rintro e W1 ⟨rfl,hb⟩;have H2:=Lib.hid (BxAt.step H.out hb);clear H hb;clear k0 k1 k2 k3 k4 k5 k6 k7 k8 k9 k10 k11 k12 k13;have H:=Lib.hid H2.out;clear H2;have k0:=H.out.1.cell 0;have k1:=H.out.1.cell 1;have k2:=H.out.1.cell 2;have k3:=H.out.1.cell 3;have k4:=H.out.1.cell 4;have k5:=H.out.1.cell 5;have k6:=H.out.1.cell 6;have k7:=H.out.1.cell 7;have k8:=H.out.1.cell 8;have k9:=H.out.1.cell 9;have k10:=H.out.1.cell 10;have k11:=H.out.1.cell 11;have k12:=H.out.1.cell 12;have k13:=H.out.1.cell 13;simp only [lTA,lCZ,lCS] at k0 k1 k2 k3 k4 k5 k6 k7 k8 k9 k10 k11 k12 k13) | (go_at_call 182;(with_reducible refine (h2 _).mono ?_);rintro e W1 ⟨rfl,hb⟩;have H2:=Lib.hid (BxAt.step H.out hb);clear H hb;clear k0 k1 k2 k3 k4 k5 k6 k7 k8 k9 k10 k11 k12 k13;have H:=Lib.hid H2.out;clear H2;have k0:=H.out.1.cell 0;have k1:=H.out.1.cell 1;have k2:=H.out.1.cell 2;have k3:=H.out.1.cell 3;have k4:=H.out.1.cell 4;have k5:=H.out.1.cell 5;have k6:=H.out.1.cell 6;have k7:=H.out.1.cell 7;have k8:=H.out.1.cell 8;have k9:=H.out.1.cell 9;have k10:=H.out.1.cell 10;have k11:=H.out.1.cell 11;have k12:=H.out.1.cell 12;have k13:=H.out.1.cell 13;simp only [lTA,lCZ,lCS] at k0 k1 k2 k3 k4 k5 k6 k7 k8 k9 k10 k11 k12 k13) | (go_at_call 81;(with_reducible refine (h3 _).mono ?_);rintro e W1 ⟨rfl,hb⟩;have H2:=Lib.hid (BxAt.step H.out hb);clear H hb;clear k0 k1 k2 k3 k4 k5 k6 k7 k8 k9 k10 k11 k12 k13;have H:=Lib.hid H2.out;clear H2;have k0:=H.out.1.cell 0;have k1:=H.out.1.cell 1;have k2:=H.out.1.cell 2;have k3:=H.out.1.cell 3;have k4:=H.out.1.cell 4;have k5:=H.out.1.cell 5;have k6:=H.out.1.cell 6;have k7:=H.out.1.cell 7;have k8:=H.out.1.cell 8;have k9:=H.out.1.cell 9;have k10:=H.out.1.cell 10;have k11:=H.out.1.cell 11;have k12:=H.out.1.cell 12;have k13:=H.out.1.cell 13;simp only [lTA,lCZ,lCS] at k0 k1 k2 k3 k4 k5 k6 k7 k8 k9 k10 k11 k12 k13) | (go_at_call 81;(with_reducible refine (h4 _).mono ?_);rintro e W1 ⟨rfl,hb⟩;have H2:=Lib.hid (BxAt.step H.out hb);clear H hb;clear k0 k1 k2 k3 k4 k5 k6 k7 k8 k9 k10 k11 k12 k13;have H:=Lib.hid H2.out;clear H2;have k0:=H.out.1.cell 0;have k1:=H.out.1.cell 1;have k2:=H.out.1.cell 2;have k3:=H.out.1.cell 3;have k4:=H.out.1.cell 4;have k5:=H.out.1.cell 5;have k6:=H.out.1.cell 6;have k7:=H.out.1.cell 7;have k8:=H.out.1.cell 8;have k9:=H.out.1.cell 9;have k10:=H.out.1.cell 10;have k11:=H.out.1.cell 11;have k12:=H.out.1.cell 12;have k13:=H.out.1.cell 13;simp only [lTA,lCZ,lCS] at k0 k1 k2 k3 k4 k5 k6 k7 k8 k9 k10 k11 k12 k13))
  go_ret
  exact⟨rfl,H.out.2⟩
end
section
open Go.RowKit
attribute [local go_sem ↓] Go.wp_at_zero Go.wp_at_succ
attribute [local go_sem] quietR quietAtR quietUponR midAt midUpon
theorem under_any (s:Sp)(w:World)(hw:WfSp s) :
  Calls Tryz.prog 161 #[spV s] w fun e w'=>e=.returned (.bool (underB s))∧Below w.heap.size w w':=by
 obtain⟨id,pa,lf,⟨F1,L1,R1⟩,⟨F2,L2,R2⟩,⟨F3,L3,R3⟩,pk,by_⟩:=s
 obtain⟨_,u1,u2,u3⟩:=hw
 unfold UC at u1 u2 u3
 unfold spV spC underB
 dsimp only at u1 u2 u3 ⊢
 have h1:=fun w=>cnoneH_any F1 L1 R1 w
 have h2:=fun w=>cnoneH_any F3 L3 R3 w
 have h3:=fun w=>below_any (F1,L1,R1) (F3,L3,R3) w u1 u3
 unfold BelW cvV at h3
 dsimp only at h3
 generalize noneB (F1,L1,R1)=b1 at h1 ⊢
 generalize noneB (F3,L3,R3)=b2 at h2 ⊢
 generalize decide (BelowP (F1,L1,R1) (F3,L3,R3))=b3 at h3 ⊢
 have H:=Lib.hid (BxAt.new w 32 #[.int .i64 id,.int .i64 pa,.bool lf,.int .u64 F1,.int .u64 L1,.int .u64 R1,.int .u64 F2,.int .u64 L2,.int .u64 R2,.int .u64 F3,.int .u64 L3,.int .u64 R3,.int .i64 pk,.int .i64 by_])
 have k0:=H.out.1.cell 0;have k1:=H.out.1.cell 1;have k2:=H.out.1.cell 2;have k3:=H.out.1.cell 3;have k4:=H.out.1.cell 4;have k5:=H.out.1.cell 5;have k6:=H.out.1.cell 6;have k7:=H.out.1.cell 7;have k8:=H.out.1.cell 8;have k9:=H.out.1.cell 9;have k10:=H.out.1.cell 10;have k11:=H.out.1.cell 11;have k12:=H.out.1.cell 12;have k13:=H.out.1.cell 13;simp only [lTA,lCZ,lCS] at k0 k1 k2 k3 k4 k5 k6 k7 k8 k9 k10 k11 k12 k13
 cases b1 <;> cases b2 <;> cases b3
 all_goals
  go_enter Tryz.func161,Tryz.ntmps161
  go_wp2_with (first | (go_at_call 81;(with_reducible refine (h1 _).mono ?_);rintro e W1 ⟨rfl,hb⟩;have H2:=Lib.hid (BxAt.step H.out hb);clear H hb;clear k0 k1 k2 k3 k4 k5 k6 k7 k8 k9 k10 k11 k12 k13;have H:=Lib.hid H2.out;clear H2;have k0:=H.out.1.cell 0;have k1:=H.out.1.cell 1;have k2:=H.out.1.cell 2;have k3:=H.out.1.cell 3;have k4:=H.out.1.cell 4;have k5:=H.out.1.cell 5;have k6:=H.out.1.cell 6;have k7:=H.out.1.cell 7;have k8:=H.out.1.cell 8;have k9:=H.out.1.cell 9;have k10:=H.out.1.cell 10;have k11:=H.out.1.cell 11;have k12:=H.out.1.cell 12;have k13:=H.out.1.cell 13;simp only [lTA,lCZ,lCS] at k0 k1 k2 k3 k4 k5 k6 k7 k8 k9 k10 k11 k12 k13) | (go_at_call 81;(with_reducible refine (h2 _).mono ?_);rintro e W1 ⟨rfl,hb⟩;have H2:=Lib.hid (BxAt.step H.out hb);clear H hb;clear k0 k1 k2 k3 k4 k5 k6 k7 k8 k9 k10 k11 k12 k13;have H:=Lib.hid H2.out;clear H2;have k0:=H.out.1.cell 0;have k1:=H.out.1.cell 1;have k2:=H.out.1.cell 2;have k3:=H.out.1.cell 3;have k4:=H.out.1.cell 4;have k5:=H.out.1.cell 5;have k6:=H.out.1.cell 6;have k7:=H.out.1.cell 7;have k8:=H.out.1.cell 8;have k9:=H.out.1.cell 9;have k10:=H.out.1.cell 10;have k11:=H.out.1.cell 11;have k12:=H.out.1.cell 12;have k13:=H.out.1.cell 13;simp only [lTA,lCZ,lCS] at k0 k1 k2 k3 k4 k5 k6 k7 k8 k9 k10 k11 k12 k13) | (go_at_call 183;(with_reducible refine (h3 _).mono ?_);rintro e W1 ⟨rfl,hb⟩;have H2:=Lib.hid (BxAt.step H.out hb);clear H hb;clear k0 k1 k2 k3 k4 k5 k6 k7 k8 k9 k10 k11 k12 k13;have H:=Lib.hid H2.out;clear H2;have k0:=H.out.1.cell 0;have k1:=H.out.1.cell 1;have k2:=H.out.1.cell 2;have k3:=H.out.1.cell 3;have k4:=H.out.1.cell 4;have k5:=H.out.1.cell 5;have k6:=H.out.1.cell 6;have k7:=H.out.1.cell 7;have k8:=H.out.1.cell 8;have k9:=H.out.1.cell 9;have k10:=H.out.1.cell 10;have k11:=H.out.1.cell 11;have k12:=H.out.1.cell 12;have k13:=H.out.1.cell 13;simp only [lTA,lCZ,lCS] at k0 k1 k2 k3 k4 k5 k6 k7 k8 k9 k10 k11 k12 k13))
  go_ret
  exact⟨rfl,H.out.2⟩
end
end Go.Proofs.YtmmeopjemkjllaaGreat
