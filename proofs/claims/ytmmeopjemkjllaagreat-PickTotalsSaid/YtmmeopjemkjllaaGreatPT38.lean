/- Lemmas of the claim. No conditions beyond those that each states. -/
import Derived.Test.YtmmeopjemkjllaaGreatPT37
import Derived.Deep.AppendSrc
set_option linter.unusedVariables false
set_option linter.unusedSimpArgs false
set_option maxRecDepth 100000
set_option maxHeartbeats 8000000
namespace Go.Proofs.YtmmeopjemkjllaaGreat
section
open Go.RowKit Go.Maps Go.Sort Go.Shelf
attribute [local go_sem ↓] Go.wp_at_zero Go.wp_at_succ
attribute [local go_sem] quietR quietAtR quietUponR midAt midUpon
theorem IntAt.form {w:World} {v:Value} {ks:List Int} (h:IntAt w v ks):∃ a cap,v=.slice a ks.length cap:=by obtain⟨_,a,cap,e,_⟩:=h;exact⟨a,cap,e⟩
theorem IntAt.some_ {w:World} {a:Option Addr} {n cap i:Nat} {ks:List Int} {x:Int} (h:IntAt w (.slice a n cap) ks)(hx:ks[i]?=some x):∃ b off,a=some ⟨b,off,none⟩:=by
 obtain⟨_,a',cap',e,h3⟩:=h
 cases e
 rcases h3 with rfl | ⟨b,off,rfl,_⟩
 ·simp at hx
 ·exact⟨b,off,rfl⟩
theorem IntAt.cell {w:World} {b off n cap i:Nat} {ks:List Int} {x:Int} (h:IntAt w (.slice (some ⟨b,off,none⟩) n cap) ks)(hx:ks[i]?=some x):b < w.heap.size∧n≤cap∧w.cell? ⟨b,off+i,none⟩=some (.int .i64 x):=by
 obtain⟨_,a',cap',e,h3⟩:=h
 cases e
 rcases h3 with rfl | ⟨b',off',e,h1,h2,h3⟩
 ·simp at hx
 ·cases e
  exact⟨h1,h2,h3 i x hx⟩
theorem grown_grow (w:World)(os:Array Obj):w.grownBy (grow w os) none :=
 ⟨rfl,rfl,rfl,by simp [grow],fun k hk _=>Sort.heap_grow_old w os hk⟩
def SortRowW (w : World) (base : Nat) (v : Value) (l : List Int) (e : Ending) (w' : World) : Prop :=
  ∃ l' : List Int, e = .returned (.tuple #[]) ∧ l'.Perm l ∧ l'.Pairwise (· ≤ ·) ∧ w'.ownsRow base 3 1 v l'.length (l'.map (Value.int .i64)) ∧ w.grownBy w' v.ownBlock
theorem sort_row (base:Nat)(v:Value)(l:List Int)(w:World)(h:w.ownsRow base 3 1 v l.length (l.map (Value.int .i64)))(hl:l.length≤1000) :
  Calls Tryz.prog 75 #[v] w (SortRowW w base v l):=by
 rcases h.2 with ⟨rfl,hz⟩ | ⟨g,cap,cur,rfl,hg,hB,hc,hm,hsz,htk⟩
 ·obtain rfl:l=[]:=List.eq_nil_of_length_eq_zero hz
  refine (AnyM.slices_Sort_int_none sortI none 0 w).mono ?_
  rintro e w' ⟨rfl,rfl⟩
  exact⟨[],rfl,.refl _,.nil,World.ownsRow_nil _ _ _ _,⟨rfl,rfl,rfl,Nat.le_refl _,fun _ _ _=>rfl⟩⟩
 ·have hsz:cur.size=cap:=by omega
  rw [Nat.mul_one] at htk
  refine (AnyM.slices_Sort_int sortI g 0 cap l w (holds_row hB htk (by omega) rfl) (h.lt g rfl).2 (by omega)).mono ?_
  rintro e w' ⟨rfl,n,os,rfl⟩
  have hp:(l.mergeSort fun x y=>decide (x≤y)).Perm l:=List.mergeSort_perm l _
  have hB2:Blk (putRow (Value.int .i64) (Sort.ahead w n) g 0 (l.mergeSort fun x y=>decide (x≤y)).toArray) g 3 _:=heap_putRowI _ hB
  have hgr:=grown_putRowI (w:=w) (g:=g) (n:=n) (l.mergeSort fun x y=>decide (x≤y)).toArray
  have hB3:=hB2.grown (grown_grow _ os) (by simp)
  refine⟨l.mergeSort fun x y=>decide (x≤y),rfl,hp,?_,?_,hgr.trans ⟨rfl,rfl,rfl,(grown_grow _ os).size,fun k hk _=>(grown_grow _ os).block k hk (by simp)⟩⟩
  ·refine (List.pairwise_mergeSort (le:=fun x y:Int=>decide (x≤y)) (fun a b c h1 h2=>?_) (fun a b=>?_) l).imp (fun h=>by simpa using h)
   ·simp only [decide_eq_true_eq] at *;omega
   ·simp only [Bool.or_eq_true,decide_eq_true_eq];omega
  ·have hlen:=hp.length_eq
   rw [show (Value.slice (some ⟨g,0,none⟩) l.length cap)=.slice (some ⟨g,0,none⟩) (l.mergeSort fun x y=>decide (x≤y)).length cap by rw [hlen]]
   refine row_ofList hB3 hg (by omega) hm (by simp [putCells,hsz]) fun k hk=>?_
   rw [put_atI _ _ _ (by omega) hk,List.getElem?_map]
theorem app_row (ty : TypeId) {A B : List Int} {w : World} {v vb : Value} {base bb : Nat} (hown : w.ownsRow base 3 1 v A.length (A.map (Value.int .i64))) (hsrc : w.ownsRow bb 3 1 vb B.length (B.map (Value.int .i64))) (hb : base ≤ w.heap.size) (hl : A.length ≤ 1000000) (hl2 : B.length ≤ 1000000) :
    ∃ v' w', (Builtin.append_ #[51, 51] ty #[v, vb]).run Tryz.prog w = .ok v' w' ∧ w'.ownsRow base 3 1 v' (A ++ B).length ((A ++ B).map (Value.int .i64)) ∧ w.grownBy w' v.ownBlock := by
  obtain ⟨i0, hi0, hz0, hz1, hz2⟩ := info_parts info_int
  rcases hsrc.2 with ⟨rfl, hz⟩ | ⟨g, cap, cur, rfl, _⟩
  · obtain rfl : B = [] := List.eq_nil_of_length_eq_zero hz
    obtain ⟨a, c, rfl⟩ := owns_slice hown
    refine ⟨_, _, run_append_nothing w 51 51 ty 3 i0 Tryz.underlying51 hi0 a A.length c ?_ _ (Src.ofNil w Tryz.underlying51 0), by simpa using hown, ⟨rfl, rfl, rfl, Nat.le_refl _, fun _ _ _ => rfl⟩⟩
    rcases hown.2 with ⟨e, h0⟩ | ⟨_, _, _, e, _, _, h2, _⟩
    · injection e with _ h1 h2; omega
    · injection e with e1 e2 e3; omega
  · obtain ⟨v', w', hr, ho, hg, _⟩ := run_append_own (P := Tryz.prog) (w := w) base 51 ty 3 i0 _ 1 8 Tryz.underlying51 hi0 hz0 hz1 hz2 rfl (by decide) v A.length _ hown ⟨g, 0, none⟩ B.length cap (B.map (Value.int .i64)) (by simp) (fun j u hj => by
        rw [Addr.add_lit, Nat.zero_add, hsrc.cellAt j (by have := (List.getElem?_eq_some_iff.1 hj).1; simp at this; omega)]
        exact hj) (by intro u hu; obtain ⟨x, _, rfl⟩ := List.mem_map.1 hu; rfl) (by unfold maxLen; omega) (by omega) hb
    exact ⟨v', w', hr, by simpa using ho, hg⟩
theorem InvT.dep_le {M:Mp} (h:InvT M)(x:Int):dep M x≤8:=by
 unfold dep
 cases e:lookM M x with
 | none=>simp
 | some c=>have:=(h.ok _ _ e).d8;simp;omega
theorem tleaves_any:∀ (n:Nat)(id:Int)(base g ma mu:Nat)(U:List (Int × Value))(M:Mp)(w:World),(Lit.int .i64 id).wf=true→TreeX w base g ma mu U M→9≤dep M id+n →
  Calls Tryz.prog 28 #[.pointer (some ⟨g,0,none⟩),.int .i64 id] w (IdsW w (leavesM M id))
 | 0,id,base,g,ma,mu,U,M,w,hid,h,hn=>by have:=h.inv.dep_le id;omega
 | n+1,id,base,g,ma,mu,U,M,w,hid,h,hn=>by
  have hget:=tget_any id base g ma mu U M w hid h
  unfold GetW getS spV spC at hget
  have H:=Lib.hid h
  have HN:=Lib.hid hn
  clear h hn
  by_cases hleaf:∃ c,lookM M id=some c∧c.1.lf=true
  ·obtain⟨c,hc,hl⟩:=hleaf
   have hlv:=H.out.inv.leaves_leaf hc hl
   rw [hlv]
   rw [hc] at hget
   obtain⟨⟨i1,pa,i3,⟨F1,L1,R1⟩,⟨F2,L2,R2⟩,⟨F3,L3,R3⟩,i4,i5⟩,d⟩:=c
   dsimp only [Option.getD,Option.isSome] at hget hl
   subst hl
   clear hlv hc
   go_enter Tryz.func28,Tryz.ntmps28
   go_wp2_with fail
   refine hget.mono ?_
   clear hget
   rintro e w1 ⟨rfl,hb1⟩
   have hb2:=(Below.refl w1.heap.size w1).alloc (Nat.le_refl _) (.cells #[.int .i64 i1,.int .i64 pa,.bool true,.int .u64 F1,.int .u64 L1,.int .u64 R1,.int .u64 F2,.int .u64 L2,.int .u64 R2,.int .u64 F3,.int .u64 L3,.int .u64 R3,.int .i64 i4,.int .i64 i5] 32)
   have hX:=Blk.new w1 32 #[.int .i64 i1,.int .i64 pa,.bool true,.int .u64 F1,.int .u64 L1,.int .u64 R1,.int .u64 F2,.int .u64 L2,.int .u64 R2,.int .u64 F3,.int .u64 L3,.int .u64 R3,.int .i64 i4,.int .i64 i5]
   have hw2:=hb1.trans (hb2.mono hb1.size)
   go_upto_region 2 with fail
   generalize w1.alloc (.cells #[.int .i64 i1,.int .i64 pa,.bool true,.int .u64 F1,.int .u64 L1,.int .u64 R1,.int .u64 F2,.int .u64 L2,.int .u64 R2,.int .u64 F3,.int .u64 L3,.int .u64 R3,.int .i64 i4,.int .i64 i5] 32)=w2 at hX hw2 ⊢
   have q2:=hX.cell 2
   simp only [lTA,lCZ,lCS] at q2
   have hb3:=(Below.refl w2.heap.size w2).alloc (Nat.le_refl _) (.cells #[.int .i64 id] 3)
   have k2:=Blk.new w2 3 #[.int .i64 id]
   have HB:=Lib.hid (And.intro hw2 (And.intro hb3 k2))
   clear hw2 hb3 k2 hb2 hb1 hX
   go_wp2_with fail
   go_ret
   refine⟨_,rfl,?_,HB.out.1.trans (HB.out.2.1.mono HB.out.1.size)⟩
   exact row_ofList HB.out.2.2 (HB.out.1.size) (by simp) (by unfold maxLen;omega) (by simp) (fun k hk=>by
    have:k=0:=by simpa using hk
    subst this;rfl)
  ·have hnl:∀ c,lookM M id=some c→c.1.lf=false:=fun c hc=>by
    cases e:c.1.lf
    ·rfl
    ·exact absurd ⟨c,hc,e⟩ hleaf
   clear hleaf
   have hpick:((((lookM M id).getD cl0).1.lf && (lookM M id).isSome)=false):=by
    cases e:lookM M id with
    | none=>simp
    | some c=>have:=hnl c e;simp [this]
   have HNL:=Lib.hid hnl
   clear hnl
   generalize hbs:(lookM M id).isSome=bs at hget hpick
   generalize hcc:(lookM M id).getD cl0=c at hget hpick
   clear hbs hcc
   obtain⟨⟨i1,pa,i3,⟨F1,L1,R1⟩,⟨F2,L2,R2⟩,⟨F3,L3,R3⟩,i4,i5⟩,d⟩:=c
   dsimp only at hget hpick
   have hcase:bs=false∨(bs=true∧i3=false):=by
    cases bs
    ·exact .inl rfl
    ·exact .inr ⟨rfl,by simpa using hpick⟩
   clear hpick
   rcases hcase with rfl | ⟨rfl,rfl⟩
   ·go_enter Tryz.func28,Tryz.ntmps28
    go_wp2_with fail
    refine hget.mono ?_
    clear hget
    rintro e w1 ⟨rfl,hb1⟩
    have hb2:=(Below.refl w1.heap.size w1).alloc (Nat.le_refl _) (.cells #[.int .i64 i1,.int .i64 pa,.bool i3,.int .u64 F1,.int .u64 L1,.int .u64 R1,.int .u64 F2,.int .u64 L2,.int .u64 R2,.int .u64 F3,.int .u64 L3,.int .u64 R3,.int .i64 i4,.int .i64 i5] 32)
    have hX:=Blk.new w1 32 #[.int .i64 i1,.int .i64 pa,.bool i3,.int .u64 F1,.int .u64 L1,.int .u64 R1,.int .u64 F2,.int .u64 L2,.int .u64 R2,.int .u64 F3,.int .u64 L3,.int .u64 R3,.int .i64 i4,.int .i64 i5]
    have hw2:=hb1.trans (hb2.mono hb1.size)
    go_upto_region 2 with fail
    generalize w1.alloc (.cells #[.int .i64 i1,.int .i64 pa,.bool i3,.int .u64 F1,.int .u64 L1,.int .u64 R1,.int .u64 F2,.int .u64 L2,.int .u64 R2,.int .u64 F3,.int .u64 L3,.int .u64 R3,.int .i64 i4,.int .i64 i5] 32)=w2 at hX hw2 ⊢
    have q2:=hX.cell 2
    simp only [lTA,lCZ,lCS] at q2
    have HW:=Lib.hid (And.intro hw2 (H.out.later hw2))
    clear hw2 hb2 hb1 hX
    have hun:=tunder_any id base g ma mu U M w2 hid HW.out.2
    obtain⟨ks,hks⟩:∃ ks,kids M id=ks:=⟨_,rfl⟩
    rw [hks] at hun
    have hkl:ks.length≤64:=by have:=kids_len M id;have:=H.out.inv.few;rw [← hks];omega
    have HK:=Lib.hid hks
    clear hks
    go_upto_region 5 with fail
    clear q2
    go_wp2_with fail
    refine hun.mono ?_
    clear hun
    rintro e w3 ⟨vk,rfl,hok,hb3⟩
    have hik:=IntAt.of_owns hok (by omega)
    obtain⟨ak,ck,rfl⟩:=hik.form
    obtain⟨nk,hnk⟩:∃ n,n=ks.length:=⟨_,rfl⟩
    rw [← hnk] at hik hkl ⊢
    have hw3:=HW.out.1.trans (hb3.mono HW.out.1.size)
    have HL:=Lib.hid hnk
    have H3:=Lib.hid (And.intro hw3 hik)
    clear hok hb3 hnk hw3 hik HW
    go_wp2_with fail
    go_loopw [7,27] (fun v7 v27 W=>∃ i:Nat,v27=.int .i64 i∧i≤nk∧W.ownsRow w3.heap.size 3 1 v7 (leavesL M (ks.take i)).length ((leavesL M (ks.take i)).map (Value.int .i64))∧Below w3.heap.size w3 W) (fun _ v27 _=>(nk - Go.RowKit.intOf v27).toNat)
    case atStart=>exact⟨0,rfl,Nat.zero_le _,World.ownsRow_nil _ _ _ _,Below.refl _ _⟩
    case round =>
     obtain⟨i,rfl,hi,ho,hb⟩:=hrel
     by_cases hlt:i < nk
     ·obtain⟨x,hx⟩:∃ x,ks[i]?=some x:=⟨_,List.getElem?_eq_getElem (by have:=HL.out;omega)⟩
      have hik:=H3.out.2.later hb
      obtain⟨bk,ok,rfl⟩:=hik.some_ hx
      have hcx:=(hik.cell hx).2.2
      have hnc:=(hik.cell hx).2.1
      have hxk:x∈kids M id:=by rw [HK.out];exact List.mem_of_getElem? hx
      obtain⟨cx,hcl,hpa⟩:=(mem_kids H.out.inv.rise).1 hxk
      have hxw:(Lit.int .i64 x).wf=true:=by have o:=H.out.inv.ok x cx hcl;rw [← o.id];exact o.wf.1.1
      have hxd:=H.out.inv.kid_dep hcl hpa
      have hbw:=H3.out.1.trans (hb.mono H3.out.1.size)
      have hrec:=tleaves_any n x base g ma mu U M wr hxw (H.out.later hbw) (by have:=HN.out;omega)
      have HR:=Lib.hid (And.intro hx (And.intro ho hb))
      clear hx hik hxk hcl hpa hxw hxd hbw ho hb
      go_wp2_with fail
      refine hrec.mono ?_
      clear hrec hcx
      rintro e w4 ⟨vl,rfl,hol,hb4⟩
      have hlen:(leavesL M (ks.take (i+1))).length≤64:=by
       rw [← HK.out]
       exact H.out.inv.leavesL_len id _ (fun k hk=>List.mem_of_mem_take hk) (((kids_rising H.out.inv.rise id).imp (fun h=>by omega)).sublist (List.take_sublist _ _))
      have htk:leavesL M (ks.take (i+1))=leavesL M (ks.take i) ++ leavesM M x:=by
       rw [List.take_add_one,HR.out.1,← leavesL_snoc];rfl
      rw [htk] at hlen
      have hw4:=HR.out.2.2.trans (hb4.mono HR.out.2.2.size)
      obtain⟨v',w',hr,ho',hg⟩:=app_row 51 (owns_laterH HR.out.2.1 hb4) hol hw4.size (by simp at hlen;omega) (by simp at hlen;omega)
      have hw5:=hw4.grown hg hw4.size fun k hk=>(HR.out.2.1.lt k hk).1
      have HF:=Lib.hid (And.intro htk (And.intro ho' hw5))
      clear hol hb4 hlen htk hw4 ho' hg hw5
      go_wp2_with (at_builtin;refine wpList_append_runH rfl _ _ _ rfl _ _ _ rfl rfl hr ?_;clear hr)
      go_roundw
      case measure=>(simp [Go.RowKit.intOf];try omega)
      case rel=>exact⟨i+1,by go_num,by omega,by rw [HF.out.1];exact HF.out.2.1,HF.out.2.2⟩
     ·obtain rfl:i=nk:=by omega
      have hfull:ks.take i=ks:=List.take_of_length_le (by have:=HL.out;omega)
      rw [hfull] at ho
      have hll:(leavesL M ks).length≤64:=by
       rw [← HK.out]
       exact H.out.inv.leavesL_len id _ (fun k hk=>hk) ((kids_rising H.out.inv.rise id).imp (fun h=>by omega))
      have hs:=sort_row _ _ _ wr ho (by omega)
      have HE:=Lib.hid (And.intro ho hb)
      clear ho hb hfull hll
      go_wp2_with fail
      refine hs.mono ?_
      clear hs
      rintro e w5 ⟨l',rfl,hp,hsd,ho5,hg5⟩
      have hlv:=H.out.inv.leaves_sorted HNL.out (by rw [HK.out];exact hp) hsd
      subst hlv
      have HE2:=Lib.hid (And.intro ho5 (HE.out.2.grown hg5 HE.out.2.size fun k hk=>(HE.out.1.lt k hk).1))
      clear hp hsd ho5 hg5
      go_wp2_with fail
      go_ret
      exact⟨_,rfl,owns_baseH HE2.out.1 H3.out.1.size,H3.out.1.trans (HE2.out.2.mono H3.out.1.size)⟩
   ·go_enter Tryz.func28,Tryz.ntmps28
    go_wp2_with fail
    refine hget.mono ?_
    clear hget
    rintro e w1 ⟨rfl,hb1⟩
    have hb2:=(Below.refl w1.heap.size w1).alloc (Nat.le_refl _) (.cells #[.int .i64 i1,.int .i64 pa,.bool false,.int .u64 F1,.int .u64 L1,.int .u64 R1,.int .u64 F2,.int .u64 L2,.int .u64 R2,.int .u64 F3,.int .u64 L3,.int .u64 R3,.int .i64 i4,.int .i64 i5] 32)
    have hX:=Blk.new w1 32 #[.int .i64 i1,.int .i64 pa,.bool false,.int .u64 F1,.int .u64 L1,.int .u64 R1,.int .u64 F2,.int .u64 L2,.int .u64 R2,.int .u64 F3,.int .u64 L3,.int .u64 R3,.int .i64 i4,.int .i64 i5]
    have hw2:=hb1.trans (hb2.mono hb1.size)
    go_upto_region 2 with fail
    generalize w1.alloc (.cells #[.int .i64 i1,.int .i64 pa,.bool false,.int .u64 F1,.int .u64 L1,.int .u64 R1,.int .u64 F2,.int .u64 L2,.int .u64 R2,.int .u64 F3,.int .u64 L3,.int .u64 R3,.int .i64 i4,.int .i64 i5] 32)=w2 at hX hw2 ⊢
    have q2:=hX.cell 2
    simp only [lTA,lCZ,lCS] at q2
    have HW:=Lib.hid (And.intro hw2 (H.out.later hw2))
    clear hw2 hb2 hb1 hX
    have hun:=tunder_any id base g ma mu U M w2 hid HW.out.2
    obtain⟨ks,hks⟩:∃ ks,kids M id=ks:=⟨_,rfl⟩
    rw [hks] at hun
    have hkl:ks.length≤64:=by have:=kids_len M id;have:=H.out.inv.few;rw [← hks];omega
    have HK:=Lib.hid hks
    clear hks
    go_upto_region 5 with fail
    clear q2
    go_wp2_with fail
    refine hun.mono ?_
    clear hun
    rintro e w3 ⟨vk,rfl,hok,hb3⟩
    have hik:=IntAt.of_owns hok (by omega)
    obtain⟨ak,ck,rfl⟩:=hik.form
    obtain⟨nk,hnk⟩:∃ n,n=ks.length:=⟨_,rfl⟩
    rw [← hnk] at hik hkl ⊢
    have hw3:=HW.out.1.trans (hb3.mono HW.out.1.size)
    have HL:=Lib.hid hnk
    have H3:=Lib.hid (And.intro hw3 hik)
    clear hok hb3 hnk hw3 hik HW
    go_wp2_with fail
    go_loopw [7,27] (fun v7 v27 W=>∃ i:Nat,v27=.int .i64 i∧i≤nk∧W.ownsRow w3.heap.size 3 1 v7 (leavesL M (ks.take i)).length ((leavesL M (ks.take i)).map (Value.int .i64))∧Below w3.heap.size w3 W) (fun _ v27 _=>(nk - Go.RowKit.intOf v27).toNat)
    case atStart=>exact⟨0,rfl,Nat.zero_le _,World.ownsRow_nil _ _ _ _,Below.refl _ _⟩
    case round =>
     obtain⟨i,rfl,hi,ho,hb⟩:=hrel
     by_cases hlt:i < nk
     ·obtain⟨x,hx⟩:∃ x,ks[i]?=some x:=⟨_,List.getElem?_eq_getElem (by have:=HL.out;omega)⟩
      have hik:=H3.out.2.later hb
      obtain⟨bk,ok,rfl⟩:=hik.some_ hx
      have hcx:=(hik.cell hx).2.2
      have hnc:=(hik.cell hx).2.1
      have hxk:x∈kids M id:=by rw [HK.out];exact List.mem_of_getElem? hx
      obtain⟨cx,hcl,hpa⟩:=(mem_kids H.out.inv.rise).1 hxk
      have hxw:(Lit.int .i64 x).wf=true:=by have o:=H.out.inv.ok x cx hcl;rw [← o.id];exact o.wf.1.1
      have hxd:=H.out.inv.kid_dep hcl hpa
      have hbw:=H3.out.1.trans (hb.mono H3.out.1.size)
      have hrec:=tleaves_any n x base g ma mu U M wr hxw (H.out.later hbw) (by have:=HN.out;omega)
      have HR:=Lib.hid (And.intro hx (And.intro ho hb))
      clear hx hik hxk hcl hpa hxw hxd hbw ho hb
      go_wp2_with fail
      refine hrec.mono ?_
      clear hrec hcx
      rintro e w4 ⟨vl,rfl,hol,hb4⟩
      have hlen:(leavesL M (ks.take (i+1))).length≤64:=by
       rw [← HK.out]
       exact H.out.inv.leavesL_len id _ (fun k hk=>List.mem_of_mem_take hk) (((kids_rising H.out.inv.rise id).imp (fun h=>by omega)).sublist (List.take_sublist _ _))
      have htk:leavesL M (ks.take (i+1))=leavesL M (ks.take i) ++ leavesM M x:=by
       rw [List.take_add_one,HR.out.1,← leavesL_snoc];rfl
      rw [htk] at hlen
      have hw4:=HR.out.2.2.trans (hb4.mono HR.out.2.2.size)
      obtain⟨v',w',hr,ho',hg⟩:=app_row 51 (owns_laterH HR.out.2.1 hb4) hol hw4.size (by simp at hlen;omega) (by simp at hlen;omega)
      have hw5:=hw4.grown hg hw4.size fun k hk=>(HR.out.2.1.lt k hk).1
      have HF:=Lib.hid (And.intro htk (And.intro ho' hw5))
      clear hol hb4 hlen htk hw4 ho' hg hw5
      go_wp2_with (at_builtin;refine wpList_append_runH rfl _ _ _ rfl _ _ _ rfl rfl hr ?_;clear hr)
      go_roundw
      case measure=>(simp [Go.RowKit.intOf];try omega)
      case rel=>exact⟨i+1,by go_num,by omega,by rw [HF.out.1];exact HF.out.2.1,HF.out.2.2⟩
     ·obtain rfl:i=nk:=by omega
      have hfull:ks.take i=ks:=List.take_of_length_le (by have:=HL.out;omega)
      rw [hfull] at ho
      have hll:(leavesL M ks).length≤64:=by
       rw [← HK.out]
       exact H.out.inv.leavesL_len id _ (fun k hk=>hk) ((kids_rising H.out.inv.rise id).imp (fun h=>by omega))
      have hs:=sort_row _ _ _ wr ho (by omega)
      have HE:=Lib.hid (And.intro ho hb)
      clear ho hb hfull hll
      go_wp2_with fail
      refine hs.mono ?_
      clear hs
      rintro e w5 ⟨l',rfl,hp,hsd,ho5,hg5⟩
      have hlv:=H.out.inv.leaves_sorted HNL.out (by rw [HK.out];exact hp) hsd
      subst hlv
      have HE2:=Lib.hid (And.intro ho5 (HE.out.2.grown hg5 HE.out.2.size fun k hk=>(HE.out.1.lt k hk).1))
      clear hp hsd ho5 hg5
      go_wp2_with fail
      go_ret
      exact⟨_,rfl,owns_baseH HE2.out.1 H3.out.1.size,H3.out.1.trans (HE2.out.2.mono H3.out.1.size)⟩
end
end Go.Proofs.YtmmeopjemkjllaaGreat
