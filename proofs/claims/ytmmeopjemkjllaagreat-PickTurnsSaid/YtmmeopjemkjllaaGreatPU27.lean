/- Lemmas of the claim. No conditions beyond those that each states. -/
import Derived.Test.YtmmeopjemkjllaaGreatPU26
import Derived.Deep.RegionLaw
import Derived.RegionTactic
import Derived.BigRegion
set_option linter.unusedVariables false
set_option linter.unusedSimpArgs false
set_option maxRecDepth 100000
set_option maxHeartbeats 8000000
namespace Go.Proofs.YtmmeopjemkjllaaGreat
section
open Go.RowKit
theorem info_u64:(Tryz.prog.info? 28).map (fun i=>(i.zero,i.size,i.bytes))=some (some (.int .u64 0),1,8):=by kernel_rfl
theorem row_blk {w:World} {base:Nat} {v:Value} {xs:List Int} {g:Nat} {t:TypeId} {cs:Array Value} (hr:RowU w base v xs)(h:Blk w g t cs)(ht:t≠28):some g≠v.ownBlock:=by
 rcases hr.2 with ⟨hv,_⟩ | ⟨b,cp,cur,hv,hb,hblk,_⟩
 ·rw [hv];intro he;cases he
 ·rw [hv]
  intro he
  have:g=b:=by simpa [Value.ownBlock] using he
  exact blk_ne h (show Blk w b _ cur from hblk) ht this
theorem RowU.more {w:World} {base g cp:Nat} {xs:List Int} {X:Int} {n:Nat} (hn:xs.length=n)(h:w.ownsRow base 28 1 (.slice (some ⟨g,0,none⟩) (n+1) cp) (n+1) (xs.map (Value.int .u64) ++ [.int .u64 X])):RowU w base (.slice (some ⟨g,0,none⟩) (n+1) cp) (xs ++ [X]):=by
 unfold RowU
 rw [List.length_append,hn,List.map_append]
 exact h
theorem RowU.blk_lt {w:World} {base:Nat} {v:Value} {xs:List Int} (h:RowU w base v xs) {k:Nat} (hv:v.ownBlock=some k):k < w.heap.size:=by
 rcases h.2 with ⟨rfl,_⟩ | ⟨b,cp,cur,rfl,hb,hblk,_⟩
 ·cases hv
 ·have:b=k:=by simpa [Value.ownBlock] using hv
  subst this
  exact (Array.getElem?_eq_some_iff.1 hblk).1
section
variable {w : World} {c base : Nat} {F L R x : Int} {A : List (Int × Int)} {vx vy : Value}
end
end
section
open Go.RowKit
noncomputable def ansI (v:Int→Int)(x y:Int):Int:=Classical.epsilon fun n=>Back v x y n
noncomputable def qR (F L R x:Int)(A:List (Int × Int))(y:Int):Int:=if A.isEmpty then nevB y else ansI (fun t=>vA F L R A (max t x)) x y
theorem ans_unique {v:Int→Int} {x y n m:Int} (h:Back v x y n)(k:Back v x y m)(hm:∀ t u,x≤t→t≤u→v t≤v u):n=m:=by
 have h1:=Back.less h k hm (fun _ _=>Int.le_refl _)
 have h2:=Back.less k h hm (fun _ _=>Int.le_refl _)
 omega
theorem Back.ans {v:Int→Int} {x y n:Int} (h:Back v x y n)(hm:∀ t u,x≤t→t≤u→v t≤v u):n=ansI v x y :=
 ans_unique h (Classical.epsilon_spec (p:=fun n=>Back v x y n) ⟨n,h⟩) hm
theorem Ans.fix {v:Int→Int} {x y:Int} {w w':World} {e:Ending} (hm:∀ t u,x≤t→t≤u→v t≤v u)(h:Ans v x y w e w'):e=.returned (.int .u64 (ansI v x y))∧Below w.heap.size w w':=by
 obtain⟨n,rfl,hk,_,_,hb⟩:=h
 exact⟨by rw [hk.ans hm],hb⟩
theorem not_empty {A:List (Int × Int)} (h:A≠[]):A.isEmpty=false:=by cases A with | nil=>exact absurd rfl h | cons _ _=>rfl
structure RefAt (w:World)(r base:Nat)(F L R x:Int)(A:List (Int × Int)):Prop where
 at_:∃ vx vy,Blk w r 167 #[.int .u64 F,.int .u64 L,.int .u64 R,vx,vy]∧RowU w base vx (A.map (·.1))∧RowU w base vy (A.map (·.2))∧(vx.ownBlock=none∨vx.ownBlock≠vy.ownBlock)
 may:MayC F L R
 nums:Nums x A
 low:base≤r
section
variable {w w' : World} {r base : Nat} {F L R x : Int} {A : List (Int × Int)} {vx vy : Value}
theorem RefAt.below (h:RefAt w r base F L R x A)(hb:Below w.heap.size w w'):RefAt w' r base F L R x A:=by
 obtain⟨vx,vy,h1,h2,h3,h4⟩:=h.at_
 exact⟨⟨vx,vy,h1.below hb h1.lt,h2.below hb,h3.below hb,h4⟩,h.may,h.nums,h.low⟩
def Slc (v:Value):Prop:=∃ a n c,v=.slice a n c
theorem RowU.slc {w:World} {base:Nat} {v:Value} {xs:List Int} (h:RowU w base v xs):Slc v:=by
 obtain⟨a,c,rfl⟩:=h.shape
 exact⟨_,_,_,rfl⟩
theorem RefAt.copies (h:RefAt w r base F L R x A):∃ vx vy,(Slc vx∧Slc vy)∧Blk w r 167 #[.int .u64 F,.int .u64 L,.int .u64 R,vx,vy]∧∀ w' c,Below w.heap.size w w'→Blk w' c 191 #[.int .u64 F,.int .u64 L,.int .u64 R,vx,vy]→CopiesAt w' c base F L R A:=by
 obtain⟨vx,vy,h1,h2,h3,h4⟩:=h.at_
 exact⟨vx,vy,⟨h2.slc,h3.slc⟩,h1,fun w' c hb hB=>⟨vx,vy,hB,h2.below hb,h3.below hb⟩⟩
theorem run_copies (hsx:Slc vx)(hsy:Slc vy)(hB:Blk w r 167 #[.int .u64 F,.int .u64 L,.int .u64 R,vx,vy]) :
  Calls Tryz.prog 125 #[.pointer (some ⟨r,0,none⟩)] w fun e w'=>∃ c,e=.returned (.pointer (some ⟨c,0,none⟩))∧w.heap.size≤c∧Blk w' c 191 #[.int .u64 F,.int .u64 L,.int .u64 R,vx,vy]∧Below w.heap.size w w':=by
 obtain⟨ax,nx,cx,rfl⟩:=hsx
 obtain⟨ay,ny,cy,rfl⟩:=hsy
 have hlt:=hB.lt
 have o0:=fun e=>(over_cell (w:=w) (e:=e) (o:=0) hlt).trans (hB.cell 0)
 have o1:=fun e=>(over_cell (w:=w) (e:=e) (o:=1) hlt).trans (hB.cell 1)
 have o2:=fun e=>(over_cell (w:=w) (e:=e) (o:=2) hlt).trans (hB.cell 2)
 have o3:=fun e=>(over_cell (w:=w) (e:=e) (o:=3) hlt).trans (hB.cell 3)
 have o4:=fun e=>(over_cell (w:=w) (e:=e) (o:=4) hlt).trans (hB.cell 4)
 simp only [lTA,lCZ,lCS] at o0 o1 o2 o3 o4
 clear hB
 go_enter Tryz.func125,Tryz.ntmps125
 go_wp2
 refine wp_region_over_tail 13 (by kernel_rfl) (by kernel_rfl) ?_
 simp only [List.take_succ_cons,List.take_zero,List.drop_succ_cons,List.drop_zero]
 repeat (first | go_big_quiet_skip | (go_big_quiet_want;go_big_quiet_op;go_big_quiet_on) | (refine wpQuiet_step (fun K hK=>?_);go_simp;(refine hK _ ?_;clear hK K)))
 refine wpQuiet_nil ?_
 rintro W2 ⟨e,he⟩
 have hb22:=over_below w e
 rw [← he] at hb22
 clear he o0 o1 o2 o3 o4
 go_wp2
 go_ret
 exact⟨W2.heap.size,rfl,hb22.size,Blk.new _ _ _,hb22.alloc hb22.size _⟩
theorem ref_reach (h:RefAt w r base F L R x A)(y:Int)(hy:U y) :
  Calls Tryz.prog 104 #[.pointer (some ⟨r,0,none⟩),.int .u64 y] w fun e w'=>e=.returned (.int .u64 (qR F L R x A y))∧Below w.heap.size w w':=by
 obtain⟨vx,vy,⟨hsx,hsy⟩,hB,hc⟩:=h.copies
 have hm:=h.may;have hn:=h.nums
 have HM:=Lib.hid hm;have HN:=Lib.hid hn;have HB:=Lib.hid hB;have HC:=Lib.hid hc
 clear h hm hn hB hc
 by_cases hA:A=[]
 ·subst hA
  have e:qR F L R x [] y=nevB y:=rfl
  rw [e]
  clear e HN
  go_enter Tryz.func104,Tryz.ntmps104
  go_wp2_with (first
   | (go_at_call 125;refine (run_copies hsx hsy HB.out).mono ?_;rintro e w1 ⟨c,rfl,hcl,hcb,hb1⟩;have HCB:=Lib.hid hcb;clear hcb)
   | (go_at_call 128;refine (copies_reach0 (HC.out _ c hb1 HCB.out) y).mono ?_;rintro e w' ⟨rfl,rfl⟩))
  go_ret
  exact⟨rfl,hb1⟩
 ·have e:qR F L R x A y=ansI (fun t=>vA F L R A (max t x)) x y:=by unfold qR;rw [not_empty hA];rfl
  rw [e]
  have HA:=Lib.hid hA;clear hA e
  go_enter Tryz.func104,Tryz.ntmps104
  go_wp2_with (first
   | (go_at_call 125;refine (run_copies hsx hsy HB.out).mono ?_;rintro e w1 ⟨c,rfl,hcl,hcb,hb1⟩;have HCB:=Lib.hid hcb;clear hcb)
   | (go_at_call 128;refine ((copies_reach (HC.out _ c hb1 HCB.out) HM.out HN.out HA.out y hy).mono fun _ _ h=>h.fix (vA_max_mono HM.out HN.out.low)).mono ?_;rintro e w' ⟨rfl,hb2⟩))
  go_ret
  exact⟨rfl,hb1.trans (hb2.mono hb1.size)⟩
end
end
section
open Go.RowKit
section
variable {w w' : World} {r base : Nat} {F L R x : Int} {A : List (Int × Int)} {vx vy : Value}
theorem grown_trans {w1 w2 w3:World} {row:Option Nat} (h1:w1.grownBy w2 row)(h2:w2.grownBy w3 row):w1.grownBy w3 row :=
 ⟨h2.os.trans h1.os,h2.tape.trans h1.tape,h2.output.trans h1.output,Nat.le_trans h1.size h2.size,fun k hk hne=>(h2.block k (Nat.lt_of_lt_of_le hk h1.size) hne).trans (h1.block k hk hne)⟩
end
end
section
open Go.RowKit
theorem rmay_any (F L R:Int)(w:World)(hL:0≤L) :
  Calls Tryz.prog 39 #[.agg #[.int .u64 F,.int .u64 L,.int .u64 R]] w fun e w'=>e=.returned (.bool (mayB F L R))∧Below w.heap.size w w':=by
 by_cases h1:F≤1048576
 ·have h1b:decide (1048576 < F)=false:=by simp;omega
  by_cases h2:R≤1048576
  ·have h2b:decide (1048576 < R)=false:=by simp;omega
   by_cases h3:L≤1099511627776
   ·have h3b:decide (1099511627776 < L)=false:=by simp;omega
    by_cases h4:L=0
    ·subst h4
     have e:mayB F 0 R=decide (F=0):=by simp [mayB,h1,h2]
     have E:=Lib.hid e;clear e
     by_cases h5:F=0
     ·subst h5
      go_enter Tryz.func39,Tryz.ntmps39
      go_wp2
      go_ret
      exact⟨by rw [E.out];rfl,by go_grown⟩
     ·have h5b:(F == 0)=false:=by simpa using h5
      go_enter Tryz.func39,Tryz.ntmps39
      go_wp2
      go_ret
      exact⟨by rw [E.out];simp [h5],by go_grown⟩
    ·have h4b:(L == 0)=false:=by simpa using h4
     have h4c:decide (0 < L)=true:=by simp;omega
     have e:mayB F L R=decide (F≠R):=by simp [mayB,h1,h2,h3,h4]
     have E:=Lib.hid e;clear e
     by_cases h5:F=R
     ·subst h5
      have h5b:(F != F)=false:=by simp
      go_enter Tryz.func39,Tryz.ntmps39
      go_wp2
      go_ret
      exact⟨by rw [E.out];simp,by go_grown⟩
     ·have h5b:(F != R)=true:=by simpa using h5
      go_enter Tryz.func39,Tryz.ntmps39
      go_wp2
      go_ret
      exact⟨by rw [E.out];simp [h5],by go_grown⟩
   ·have h3b:decide (1099511627776 < L)=true:=by simp;omega
    have e:mayB F L R=false:=by simp [mayB,h3]
    have E:=Lib.hid e;clear e
    go_enter Tryz.func39,Tryz.ntmps39
    go_wp2
    go_ret
    exact⟨by rw [E.out];rfl,by go_grown⟩
  ·have h2b:decide (1048576 < R)=true:=by simp;omega
   have e:mayB F L R=false:=by simp [mayB,h2]
   have E:=Lib.hid e;clear e
   go_enter Tryz.func39,Tryz.ntmps39
   go_wp2
   go_ret
   exact⟨by rw [E.out];rfl,by go_grown⟩
 ·have h1b:decide (1048576 < F)=true:=by simp;omega
  have e:mayB F L R=false:=by simp [mayB,h1]
  have E:=Lib.hid e;clear e
  go_enter Tryz.func39,Tryz.ntmps39
  go_wp2
  go_ret
  exact⟨by rw [E.out];rfl,by go_grown⟩
theorem refnew_some (F L R:Int)(w:World)(base:Nat)(hF:0≤F)(hL:0≤L)(hR:0≤R)(hb:base≤w.heap.size)(h:mayB F L R=true) :
  Calls Tryz.prog 80 #[.agg #[.int .u64 F,.int .u64 L,.int .u64 R]] w fun e w'=>∃ q,e=.returned (.pointer (some ⟨q,0,none⟩))∧RefAt w' q base F L R 0 []∧Below w.heap.size w w':=by
 have hal:=(Below.refl w.heap.size w).alloc (Nat.le_refl _) (.cells #[.int .u64 F,.int .u64 L,.int .u64 R] 30)
 have nb:=Blk.new w 30 #[.int .u64 F,.int .u64 L,.int .u64 R]
 have NB:=Lib.hid nb;clear nb
 have H:=Lib.hid h
 have hM:=mayB_spec hF hL hR h
 clear h
 go_enter Tryz.func80,Tryz.ntmps80
 go_wp2_with (go_at_call 39;refine (rmay_any F L R _ hL).mono ?_;rintro e w1 ⟨rfl,hb1⟩;rw [H.out];have n1:=NB.out.below hb1 NB.out.lt;have a0:=n1.cell 0;have a1:=n1.cell 1;have a2:=n1.cell 2;simp only [lTA,lCZ,lCS] at a0 a1 a2)
 go_ret
 have hb2:=hal.trans (hb1.mono hal.size)
 have hb3:=hb2.alloc hb2.size (.cells #[.int .u64 F,.int .u64 L,.int .u64 R,.slice none 0 0,.slice none 0 0] 167)
 exact⟨w1.heap.size,rfl,⟨⟨_,_,Blk.new _ _ _,World.ownsRow_nil _ _ _ _,World.ownsRow_nil _ _ _ _,.inl rfl⟩,hM,Nums.nil,Nat.le_trans hb hb2.size⟩,hb3⟩
end
section
open Go.RowKit
section
variable {w w' : World} {r g : Nat} {F L R x : Int} {A : List (Int × Int)}
theorem urun_reach (h:RunAt w r g F L R x A)(y:Int)(hy:U y) :
  Calls Tryz.prog 102 #[.pointer (some ⟨r,0,none⟩),.int .u64 y] w fun e w'=>e=.returned (.int .u64 (qR F L R x A y))∧Below w.heap.size w w':=by
 by_cases hA:A=[]
 ·subst hA;exact run_reach0 h y
 ·have e:qR F L R x A y=ansI (fun t=>vA F L R A (max t x)) x y:=by unfold qR;rw [not_empty hA];rfl
  rw [e];exact (run_reach h hA y hy).mono fun _ _ k=>k.fix (vA_max_mono h.may h.num.1)
end
end
section
open Go.RowKit
attribute [local go_sem] quietR quietAtR quietUponR midAt midUpon
def RefU (w:World)(q base:Nat)(fr:Bool)(F L R x:Int)(A:List (Int × Int)):Prop :=
 match fr with
 | true=>∃ p,Blk w q 125 #[.int .u64 0,.int .u64 0,.int .u64 0,.pointer p]
 | false=>¬ (F=0∧L=0∧R=0)∧∃ p,Blk w q 125 #[.int .u64 F,.int .u64 L,.int .u64 R,.pointer (some ⟨p,0,none⟩)]∧RefAt w p base F L R x A
def fitU (fr:Bool)(v:Int):Int:=match fr with | true=>0 | false=>v
section
variable {w w' : World} {l r g q base : Nat} {fr : Bool} {F L R x : Int} {A : List (Int × Int)}
theorem rnone_free {p:Option Addr} (h:Blk w q 125 #[.int .u64 0,.int .u64 0,.int .u64 0,.pointer p]) :
  Calls Tryz.prog 96 #[.pointer (some ⟨q,0,none⟩)] w fun e w'=>e=.returned (.bool true)∧w=w':=by
 have c0:=h.cell 0;have c1:=h.cell 1;have c2:=h.cell 2
 simp only [lTA,lCZ,lCS] at c0 c1 c2
 clear h
 go_enter Tryz.func96,Tryz.ntmps96
 go_wp2
 go_ret
 exact⟨rfl,rfl⟩
theorem rnone_held {p:Option Addr} (h0:¬ (F=0∧L=0∧R=0))(h:Blk w q 125 #[.int .u64 F,.int .u64 L,.int .u64 R,.pointer p]) :
  Calls Tryz.prog 96 #[.pointer (some ⟨q,0,none⟩)] w fun e w'=>e=.returned (.bool false)∧w=w':=by
 have c0:=h.cell 0;have c1:=h.cell 1;have c2:=h.cell 2
 simp only [lTA,lCZ,lCS] at c0 c1 c2
 clear h
 by_cases h1:F=0
 ·by_cases h2:L=0
  ·have h3:¬ R=0:=fun h3=>h0 ⟨h1,h2,h3⟩
   subst h1 h2
   clear h0
   go_enter Tryz.func96,Tryz.ntmps96
   go_wp2
   go_ret
   exact⟨by simp [h3],rfl⟩
  ·clear h0
   go_enter Tryz.func96,Tryz.ntmps96
   go_wp2
   go_ret
   exact⟨by simp [h2],rfl⟩
 ·clear h0
  go_enter Tryz.func96,Tryz.ntmps96
  go_wp2
  go_ret
  exact⟨by simp [h1],rfl⟩
theorem uref_fit (h:RefU w q base fr F L R x A)(y:Int)(hy:U y) :
  Calls Tryz.prog 100 #[.pointer (some ⟨q,0,none⟩),.int .u64 y] w fun e w'=>e=.returned (.int .u64 (fitU fr (qR F L R x A y)))∧Below w.heap.size w w':=by
 cases fr with
 | true =>
  obtain⟨p,hB⟩:=h
  have HB:=Lib.hid hB;clear hB
  go_enter Tryz.func100,Tryz.ntmps100
  go_wp2_with (go_at_call 96;refine (rnone_free HB.out).mono ?_;rintro e w0 ⟨rfl,rfl⟩)
  go_ret
  exact⟨rfl,Below.refl _ _⟩
 | false =>
  obtain⟨h0,p,hB,hr⟩:=h
  have c3:=hB.cell 3
  simp only [lTA,lCZ,lCS] at c3
  have HB:=Lib.hid hB;have H0:=Lib.hid h0;have HR:=Lib.hid hr
  clear hB h0 hr
  unfold fitU
  go_enter Tryz.func100,Tryz.ntmps100
  go_wp2_with (first
   | (go_at_call 96;refine (rnone_held H0.out HB.out).mono ?_;rintro e w0 ⟨rfl,rfl⟩)
   | (go_at_call 104;refine (ref_reach HR.out y hy).mono ?_;rintro e w1 ⟨rfl,hb1⟩))
  go_ret
  exact⟨rfl,hb1⟩
end
def NewRef (n:Nat)(F L R:Int)(u:Value)(W':World):Prop:=∃ q,u=.pointer (some ⟨q,0,none⟩)∧RefAt W' q n F L R 0 []
theorem rlnew_yes (F L R:Int)(w:World)(base:Nat)(hF:0≤F)(hL:0≤L)(hR:0≤R)(hbase:base≤w.heap.size)(h1:mayB F L R=true) :
  Calls Tryz.prog 33 #[.agg #[.int .u64 F,.int .u64 L,.int .u64 R]] w fun e w'=>∃ q,e=.returned (.pointer (some ⟨q,0,none⟩))∧(∃ p,Blk w' q 125 #[.int .u64 F,.int .u64 L,.int .u64 R,.pointer (some ⟨p,0,none⟩)]∧RefAt w' p base F L R 0 [])∧Below w.heap.size w w'∧w.heap.size≤q:=by
 have hal:=(Below.refl w.heap.size w).alloc (Nat.le_refl _) (.cells #[.int .u64 F,.int .u64 L,.int .u64 R] 30)
 have nb:=Blk.new w 30 #[.int .u64 F,.int .u64 L,.int .u64 R]
 have NB:=Lib.hid nb;have HAL:=Lib.hid hal;clear nb hal
 have H:=Lib.hid h1;clear h1
 go_enter Tryz.func33,Tryz.ntmps33
 go_wp2_with (go_at_call 39;refine (rmay_any F L R _ hL).mono ?_;rintro e w1 ⟨rfl,hb1⟩;rw [H.out])
 have HN2:=Lib.hid (NB.out.below hb1 NB.out.lt)
 have HW:=Lib.hid (HAL.out.trans (hb1.mono HAL.out.size))
 have o0:=fun e=>(over_cell (w:=w1) (e:=e) (o:=0) HN2.out.lt).trans (HN2.out.cell 0)
 have o1:=fun e=>(over_cell (w:=w1) (e:=e) (o:=1) HN2.out.lt).trans (HN2.out.cell 1)
 have o2:=fun e=>(over_cell (w:=w1) (e:=e) (o:=2) HN2.out.lt).trans (HN2.out.cell 2)
 simp only [lTA,lCZ,lCS] at o0 o1 o2
 refine wp_region_mid (w:=w1) 3 3 [2] [] [(2,fun u W'=>NewRef base F L R u W')] rfl (by kernel_rfl) (by kernel_rfl) (by kernel_rfl) (by kernel_rfl) (fun _ _ _ _ _ h=>h) ⟨?st1,trivial⟩ ?_
 case st1=>exact fun v W1 W2 ⟨q,h1,h3⟩ hb=>⟨q,h1,h3.below hb⟩
 intro LL hL
 have HL:=Lib.hid hL
 clear hL
 simp only [List.take_succ_cons,List.take_zero,putL]
 repeat (first | refine wpHead_skip (by decide) ?_ | (refine wpHead_step (by decide) (fun K hK=>?_);go_simp;first | (refine hK _ ?_;clear hK K) | (apply Exists.intro;refine⟨fun _=>?_,hK _ ?_⟩;(fail);clear hK K)))
 refine wpHead_nil (HL.out _ ⟨?_,trivial⟩ ?_)
 ·intro vs W1 hb1 hf
  clear hf HL
  change midAt _ _ (Act.put _ (some 9) (vs 2)) _ _
  go_simp
  exact (refnew_some F L R W1 base hF hL hR (Nat.le_trans hbase (Nat.le_trans HW.out.size hb1.size)) H.out).mono fun e W2 ⟨q,he,hs,hb⟩=>⟨_,he,hb,q,rfl,hs⟩
 ·intro vs W1 hb1 hf
  obtain⟨⟨p,hf2,href⟩,hff⟩:=hf
  clear hff
  clear HL o0 o1 o2
  change wpList _ _ _ _ (Act.put _ (some 9) (vs 2)) _
  rw [hf2]
  clear hf2
  simp only [List.drop_succ_cons,List.drop_zero,List.take_succ_cons,List.take_zero]
  have HRF:=Lib.hid href;clear href
  go_wp2
  go_ret
  have hb2:=HW.out.trans (hb1.mono HW.out.size)
  have hb3:=hb2.alloc hb2.size (.cells #[.int .u64 F,.int .u64 L,.int .u64 R,.pointer (some ⟨p,0,none⟩)] 125)
  exact⟨W1.heap.size,rfl,⟨p,Blk.new _ _ _,HRF.out.below ((Below.refl _ _).alloc (Nat.le_refl _) _)⟩,hb3,hb2.size⟩
theorem rlnew_no (F L R:Int)(w:World)(base:Nat)(hF:0≤F)(hL:0≤L)(hR:0≤R)(hbase:base≤w.heap.size)(h1:mayB F L R=false) :
  Calls Tryz.prog 33 #[.agg #[.int .u64 F,.int .u64 L,.int .u64 R]] w fun e w'=>∃ q,e=.returned (.pointer (some ⟨q,0,none⟩))∧(∃ p,Blk w' q 125 #[.int .u64 0,.int .u64 0,.int .u64 0,.pointer p])∧Below w.heap.size w w'∧w.heap.size≤q:=by
 have hal:=(Below.refl w.heap.size w).alloc (Nat.le_refl _) (.cells #[.int .u64 F,.int .u64 L,.int .u64 R] 30)
 have nb:=Blk.new w 30 #[.int .u64 F,.int .u64 L,.int .u64 R]
 have NB:=Lib.hid nb;have HAL:=Lib.hid hal;clear nb hal
 have H:=Lib.hid h1;clear h1
 go_enter Tryz.func33,Tryz.ntmps33
 go_wp2_with (go_at_call 39;refine (rmay_any F L R _ hL).mono ?_;rintro e w1 ⟨rfl,hb1⟩;rw [H.out];have n1:=NB.out.below hb1 NB.out.lt;have c0:=n1.cell 0;have c1:=n1.cell 1;have c2:=n1.cell 2;have z0:=n1.frozen 0;have z1:=n1.frozen 1;have z2:=n1.frozen 2;simp only [lTA,lCZ,lCS] at c0 c1 c2)
 have hst:=(((HAL.out.trans (hb1.mono HAL.out.size)).setCell (p:=⟨w.heap.size,0,none⟩) (by simp) (.int .u64 0)).setCell (p:=⟨w.heap.size,1,none⟩) (by simp) (.int .u64 0)).setCell (p:=⟨w.heap.size,2,none⟩) (by simp) (.int .u64 0)
 have n2:=((n1.set_ 0 (.int .u64 0)).set_ 1 (.int .u64 0)).set_ 2 (.int .u64 0)
 simp only [List.setIfInBounds_toArray,List.set_cons_zero,List.set_cons_succ] at n2
 obtain⟨W0,hW0⟩:∃ W0,((w1.setCell ⟨w.heap.size,0,none⟩ (.int .u64 0)).setCell ⟨w.heap.size,1,none⟩ (.int .u64 0)).setCell ⟨w.heap.size,2,none⟩ (.int .u64 0)=W0:=⟨_,rfl⟩
 rw [hW0] at hst n2 ⊢
 have HN2:=Lib.hid n2
 have HW:=Lib.hid hst
 clear hst n2 n1 c0 c1 c2 z0 z1 z2 hW0
 have o0:=fun e=>(over_cell (w:=W0) (e:=e) (o:=0) HN2.out.lt).trans (HN2.out.cell 0)
 have o1:=fun e=>(over_cell (w:=W0) (e:=e) (o:=1) HN2.out.lt).trans (HN2.out.cell 1)
 have o2:=fun e=>(over_cell (w:=W0) (e:=e) (o:=2) HN2.out.lt).trans (HN2.out.cell 2)
 simp only [lTA,lCZ,lCS] at o0 o1 o2
 refine wp_region_mid (w:=W0) 3 3 [2] [] [(2,fun u W'=>NewRef base 0 0 0 u W')] rfl (by kernel_rfl) (by kernel_rfl) (by kernel_rfl) (by kernel_rfl) (fun _ _ _ _ _ h=>h) ⟨?st1,trivial⟩ ?_
 case st1=>exact fun v W1 W2 ⟨q,h1,h3⟩ hb=>⟨q,h1,h3.below hb⟩
 intro LL hL
 have HL:=Lib.hid hL
 clear hL
 simp only [List.take_succ_cons,List.take_zero,putL]
 repeat (first | refine wpHead_skip (by decide) ?_ | (refine wpHead_step (by decide) (fun K hK=>?_);go_simp;first | (refine hK _ ?_;clear hK K) | (apply Exists.intro;refine⟨fun _=>?_,hK _ ?_⟩;(fail);clear hK K)))
 refine wpHead_nil (HL.out _ ⟨?_,trivial⟩ ?_)
 ·intro vs W1 hb1 hf
  clear hf HL
  change midAt _ _ (Act.put _ (some 9) (vs 2)) _ _
  go_simp
  exact (refnew_some 0 0 0 W1 base (by decide) (by decide) (by decide) (Nat.le_trans hbase (Nat.le_trans HW.out.size hb1.size)) (by decide)).mono fun e W2 ⟨q,he,hs,hb⟩=>⟨_,he,hb,q,rfl,hs⟩
 ·intro vs W1 hb1 hf
  obtain⟨⟨p,hf2,href⟩,hff⟩:=hf
  clear hff
  clear HL o0 o1 o2
  change wpList _ _ _ _ (Act.put _ (some 9) (vs 2)) _
  rw [hf2]
  clear hf2
  simp only [List.drop_succ_cons,List.drop_zero,List.take_succ_cons,List.take_zero]
  have HRF:=Lib.hid href;clear href
  go_wp2
  go_ret
  have hb2:=HW.out.trans (hb1.mono HW.out.size)
  have hb3:=hb2.alloc hb2.size (.cells #[.int .u64 0,.int .u64 0,.int .u64 0,.pointer (some ⟨p,0,none⟩)] 125)
  exact⟨W1.heap.size,rfl,⟨_,Blk.new _ _ _⟩,hb3,hb2.size⟩
def KindU (fr:Bool)(F L R:Int):Prop:=match fr with | true=>(F=0∧L=0∧R=0)∨mayB F L R=false | false=>¬ (F=0∧L=0∧R=0)∧mayB F L R=true
theorem kindU_any (F L R:Int):∃ fr,KindU fr F L R:=by
 by_cases h0:F=0∧L=0∧R=0
 ·exact⟨true,.inl h0⟩
 ·cases h:mayB F L R with
  | false=>exact⟨true,.inr h⟩
  | true=>exact⟨false,h0,h⟩
end
end Go.Proofs.YtmmeopjemkjllaaGreat
