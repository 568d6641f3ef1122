/- Lemmas of the claim. No conditions beyond those that each states. -/
import Derived.Test.YtmmeopjemkjllaaGreatPT9
import Derived.Sort.AssemblyPlain
import Derived.Sort.Grow
import Derived.Lib.SmallJoins
import Derived.RegionTactic
import Derived.ChangeAlike
import Derived.RangeFuncBox
import Derived.Maps.AppendAt
set_option linter.unusedVariables false
set_option linter.unusedSimpArgs false
set_option maxRecDepth 100000
set_option maxHeartbeats 8000000
namespace Go.Proofs.YtmmeopjemkjllaaGreat
section
open Go.RowKit Go.Sort
abbrev eW:Int→Value:=Value.int .u64
structure RowW (w:World)(g:Nat)(d:Array Int):Prop where
 holds:Holds eW w g 0 d
 lt:g < w.heap.size
theorem RowW.cell {w:World} {g:Nat} {d:Array Int} (h:RowW w g d) {i:Nat} (hi:i < d.size):w.cell? ⟨g,i,none⟩=some (.int .u64 d[i]!):=by
 have:=(h.holds i hi).1;rwa [Nat.zero_add] at this
theorem RowW.frozen {w:World} {g:Nat} {d:Array Int} (h:RowW w g d) {i:Nat} (hi:i < d.size):w.frozen? ⟨g,i,none⟩=false:=by
 have:=(h.holds i hi).2;rwa [Nat.zero_add] at this
theorem RowW.drewN {w:World} {g:Nat} {d:Array Int} (h:RowW w g d)(n:Nat):RowW (w.drewN n) g d:=⟨fun j hj=>h.holds j hj,h.lt⟩
theorem RowW.swap {w:World} {g:Nat} {d:Array Int} (h:RowW w g d) {i j:Nat} (hi:i < d.size)(hj:j < d.size) :
  RowW ((w.setCell ⟨g,i,none⟩ (.int .u64 d[j]!)).setCell ⟨g,j,none⟩ (.int .u64 d[i]!)) g (swp d i j):=by
 have e:=putRow_swp eW w g 0 d i j hi hj
 rw [putRow_self _ _ _ _ _ h.holds,Nat.zero_add,Nat.zero_add] at e
 refine⟨?_,by simpa using h.lt⟩
 rw [show ((w.setCell ⟨g,i,none⟩ (.int .u64 d[j]!)).setCell ⟨g,j,none⟩ (.int .u64 d[i]!))=_ from e]
 exact holds_putRow eW w g 0 d _ h.holds (by simp [swp])
theorem grown_setW (w:World)(g o:Nat)(u:Value):w.grownBy (w.setCell ⟨g,o,none⟩ u) (some g) :=
 ⟨rfl,rfl,rfl,by simp,fun k _ hk=>heap_setCell_other w ⟨g,o,none⟩ k u (fun e=>hk (by simp [e]))⟩
theorem grown_swap (w:World)(g i j:Nat)(u v:Value):w.grownBy ((w.setCell ⟨g,i,none⟩ u).setCell ⟨g,j,none⟩ v) (some g) :=
 (grown_setW w g i u).trans (grown_setW _ g j v)
theorem grown_drewN (w:World)(n:Nat)(row:Option Nat):w.grownBy (w.drewN n) row:=⟨rfl,rfl,rfl,Nat.le_refl _,fun _ _ _=>rfl⟩
structure DoneW (w:World)(g:Nat)(d':Array Int)(e:Ending)(w':World):Prop where
 ret:e=.returned (.tuple #[])
 row:RowW w' g d'
 grown:w.grownBy w' (some g)
theorem size_swp' (d:Array Int)(i j:Nat):(swp d i j).size=d.size:=by simp [swp]
theorem nanW (x:Int)(w:World):Calls Tryz.prog 211 #[.int .u64 x] w fun e w'=>e=.returned (.bool false)∧w'=w:=by
 go_enter Tryz.func211,Tryz.ntmps211
 go_wp2
 go_ret
 exact⟨by simp,rfl⟩
theorem lessW (x y:Int)(w:World):Calls Tryz.prog 222 #[.int .u64 x,.int .u64 y] w fun e w'=>e=.returned (.bool (ltInt x y))∧w'=w:=by
 go_enter Tryz.func222,Tryz.ntmps222
 go_wp2_with (go_at_call 211;refine (nanW _ _).mono ?_;rintro e w' ⟨rfl,rfl⟩)
 go_ret
 exact⟨rfl,rfl⟩
theorem insInner_go {lt:Int→Int→Bool} {a j:Nat} {d:Array Int} (h:a < j)(hl:lt d[j]! d[j - 1]! = true):insInner lt a j d=insInner lt a (j - 1) (swp d j (j - 1)):=by
 obtain⟨k,rfl⟩:∃ k,j=k+1:=⟨j - 1,by omega⟩
 rw [insInner]
 simp only [Nat.add_sub_cancel] at hl ⊢
 simp [hl,h]
theorem insInner_stop {lt:Int→Int→Bool} {a j:Nat} {d:Array Int} (h:¬ a < j∨lt d[j]! d[j - 1]! = false):insInner lt a j d=d:=by
 cases j with
 | zero=>rw [insInner]
 | succ k =>
  rw [insInner]
  simp only [Nat.add_sub_cancel] at h
  rcases h with h | h
  ·rw [if_neg];simp;omega
  ·simp [h]
theorem insertW (g cap a b:Nat)(d:Array Int)(w:World)(h:RowW w g d)(hab:a≤b)(hb:b≤d.size)(hsz:d.size≤1000000) :
  Calls Tryz.prog 216 #[.slice (some ⟨g,0,none⟩) d.size cap,.int .i64 a,.int .i64 b] w (DoneW w g (Sort.insertionSort ltInt d a b)):=by
 have H:=Lib.hid h
 clear h
 obtain⟨n,hn⟩:∃ n,n=d.size:=⟨_,rfl⟩
 rw [← hn] at hb hsz ⊢
 have HN:=Lib.hid hn
 clear hn
 go_enter Tryz.func216,Tryz.ntmps216
 go_wp2
 go_loopw [6] (fun vi W=>∃ (i:Nat) (k:Array Int),vi=.int .i64 i∧a < i∧i≤b+1∧k.size=n∧RowW W g k∧w.grownBy W (some g)∧insOuter ltInt a b i k=Sort.insertionSort ltInt d a b) (fun vi _=>(b+1 - Go.RowKit.intOf vi).toNat)
 case atStart=>exact⟨a+1,d,by go_num,by omega,by omega,HN.out.symm,H.out,World.grownBy.refl _ _,rfl⟩
 case round =>
  obtain⟨i,k,rfl,hai,hib,hk,hR,hG,hE⟩:=hrel
  obtain⟨wo,rfl⟩:∃ wo:World,wo=wr:=⟨_,rfl⟩
  by_cases hlt:i < b
  ·have hE2:insOuter ltInt a b (i+1) (insInner ltInt a i k)=Sort.insertionSort ltInt d a b:=by rw [← hE];conv=>rhs;rw [insOuter,if_pos hlt]
   have HR:=Lib.hid hR;have HG:=Lib.hid hG;have HE:=Lib.hid hE2;have HK:=Lib.hid hk
   clear hR hG hE hk hE2
   go_wp2
   go_loopw [7] (fun vj W=>∃ (j:Nat) (q:Array Int),vj=.int .i64 j∧a≤j∧j≤i∧q.size=n∧RowW W g q∧w.grownBy W (some g)∧insOuter ltInt a b (i+1) (insInner ltInt a j q)=Sort.insertionSort ltInt d a b) (fun vj _=>(Go.RowKit.intOf vj).toNat)
   case atStart=>exact⟨i,k,rfl,by omega,by omega,HK.out,HR.out,HG.out,HE.out⟩
   case round =>
    obtain⟨j,q,rfl,haj,hji,hq,hR,hG,hE⟩:=hrel
    by_cases hlj:a < j
    ·have c1:=hR.cell (i:=j) (by omega);have c2:=hR.cell (i:=j - 1) (by omega)
     have z1:=hR.frozen (i:=j) (by omega);have z2:=hR.frozen (i:=j - 1) (by omega)
     have hj1:(0:Int)≤(j:Int) - 1:=by omega
     cases hl:ltInt q[j]! q[j - 1]!
     ·have hE3:insOuter ltInt a b (i+1) q=Sort.insertionSort ltInt d a b:=by rw [← hE,insInner_stop (.inr hl)]
      have HR2:=Lib.hid hR;have HG2:=Lib.hid hG;have HE2:=Lib.hid hE3;have HK2:=Lib.hid hq
      clear hR hG hE hq hE3 HE HR HG
      go_wp2
      go_quiet ((go_at_call 222;exact Calls.quiet_of_same (lessW _ _ _)))
      go_wp2
      go_roundw
      case measure=>simp [Go.RowKit.intOf];omega
      case rel=>exact⟨i+1,q,by go_num,by omega,by omega,HK2.out,HR2.out.drewN _,HG2.out.trans (grown_drewN _ _ _),HE2.out⟩
     ·have hE3:insOuter ltInt a b (i+1) (insInner ltInt a (j - 1) (swp q j (j - 1)))=Sort.insertionSort ltInt d a b:=by rw [← hE,insInner_go hlj hl]
      have HR2:=Lib.hid hR;have HG2:=Lib.hid hG;have HE2:=Lib.hid hE3;have HK2:=Lib.hid hq
      clear hR hG hE hq hE3 HE HR HG
      go_wp2
      go_quiet ((go_at_call 222;exact Calls.quiet_of_same (lessW _ _ _)))
      go_wp2
      go_region
      go_wp2
      go_roundw
      case measure=>simp [Go.RowKit.intOf];omega
      case rel =>
       have hK2:=HK2.out
       exact⟨j - 1,swp q j (j - 1),by go_num,by omega,by omega,by rw [size_swp'];exact hK2,(HR2.out.drewN _).swap (by omega) (by omega),(HG2.out.trans (grown_drewN _ _ _)).trans (grown_swap _ _ _ _ _ _),HE2.out⟩
    ·have hE3:insOuter ltInt a b (i+1) q=Sort.insertionSort ltInt d a b:=by rw [← hE,insInner_stop (.inl hlj)]
     have hd:decide ((a:Int) < (j:Int))=false:=by simp;omega
     have HR2:=Lib.hid hR;have HG2:=Lib.hid hG;have HE2:=Lib.hid hE3;have HK2:=Lib.hid hq
     clear hR hG hE hq hE3 HE HR HG
     go_wp2
     go_quiet (fail)
     go_wp2
     go_roundw
     case measure=>simp [Go.RowKit.intOf];omega
     case rel=>exact⟨i+1,q,by go_num,by omega,by omega,HK2.out,HR2.out.drewN _,HG2.out.trans (grown_drewN _ _ _),HE2.out⟩
  ·have hE2:k=Sort.insertionSort ltInt d a b:=by rw [← hE,insOuter,if_neg hlt]
   have HR:=Lib.hid hR;have HG:=Lib.hid hG;have HE:=Lib.hid hE2
   clear hR hG hE hk hE2
   go_wp2
   go_returns
   exact⟨rfl,by rw [← HE.out];exact HR.out,HG.out⟩
end
end Go.Proofs.YtmmeopjemkjllaaGreat
