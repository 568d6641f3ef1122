/- Lemmas of the claim. No conditions beyond those that each states. -/
import Derived.Test.YtmmeopjemkjllaaGreatPT23
import Derived.Test.YtmmeopjemkjllaaGreatPT3
import Derived.Test.YtmmeopjemkjllaaGreatPT1
import Derived.Laws.Bits64
import Derived.Laws.Bits64b
import Derived.Deep.CutBlock
import Derived.Deep.DeepCutAuto
set_option linter.unusedVariables false
set_option linter.unusedSimpArgs false
set_option maxRecDepth 100000
set_option maxHeartbeats 8000000
namespace Go.Proofs.YtmmeopjemkjllaaGreat
section
open Go.RowKit Go.Sort
theorem bitLen_bounds:∀ n:Nat,n < 18446744073709551616→n < 2 ^ Lib.bitLen n∧(1≤n→2 ^ Lib.bitLen n≤2*n):=by
 intro n
 induction n using Nat.strongRecOn with
 | _ n ih =>
  intro h
  by_cases h0:n=0
  ·subst h0;exact⟨by decide,by omega⟩
  ·by_cases h1:n=1
   ·subst h1;exact⟨by decide,fun _=>by decide⟩
   have e:=Lib.bitLen_half n h0 (by simpa using h)
   obtain⟨i1,i2⟩:=ih (n / 2) (by omega) (by omega)
   rw [e,Nat.pow_add]
   generalize 2 ^ Lib.bitLen (n / 2)=k at i1 i2 ⊢
   refine⟨by omega,fun _=>?_⟩
   have:=i2 (by omega)
   omega
theorem lenW (n:Int)(w:World)(h0:0≤n)(h1:n≤18446744073709551615):Calls Tryz.prog 117 #[.int .u64 n] w fun e w'=>e=.returned (.int .i64 (Lib.bitLen n.toNat))∧w'=w:=Any.bits_Len lenB n w h0 h1
def PdqW (w:World)(g a b:Nat)(d:Array Int)(e:Ending)(w':World):Prop:=e=.returned (.tuple #[])∧∃ k,PermIn a b d k∧SortedIn ltInt a b k∧RowW w' g k∧w.grownBy w' (some g)
theorem pdqS (g cap a b lim:Nat)(d:Array Int)(w:World)(hm:b - a≤12)(h:RowW w g d)(hab:a≤b)(hb:b≤d.size)(hsz:d.size≤1000000) :
  Calls Tryz.prog 214 #[.slice (some ⟨g,0,none⟩) d.size cap,.int .i64 a,.int .i64 b,.int .i64 lim] w (PdqW w g a b d):=by
 have hc:=insertW g cap a b d w h hab hb hsz
 obtain⟨s1,s2⟩:=insertionSort_holds (lt:=ltInt) swo_ltInt d a b hab hb
 have HC:=Lib.hid (And.intro hc (And.intro s1 s2))
 obtain⟨n,hn⟩:∃ n,n=d.size:=⟨_,rfl⟩
 rw [← hn] at hb hsz HC ⊢
 clear h hc s1 s2 hn
 go_enter Tryz.func214,Tryz.ntmps214
 go_wp2
 go_loopw [1,2,3,8,9] (fun v1 v2 v3 v8 v9 W=>v1=.int .i64 a∧v2=.int .i64 b∧v3=.int .i64 lim∧v8=.bool true∧v9=.bool true∧W=w) (fun v1 v2 _ _ _ _=>(Go.RowKit.intOf v2 - Go.RowKit.intOf v1).toNat)
 case atStart=>exact⟨rfl,rfl,rfl,rfl,rfl,rfl⟩
 case round =>
  obtain⟨rfl,rfl,rfl,rfl,rfl,rfl⟩:=hrel
  go_wp2_with fail
  refine HC.out.1.mono ?_
  rintro e w2 ⟨rfl,hR2,hG2⟩
  have HR2:=Lib.hid (And.intro hR2 hG2)
  clear hR2 hG2
  go_wp2_with fail
  go_returns
  exact⟨rfl,_,HC.out.2.1,HC.out.2.2,HR2.out.1,HR2.out.2⟩
def SortW (w : World) (g : Nat) (l : List Int) (e : Ending) (w' : World) : Prop := e = .returned (.tuple #[]) ∧ ∃ k : Array Int, k.size = l.length ∧ k.toList.Perm l ∧ k.toList.Pairwise (· ≤ ·) ∧ RowW w' g k ∧ w.grownBy w' (some g)
theorem sortS (g cap : Nat) (l : List Int) (w : World) (h : RowW w g l.toArray) (hsz : l.length ≤ 12) :
    Calls Tryz.prog 208 #[.slice (some ⟨g, 0, none⟩) l.length cap] w (SortW w g l) := by
  have hlen := fun w => lenW (l.length : Int) w (by omega) (by omega)
  simp only [Int.toNat_natCast] at hlen
  have hb := (bitLen_bounds l.length (by omega))
  have hl64 : Lib.bitLen l.length ≤ 64 := by
    by_cases h0 : 1 ≤ l.length
    · have h2 := hb.2 h0
      by_cases h : Lib.bitLen l.length ≤ 64
      · exact h
      · have := Nat.pow_le_pow_right (show 1 ≤ 2 by omega) (show 65 ≤ Lib.bitLen l.length by omega)
        omega
    · have : l.length = 0 := by omega
      rw [this]; decide
  clear hb
  generalize Lib.bitLen l.length = m at hlen hl64
  have hc := pdqS g cap 0 l.length m l.toArray w (by omega) h (by omega) (by simp) (by simp; omega)
  simp only [List.size_toArray] at hc
  go_enter Tryz.func208, Tryz.ntmps208
  go_wp2_with fail
  refine (hlen _).mono ?_
  rintro e w1 ⟨rfl, rfl⟩
  clear hlen h
  go_wp2_with fail
  refine hc.mono ?_
  clear hc
  rintro e w2 ⟨rfl, k, hP, hS, hR, hG⟩
  have hz : k.size = l.length := by simpa using hP.1
  have hperm : k.toList.Perm l := by
    have := hP.2.2
    rw [show (k.extract 0 l.length) = k by rw [← hz]; simp] at this
    simpa using this
  have hsort : k.toList.Pairwise (· ≤ ·) := by
    rw [List.pairwise_iff_getElem]
    intro i j hi hj hij
    have h1 := hS i j (by omega) hij (by simp at hj; omega)
    simp only [Array.length_toList] at hi hj
    rw [getElem!_pos k i hi, getElem!_pos k j hj] at h1
    simp only [ltInt, decide_eq_false_iff_not, Int.not_lt] at h1
    simpa using h1
  have HX := Lib.hid (And.intro hz (And.intro hperm (And.intro hsort (And.intro hR hG))))
  clear hP hS hR hG hz hperm hsort
  go_wp2_with fail
  go_returns
  exact ⟨rfl, k, HX.out⟩
end
end Go.Proofs.YtmmeopjemkjllaaGreat
