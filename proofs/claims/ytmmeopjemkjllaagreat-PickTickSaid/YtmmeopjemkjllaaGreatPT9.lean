/- Lemmas of the claim. No conditions beyond those that each states. -/
import Derived.Test.YtmmeopjemkjllaaGreatPT8
set_option linter.unusedVariables false
set_option linter.unusedSimpArgs false
set_option maxRecDepth 100000
set_option maxHeartbeats 8000000
namespace Go.Proofs.YtmmeopjemkjllaaGreat
section
open Go.RowKit
theorem div64_word (lo y:Int)(w:World)(hy:1≤y)(hy':U y)(hlo:U lo) :
  Calls Tryz.prog 265 #[.int .u64 0,.int .u64 lo,.int .u64 y] w fun e w'=>e=.returned (.tuple #[.int .u64 (lo / y),.int .u64 (lo % y)])∧Below w.heap.size w w':=by
 unfold U at hlo hy'
 obtain⟨h0,h1⟩:=hlo
 have hy0:(y == 0)=false:=by simp;omega
 have hyp:(0:Int) < y:=by omega
 go_enter Tryz.func265,Tryz.ntmps265
 go_wp2
 go_quiet (fail)
 go_wp2
 go_ret2
 exact⟨rfl,below_drewN (Below.refl _ _) _⟩
theorem div_none (h l:Int)(w:World) :
  Calls Tryz.prog 264 #[.agg #[.int .u64 h,.int .u64 l],.int .u64 0] w fun e w'=>e=.returned (.tuple #[.int .u64 0,.int .u64 0,.int .i64 2])∧Below w.heap.size w w':=by
 go_enter Tryz.func264,Tryz.ntmps264
 go_wp2
 go_ret3
 exact⟨rfl,by go_grown⟩
theorem div_word (l y:Int)(w:World)(hy:1≤y)(hy':U y)(hlo:U l) :
  Calls Tryz.prog 264 #[.agg #[.int .u64 0,.int .u64 l],.int .u64 y] w fun e w'=>e=.returned (.tuple #[.int .u64 (l / y),.int .u64 (l % y),.int .i64 0])∧Below w.heap.size w w':=by
 have hy0:(y == 0)=false:=by simp;omega
 go_enter Tryz.func264,Tryz.ntmps264
 go_wp2_with (go_at_call 265;refine (div64_word _ _ _ hy hy' hlo).mono ?_;rintro e w1 ⟨rfl,hb1⟩)
 go_ret3
 exact⟨rfl,((Below.refl _ _).alloc (Nat.le_refl _) _).trans (hb1.mono (by simp))⟩
theorem more_any (r:Int)(w:World)(hr:0≤r) :
  Calls Tryz.prog 262 #[.int .u64 r] w fun e w'=>e=.returned (.int .u64 (few r))∧w=w':=by
 by_cases h:1 < r
 ·have E:=Lib.hid (show few r=1 by simp [few,h])
  go_enter Tryz.func262,Tryz.ntmps262
  go_wp2
  go_ret
  exact⟨ret_int E.out.symm,rfl⟩
 ·have E:=Lib.hid (show few r=r by simp [few,h])
  go_enter Tryz.func262,Tryz.ntmps262
  go_wp2
  all_goals go_ret
  all_goals exact⟨ret_int (by rw [E.out];try omega),rfl⟩
theorem of_none (a b:Int)(w:World)(ha:U a)(hb:U b) :
  Calls Tryz.prog 263 #[.agg #[.func (.func 262) #[] #[]],.int .u64 a,.int .u64 b,.int .u64 0] w fun e w'=>e=.returned (.tuple #[.int .u64 0,.int .i64 2])∧Below w.heap.size w w':=by
 go_enter Tryz.func263,Tryz.ntmps263
 go_wp2_with (first
  | (go_at_call 201;refine (mul_any _ _ _ ha hb).mono ?_;rintro e w1 ⟨rfl,hb1⟩;obtain⟨hc1,hf1⟩:=bcell hb1;have hz1:w.heap.size < w1.heap.size:=(by have:=hb1.size;simp at this;omega);simp only [World.size_alloc] at hc1 hf1)
  | (go_at_call 264;refine (div_none _ _ _).mono ?_;rintro e w2 ⟨rfl,hb2⟩;obtain⟨hc2,hf2⟩:=bcell hb2;have hz2:=hb2.size))
 go_ret2
 exact⟨rfl,((Below.refl _ _).alloc (Nat.le_refl _) _).trans ((hb1.mono (by simp)).trans (hb2.mono (by omega)))⟩
theorem of_word (a c:Int)(w:World)(ha:U a)(hc:1≤c)(hc':U c) :
  Calls Tryz.prog 263 #[.agg #[.func (.func 262) #[] #[]],.int .u64 a,.int .u64 1,.int .u64 c] w fun e w'=>e=.returned (.tuple #[.int .u64 (cap (ceil a c)),.int .i64 0])∧Below w.heap.size w w':=by
 have h1:=hi_small ha
 have h2:=lo_small ha
 have h3:U (1:Int):=⟨by decide,by decide⟩
 go_enter Tryz.func263,Tryz.ntmps263
 go_wp2_with (first
  | (go_at_call 201;refine (mul_any _ _ _ ha h3).mono ?_;rintro e w1 ⟨rfl,hb1⟩;obtain⟨hc1,hf1⟩:=bcell hb1;have hz1:w.heap.size < w1.heap.size:=(by have:=hb1.size;simp at this;omega);simp only [World.size_alloc] at hc1 hf1)
  | (go_at_call 264;refine (div_word _ _ _ hc hc' ha).mono ?_;rintro e w2 ⟨rfl,hb2⟩;obtain⟨hc2,hf2⟩:=bcell hb2;have hz2:=hb2.size)
  | (go_at_call 262;refine (more_any _ _ (Int.emod_nonneg _ (by omega))).mono ?_;rintro e w3 ⟨rfl,rfl⟩)
  | (go_at_call 257;refine (rplus_any _ _ _ (div_U ha hc) (U_few (Int.emod_nonneg _ (by omega)))).mono ?_;rintro e w4 ⟨rfl,rfl⟩))
 go_ret2
 rw [ceil_eq hc]
 exact⟨rfl,((Below.refl _ _).alloc (Nat.le_refl _) _).trans ((hb1.mono (by simp)).trans (hb2.mono (by omega)))⟩
theorem up_none (a b:Int)(w:World)(ha:U a)(hb:U b) :
  Calls Tryz.prog 259 #[.int .u64 a,.int .u64 b,.int .u64 0] w fun e w'=>e=.returned (.tuple #[.int .u64 0,.int .i64 2])∧Below w.heap.size w w':=by
 go_enter Tryz.func259,Tryz.ntmps259
 go_wp2_with (go_at_call 263;refine (of_none _ _ _ ha hb).mono ?_;rintro e w1 ⟨rfl,hb1⟩)
 go_ret2
 exact⟨rfl,hb1⟩
theorem up_word (a c:Int)(w:World)(ha:U a)(hc:1≤c)(hc':U c) :
  Calls Tryz.prog 259 #[.int .u64 a,.int .u64 1,.int .u64 c] w fun e w'=>e=.returned (.tuple #[.int .u64 (cap (ceil a c)),.int .i64 0])∧Below w.heap.size w w':=by
 go_enter Tryz.func259,Tryz.ntmps259
 go_wp2_with (go_at_call 263;refine (of_word _ _ _ ha hc hc').mono ?_;rintro e w1 ⟨rfl,hb1⟩)
 go_ret2
 exact⟨rfl,hb1⟩
end
end Go.Proofs.YtmmeopjemkjllaaGreat
