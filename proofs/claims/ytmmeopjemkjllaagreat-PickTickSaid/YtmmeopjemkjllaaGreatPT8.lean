/- Lemmas of the claim. No conditions beyond those that each states. -/
import Derived.Test.YtmmeopjemkjllaaGreatPT7
set_option linter.unusedVariables false
set_option linter.unusedSimpArgs false
set_option maxRecDepth 100000
set_option maxHeartbeats 8000000
namespace Go.Proofs.YtmmeopjemkjllaaGreat
section
open Go.RowKit
theorem stopped_yes (n:Int)(w:World) :
  Calls Tryz.prog 261 #[.int .u64 n,.bool true] w fun e w'=>e=.returned (.int .u64 4611686018427387904)∧w=w':=by
 go_enter Tryz.func261,Tryz.ntmps261
 go_wp2
 go_ret
 exact⟨rfl,rfl⟩
theorem stopped_no (n:Int)(w:World) :
  Calls Tryz.prog 261 #[.int .u64 n,.bool false] w fun e w'=>e=.returned (.int .u64 (cap n))∧w=w':=by
 by_cases h:4611686018427387904 < n
 ·have E:=cap_of_ge (n:=n) (by omega)
  have H:=Lib.hid E;clear E
  go_enter Tryz.func261,Tryz.ntmps261
  go_wp2
  go_ret
  exact⟨ret_int H.out.symm,rfl⟩
 ·have E:=cap_of_le (n:=n) (by omega)
  have H:=Lib.hid E;clear E
  go_enter Tryz.func261,Tryz.ntmps261
  go_wp2
  go_ret
  exact⟨ret_int H.out.symm,rfl⟩
theorem rplus_any (a b:Int)(w:World)(ha:U a)(hb:U b) :
  Calls Tryz.prog 257 #[.int .u64 a,.int .u64 b] w fun e w'=>e=.returned (.int .u64 (cap (a+b)))∧w=w':=by
 have hw:IntKind.u64.wrap (a+b)=if a+b≤18446744073709551615 then a+b else a+b - 18446744073709551616:=by
  unfold U at ha hb;rw [IntKind.wrap_u64];omega
 by_cases h:a+b≤18446744073709551615
 ·rw [if_pos h] at hw
  have hlt:decide (a+b < a)=false:=by unfold U at ha hb;simp;omega
  clear h
  go_enter Tryz.func257,Tryz.ntmps257
  go_wp2_with (go_at_call 261;refine (stopped_no _ _).mono ?_;rintro e w' ⟨rfl,rfl⟩)
  go_ret
  exact⟨rfl,rfl⟩
 ·rw [if_neg h] at hw
  have hlt:decide (a+b - 18446744073709551616 < a)=true:=by unfold U at ha hb;simp;omega
  have hc:=cap_of_ge (n:=a+b) (by omega)
  rw [hc]
  clear h hc
  generalize a+b - 18446744073709551616=x at *
  go_enter Tryz.func257,Tryz.ntmps257
  go_wp2_with (go_at_call 261;refine (stopped_yes _ _).mono ?_;rintro e w' ⟨rfl,rfl⟩)
  go_ret
  exact⟨rfl,rfl⟩
theorem minus_any (a b:Int)(w:World)(ha:U a)(hb:U b) :
  Calls Tryz.prog 280 #[.int .u64 a,.int .u64 b] w fun e w'=>e=.returned (.int .u64 (less a b))∧w=w':=by
 unfold U at ha hb
 by_cases h:a < b
 ·have hl:less a b=0:=by simp [less,h]
  rw [hl];clear hl
  go_enter Tryz.func280,Tryz.ntmps280
  go_wp2
  go_ret
  exact⟨rfl,rfl⟩
 ·have hl:less a b=cap (a - b):=by simp [less,h]
  rw [hl];clear hl
  go_enter Tryz.func280,Tryz.ntmps280
  go_wp2_with (go_at_call 261;refine (stopped_no _ _).mono ?_;rintro e w' ⟨rfl,rfl⟩)
  go_ret
  exact⟨rfl,rfl⟩
theorem times_any (a b:Int)(w:World)(ha:U a)(hb:U b) :
  Calls Tryz.prog 260 #[.int .u64 a,.int .u64 b] w fun e w'=>e=.returned (.int .u64 (cap (a*b)))∧Below w.heap.size w w':=by
 by_cases h:U (a*b)
 ·have h1:=hi_small h
  have h2:=lo_small h
  clear h
  go_enter Tryz.func260,Tryz.ntmps260
  go_wp2_with (first
   | (go_at_call 201;refine (mul_any _ _ _ ha hb).mono ?_;rintro e w1 ⟨rfl,hb1⟩)
   | (go_at_call 261;refine (stopped_no _ _).mono ?_;rintro e w' ⟨rfl,rfl⟩))
  go_ret
  exact⟨rfl,hb1.alloc hb1.size _⟩
 ·have h1:0 < hiW (a*b):=by
   have:=Int.mul_nonneg ha.1 hb.1
   unfold U at h;unfold hiW;omega
  have h2:=cap_of_ge (n:=a*b) (by have:=Int.mul_nonneg ha.1 hb.1;unfold U at h;omega)
  rw [h2]
  clear h h2
  go_enter Tryz.func260,Tryz.ntmps260
  go_wp2_with (first
   | (go_at_call 201;refine (mul_any _ _ _ ha hb).mono ?_;rintro e w1 ⟨rfl,hb1⟩)
   | (go_at_call 261;refine (stopped_yes _ _).mono ?_;rintro e w' ⟨rfl,rfl⟩))
  go_ret
  exact⟨rfl,hb1.alloc hb1.size _⟩
end
end Go.Proofs.YtmmeopjemkjllaaGreat
