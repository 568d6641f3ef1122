/- Lemmas of the claim. No conditions beyond those that each states. -/
import Derived.Test.YtmmeopjemkjllaaGreatPT24
import Derived.Test.YtmmeopjemkjllaaGreatPT16
set_option linter.unusedVariables false
set_option linter.unusedSimpArgs false
set_option maxRecDepth 100000
set_option maxHeartbeats 8000000
namespace Go.Proofs.YtmmeopjemkjllaaGreat
section
open Go.RowKit
section
variable {w w' : World} {r g : Nat} {F L R x : Int} {A : List (Int × Int)}
end
theorem vA_max_mono {F L R x:Int} {A:List (Int × Int)} (h:MayC F L R)(hA:∀ a∈A,a.1≤x∧0≤a.2):∀ t u,x≤t→t≤u→(fun t=>vA F L R A (max t x)) t≤(fun t=>vA F L R A (max t x)) u:=by
 intro t u ht htu
 exact vA_mono h hA (by omega) (by omega)
end
section
open Go.RowKit
def LimAt (w:World)(l r g:Nat)(F L R x:Int)(A:List (Int × Int)):Prop :=
 Blk w l 131 #[.iface 135 (.agg #[.pointer (some ⟨r,0,none⟩)])]∧RunAt w r g F L R x A∧r < l
def LFree (w:World)(l:Nat):Prop:=Blk w l 131 #[.iface 127 (.agg #[])]
@[go_sem] theorem as_free_bound (v:Value) (W:World):(Instr.typeAssert (.iface 127 v) 129 135 true).run Tryz.prog W=.ok (.tuple #[.agg #[.pointer none],.bool false]) W:=by kernel_rfl
@[go_sem] theorem as_free_free (v:Value) (W:World):(Instr.typeAssert (.iface 127 v) 129 127 true).run Tryz.prog W=.ok (.tuple #[v,.bool true]) W:=by kernel_rfl
@[go_sem] theorem as_bound_bound (v:Value) (W:World):(Instr.typeAssert (.iface 135 v) 129 135 true).run Tryz.prog W=.ok (.tuple #[v,.bool true]) W:=by kernel_rfl
section
variable {w w' : World} {l r g : Nat} {F L R x : Int} {A : List (Int × Int)}
theorem LimAt.below (h:LimAt w l r g F L R x A)(hb:Below w.heap.size w w'):LimAt w' l r g F L R x A:=⟨h.1.below hb h.1.lt,h.2.1.below hb,h.2.2⟩
theorem LimAt.glt (h:LimAt w l r g F L R x A):g < l:=by have:=h.2.1.lt;have:=h.2.2;omega
theorem lbound_some (h:LimAt w l r g F L R x A) :
  Calls Tryz.prog 89 #[.pointer (some ⟨l,0,none⟩)] w fun e w'=>e=.returned (.pointer (some ⟨r,0,none⟩))∧Below w.heap.size w w':=by
 have c0:=h.1.cell 0
 simp only [lTA,lCZ,lCS] at c0
 clear h
 go_enter Tryz.func89,Tryz.ntmps89
 go_wp2
 go_ret
 exact⟨rfl,by go_grown⟩
theorem lbound_free (h:LFree w l) :
  Calls Tryz.prog 89 #[.pointer (some ⟨l,0,none⟩)] w fun e w'=>e=.returned (.pointer none)∧Below w.heap.size w w':=by
 have c0:=h.cell 0
 simp only [lTA,lCZ,lCS] at c0
 clear h
 go_enter Tryz.func89,Tryz.ntmps89
 go_wp2
 go_ret
 exact⟨rfl,by go_grown⟩
theorem lfit_free (total:Int)(h:LFree w l) :
  Calls Tryz.prog 112 #[.pointer (some ⟨l,0,none⟩),.int .u64 total] w fun e w'=>e=.returned (.int .u64 0)∧Below w.heap.size w w':=by
 go_enter Tryz.func112,Tryz.ntmps112
 go_wp2_with (go_at_call 89;refine (lbound_free h).mono ?_;rintro e w1 ⟨rfl,hb1⟩)
 go_ret
 exact⟨rfl,hb1⟩
end
theorem cnone_any (F L R:Int)(w:World) :
  Calls Tryz.prog 81 #[.agg #[.int .u64 F,.int .u64 L,.int .u64 R]] w fun e w'=>e=.returned (.bool (decide (F=0∧L=0∧R=0)))∧Below w.heap.size w w':=by
 by_cases h1:F=0
 ·by_cases h2:L=0
  ·by_cases h3:R=0
   ·subst h1 h2 h3
    go_enter Tryz.func81,Tryz.ntmps81
    go_wp2
    go_ret
    exact⟨rfl,by go_grown⟩
   ·go_enter Tryz.func81,Tryz.ntmps81
    go_wp2
    go_ret
    exact⟨by simp [h3],by go_grown⟩
  ·go_enter Tryz.func81,Tryz.ntmps81
   go_wp2
   go_ret
   exact⟨by simp [h2],by go_grown⟩
 ·go_enter Tryz.func81,Tryz.ntmps81
  go_wp2
  go_ret
  exact⟨by simp [h1],by go_grown⟩
theorem cnone_no {F L R:Int} (w:World)(h:¬ (F=0∧L=0∧R=0)) :
  Calls Tryz.prog 81 #[.agg #[.int .u64 F,.int .u64 L,.int .u64 R]] w fun e w'=>e=.returned (.bool false)∧Below w.heap.size w w' :=
 (cnone_any F L R w).mono fun e w' ⟨he,hb⟩=>⟨by rw [he,decide_eq_false h],hb⟩
theorem cnone_yes {F L R:Int} (w:World)(h:F=0∧L=0∧R=0) :
  Calls Tryz.prog 81 #[.agg #[.int .u64 F,.int .u64 L,.int .u64 R]] w fun e w'=>e=.returned (.bool true)∧Below w.heap.size w w' :=
 (cnone_any F L R w).mono fun e w' ⟨he,hb⟩=>⟨by rw [he,decide_eq_true h],hb⟩
theorem lnew_free (F L R:Int)(w:World)(hL:0≤L)(hno:(F=0∧L=0∧R=0)∨mayB F L R=false) :
  Calls Tryz.prog 36 #[.agg #[.int .u64 F,.int .u64 L,.int .u64 R]] w fun e w'=>∃ l,e=.returned (.pointer (some ⟨l,0,none⟩))∧w.heap.size≤l∧LFree w' l∧Below w.heap.size w w':=by
 have hal:=(Below.refl w.heap.size w).alloc (Nat.le_refl _) (.cells #[.int .u64 F,.int .u64 L,.int .u64 R] 30)
 have nb:=Blk.new w 30 #[.int .u64 F,.int .u64 L,.int .u64 R]
 have HN:=Lib.hid nb
 clear nb
 by_cases h0:F=0∧L=0∧R=0
 ·have H0:=Lib.hid h0
  clear h0 hno
  go_enter Tryz.func36,Tryz.ntmps36
  go_wp2_with (go_at_call 81;refine (cnone_yes _ H0.out).mono ?_;rintro e w1 ⟨rfl,hb1⟩)
  go_ret
  have hb3:Below w.heap.size w w1:=hal.trans (hb1.mono hal.size)
  exact⟨w1.heap.size,rfl,hb3.size,Blk.new _ _ _,hb3.alloc hb3.size _⟩
 ·have H:=Lib.hid (hno.resolve_left h0)
  have H0:=Lib.hid h0
  clear h0 hno
  go_enter Tryz.func36,Tryz.ntmps36
  go_wp2_with (first
   | (go_at_call 81;refine (cnone_no _ H0.out).mono ?_;rintro e w1 ⟨rfl,hb1⟩;have n1:=HN.out.below hb1 HN.out.lt;have a0:=n1.cell 0;have a1:=n1.cell 1;have a2:=n1.cell 2;simp only [lTA,lCZ,lCS] at a0 a1 a2)
   | (go_at_call 82;refine (may_any F L R _ hL).mono ?_;rintro e w2 ⟨rfl,hb2⟩;rw [H.out]))
  go_ret
  have hb3:Below w.heap.size w w2:=hal.trans ((hb1.trans (hb2.mono hb1.size)).mono hal.size)
  exact⟨w2.heap.size,rfl,hb3.size,Blk.new _ _ _,hb3.alloc hb3.size _⟩
theorem lnew_some (F L R:Int)(w:World)(hF:0≤F)(hL:0≤L)(hR:0≤R)(hno:¬ (F=0∧L=0∧R=0))(h1:mayB F L R=true) :
  Calls Tryz.prog 36 #[.agg #[.int .u64 F,.int .u64 L,.int .u64 R]] w fun e w'=>∃ l r g,e=.returned (.pointer (some ⟨l,0,none⟩))∧w.heap.size≤g∧LimAt w' l r g F L R 0 []∧Below w.heap.size w w':=by
 have hal:=(Below.refl w.heap.size w).alloc (Nat.le_refl _) (.cells #[.int .u64 F,.int .u64 L,.int .u64 R] 30)
 have nb:=Blk.new w 30 #[.int .u64 F,.int .u64 L,.int .u64 R]
 have HN:=Lib.hid nb
 clear nb
 have H:=Lib.hid h1
 have H0:=Lib.hid hno
 clear h1 hno
 go_enter Tryz.func36,Tryz.ntmps36
 go_wp2_with (first
  | (go_at_call 81;refine (cnone_no _ H0.out).mono ?_;rintro e w1 ⟨rfl,hb1⟩;have n1:=HN.out.below hb1 HN.out.lt;have a0:=n1.cell 0;have a1:=n1.cell 1;have a2:=n1.cell 2;simp only [lTA,lCZ,lCS] at a0 a1 a2)
  | (go_at_call 82;refine (may_any F L R _ hL).mono ?_;rintro e w2 ⟨rfl,hb2⟩;rw [H.out];have n2:=n1.below hb2 n1.lt;have b0:=n2.cell 0;have b1:=n2.cell 1;have b2:=n2.cell 2;simp only [lTA,lCZ,lCS] at b0 b1 b2)
  | (go_at_call 83;refine (run_new F L R _ hF hL hR H.out).mono ?_;rintro e w3 ⟨r,g,rfl,hg,hr,hb3⟩;have HR:=Lib.hid hr;clear hr))
 go_ret
 have hb4:=(hb1.trans (hb2.mono hb1.size)).trans (hb3.mono (hb1.trans (hb2.mono hb1.size)).size)
 have hb5:Below w.heap.size w w3:=hal.trans (hb4.mono hal.size)
 have hal2:=(Below.refl w3.heap.size w3).alloc (Nat.le_refl _) (.cells #[.iface 135 (.agg #[.pointer (some ⟨r,0,none⟩)])] 131)
 exact⟨w3.heap.size,r,g,rfl,Nat.le_trans (Nat.le_trans hal.size (hb1.trans (hb2.mono hb1.size)).size) hg,⟨Blk.new _ _ _,HR.out.below hal2,HR.out.lt.2⟩,hb5.trans (hal2.mono hb5.size)⟩
end
end Go.Proofs.YtmmeopjemkjllaaGreat
