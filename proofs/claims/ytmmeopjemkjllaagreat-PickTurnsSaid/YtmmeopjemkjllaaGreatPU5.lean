/- Lemmas of the claim. No conditions beyond those that each states. -/
import Derived.Test.YtmmeopjemkjllaaGreatProg
import Derived.WalkKit
import Derived.ProofKit
import Derived.OpenShut
import Derived.Deep.QuietTactic
import Derived.BigQuiet
import Derived.Lib.Hide
set_option linter.unusedVariables false
set_option linter.unusedSimpArgs false
set_option maxRecDepth 100000
set_option maxHeartbeats 8000000
namespace Go.Proofs.YtmmeopjemkjllaaGreat
section
open Go.RowKit
def leastTo (zs:List Int):Nat→Int
 | 0=>zs[0]?.getD 0
 | n+1=>min (leastTo zs n) (zs[n+1]?.getD 0)
theorem ret_intU {k:IntKind} {a b:Int} (h:a=b):Ending.returned (.int k a)=.returned (.int k b):=by rw [h]
theorem val_intU {k:IntKind} {a b:Int} (h:a=b):Value.int k a=.int k b:=by rw [h]
theorem min_any (b off len cap:Nat)(zs:List Int)(w:World)(h1:1≤len)(hbig:len≤9223372036854775807)
  (hc:∀ j,j < len→w.cell? ⟨b,off+j,none⟩=some (.int .u64 (zs.getD j 0))) :
  Calls Tryz.prog 136 #[.slice (some ⟨b,off,none⟩) len cap] w fun e w'=>e=.returned (.int .u64 (leastTo zs (len - 1)))∧w=w':=by
 have h0:w.cell? ⟨b,off,none⟩=some (.int .u64 (zs.getD 0 0)):=by have:=hc 0 (by omega);simpa using this
 go_enter Tryz.func136,Tryz.ntmps136
 go_wp2
 go_loop [3,4] (fun m i=>∃ k:Nat,k+1≤len∧i=.int .i64 (k+1:Nat)∧m=.int .u64 (leastTo zs k)) (fun _ i=>len - (Go.RowKit.intOf i).toNat)
 case atStart=>exact⟨0,by omega,rfl,rfl⟩
 case round =>
  obtain⟨k,hk,rfl,rfl⟩:=hrel
  by_cases hlt:k+1 < len
  ·have hcell:w.cell? ⟨b,off+(k+1),none⟩=some (.int .u64 (zs.getD (k+1) 0)):=hc _ (by omega)
   go_wp2
   go_round
   case rel=>exact⟨k+1,by omega,by go_num,val_intU (by simp only [leastTo];split <;> omega)⟩
   case measure=>simp [Go.RowKit.intOf];omega
  ·go_wp2
   go_ret
   exact⟨ret_intU (by rw [show len - 1=k by omega]),rfl⟩
theorem inner_some (o:Int)(b off len cap:Nat)(zs:List Int)(w:World)(h1:1≤len)(hbig:len≤9223372036854775807)
  (hc:∀ j,j < len→w.cell? ⟨b,off+j,none⟩=some (.int .u64 (zs.getD j 0))) :
  Calls Tryz.prog 113 #[.int .u64 o,.slice (some ⟨b,off,none⟩) len cap] w fun e w'=>e=.returned (.int .u64 (max o (leastTo zs (len - 1))))∧w=w':=by
 have HC:=Lib.hid hc
 clear hc
 go_enter Tryz.func113,Tryz.ntmps113
 go_wp2_with (go_at_call 136;refine (min_any _ _ _ _ _ _ h1 hbig HC.out).mono ?_;rintro e w' ⟨rfl,rfl⟩)
 all_goals go_ret
 all_goals exact⟨ret_intU (by omega),rfl⟩
end
end Go.Proofs.YtmmeopjemkjllaaGreat
