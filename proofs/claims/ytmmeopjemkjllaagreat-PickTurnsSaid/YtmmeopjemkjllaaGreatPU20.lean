/- Lemmas of the claim. No conditions beyond those that each states. -/
import Derived.Test.YtmmeopjemkjllaaGreatPU9
import Derived.Test.YtmmeopjemkjllaaGreatPU18
import Derived.Deep.DeepCutAuto
import Derived.Outline
import Derived.Deep.RegionWith
set_option linter.unusedVariables false
set_option linter.unusedSimpArgs false
set_option maxRecDepth 100000
set_option maxHeartbeats 8000000
namespace Go.Proofs.YtmmeopjemkjllaaGreat
section
open Go.RowKit
theorem lhas_any (s h n:Int)(w:World)(hs:U s)(hh:U h)(hn:U n) :
  Calls Tryz.prog 258 #[.agg #[.int .u64 s,.int .u64 h],.int .u64 n] w fun e w'=>e=.returned (.int .u64 (cap (h+cap (s*n))))∧Below w.heap.size w w':=by
 have hal:=(Below.refl w.heap.size w).alloc (Nat.le_refl _) (.cells #[.int .u64 s,.int .u64 h] 211)
 have nb:=Blk.new w 211 #[.int .u64 s,.int .u64 h]
 have u0:=U_cap (Int.mul_nonneg hs.1 hn.1)
 have o0:=fun e=>(over_cell (e:=e) (o:=0) nb.lt).trans (nb.cell 0)
 have o1:=fun e=>(over_cell (e:=e) (o:=1) nb.lt).trans (nb.cell 1)
 simp only [lTA,lCZ,lCS] at o0 o1
 clear nb
 go_enter Tryz.func258,Tryz.ntmps258
 go_wp2
 refine wp_region_over (by kernel_rfl) (by kernel_rfl) ?_
 repeat (first | go_big_quiet_skip | (go_big_quiet_want;go_big_quiet_op;first | go_big_quiet_on | (apply Exists.intro;refine⟨fun e=>?_,?_⟩;(focus (first | (go_at_call 260;exact calls_over (times_any _ _ _ hs hn)) | (go_at_call 257;exact calls_over_same (rplus_any _ _ _ hh u0))));go_big_quiet_on)))
 refine wpQuiet_nil ?_
 rintro W2 ⟨e,he⟩
 have hb2:=over_below (w.alloc (.cells #[.int .u64 s,.int .u64 h] 211)) e
 rw [← he] at hb2
 clear he o0 o1
 go_wp2
 go_ret
 exact⟨rfl,hal.trans (hb2.mono hal.size)⟩
theorem luntil_any (s h y:Int)(w:World)(hs:U s)(hh:U h)(hy:U y) :
  Calls Tryz.prog 255 #[.agg #[.int .u64 s,.int .u64 h],.int .u64 y] w fun e w'=>e=.returned (.int .u64 (untilL s h y))∧Below w.heap.size w w':=by
 have hal:=(Below.refl w.heap.size w).alloc (Nat.le_refl _) (.cells #[.int .u64 s,.int .u64 h] 211)
 by_cases h1:y≤h
 ·have e1:untilL s h y=0:=if_pos h1
  rw [e1]
  go_enter Tryz.func255,Tryz.ntmps255
  go_wp2
  go_ret
  exact⟨rfl,hal⟩
 ·have uy:U (y - h):=by unfold U at *;omega
  have wd:IntKind.u64.wrap (y - h)=y - h:=wrap_u uy
  by_cases h2:s=0
  ·have e1:untilL s h y=9223372036854775808:=by unfold untilL;rw [if_neg h1,if_pos (.inl h2)]
   rw [e1]
   have u1:U 1:=⟨by decide,by decide⟩
   subst h2
   go_enter Tryz.func255,Tryz.ntmps255
   go_wp2_with (go_at_call 259;refine (up_none _ _ _ uy u1).mono ?_;rintro e w1 ⟨rfl,hb1⟩)
   go_ret
   exact⟨rfl,hal.trans (hb1.mono hal.size)⟩
  ·have hs1:1≤s:=by have:=hs.1;omega
   have hc:=ceil_le (y:=y - h) (c:=s) hs1 uy.1
   by_cases h3:4611686018427387904 < y
   ·have e1:untilL s h y=9223372036854775808:=by unfold untilL;rw [if_neg h1,if_pos (.inr h3)]
    rw [e1]
    go_enter Tryz.func255,Tryz.ntmps255
    go_wp2_with (go_at_call 259;refine (up_word _ _ _ uy hs1 hs).mono ?_;rintro e w1 ⟨rfl,hb1⟩)
    go_ret
    exact⟨rfl,hal.trans (hb1.mono hal.size)⟩
   ·have e1:untilL s h y=ceil (y - h) s:=by unfold untilL;rw [if_neg h1,if_neg (by omega)]
    have e2:cap (ceil (y - h) s)=ceil (y - h) s:=cap_of_le (by have:=hh.1;omega)
    have E1:=Lib.hid e1;have E2:=Lib.hid e2
    clear e1 e2
    go_enter Tryz.func255,Tryz.ntmps255
    go_wp2_with (go_at_call 259;refine (up_word _ _ _ uy hs1 hs).mono ?_;rintro e w1 ⟨rfl,hb1⟩)
    go_ret
    exact⟨ret_int (by rw [E1.out,E2.out]),hal.trans (hb1.mono hal.size)⟩
structure BentAt (w:World)(g:Nat)(F L R x:Int)(A:List (Int × Int)):Prop where
 blk:∃ h1 h2,Blk w g 213 #[.int .u64 F,.int .u64 L,.int .u64 R,.int .i64 A.length,.int .u64 x,.int .u64 F,.int .u64 h1,.int .u64 R,.int .u64 h2]∧U h1∧U h2∧(A≠[]→Below1 F 0 x h1 A∧Below1 R ((F - R)*L) x h2 A)
 may:MayC F L R
 lt_:R < F
 num:∀ a∈A,0≤a.1∧a.1≤x∧0≤a.2∧a.2≤4611686018427387904
 x0:0≤x
 x1:x≤9223372036854775808
 few:A.length≤900000
section
variable {w w' : World} {g : Nat} {F L R x : Int} {A : List (Int × Int)}
theorem BentAt.below (h:BentAt w g F L R x A)(hb:Below w.heap.size w w'):BentAt w' g F L R x A:=by
 obtain⟨⟨h1,h2,hB,h3⟩,r⟩:=h
 exact⟨⟨h1,h2,hB.below hb hB.lt,h3⟩,r,‹_›,‹_›,‹_›,‹_›,‹_›⟩
theorem BentAt.lt (h:BentAt w g F L R x A):g < w.heap.size:=by obtain⟨h1,h2,hB,_⟩:=h.blk;exact hB.lt
theorem BentAt.uF (h:BentAt w g F L R x A):U F:=⟨h.may.f0,by have:=h.may.f1;omega⟩
theorem BentAt.uR (h:BentAt w g F L R x A):U R:=⟨h.may.r0,by have:=h.may.r1;omega⟩
theorem BentAt.ux (h:BentAt w g F L R x A):U x:=⟨h.x0,by have:=h.x1;omega⟩
end
theorem bnone_any (g:Nat)(n:Int)(w:World)(hc:w.cell? ⟨g,3,none⟩=some (.int .i64 n)) :
  Calls Tryz.prog 254 #[.pointer (some ⟨g,0,none⟩)] w fun e w'=>e=.returned (.bool (n == 0))∧w=w':=by
 go_enter Tryz.func254,Tryz.ntmps254
 go_wp2
 go_ret
 exact⟨rfl,rfl⟩
theorem len0 {A:List (Int × Int)} (hA:A≠[]):((A.length:Int) == 0)=false:=by
 have:=List.length_pos_iff.2 hA
 simp;omega
theorem bent_cells {w:World} {g:Nat} {F L R n x h1 h2:Int} (hB:Blk w g 213 #[.int .u64 F,.int .u64 L,.int .u64 R,.int .i64 n,.int .u64 x,.int .u64 F,.int .u64 h1,.int .u64 R,.int .u64 h2]) :
  w.cell? ⟨g,0,none⟩=some (.int .u64 F)∧w.cell? ⟨g,1,none⟩=some (.int .u64 L)∧w.cell? ⟨g,2,none⟩=some (.int .u64 R)∧w.cell? ⟨g,3,none⟩=some (.int .i64 n)∧w.cell? ⟨g,4,none⟩=some (.int .u64 x) ∧
  w.cell? ⟨g,5,none⟩=some (.int .u64 F)∧w.cell? ⟨g,6,none⟩=some (.int .u64 h1)∧w.cell? ⟨g,7,none⟩=some (.int .u64 R)∧w.cell? ⟨g,8,none⟩=some (.int .u64 h2) :=
 ⟨hB.cell 0,hB.cell 1,hB.cell 2,hB.cell 3,hB.cell 4,hB.cell 5,hB.cell 6,hB.cell 7,hB.cell 8⟩
theorem breach_any (g:Nat)(F L R n x h1 h2 y m:Int)(w:World)(hF:U F)(hR:U R)(hx0:0≤x)(hx1:x≤9223372036854775808)(hy:U y)(hh1:U h1)(hh2:U h2)(hn:(n == 0)=false)
  (hB:Blk w g 213 #[.int .u64 F,.int .u64 L,.int .u64 R,.int .i64 n,.int .u64 x,.int .u64 F,.int .u64 h1,.int .u64 R,.int .u64 h2])
  (hm:(if untilL F h1 y < untilL R h2 y then untilL R h2 y else untilL F h1 y)=m) :
  Calls Tryz.prog 251 #[.pointer (some ⟨g,0,none⟩),.int .u64 y] w fun e w'=>e=.returned (.int .u64 (reachB F R x h1 h2 y))∧Below w.heap.size w w':=by
 obtain⟨c0,c1,c2,c3,c4,c5,c6,c7,c8⟩:=bent_cells hB
 have hg:=hB.lt
 have o5:=fun e=>(over_cell (e:=e) hg).trans c5
 have o6:=fun e=>(over_cell (e:=e) hg).trans c6
 have o7:=fun e=>(over_cell (e:=e) hg).trans c7
 have o8:=fun e=>(over_cell (e:=e) hg).trans c8
 have d1:=untilL_bd (y:=y) hF.1 hh1.1
 have d2:=untilL_bd (y:=y) hR.1 hh2.1
 have hm0:0≤m∧m≤9223372036854775808:=by omega
 have er:reachB F R x h1 h2 y=if 9223372036854775808 - x≤m then 9223372036854775808 else x+m:=by
  have:max (untilL F h1 y) (untilL R h2 y)=m:=by omega
  unfold reachB;rw [this]
 obtain⟨hm0,hm1⟩:=hm0
 have wx:IntKind.u64.wrap (9223372036854775808 - x)=9223372036854775808 - x:=wrap_u (by unfold U;omega)
 have HB:=Lib.hid hB;have ER:=Lib.hid er
 clear hB er c0 c1 c2 c5 c6 c7 c8 d1 d2 c4
 go_enter Tryz.func251,Tryz.ntmps251
 go_wp2_with (go_at_call 254;refine (bnone_any _ _ _ c3).mono ?_;rintro e w' ⟨rfl,rfl⟩)
 refine wp_region_over (by kernel_rfl) (by kernel_rfl) ?_
 repeat (first | go_big_quiet_skip | (go_big_quiet_want;go_big_quiet_op;first | go_big_quiet_on | (apply Exists.intro;refine⟨fun e=>?_,?_⟩;(focus (first | (go_at_call_of 255 (Value.agg #[.int .u64 F,.int .u64 h1]);with_reducible exact calls_over (luntil_any F h1 _ _ hF hh1 hy)) | (go_at_call 255;with_reducible exact calls_over (luntil_any R h2 _ _ hR hh2 hy))));go_big_quiet_on)))
 refine wpQuiet_nil ?_
 rintro W2 ⟨e,he⟩
 have hb2:=over_below w e
 rw [← he] at hb2
 clear he o5 o6 o7 o8 c3
 have hB2:=HB.out.below hb2 HB.out.lt
 have c4:=hB2.cell 4
 simp only [lTA,lCZ,lCS] at c4
 clear hB2 hm
 go_wp2
 all_goals
  go_ret
  exact⟨ret_int (by rw [ER.out];first | rw [if_pos (by omega)] | (rw [if_neg (by omega)];done) | (rw [if_neg (by omega)];exact wrap_u (by unfold U;omega))),hb2⟩
end
section
open Go.RowKit
theorem burst_any (F L R:Int)(w:World)(hF:U F)(hL:U L)(hR:U R)(h:R < F) :
  Calls Tryz.prog 256 #[.agg #[.int .u64 F,.int .u64 L,.int .u64 R]] w fun e w'=>e=.returned (.tuple #[.int .u64 (cap ((F - R)*L)),.bool true])∧Below w.heap.size w w':=by
 have hal:=(Below.refl w.heap.size w).alloc (Nat.le_refl _) (.cells #[.int .u64 F,.int .u64 L,.int .u64 R] 30)
 have nb:=Blk.new w 30 #[.int .u64 F,.int .u64 L,.int .u64 R]
 have hd:decide (R < F)=true:=by simp;omega
 have uF:U (F - R):=by unfold U at *;omega
 have wd:IntKind.u64.wrap (F - R)=F - R:=wrap_u uF
 have NB:=Lib.hid nb;clear nb
 go_enter Tryz.func256,Tryz.ntmps256
 go_wp2_with (first
  | (go_at_call 149;refine (bent_any F L R _).mono ?_;rintro e w1 ⟨rfl,hb1⟩;have n1:=NB.out.below hb1 NB.out.lt;have a0:=n1.cell 0;have a1:=n1.cell 1;have a2:=n1.cell 2;simp only [lTA,lCZ,lCS] at a0 a1 a2;clear n1)
  | (go_at_call 260;refine (times_any _ _ _ uF hL).mono ?_;rintro e w2 ⟨rfl,hb2⟩))
 go_ret2
 exact⟨rfl,(hal.trans (hb1.mono hal.size)).trans (hb2.mono (Nat.le_trans hal.size hb1.size))⟩
abbrev bentRow (F L R n x h1 h2:Int):Array Value:=#[.int .u64 F,.int .u64 L,.int .u64 R,.int .i64 n,.int .u64 x,.int .u64 F,.int .u64 h1,.int .u64 R,.int .u64 h2]
def MidB (w W:World)(g hb:Nat)(F L R n x a0 a1 h1 h2:Int):Prop :=
 Blk W hb 267 #[.int .u64 a0,.int .u64 a1]∧Blk W g 213 (bentRow F L R n x h1 h2)∧w.grownBy W (some g)∧g < hb∧w.heap.size≤hb
theorem MidB.below {w W W':World} {g hb:Nat} {F L R n x a0 a1 h1 h2:Int} (h:MidB w W g hb F L R n x a0 a1 h1 h2)(hb':Below W.heap.size W W'):MidB w W' g hb F L R n x a0 a1 h1 h2:=by
 obtain⟨h1,h2,h3,h4,h5⟩:=h
 exact⟨h1.below hb' h1.lt,h2.below hb' h2.lt,⟨hb'.os.trans h3.os,hb'.tape.trans h3.tape,hb'.output.trans h3.output,Nat.le_trans h3.size hb'.size,fun k hk hne=>(hb'.block k (Nat.lt_of_lt_of_le hk h3.size)).trans (h3.block k hk hne)⟩,h4,h5⟩
theorem grownBy_below {w W W':World} {g:Nat} (h3:w.grownBy W (some g))(hb':Below w.heap.size W W')(hs:w.heap.size≤W'.heap.size):w.grownBy W' (some g) :=
 ⟨hb'.os.trans h3.os,hb'.tape.trans h3.tape,hb'.output.trans h3.output,hs,fun k hk hne=>(hb'.block k hk).trans (h3.block k hk hne)⟩
theorem grownBy_set {w W:World} {g i:Nat} {u:Value} (h:w.grownBy W (some g)):w.grownBy (W.setCell ⟨g,i,none⟩ u) (some g) :=
 ⟨h.os,h.tape,h.output,by simp [World.setCell];exact h.size,fun k hk hne=>(Below.heap_setCell _ _ _ k (by intro he;exact hne (by rw [he]))).trans (h.block k hk hne)⟩
theorem grownBy_set_new {w W:World} {g hb i:Nat} {u:Value} (h:w.grownBy W (some g))(hn:w.heap.size≤hb):w.grownBy (W.setCell ⟨hb,i,none⟩ u) (some g) :=
 ⟨h.os,h.tape,h.output,by simp [World.setCell];exact h.size,fun k hk hne=>(Below.heap_setCell _ _ _ k (by simp only;omega)).trans (h.block k hk hne)⟩
set_option maxRecDepth 100000 in
set_option maxHeartbeats 2000000 in
theorem bstart_any (g : Nat) (F L R n x h1 h2 t y M X Y ov a1 p1 p2 H1 H2 : Int) (w : World) (hF : U F) (hL : U L) (hR : U R) (hRF : R < F) (hx : U x) (ht : U t) (hy : U y) (hh1 : U h1) (hh2 : U h2) (hn0 : 0 ≤ n) (hn1 : n ≤ 1000000)
    (hM : (if 9223372036854775808 < t then 9223372036854775808 else t) = M) (hX : (if M < x then x else M) = X) (hY : (if 4611686018427387904 < y then 4611686018427387904 else y) = Y)
    (hov : cap ((F - R) * L) = ov) (ha1 : cap (Y + ov) = a1) (hp1 : cap (h1 + cap (F * (X - x))) = p1) (hp2 : cap (h2 + cap (R * (X - x))) = p2)
    (hH1 : H1 = if 0 < n ∧ p1 < Y then p1 else Y) (hH2 : H2 = if 0 < n ∧ p2 < a1 then p2 else a1)
    (hB : Blk w g 213 (bentRow F L R n x h1 h2)) :
    Calls Tryz.prog 252 #[.pointer (some ⟨g, 0, none⟩), .int .u64 t, .int .u64 y] w fun e w' =>
      e = .returned (.tuple #[]) ∧ Blk w' g 213 (bentRow F L R (n + 1) X H1 H2) ∧ w.grownBy w' (some g) := by
  have uX : U (X - x) := by unfold U at *; omega
  have wd : IntKind.u64.wrap (X - x) = X - x := wrap_u uX
  have uov : U ov := by rw [← hov]; exact U_cap (Int.mul_nonneg (by omega) hL.1)
  have uY : U Y := by unfold U at *; omega
  have hd : decide (R < F) = true := by simp; omega
  obtain ⟨c0, c1, c2, c3, c4, c5, c6, c7, c8⟩ := bent_cells hB
  have hg := hB.lt
  have HB := Lib.hid hB; have HOV := Lib.hid hov; have HA1 := Lib.hid ha1; have HP1 := Lib.hid hp1; have HP2 := Lib.hid hp2; have HH1 := Lib.hid hH1; have HH2 := Lib.hid hH2
  clear hB hov ha1 hp1 hp2 hH1 hH2 c3 c4 c5 c6 c7 c8
  go_enter Tryz.func252, Tryz.ntmps252
  go_wp2_with (first
    | (go_at_call 149; refine (bent_any F L R _).mono ?_; rintro e w1 ⟨rfl, hb1⟩; have B1 := HB.out.below hb1 hg; obtain ⟨c0, c1, c2, c3, c4, c5, c6, c7, c8⟩ := bent_cells B1; clear c3 c5 c6 c7 c8)
    | (go_at_call 256; refine (burst_any F L R _ hF hL hR hRF).mono ?_; rintro e w2 ⟨rfl, hb2⟩; rw [HOV.out])
    | (go_at_call 257; refine (rplus_any Y ov _ uY uov).mono ?_; rintro e w' ⟨rfl, rfl⟩; rw [HA1.out]))
  have hgw2 : g < w2.heap.size := Nat.lt_of_lt_of_le hg (Nat.le_trans hb1.size hb2.size)
  have hbw : Below w.heap.size w w2 := hb1.trans (hb2.mono hb1.size)
  have B2 := (HB.out.below hb1 hg).below hb2 (HB.out.below hb1 hg).lt
  have hal := (Below.refl w2.heap.size w2).alloc (Nat.le_refl _) (.cells #[.int .u64 Y, .int .u64 a1] 267)
  have hS0 : MidB w (w2.alloc (.cells #[.int .u64 Y, .int .u64 a1] 267)) g w2.heap.size F L R n x Y a1 h1 h2 :=
    ⟨Blk.new _ _ _, B2.below hal hgw2, ⟨(hbw.trans (hal.mono hbw.size)).os, (hbw.trans (hal.mono hbw.size)).tape, (hbw.trans (hal.mono hbw.size)).output, (hbw.trans (hal.mono hbw.size)).size, fun k hk _ => (hbw.trans (hal.mono hbw.size)).block k hk⟩, hgw2, hbw.size⟩
  generalize w2.alloc (.cells #[.int .u64 Y, .int .u64 a1] 267) = w3 at *
  have HS0 := Lib.hid hS0
  clear hS0 B2 hb1 hb2 hal c0 c1 c2 c4
  refine wp_region_over (by kernel_rfl) (by kernel_rfl) ?_
  repeat (first | go_big_quiet_skip | (go_big_quiet_want; go_big_quiet_op; go_big_quiet_on))
  refine wpQuiet_nil ?_
  rintro W4 ⟨e, he⟩
  have hb4 := over_below w3 e
  rw [← he] at hb4
  clear he
  have hS1 := HS0.out.below hb4
  obtain ⟨hb, hhb⟩ : ∃ hb, hb = w2.heap.size := ⟨_, rfl⟩
  rw [← hhb] at hS1 ⊢
  have HS1 := Lib.hid hS1
  clear hS1 hb4 hhb HS0
  go_wp2
  go_loopw [52] (fun i W => ∃ k : Nat, k ≤ 2 ∧ i = .int .i64 k ∧ (k = 0 → MidB w W g hb F L R n x Y a1 h1 h2) ∧ (k = 1 → MidB w W g hb F L R n x H1 a1 H1 h2) ∧ (k = 2 → MidB w W g hb F L R n x H1 H2 H1 H2)) (fun i _ => 2 - (Go.RowKit.intOf i).toNat)
  case atStart => exact ⟨0, by omega, rfl, fun _ => HS1.out, fun h => by omega, fun h => by omega⟩
  case round =>
    obtain ⟨k, hk, rfl, hs0, hs1, hs2⟩ := hrel
    by_cases h2k : k = 2
    · subst h2k
      obtain ⟨B1, B2, hgr, hgb, hwb⟩ := hs2 rfl
      obtain ⟨c0, c1, c2, c3, c4, c5, c6, c7, c8⟩ := bent_cells B2
      have z3 := B2.frozen 3; have z4 := B2.frozen 4
      have BB2 := Lib.hid B2; have HGR := Lib.hid hgr
      clear B1 B2 hgr hs0 hs1 hs2 c0 c1 c2 c5 c6 c7 c8
      go_wp2
      go_returns
      exact ⟨rfl, by simpa using (BB2.out.set_ 4 (.int .u64 X)).set_ 3 (.int .i64 (n + 1)), grownBy_set (grownBy_set HGR.out)⟩
    · by_cases h1k : k = 1
      · subst h1k
        have hS := hs1 rfl
        obtain ⟨B1, B2, hgr, hgb, hwb⟩ := hS
        have i0 : ∀ w : World, (Instr.index 300 (.agg #[.pointer (some ⟨g, 5, none⟩), .pointer (some ⟨g, 7, none⟩)]) (.int .i64 1)).run Tryz.prog w = .ok (.pointer (some ⟨g, 7, none⟩)) w := fun _ => by kernel_rfl
        obtain ⟨c0, c1, c2, c3, c4, c5, c6, c7, c8⟩ := bent_cells B2
        have z6 := B2.frozen 8
        have e0 := B1.cell 0; have e1 := B1.cell 1; have y0 := B1.frozen 1
        simp only [List.getElem?_toArray, List.getElem?_cons_zero, List.getElem?_cons_succ] at e0 e1
        have hgl := B2.lt; have hbl := B1.lt
        have BB1 := Lib.hid B1; have BB2 := Lib.hid B2; have HGR := Lib.hid hgr
        clear B1 B2 hgr hs0 hs1 hs2
        go_wp2_with (go_at_call 258; refine (lhas_any R h2 _ _ hR hh2 uX).mono ?_; rintro e w4 ⟨rfl, hb4⟩; rw [HP2.out]; have B1 := BB1.out.below hb4 hbl; have B2 := BB2.out.below hb4 hgl; obtain ⟨c0, c1, c2, c3, c4, c5, c6, c7, c8⟩ := bent_cells B2; have z6 := B2.frozen 8; have e0 := B1.cell 0; have e1 := B1.cell 1; have y0 := B1.frozen 1; simp only [List.getElem?_toArray, List.getElem?_cons_zero, List.getElem?_cons_succ] at e0 e1)
        all_goals
          have hgr4 := grownBy_below HGR.out (hb4.mono HGR.out.size) (Nat.le_trans HGR.out.size hb4.size)
          go_roundw
          case rel =>
            first
              | (have hv : H2 = p2 := by have hh := HH2.out; split at hh <;> omega
                 refine ⟨2, by omega, by go_num, fun h => by omega, fun h => by omega, fun _ => ?_⟩
                 rw [hv]
                 exact ⟨by simpa using (B1.set_ 1 (.int .u64 p2)).far (p := ⟨g, 8, none⟩) (by simp only; omega) (.int .u64 p2), by simpa using (B2.far (p := ⟨hb, 1, none⟩) (by simp only; omega) (.int .u64 p2)).set_ 8 (.int .u64 p2), grownBy_set (grownBy_set_new hgr4 hwb), hgb, hwb⟩)
              | (have hv : H2 = a1 := by have hh := HH2.out; split at hh <;> omega
                 refine ⟨2, by omega, by go_num, fun h => by omega, fun h => by omega, fun _ => ?_⟩
                 rw [hv]
                 exact ⟨by simpa using B1.far (p := ⟨g, 8, none⟩) (by simp only; omega) (.int .u64 a1), by simpa using B2.set_ 8 (.int .u64 a1), grownBy_set hgr4, hgb, hwb⟩)
          case measure => simp [Go.RowKit.intOf]
      · obtain rfl : k = 0 := by omega
        have hS := hs0 rfl
        obtain ⟨B1, B2, hgr, hgb, hwb⟩ := hS
        have i0 : ∀ w : World, (Instr.index 300 (.agg #[.pointer (some ⟨g, 5, none⟩), .pointer (some ⟨g, 7, none⟩)]) (.int .i64 0)).run Tryz.prog w = .ok (.pointer (some ⟨g, 5, none⟩)) w := fun _ => by kernel_rfl
        obtain ⟨c0, c1, c2, c3, c4, c5, c6, c7, c8⟩ := bent_cells B2
        have z6 := B2.frozen 6
        have e0 := B1.cell 0; have e1 := B1.cell 1; have y0 := B1.frozen 0
        simp only [List.getElem?_toArray, List.getElem?_cons_zero, List.getElem?_cons_succ] at e0 e1
        have hgl := B2.lt; have hbl := B1.lt
        have BB1 := Lib.hid B1; have BB2 := Lib.hid B2; have HGR := Lib.hid hgr
        clear B1 B2 hgr hs0 hs1 hs2
        go_wp2_with (go_at_call 258; refine (lhas_any F h1 _ _ hF hh1 uX).mono ?_; rintro e w4 ⟨rfl, hb4⟩; rw [HP1.out]; have B1 := BB1.out.below hb4 hbl; have B2 := BB2.out.below hb4 hgl; obtain ⟨c0, c1, c2, c3, c4, c5, c6, c7, c8⟩ := bent_cells B2; have z6 := B2.frozen 6; have e0 := B1.cell 0; have e1 := B1.cell 1; have y0 := B1.frozen 0; simp only [List.getElem?_toArray, List.getElem?_cons_zero, List.getElem?_cons_succ] at e0 e1)
        all_goals
          have hgr4 := grownBy_below HGR.out (hb4.mono HGR.out.size) (Nat.le_trans HGR.out.size hb4.size)
          go_roundw
          case rel =>
            first
              | (have hv : H1 = p1 := by have hh := HH1.out; split at hh <;> omega
                 refine ⟨1, by omega, by go_num, fun h => by omega, fun _ => ?_, fun h => by omega⟩
                 rw [hv]
                 exact ⟨by simpa using (B1.set_ 0 (.int .u64 p1)).far (p := ⟨g, 6, none⟩) (by simp only; omega) (.int .u64 p1), by simpa using (B2.far (p := ⟨hb, 0, none⟩) (by simp only; omega) (.int .u64 p1)).set_ 6 (.int .u64 p1), grownBy_set (grownBy_set_new hgr4 hwb), hgb, hwb⟩)
              | (have hv : H1 = Y := by have hh := HH1.out; split at hh <;> omega
                 refine ⟨1, by omega, by go_num, fun h => by omega, fun _ => ?_, fun h => by omega⟩
                 rw [hv]
                 exact ⟨by simpa using B1.far (p := ⟨g, 6, none⟩) (by simp only; omega) (.int .u64 Y), by simpa using B2.set_ 6 (.int .u64 Y), grownBy_set hgr4, hgb, hwb⟩)
          case measure => simp [Go.RowKit.intOf]
end
section
open Go.RowKit
def nevB (y:Int):Int:=if y=0 then 0 else 9223372036854775808
theorem bnew_ok (F L R:Int)(w:World)(hF:0≤F)(hL:0≤L)(hR:0≤R)(h1:mayB F L R=true)(h2:R < F) :
  Calls Tryz.prog 118 #[.agg #[.int .u64 F,.int .u64 L,.int .u64 R]] w fun e w' =>
   ∃ g,e=.returned (.tuple #[.pointer (some ⟨g,0,none⟩),.int .i64 0])∧w.heap.size≤g∧BentAt w' g F L R 0 []∧Below w.heap.size w w':=by
 have hal:=(Below.refl w.heap.size w).alloc (Nat.le_refl _) (.cells #[.int .u64 F,.int .u64 L,.int .u64 R] 30)
 have nb:=Blk.new w 30 #[.int .u64 F,.int .u64 L,.int .u64 R]
 have nl:=nb.lt
 have HN:=Lib.hid nb
 have hd:decide (R < F)=true:=by simp;omega
 have hM:=mayB_spec hF hL hR h1
 have H:=Lib.hid h1
 clear nb h1
 go_enter Tryz.func118,Tryz.ntmps118
 go_wp2_with (first
  | (go_at_call 82;refine (may_any F L R _ hL).mono ?_;rintro e w1 ⟨rfl,hb1⟩;rw [H.out];have n1:=HN.out.below hb1 nl;have a0:=n1.cell 0;have a1:=n1.cell 1;have a2:=n1.cell 2;simp only [lTA,lCZ,lCS] at a0 a1 a2)
  | (go_at_call 149;refine (bent_any F L R _).mono ?_;rintro e w2 ⟨rfl,hb2⟩;have n2:=n1.below hb2 n1.lt;have b0:=n2.cell 0;have b1:=n2.cell 1;have b2:=n2.cell 2;simp only [lTA,lCZ,lCS] at b0 b1 b2))
 have hb3:Below w.heap.size w w2:=(hal.trans (hb1.mono hal.size)).trans (hb2.mono (Nat.le_trans hal.size hb1.size))
 go_ret2
 have u0:U 0:=⟨by omega,by omega⟩
 exact⟨w2.heap.size,rfl,hb3.size,⟨⟨0,0,Blk.new _ _ _,u0,u0,fun h=>absurd rfl h⟩,hM,h2,by intro a ha;simp at ha,by omega,by omega,by simp⟩,hb3.alloc hb3.size _⟩
theorem bnew_no (F L R:Int)(w:World)(hL:0≤L)(h1:mayB F L R=true)(h2:F≤R) :
  Calls Tryz.prog 118 #[.agg #[.int .u64 F,.int .u64 L,.int .u64 R]] w fun e w'=>e=.returned (.tuple #[.pointer none,.int .i64 30])∧Below w.heap.size w w':=by
 have hal:=(Below.refl w.heap.size w).alloc (Nat.le_refl _) (.cells #[.int .u64 F,.int .u64 L,.int .u64 R] 30)
 have nb:=Blk.new w 30 #[.int .u64 F,.int .u64 L,.int .u64 R]
 have nl:=nb.lt
 have HN:=Lib.hid nb
 have hd:decide (R < F)=false:=by simp;omega
 have H:=Lib.hid h1
 clear nb h1
 go_enter Tryz.func118,Tryz.ntmps118
 go_wp2_with (first
  | (go_at_call 82;refine (may_any F L R _ hL).mono ?_;rintro e w1 ⟨rfl,hb1⟩;rw [H.out];have n1:=HN.out.below hb1 nl;have a0:=n1.cell 0;have a1:=n1.cell 1;have a2:=n1.cell 2;simp only [lTA,lCZ,lCS] at a0 a1 a2)
  | (go_at_call 149;refine (bent_any F L R _).mono ?_;rintro e w2 ⟨rfl,hb2⟩))
 have hb3:Below w.heap.size w w2:=(hal.trans (hb1.mono hal.size)).trans (hb2.mono (Nat.le_trans hal.size hb1.size))
 go_ret2
 exact⟨rfl,hb3⟩
section
variable {w w' : World} {g : Nat} {F L R x : Int} {A : List (Int × Int)}
theorem BentAt.cell3 (h:BentAt w g F L R x A):w.cell? ⟨g,3,none⟩=some (.int .i64 A.length):=by obtain⟨h1,h2,hB,_⟩:=h.blk;exact hB.cell 3
theorem BentAt.low (h:BentAt w g F L R x A):∀ a∈A,a.1≤x∧0≤a.2:=fun a ha=>by have:=h.num a ha;exact⟨this.2.1,this.2.2.1⟩
theorem bent_start (h:BentAt w g F L R x A)(t y X Y:Int)(ht:U t)(hy:U y)(hX:X=max (min t 9223372036854775808) x)(hY:Y=min y 4611686018427387904)(hfew:A.length < 900000) :
  Calls Tryz.prog 252 #[.pointer (some ⟨g,0,none⟩),.int .u64 t,.int .u64 y] w fun e w' =>
   e=.returned (.tuple #[])∧BentAt w' g F L R X (A ++ [(X,Y)])∧w.grownBy w' (some g):=by
 obtain⟨h1,h2,hB,u1,u2,hA⟩:=h.blk
 have hx0:=h.x0;have hx1:=h.x1
 have hM:=h.may
 have hlt:=h.lt_
 have hxX:x≤X:=by omega
 have hY0:0≤Y:=by have:=hy.1;omega
 have hm:0≤(F - R)*L:=Int.mul_nonneg (by omega) hM.l0
 have mb:=mul_bd (a:=F - R) (t:=L) (A:=1048576) (T:=1099511627776) (by omega) (by have:=hM.f1;have:=hM.r0;omega) hM.l0 hM.l1
 have uL:U L:=⟨hM.l0,by have:=hM.l1;omega⟩
 have ecap:cap ((F - R)*L)=(F - R)*L:=cap_of_le (by omega)
 refine (bstart_any g F L R A.length x h1 h2 t y (min t 9223372036854775808) X Y ((F - R)*L) (cap (Y+(F - R)*L)) (cap (h1+cap (F*(X - x)))) (cap (h2+cap (R*(X - x)))) _ _ w h.uF uL h.uR hlt h.ux ht hy u1 u2 (by omega) (by omega) (by omega) (by omega) (by omega) ecap rfl rfl rfl rfl rfl hB).mono fun e w' ⟨he,hB',hg⟩=>⟨he,?_,hg⟩
 have c1:=cap_nonneg (show 0≤Y+(F - R)*L by omega);have c2:=cap_le (Y+(F - R)*L)
 have d1:=cap_nonneg (show 0≤h1+cap (F*(X - x)) by have:=u1.1;have:=cap_nonneg (Int.mul_nonneg hM.f0 (show 0≤X - x by omega));omega)
 have d2:=cap_nonneg (show 0≤h2+cap (R*(X - x)) by have:=u2.1;have:=cap_nonneg (Int.mul_nonneg hM.r0 (show 0≤X - x by omega));omega)
 have d3:=cap_le (h1+cap (F*(X - x)));have d4:=cap_le (h2+cap (R*(X - x)))
 refine⟨⟨_,_,by rw [List.length_append];exact hB',?_,?_,fun _=>?_⟩,hM,hlt,fun a ha=>?_,by omega,by omega,by simp;omega⟩
 ·unfold U;split <;> omega
 ·unfold U;split <;> omega
 ·have e0:cap (Y+0)=Y:=by rw [Int.add_zero];exact cap_of_le (by omega)
  by_cases hA0:A=[]
  ·subst hA0
   have f1:=Below1.first (s:=F) (m:=0) (x:=X) (y:=Y) hM.f0 (by omega) hY0
   have f2:=Below1.first (s:=R) (m:=(F - R)*L) (x:=X) (y:=Y) hM.r0 hm hY0
   rw [e0] at f1
   simp only [List.length_nil,List.nil_append]
   rw [if_neg (by omega),if_neg (by omega)]
   exact⟨f1,f2⟩
  ·have hl:=List.length_pos_iff.2 hA0
   obtain⟨b1,b2⟩:=hA hA0
   have f1:=b1.next (x':=X) (y:=Y) hM.f0 (by omega) hY0 hxX
   have f2:=b2.next (x':=X) (y:=Y) hM.r0 hm hY0 hxX
   rw [e0] at f1
   generalize cap (h1+cap (F*(X - x)))=q1 at *
   generalize cap (h2+cap (R*(X - x)))=q2 at *
   generalize cap (Y+(F - R)*L)=a1 at *
   rw [show (if (0:Int) < (A.length:Int)∧q1 < Y then q1 else Y)=min q1 Y by split <;> omega,show (if (0:Int) < (A.length:Int)∧q2 < a1 then q2 else a1)=min q2 a1 by split <;> omega]
   exact⟨f1,f2⟩
 ·rcases List.mem_append.1 ha with ha | ha
  ·have:=h.num a ha;exact⟨this.1,by omega,this.2.2⟩
  ·obtain rfl:a=(X,Y):=by simpa using ha
   exact⟨by simp only;omega,by simp only;omega,by simp only;omega,by simp only;omega⟩
def Ans (v:Int→Int)(x y:Int)(w:World)(e:Ending)(w':World):Prop:=∃ n,e=.returned (.int .u64 n)∧Back v x y n∧0≤n∧n≤9223372036854775808∧Below w.heap.size w w'
theorem bent_reach (h:BentAt w g F L R x A)(hA:A≠[])(y:Int)(hy:U y) :
  Calls Tryz.prog 251 #[.pointer (some ⟨g,0,none⟩),.int .u64 y] w (Ans (fun t=>vA F L R A (max t x)) x y w):=by
 obtain⟨h1,h2,hB,u1,u2,hh⟩:=h.blk
 obtain⟨b1,b2⟩:=hh hA
 have hk:=bent_back (y:=y) h.lt_ h.may.r0 h.may.l0 h.x0 h.x1 h.low b1 b2
 have hx0:=h.x0
 exact (breach_any g F L R A.length x h1 h2 y _ w h.uF h.uR h.x0 h.x1 hy u1 u2 (len0 hA) hB rfl).mono fun e w' ⟨he,hb⟩=>⟨_,he,hk,by have:=hk.x_le;omega,hk.le_never,hb⟩
theorem bent_reach0 (h:BentAt w g F L R x [])(y:Int) :
  Calls Tryz.prog 251 #[.pointer (some ⟨g,0,none⟩),.int .u64 y] w fun e w'=>e=.returned (.int .u64 (nevB y))∧w=w':=by
 have c3:=h.cell3
 by_cases hy:y=0
 ·subst hy
  go_enter Tryz.func251,Tryz.ntmps251
  go_wp2_with (go_at_call 254;refine (bnone_any _ _ _ c3).mono ?_;rintro e w' ⟨rfl,rfl⟩)
  go_ret
  exact⟨rfl,rfl⟩
 ·have h0:(y == 0)=false:=by simpa using hy
  have e1:nevB y=9223372036854775808:=if_neg hy
  rw [e1]
  go_enter Tryz.func251,Tryz.ntmps251
  go_wp2_with (go_at_call 254;refine (bnone_any _ _ _ c3).mono ?_;rintro e w' ⟨rfl,rfl⟩)
  go_ret
  exact⟨rfl,rfl⟩
end
end
end Go.Proofs.YtmmeopjemkjllaaGreat
