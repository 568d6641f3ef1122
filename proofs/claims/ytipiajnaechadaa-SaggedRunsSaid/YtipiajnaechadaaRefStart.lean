/-
  The document's copies: one starts.
-/
import Derived.Test.YtipiajnaechadaaRefBack
import Derived.Deep.AppendLies
import Derived.Deep.RegionLaw
namespace Go.Proofs.Ytipiajnaechadaa
set_option linter.unusedVariables false
open Go.RowKit

theorem info_u64 : (Try.prog.info? 22).map (fun i => (i.zero, i.size, i.bytes)) = some (some (.int .u64 0), 1, 8) := by kernel_rfl

/-- what a start of the document's turns: block c, and rows of numbers from block base on -/
structure RefGrown (w w' : World) (base c : Nat) : Prop where
  os : w'.os = w.os
  tape : w'.tape = w.tape
  output : w'.output = w.output
  size : w.heap.size ≤ w'.heap.size
  block : ∀ k, k < w.heap.size → k ≠ c → (k < base ∨ ∀ cs z, w.heap[k]? ≠ some (.cells cs 22 z)) → w'.heap[k]? = w.heap[k]?
theorem RefGrown.trans {w w1 w2 : World} {base c : Nat} (h1 : RefGrown w w1 base c) (h2 : RefGrown w1 w2 base c) : RefGrown w w2 base c :=
  ⟨h2.os.trans h1.os, h2.tape.trans h1.tape, h2.output.trans h1.output, Nat.le_trans h1.size h2.size, fun k hk hc h => by
    have e1 := h1.block k hk hc h
    have e2 := h2.block k (Nat.lt_of_lt_of_le hk h1.size) hc (h.imp id fun h cs z => by rw [e1]; exact h cs z)
    exact e2.trans e1⟩
theorem RefGrown.of_below {w w' : World} {base c : Nat} (h : Below w.heap.size w w') : RefGrown w w' base c :=
  ⟨h.os, h.tape, h.output, h.size, fun k hk _ _ => h.block k hk⟩
theorem RefGrown.of_set {w w' : World} {base c : Nat} (h : w.grownBy w' (some c)) : RefGrown w w' base c :=
  ⟨h.os, h.tape, h.output, h.size, fun k hk hc _ => h.block k hk (by simpa using hc)⟩
theorem RefGrown.of_row {w w' : World} {base c : Nat} {v : Value} {xs : List Int} (hr : RowU w base v xs) (h : w.grownBy w' v.ownBlock) : RefGrown w w' base c :=
  ⟨h.os, h.tape, h.output, h.size, fun k hk _ ht => h.block k hk fun he => by
    rcases hr.2 with ⟨hv, _⟩ | ⟨b, cp, cur, hv, hb, hblk, _⟩
    · rw [hv] at he; cases he
    · rw [hv] at he
      have : k = b := by simpa [Value.ownBlock] using he
      subst this
      rcases ht with ht | ht
      · omega
      · exact ht _ _ hblk⟩
theorem Blk.ref {w w' : World} {base c g : Nat} {t : TypeId} {cs : Array Value} (h : Blk w g t cs) (hg : RefGrown w w' base c) (hc : g ≠ c) (ht : t ≠ 22) : Blk w' g t cs :=
  (hg.block g h.lt hc (.inr fun cs' z he => by
    unfold Blk at h
    rw [h] at he
    injection he with he
    injection he with h1 h2
    exact ht h2)).trans h
theorem RefGrown.low {w w' : World} {base c : Nat} (h : RefGrown w w' base c) (hb : base ≤ c) (hs : base ≤ w.heap.size) : Below base w w' :=
  ⟨h.os, h.tape, h.output, h.size, fun k hk => h.block k (by omega) (by omega) (.inl hk)⟩
theorem row_blk {w : World} {base : Nat} {v : Value} {xs : List Int} {g : Nat} {t : TypeId} {cs : Array Value} (hr : RowU w base v xs) (h : Blk w g t cs) (ht : t ≠ 22) : some g ≠ v.ownBlock := by
  rcases hr.2 with ⟨hv, _⟩ | ⟨b, cp, cur, hv, hb, hblk, _⟩
  · rw [hv]; intro he; cases he
  · rw [hv]
    intro he
    have : g = b := by simpa [Value.ownBlock] using he
    exact blk_ne h (show Blk w b _ cur from hblk) ht this

def MidS (w wx : World) (c base : Nat) (F L R X : Int) (A : List (Int × Int)) (vy : Value) : Prop :=
  ∃ g cp, Blk wx c 77 #[.int .u64 F, .int .u64 L, .int .u64 R, .slice (some ⟨g, 0, none⟩) (A.length + 1) cp, vy] ∧ RowU wx base (.slice (some ⟨g, 0, none⟩) (A.length + 1) cp) (A.map (·.1) ++ [X]) ∧ RowU wx base vy (A.map (·.2)) ∧ vy.ownBlock ≠ some g ∧ RefGrown w wx base c
def EndS (w wx : World) (c base : Nat) (F L R X Y : Int) (A : List (Int × Int)) : Prop :=
  ∃ vx vy, Blk wx c 77 #[.int .u64 F, .int .u64 L, .int .u64 R, vx, vy] ∧ RowU wx base vx ((A ++ [(X, Y)]).map (·.1)) ∧ RowU wx base vy ((A ++ [(X, Y)]).map (·.2)) ∧ (vx.ownBlock = none ∨ vx.ownBlock ≠ vy.ownBlock) ∧ RefGrown w wx base c

theorem RowU.more {w : World} {base g cp : Nat} {xs : List Int} {X : Int} {n : Nat} (hn : xs.length = n) (h : w.ownsRow base 22 1 (.slice (some ⟨g, 0, none⟩) (n + 1) cp) (n + 1) (xs.map (Value.int .u64) ++ [.int .u64 X])) : RowU w base (.slice (some ⟨g, 0, none⟩) (n + 1) cp) (xs ++ [X]) := by
  unfold RowU
  rw [List.length_append, hn, List.map_append]
  exact h
theorem RowU.blk_lt {w : World} {base : Nat} {v : Value} {xs : List Int} (h : RowU w base v xs) {k : Nat} (hv : v.ownBlock = some k) : k < w.heap.size := by
  rcases h.2 with ⟨rfl, _⟩ | ⟨b, cp, cur, rfl, hb, hblk, _⟩
  · cases hv
  · have : b = k := by simpa [Value.ownBlock] using hv
    subst this
    exact (Array.getElem?_eq_some_iff.1 hblk).1
theorem mid_end {w W w2 : World} {c base g cp : Nat} {F L R X : Int} {A : List (Int × Int)} {vx vy : Value}
    (hB : Blk w c 77 #[.int .u64 F, .int .u64 L, .int .u64 R, vx, vy]) (hx : RowU w base vx (A.map (·.1))) (hy : RowU w base vy (A.map (·.2))) (hd : vx.ownBlock = none ∨ vx.ownBlock ≠ vy.ownBlock)
    (hb : Below w.heap.size w W) (hown : w2.ownsRow base 22 1 (.slice (some ⟨g, 0, none⟩) (A.length + 1) cp) (A.length + 1) ((A.map (·.1)).map (Value.int .u64) ++ [.int .u64 X])) (hgr : W.grownBy w2 vx.ownBlock) (hat : vx.ownBlock = some g ∨ g = W.heap.size) :
    MidS w (w2.setCell ⟨c, 3, none⟩ (.slice (some ⟨g, 0, none⟩) (A.length + 1) cp)) c base F L R X A vy := by
  have hxW := hx.below hb
  have hyW := hy.below hb
  have hBW := hB.below hb hB.lt
  have hB2 := hBW.grown hgr (row_blk hxW hBW (by decide))
  have hrow := RowU.more (xs := A.map (·.1)) (by simp) hown
  have hyd : vy.ownBlock = none ∨ vy.ownBlock ≠ vx.ownBlock := by
    rcases hd with hd | hd
    · rw [hd]; cases h : vy.ownBlock with
      | none => exact .inl rfl
      | some k => exact .inr (by simp)
    · exact .inr (Ne.symm hd)
  have hy2 : RowU w2 base vy (A.map (·.2)) := hyW.kept hgr hyd
  have hset := World.grownBy_setCell w2 ⟨c, 3, none⟩ (.slice (some ⟨g, 0, none⟩) (A.length + 1) cp)
  refine ⟨g, cp, hB2.set_ 3 _, hrow.kept hset (.inr ?_), hy2.kept hset (.inr ?_), ?_, ?_⟩
  · exact Ne.symm (row_blk hrow hB2 (by decide))
  · exact Ne.symm (row_blk hy2 hB2 (by decide))
  · intro he
    rcases hat with hat | hat
    · rcases hd with hd | hd
      · rw [hd] at hat; cases hat
      · exact hd (hat.trans he.symm)
    · have := hyW.blk_lt he
      omega
  · exact (RefGrown.of_below hb).trans ((RefGrown.of_row hxW hgr).trans (RefGrown.of_set hset))
theorem end_end {w wx W w2 : World} {c base g cp g2 cp2 : Nat} {F L R X Y : Int} {A : List (Int × Int)} {vy : Value}
    (hB : Blk wx c 77 #[.int .u64 F, .int .u64 L, .int .u64 R, .slice (some ⟨g, 0, none⟩) (A.length + 1) cp, vy]) (hx : RowU wx base (.slice (some ⟨g, 0, none⟩) (A.length + 1) cp) (A.map (·.1) ++ [X])) (hy : RowU wx base vy (A.map (·.2))) (hne : vy.ownBlock ≠ some g) (hg : RefGrown w wx base c)
    (hb : Below wx.heap.size wx W) (hown : w2.ownsRow base 22 1 (.slice (some ⟨g2, 0, none⟩) (A.length + 1) cp2) (A.length + 1) ((A.map (·.2)).map (Value.int .u64) ++ [.int .u64 Y])) (hgr : W.grownBy w2 vy.ownBlock) (hat : vy.ownBlock = some g2 ∨ g2 = W.heap.size) :
    EndS w (w2.setCell ⟨c, 4, none⟩ (.slice (some ⟨g2, 0, none⟩) (A.length + 1) cp2)) c base F L R X Y A := by
  have hxW := hx.below hb
  have hyW := hy.below hb
  have hBW := hB.below hb hB.lt
  have hB2 := hBW.grown hgr (row_blk hyW hBW (by decide))
  have hrow := RowU.more (xs := A.map (·.2)) (by simp) hown
  have hx2 : RowU w2 base (.slice (some ⟨g, 0, none⟩) (A.length + 1) cp) (A.map (·.1) ++ [X]) := hxW.kept hgr (.inr (Ne.symm hne))
  have hset := World.grownBy_setCell w2 ⟨c, 4, none⟩ (.slice (some ⟨g2, 0, none⟩) (A.length + 1) cp2)
  refine ⟨_, _, hB2.set_ 4 _, ?_, ?_, .inr ?_, ?_⟩
  · rw [List.map_append]
    exact hx2.kept hset (.inr (Ne.symm (row_blk hx2 hB2 (by decide))))
  · rw [List.map_append]
    exact hrow.kept hset (.inr (Ne.symm (row_blk hrow hB2 (by decide))))
  · have hgl := hx.blk_lt (k := g) rfl
    have hbs := hb.size
    simp only [Value.ownBlock, ne_eq, Option.some.injEq]
    rintro rfl
    rcases hat with hat | hat
    · exact hne hat
    · omega
  · exact hg.trans ((RefGrown.of_below hb).trans ((RefGrown.of_row hyW hgr).trans (RefGrown.of_set hset)))

section
variable {w : World} {c base : Nat} {F L R x : Int} {A : List (Int × Int)} {vx vy : Value}
set_option maxRecDepth 20000 in
set_option maxHeartbeats 2000000 in
theorem copies_start (hB : Blk w c 77 #[.int .u64 F, .int .u64 L, .int .u64 R, vx, vy]) (hx : RowU w base vx (A.map (·.1))) (hy : RowU w base vy (A.map (·.2))) (hd : vx.ownBlock = none ∨ vx.ownBlock ≠ vy.ownBlock) (hbs : base ≤ w.heap.size) (hN : Nums x A) (t y X Y : Int) (hX : X = max (min t 9223372036854775808) x) (hY : Y = min y 4611686018427387904) (hfew : A.length < 900000) :
    Calls Try.prog 27 #[.pointer (some ⟨c, 0, none⟩), .int .u64 t, .int .u64 y] w fun e w' => e = .returned (.tuple #[]) ∧ EndS w w' c base F L R X Y A := by
  obtain ⟨mn, hmn⟩ : ∃ mn, (if 9223372036854775808 < t then (9223372036854775808 : Int) else t) = mn := ⟨_, rfl⟩
  have hX1 : (if mn < x then x else mn) = X := by rw [hX]; split at hmn <;> split <;> omega
  have hY1 : (if 4611686018427387904 < y then (4611686018427387904 : Int) else y) = Y := by rw [hY]; split <;> omega
  have hlast := fun (W : World) (hb : Below w.heap.size w W) => copies_last (A := A) ⟨vx, vy, hB.below hb hB.lt, hx.below hb, hy.below hb⟩ hN.few
  rw [hN.last] at hlast
  have HB := Lib.hid hB; have HX := Lib.hid hx; have HY := Lib.hid hy; have HD := Lib.hid hd; have HL := Lib.hid hlast; have HY1 := Lib.hid hY1
  have c3 := hB.cell 3; have z3 := hB.frozen 3
  simp only [List.getElem?_toArray, List.getElem?_cons_zero, List.getElem?_cons_succ] at c3
  have hlx : (A.map fun a : Int × Int => a.1).length = A.length := by simp
  have hly : (A.map fun a : Int × Int => a.2).length = A.length := by simp
  have HLX := Lib.hid hlx; have HLY := Lib.hid hly
  have hcl := hB.lt
  have hcne : ¬ c = w.heap.size := by omega
  have hcne' : ¬ w.heap.size = c := by omega
  have cA : ∀ n o, ((w.drewN n).alloc o).cell? ⟨c, 3, none⟩ = some vx := fun n o => ((drewN_below w n).alloc (drewN_below w n).size o).cell (p := ⟨c, 3, none⟩) hcl |>.trans c3
  obtain ⟨i0, hi0, hz0, hz1, hz2⟩ := info_parts info_u64
  clear hB hx hy hd hN hX hY hlast hlx hly hY1
  go_enter Try.func27, Try.ntmps27
  go_upto_region 1 with fail
  go_cut [17] (fun s17 wx => MidS w wx c base F L R X A vy)
  case first =>
    have hown := fun (W : World) (hb : Below w.heap.size w W) => (show W.ownsRow base 22 1 vx A.length ((A.map fun a : Int × Int => a.1).map (Value.int .u64)) from HLX.out ▸ HX.out.below hb)
    have HO := Lib.hid hown; clear hown
    go_region_law (first
      | (go_simp; go_at_call 54; refine (HL.out _ (by go_grown <;> exact below_drewN (Below.refl _ _) _)).mono ?_; rintro e w' ⟨rfl, n, rfl⟩)
      | (refine step_append_lies _ rfl (.tmp 10) (.tmp 16) 68 rfl base 22 i0 (.int .u64 0) 1 8 Try.underlying68 hi0 hz0 hz1 hz2 rfl (by decide) vx A.length _ rfl (HO.out _ (by go_grown <;> exact below_drewN (Below.refl _ _) _)) ⟨_, 0, none⟩ 1 1 [.int .u64 X] rfl rfl (World.news_of_block (heap_alloc_new _ _)) (by simp [Value.oneCell']) (by decide) (by unfold maxLen; omega) (by omega) (by simp; omega) _ rfl ?_; intro g cp w2 hown2 hgr2 hat2 hlt2; have hB2 := (HB.out.below (by go_grown <;> exact below_drewN (Below.refl _ _) _) HB.out.lt).grown hgr2 (row_blk HX.out HB.out (by decide)); have d3 := hB2.cell 3; have y3 := hB2.frozen 3; simp only [List.getElem?_toArray, List.getElem?_cons_zero, List.getElem?_cons_succ] at d3))
    all_goals
      go_wp2
      go_meet
      exact mid_end HB.out HX.out HY.out HD.out (by go_grown <;> exact below_drewN (Below.refl _ _) _) hown2 hgr2 hat2
  case rest =>
    obtain ⟨g, cp, hB, hx, hy, hne, hg⟩ := hcut
    have d4 := hB.cell 4; have y4 := hB.frozen 4
    simp only [List.getElem?_toArray, List.getElem?_cons_zero, List.getElem?_cons_succ] at d4
    have hown := (show (wc.alloc (.cells #[.int .u64 Y] 22)).ownsRow base 22 1 vy A.length ((A.map fun a : Int × Int => a.2).map (Value.int .u64)) from HLY.out ▸ hy.below ((Below.refl _ _).alloc (Nat.le_refl _) _))
    have hb1 := (Below.refl wc.heap.size wc).alloc (Nat.le_refl _) (.cells #[.int .u64 Y] 22)
    have hBW := hB.below hb1 hB.lt
    have hbs2 : base ≤ wc.heap.size := Nat.le_trans hbs hg.size
    have HB2 := Lib.hid hB; have HX2 := Lib.hid hx; have HYY := Lib.hid hy; have HG := Lib.hid hg; have HO := Lib.hid hown; have HBW := Lib.hid hBW; have HNE := Lib.hid hne
    have hy1 := HY1.out
    clear hB hx hy hg hown hBW hne c3 z3 HB HX HD HL HY cA
    go_wp2_with (at_builtin; refine wpList_append_lies _ rfl _ _ 68 rfl base 22 i0 (.int .u64 0) 1 8 Try.underlying68 hi0 hz0 hz1 hz2 rfl (by decide) vy A.length _ rfl HO.out ⟨wc.heap.size, 0, none⟩ 1 1 [.int .u64 Y] rfl rfl (World.news_of_block (heap_alloc_new wc _)) (by simp [Value.oneCell']) (by decide) (by unfold maxLen; omega) (by omega) (Nat.le_trans hbs2 (by simp)) _ rfl ?_; intro g2 cp2 w2 hown2 hgr2 hat2 hlt2; have hB2 := HBW.out.grown hgr2 (row_blk (HYY.out.below hb1) HBW.out (by decide)); have e4 := hB2.cell 4; have f4 := hB2.frozen 4; simp only [List.getElem?_toArray, List.getElem?_cons_zero, List.getElem?_cons_succ] at e4)
    go_returns
    exact ⟨rfl, end_end HB2.out HX2.out HYY.out HNE.out HG.out hb1 hown2 hgr2 hat2⟩
end

end Go.Proofs.Ytipiajnaechadaa
