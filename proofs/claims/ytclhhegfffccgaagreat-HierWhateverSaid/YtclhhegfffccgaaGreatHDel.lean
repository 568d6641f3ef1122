/-
  Rows of numbers: one is taken out (slices.DeleteFunc, by a closure that holds it).
-/
import Derived.Test.YtclhhegfffccgaaGreatHTurn
namespace Go.Proofs.YtclhhegfffccgaaGreat
set_option linter.unusedVariables false
open Go.RowKit Go.Maps Go.Sort Go.Shelf

theorem heap_putRowI {w : World} {g n : Nat} {cur : Array Value} {e : TypeId} {fr : Nat × Nat} (d : Array Int) (hb : w.heap[g]? = some (.cells cur e fr)) :
    (putRow (Value.int .i64) (Sort.ahead w n) g 0 d).heap[g]? = some (.cells (putCells (Value.int .i64) 0 d cur) e fr) := by
  simp [putRow, mapBlock, Sort.ahead, Array.getElem?_modify, hb, onCells]
theorem grown_putRowI {w : World} {g n : Nat} (d : Array Int) : w.grownBy (putRow (Value.int .i64) (Sort.ahead w n) g 0 d) (some g) := by
  refine ⟨rfl, rfl, rfl, by simp, fun k hk hne => ?_⟩
  have : g ≠ k := fun e => hne (by rw [e])
  simp [putRow, mapBlock, Sort.ahead, Array.getElem?_modify, this]
theorem put_atI (cur : Array Value) (ts : List Int) (k : Nat) (h : ts.length ≤ cur.size) (hk : k < ts.length) : (putCells (Value.int .i64) 0 ts.toArray cur)[k]? = (ts[k]?).map (Value.int .i64) := by
  simp [putCells, hk, show k < cur.size by omega]
theorem dgives (x id : Int) (vb : Nat) (W : World) (h : W.cell? ⟨vb, 0, none⟩ = some (.int .i64 id)) : FnGives Tryz.prog 39 #[.pointer (some ⟨vb, 0, none⟩)] #[.int .i64 x] (.bool (decide (x = id))) W := by
  show Calls Tryz.prog 39 #[.int .i64 x, .pointer (some ⟨vb, 0, none⟩)] W _
  go_enter Tryz.func39, Tryz.ntmps39
  go_wp2
  go_ret
  exact ⟨by show Ending.returned (Value.bool (x == id)) = _; rw [show (x == id) = decide (x = id) by by_cases h : x = id <;> simp [h]], 0, rfl⟩
theorem holds_row {w : World} {g : Nat} {cur : Array Value} {l : List Int} {e : TypeId} {fr : Nat × Nat} (hb : w.heap[g]? = some (.cells cur e fr)) (h : cur.toList.take l.length = l.map (Value.int .i64)) (hs : l.length ≤ cur.size) (hfr : fr = (0, 0)) : Holds (Value.int .i64) w g 0 l.toArray := by
  subst hfr
  exact holds_of_block_i hb (by simpa using h)
def DelW (w : World) (base : Nat) (v : Value) (l : List Int) (e : Ending) (w' : World) : Prop :=
  ∃ v', e = .returned v' ∧ w'.ownsRow base 3 1 v' l.length (l.map (Value.int .i64)) ∧ w.grownBy w' v.ownBlock ∧ v'.ownBlock = v.ownBlock
set_option maxHeartbeats 1000000 in
theorem delf_any (base : Nat) (v : Value) (l : List Int) (id : Int) (vb : Nat) (w : World) (h : w.ownsRow base 3 1 v l.length (l.map (Value.int .i64))) (hl : l.length ≤ 1000) (h0 : l ≠ []) (hx : Blk w vb 3 #[.int .i64 id]) (hne : v.ownBlock ≠ some vb) :
    Calls Tryz.prog 38 #[v, .func (.func 39) #[] #[.pointer (some ⟨vb, 0, none⟩)]] w (DelW w base v (l.filter fun x => !decide (x = id))) := by
  rcases h.2 with ⟨rfl, hz⟩ | ⟨g, cap, cur, rfl, hg, hB, hc, hm, hsz, htk⟩
  · exact absurd (List.eq_nil_of_length_eq_zero hz) h0
  · have hsz : cur.size = cap := by omega
    have hgv : vb ≠ g := fun e => hne (by simp [Value.ownBlock, e])
    have hxc : w.cell? ⟨vb, 0, none⟩ = some (.int .i64 id) := hx.cell 0
    rw [Nat.mul_one] at htk
    have pred : PredAt Tryz.prog 39 #[.pointer (some ⟨vb, 0, none⟩)] (Value.int .i64) (fun x => decide (x = id)) w := fun W x hb => dgives x id vb W ((hb.cell (p := ⟨vb, 0, none⟩) hx.lt).trans hxc)
    have over : PredOver Tryz.prog 39 #[.pointer (some ⟨vb, 0, none⟩)] (Value.int .i64) (fun x => decide (x = id)) g 0 l.toArray.size w := fun n os dk x hdk => dgives x id vb _ (by
      have h1 : (putRow (Value.int .i64) (Sort.ahead w n) g 0 dk).heap[vb]? = w.heap[vb]? := (grown_putRowI (w := w) (n := n) dk).block vb hx.lt (by intro e; cases e; exact hgv rfl)
      have hlt : vb < (putRow (Value.int .i64) (Sort.ahead w n) g 0 dk).heap.size := Nat.lt_of_lt_of_le hx.lt (grown_putRowI (w := w) (n := n) dk).size
      have h2 := Sort.heap_grow_old (putRow (Value.int .i64) (Sort.ahead w n) g 0 dk) os hlt
      exact (World.cell?_of_block (a := ⟨vb, 0, none⟩) (h2.trans h1)).trans hxc)
    have hcon := AnyE.slices_DeleteFunc delI (Value.int .i64) (fun _ => rfl) (fun x => decide (x = id)) 39 #[.pointer (some ⟨vb, 0, none⟩)] (enters_of Tryz.func39 (by kernel_rfl) rfl) 0 Tryz.zeroValue3 g 0 cap l.toArray w pred over (holds_row hB htk (by omega) rfl) (by simp; omega) (by simpa using hc)
    change Calls Tryz.prog 38 _ _ _ at hcon
    simp only [List.size_toArray] at hcon
    refine hcon.mono ?_
    rintro e w' ⟨rfl, q, rfl⟩
    have hFl : (l.filter fun x => !decide (x = id)).length ≤ l.length := List.length_filter_le _ _
    have hB2 : Blk (putRow (Value.int .i64) (Sort.ahead w q) g 0 ((l.filter fun x => !decide (x = id)) ++ List.replicate (l.length - (l.filter fun x => !decide (x = id)).length) 0).toArray) g 3 _ := heap_putRowI _ hB
    refine ⟨_, rfl, ?_, grown_putRowI _, rfl⟩
    refine row_ofList hB2 hg (by omega) hm (by simp [putCells, hsz]) fun k hk => ?_
    rw [put_atI _ _ _ (by simp; omega) (by simp; omega), List.getElem?_append_left hk, List.getElem?_map]
end Go.Proofs.YtclhhegfffccgaaGreat
