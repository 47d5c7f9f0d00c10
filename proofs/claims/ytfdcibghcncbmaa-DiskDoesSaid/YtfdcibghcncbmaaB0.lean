/- Memory: whole rows stored; a block's cells. -/
import Derived.Test.YtfdcibghcncbmaaA0
import Derived.Deep.MidRow
import Derived.Deep.Upon
namespace Go.Proofs.Ytfdcibghcncbmaa
open Go.RowKit

theorem blk_set {w : World} {g : Nat} {t : TypeId} {cs : Array Value} (h : w.heap[g]? = some (.cells cs t (0, 0))) (i : Nat) (u : Value) : (w.setCell ⟨g, i, none⟩ u).heap[g]? = some (.cells (cs.setIfInBounds i u) t (0, 0)) := by
  simp [World.setCell, Array.getElem?_modify, h]
theorem blk_far {w : World} {g : Nat} {o : Obj} (h : w.heap[g]? = some o) {p : Addr} (hp : g ≠ p.block) (u : Value) : (w.setCell p u).heap[g]? = some o := (Below.heap_setCell w p u g hp).trans h
theorem blk_lt {w : World} {g : Nat} {o : Obj} (h : w.heap[g]? = some o) : g < w.heap.size := (Array.getElem?_eq_some_iff.1 h).1
theorem blk_cell {w : World} {g : Nat} {t : TypeId} {cs : Array Value} (h : w.heap[g]? = some (.cells cs t (0, 0))) (i : Nat) : w.cell? ⟨g, i, none⟩ = cs[i]? := cell_of_row w g i cs t (0, 0) h
theorem blk_frozen {w : World} {g : Nat} {t : TypeId} {cs : Array Value} (h : w.heap[g]? = some (.cells cs t (0, 0))) (i : Nat) : w.frozen? ⟨g, i, none⟩ = false := by simp [World.frozen?, h]
theorem blk_below {w w1 : World} {g : Nat} {o : Obj} (h : w.heap[g]? = some o) (hb : Below w.heap.size w w1) : w1.heap[g]? = some o := (hb.block g (blk_lt h)).trans h
theorem blk_alloc {w : World} {g : Nat} {o : Obj} (h : w.heap[g]? = some o) (o' : Obj) : (w.alloc o').heap[g]? = some o := blk_below h (below_al (Below.refl _ _) _)
theorem blk_new (w : World) (o : Obj) : (w.alloc o).heap[w.heap.size]? = some o := heap_alloc_new w o
theorem blk_drewN {w : World} {g : Nat} {o : Obj} (h : w.heap[g]? = some o) (n : Nat) : (w.drewN n).heap[g]? = some o := h

theorem setCells_row (g t : Nat) : ∀ (vs : List Value) (o : Nat) (w : World) (cs : Array Value), w.heap[g]? = some (.cells cs t (0, 0)) → o + vs.length = cs.size →
    (w.setCells g o vs).heap[g]? = some (.cells (cs.toList.take o ++ vs).toArray t (0, 0)) := by
  intro vs
  induction vs with
  | nil =>
    intro o w cs h ho
    simp only [World.setCells, h]
    have : o = cs.toList.length := by simpa using ho
    rw [this, List.take_length, List.append_nil]
  | cons v r ih =>
    intro o w cs h ho
    simp only [World.setCells]
    have h1 := blk_set h o v
    rw [List.length_cons] at ho
    rw [ih (o + 1) _ _ h1 (by simp; omega)]
    congr 3
    have hlt : o < cs.toList.length := by simp; omega
    rw [Array.toList_setIfInBounds, List.take_succ_eq_append_getElem (by simpa using hlt)]
    simp [List.take_set_of_le]
theorem below_setCells {w0 : World} (g : Nat) (hg : w0.heap.size ≤ g) : ∀ (vs : List Value) (o : Nat) (w : World), Below w0.heap.size w0 w → Below w0.heap.size w0 (w.setCells g o vs) := by
  intro vs
  induction vs with
  | nil => intro o w h; exact h
  | cons v r ih => intro o w h; exact ih _ _ (h.setCell (p := ⟨g, o, none⟩) hg v)
theorem size_setCells (g : Nat) : ∀ (vs : List Value) (o : Nat) (w : World), (w.setCells g o vs).heap.size = w.heap.size := by
  intro vs
  induction vs with
  | nil => intro o w; rfl
  | cons v r ih => intro o w; simp only [World.setCells]; rw [ih]; simp
/-- A whole row is stored over a block of as many cells. -/
theorem wpList_store_whole {P : Program} {ops : Array Oper} {rest : List Oper} {op : Oper} {a : Act} {w : World} {Q : Exit → Act → World → Prop} (hgd : op.guard = none) (ty : TypeId) (x y : Operand) (ho : op.op = .store ty x y)
    (g : Nat) (t : TypeId) (cs cells : Array Value) (hx : a.eval x = .pointer (some ⟨g, 0, none⟩)) (hy : a.eval y = .agg cells) (hg : w.heap[g]? = some (.cells cs t (0, 0))) (hs : cells.size = cs.size)
    (hi : (P.info? ty).map (·.size) = some cells.size) (h1 : cells.all (·.oneCell') = true)
    (h : ∀ w2, w2.heap[g]? = some (.cells cells t (0, 0)) → w2.heap.size = w.heap.size → (∀ i, i ≠ g → w2.heap[i]? = w.heap[i]?) → (∀ w0 : World, w0.heap.size ≤ g → Below w0.heap.size w0 w → Below w0.heap.size w0 w2) →
      wpList P ops Q rest (a.put op.dst undef) w2) : wpList P ops Q (op :: rest) a w := by
  refine wpList_store_mid hgd ty x y ho g 0 cells hx hy ?_ hi h1 ?_
  · intro j hj
    refine ⟨?_, by simpa using blk_frozen hg _⟩
    rw [blk_cell hg, Nat.zero_add, Array.getElem?_eq_getElem (by omega)]
    rfl
  · refine h _ ?_ (size_setCells _ _ _ _) (fun i hi => ?_) (fun w0 hw0 hb => below_setCells g hw0 _ _ _ hb)
    · have := setCells_row g t cells.toList 0 w cs hg (by simp [hs])
      simpa using this
    · rcases Nat.lt_or_ge i w.heap.size with hlt | hge
      · exact World.heap_setCells_other _ _ _ _ hlt hi
      · rw [Array.getElem?_eq_none hge, Array.getElem?_eq_none (by rw [size_setCells]; exact hge)]
end Go.Proofs.Ytfdcibghcncbmaa
