/- The document's disk in memory. -/
import Derived.Test.YtfdcibghcncbmaaD10
namespace Go.Proofs.Ytfdcibghcncbmaa
open Go.RowKit Go.Maps Go.Shelf

/-- The cells of all elements, one behind the other. -/
theorem flatC_cell {α : Type} {f : α → List Value} {n : Nat} (hn : ∀ x, (f x).length = n) : ∀ (xs : List α) (i : Nat) (x : α), xs[i]? = some x → ∀ j u, (f x)[j]? = some u → (xs.flatMap f)[i * n + j]? = some u := by
  intro xs
  induction xs with
  | nil => intro i x hx; simp at hx
  | cons y ys ih =>
    intro i x hx j u hu
    rw [List.flatMap_cons]
    have hj : j < n := by rw [← hn x]; exact (List.getElem?_eq_some_iff.1 hu).1
    cases i with
    | zero =>
      simp at hx
      subst hx
      rw [Nat.zero_mul, Nat.zero_add, List.getElem?_append_left (by rw [hn]; exact hj)]
      exact hu
    | succ i =>
      rw [List.getElem?_append_right (by rw [hn, Nat.succ_mul]; omega), hn, show (i + 1) * n + j - n = i * n + j by rw [Nat.succ_mul]; omega]
      exact ih i x (by simpa using hx) j u hu
theorem flatC_len {α : Type} {f : α → List Value} {n : Nat} (hn : ∀ x, (f x).length = n) (xs : List α) : (xs.flatMap f).length = xs.length * n := by
  induction xs with
  | nil => simp
  | cons y ys ih => rw [List.flatMap_cons, List.length_append, hn, ih, List.length_cons, Nat.succ_mul, Nat.add_comm]
/-- Where each file's bytes lie. -/
abbrev HV := ByteArray → Value × Value
def fC (h : HV) (f : DF) : List Value := [.string f.name, (h f.name).1, (h f.name).2]
theorem infoF : (Try.prog.info? 65).map (fun i => (i.zero, i.size, i.bytes)) = some (some (.agg #[.string ⟨#[]⟩, .slice none 0 0, .slice none 0 0]), 3, 64) := by kernel_rfl
def refC (s : DS) (v : Value) : Array Value := #[v, .int .i64 s.room, .bool s.on, .int .i64 s.count, .int .i64 s.left, .int .i64 s.keep]
/-- A file's two rows of bytes. -/
structure BytesOf (w : World) (base : Nat) (h : HV) (f : DF) : Prop where
  safe : Own w base 5 1 (h f.name).1 f.safe.length (bv f.safe)
  wait : Own w base 5 1 (h f.name).2 f.wait.length (bv f.wait)
structure RefQ (w : World) (base m : Nat) (s : DS) (v : Value) (h : HV) : Prop where
  lo : base ≤ m
  blk : w.heap[m]? = some (.cells (refC s v) 49 (0, 0))
  row : Own w base 65 3 v s.fs.length (s.fs.flatMap (fC h))
  bytes : ∀ f ∈ s.fs, BytesOf w base h f
/-- The blocks that it lies in. -/
def RP (s : DS) (m : Nat) (v : Value) (h : HV) (k : Nat) : Prop := k = m ∨ fp v = some k ∨ ∃ f ∈ s.fs, fp (h f.name).1 = some k ∨ fp (h f.name).2 = some k
section
variable {w w' : World} {base m : Nat} {s s' : DS} {v : Value} {h : HV} {L M : Nat → Prop}
theorem BytesOf.move {f : DF} (hb : BytesOf w base h f) (hm : ∀ k, fp (h f.name).1 = some k ∨ fp (h f.name).2 = some k → w'.heap[k]? = w.heap[k]?) : BytesOf w' base h f :=
  ⟨hb.safe.move fun k hk => hm k (.inl hk), hb.wait.move fun k hk => hm k (.inr hk)⟩
theorem BytesOf.below {f : DF} (hb : BytesOf w base h f) (hw : Below w.heap.size w w') : BytesOf w' base h f := ⟨hb.safe.below hw, hb.wait.below hw⟩
theorem RefQ.move (hq : RefQ w base m s v h) (hm : ∀ k, RP s m v h k → w'.heap[k]? = w.heap[k]?) : RefQ w' base m s v h :=
  ⟨hq.lo, (hm m (.inl rfl)).trans hq.blk, hq.row.move fun k hk => hm k (.inr (.inl hk)), fun f hf => (hq.bytes f hf).move fun k hk => hm k (.inr (.inr ⟨f, hf, hk⟩))⟩
theorem RefQ.lt (hq : RefQ w base m s v h) {k : Nat} (hk : RP s m v h k) : base ≤ k ∧ k < w.heap.size := by
  rcases hk with rfl | hk | ⟨f, hf, hk | hk⟩
  · exact ⟨hq.lo, blk_lt hq.blk⟩
  · exact hq.row.lt hk
  · exact (hq.bytes f hf).safe.lt hk
  · exact (hq.bytes f hf).wait.lt hk
theorem RefQ.below (hq : RefQ w base m s v h) (hb : Below w.heap.size w w') : RefQ w' base m s v h := hq.move fun k hk => hb.block k (hq.lt hk).2
/-- No other row lies in the disk's own block. -/
theorem typed_ne {b e t n sz : Nat} {u : Value} {xs : List Value} {cs : Array Value} (ho : Own w b e sz u n xs) (hb : w.heap[m]? = some (.cells cs t (0, 0))) (hne : e ≠ t) {k : Nat} (hk : fp u = some k) : k ≠ m := by
  rintro rfl
  obtain ⟨cur, hc⟩ := ho.typed hk
  rw [hb] at hc
  injection hc with hc
  injection hc with _ hc
  exact hne hc.symm
theorem typed_apart {b b' e e' n n' sz sz' : Nat} {u u' : Value} {xs xs' : List Value} (ho : Own w b e sz u n xs) (ho' : Own w b' e' sz' u' n' xs') (hne : e ≠ e') {k : Nat} (hk : fp u = some k) : fp u' ≠ some k := by
  intro hk'
  obtain ⟨cur, hc⟩ := ho.typed hk
  obtain ⟨cur', hc'⟩ := ho'.typed hk'
  rw [hc] at hc'
  injection hc' with hc'
  injection hc' with _ hc'
  exact hne hc'
/-- A store into the disk's own block. -/
theorem RefQ.setD (hq : RefQ w base m s v h) (j : Nat) (u : Value) (s' : DS) (hf : s'.fs = s.fs) (hc : (refC s v).setIfInBounds j u = refC s' v) : RefQ (w.setCell ⟨m, j, none⟩ u) base m s' v h := by
  have far : ∀ k, k ≠ m → (w.setCell ⟨m, j, none⟩ u).heap[k]? = w.heap[k]? := fun k hk => Below.heap_setCell w ⟨m, j, none⟩ u k hk
  refine ⟨hq.lo, by rw [← hc]; exact blk_set hq.blk j u, by rw [hf]; exact hq.row.move fun k hk => far k (typed_ne hq.row hq.blk (by decide) hk), fun f hx => ?_⟩
  rw [hf] at hx
  exact (hq.bytes f hx).move fun k hk => far k (by rcases hk with hk | hk; exact typed_ne (hq.bytes f hx).safe hq.blk (by decide) hk; exact typed_ne (hq.bytes f hx).wait hq.blk (by decide) hk)
/-- Another row of files. -/
theorem RefQ.setRow (hq : RefQ w base m s v h) (v' : Value) (fs' : List DF) (h' : HV) (hr : Own w base 65 3 v' fs'.length (fs'.flatMap (fC h'))) (hb : ∀ f ∈ fs', BytesOf w base h' f) :
    RefQ (w.setCell ⟨m, 0, none⟩ v') base m { s with fs := fs' } v' h' := by
  have far : ∀ k, k ≠ m → (w.setCell ⟨m, 0, none⟩ v').heap[k]? = w.heap[k]? := fun k hk => Below.heap_setCell w ⟨m, 0, none⟩ v' k hk
  exact ⟨hq.lo, blk_set hq.blk 0 v', hr.move fun k hk => far k (typed_ne hr hq.blk (by decide) hk),
    fun f hx => (hb f hx).move fun k hk => far k (by rcases hk with hk | hk; exact typed_ne (hb f hx).safe hq.blk (by decide) hk; exact typed_ne (hb f hx).wait hq.blk (by decide) hk)⟩
theorem RefQ.cells (hq : RefQ w base m s v h) : w.cell? ⟨m, 0, none⟩ = some v ∧ w.cell? ⟨m, 1, none⟩ = some (.int .i64 s.room) ∧ w.cell? ⟨m, 2, none⟩ = some (.bool s.on) ∧ w.cell? ⟨m, 3, none⟩ = some (.int .i64 s.count) ∧
      w.cell? ⟨m, 4, none⟩ = some (.int .i64 s.left) ∧ w.cell? ⟨m, 5, none⟩ = some (.int .i64 s.keep) :=
  ⟨(blk_cell hq.blk 0).trans rfl, (blk_cell hq.blk 1).trans rfl, (blk_cell hq.blk 2).trans rfl, (blk_cell hq.blk 3).trans rfl, (blk_cell hq.blk 4).trans rfl, (blk_cell hq.blk 5).trans rfl⟩
theorem fC_len (h : HV) (f : DF) : (fC h f).length = 3 := rfl
/-- The k-th file's cells. -/
theorem RefQ.at_ (hq : RefQ w base m s v h) (k : Nat) (f : DF) (hk : s.fs[k]? = some f) : ∃ g cap A1 c1 A2 c2, v = .slice (some ⟨g, 0, none⟩) s.fs.length cap ∧ (h f.name).1 = .slice A1 f.safe.length c1 ∧ (h f.name).2 = .slice A2 f.wait.length c2 ∧
      w.cell? ⟨g, k * 3, none⟩ = some (.string f.name) ∧ w.cell? ⟨g, k * 3 + 1, none⟩ = some (.slice A1 f.safe.length c1) ∧ w.cell? ⟨g, k * 3 + 2, none⟩ = some (.slice A2 f.wait.length c2) ∧ (∀ j, w.frozen? ⟨g, j, none⟩ = false) ∧ g < w.heap.size ∧ s.fs.length ≤ cap := by
  have hlt := (List.getElem?_eq_some_iff.1 hk).1
  obtain ⟨g, cap, rfl, _, _, hcap, _⟩ := hq.row.form (by omega)
  have hb := hq.bytes f (List.mem_of_getElem? hk)
  obtain ⟨A1, c1, e1, _⟩ := hb.safe.slice_
  obtain ⟨A2, c2, e2, _⟩ := hb.wait.slice_
  have hc : ∀ j u, (fC h f)[j]? = some u → w.cell? ⟨g, k * 3 + j, none⟩ = some u := fun j u hu => by
    obtain ⟨ad, ha, hx⟩ := hq.row.cells (k * 3 + j) u (flatC_cell (fC_len h) s.fs k f hk j u hu)
    injection ha with ha
    rw [← ha, add_at] at hx
    exact hx
  refine ⟨g, cap, A1, c1, A2, c2, rfl, e1, e2, hc 0 _ rfl, ?_, ?_, fun j => hq.row.frozen (by omega) j, World.block_lt_of_cell? w _ (hc 0 _ rfl), hcap⟩
  · rw [← e1]; exact hc 1 _ rfl
  · rw [← e2]; exact hc 2 _ rfl
end

/-! ### known by its blocks -/
structure RDisk (w : World) (base m : Nat) (s : DS) (L : Nat → Prop) : Prop where
  mk :: (out : ∃ v h, RefQ w base m s v h ∧ (∀ k, RP s m v h k → L k) ∧ (∀ k, L k → base ≤ k ∧ k < w.heap.size))
structure RAfter (w w' : World) (base m : Nat) (s' : DS) (L : Nat → Prop) : Prop where
  disk : RDisk w' base m s' (newL L w w')
  chg : Chg L w w'
section
variable {w w' w1 w2 : World} {base m : Nat} {s s' s0 s1 s2 : DS} {v : Value} {h : HV} {L M : Nat → Prop}
theorem RDisk.chg (hd : RDisk w base m s L) (hc : Chg M w w') (hm : ∀ k, L k → ¬ M k) : RDisk w' base m s L := by
  obtain ⟨v, h, hq, h1, h2⟩ := hd.out
  exact ⟨⟨v, h, hq.move fun k hk => hc.block k (hq.lt hk).2 (hm k (h1 k hk)), h1, fun k hl => ⟨(h2 k hl).1, Nat.lt_of_lt_of_le (h2 k hl).2 hc.size⟩⟩⟩
theorem RDisk.below (hd : RDisk w base m s L) (hb : Below w.heap.size w w') : RDisk w' base m s L := hd.chg (M := fun _ => False) (.of_below hb) fun _ _ => id
theorem RDisk.lt (hd : RDisk w base m s L) {k : Nat} (hk : L k) : base ≤ k ∧ k < w.heap.size := by
  obtain ⟨v, h, hq, h1, h2⟩ := hd.out
  exact h2 k hk
theorem RDisk.has (hd : RDisk w base m s L) : L m := by
  obtain ⟨v, h, hq, h1, h2⟩ := hd.out
  exact h1 m (.inl rfl)
theorem RDisk.base_le (hd : RDisk w base m s L) : base ≤ w.heap.size := by have := hd.lt hd.has; omega
theorem RDisk.sub (hd : RDisk w base m s L) (hl : ∀ k, L k → M k) (hm : ∀ k, M k → base ≤ k ∧ k < w.heap.size) : RDisk w base m s M := by
  obtain ⟨v, h, hq, h1, h2⟩ := hd.out
  exact ⟨⟨v, h, hq, fun k hk => hl k (h1 k hk), hm⟩⟩
theorem RDisk.setD (hd : RDisk w base m s L) (j : Nat) (u : Value) (s' : DS) (hf : s'.fs = s.fs) (hc : ∀ v, (refC s v).setIfInBounds j u = refC s' v) : RDisk (w.setCell ⟨m, j, none⟩ u) base m s' L := by
  obtain ⟨v, h, hq, h1, h2⟩ := hd.out
  refine ⟨⟨v, h, hq.setD j u s' hf (hc v), fun k hk => h1 k ?_, fun k hk => by simpa using h2 k hk⟩⟩
  unfold RP at hk ⊢
  rw [hf] at hk
  exact hk
theorem RDisk.cells (hd : RDisk w base m s L) : ∃ v, w.cell? ⟨m, 0, none⟩ = some v ∧ w.cell? ⟨m, 1, none⟩ = some (.int .i64 s.room) ∧ w.cell? ⟨m, 2, none⟩ = some (.bool s.on) ∧ w.cell? ⟨m, 3, none⟩ = some (.int .i64 s.count) ∧
      w.cell? ⟨m, 4, none⟩ = some (.int .i64 s.left) ∧ w.cell? ⟨m, 5, none⟩ = some (.int .i64 s.keep) ∧ (∀ j, w.frozen? ⟨m, j, none⟩ = false) ∧ m < w.heap.size := by
  obtain ⟨v, h, hq, h1, h2⟩ := hd.out
  obtain ⟨c0, c1, c2, c3, c4, c5⟩ := hq.cells
  exact ⟨v, c0, c1, c2, c3, c4, c5, fun j => blk_frozen hq.blk j, blk_lt hq.blk⟩
theorem RAfter.mk' (h0 : RDisk w base m s L) (hd : RDisk w' base m s' L) (hc : Chg L w w') : RAfter w w' base m s' L :=
  ⟨hd.sub (fun _ => .inl) (fun k hk => by rcases hk with hk | hk; exact hd.lt hk; have := h0.base_le; omega), hc⟩
theorem RAfter.same (hd : RDisk w base m s L) : RAfter w w base m s L := .mk' hd hd (Chg.refl _ _)
theorem RAfter.next (h0 : RDisk w base m s0 L) (hd : RAfter w w1 base m s1 L) (k : RAfter w1 w2 base m s2 (newL L w w1)) : RAfter w w2 base m s2 L := by
  refine ⟨k.disk.sub (fun i hi => ?_) (fun i hi => ?_), hd.chg.next k.chg fun i hi => ?_⟩
  · rcases hi with (hi | hi) | hi
    · exact .inl hi
    · exact .inr ⟨hi.1, Nat.lt_of_lt_of_le hi.2 k.chg.size⟩
    · exact .inr ⟨Nat.le_trans hd.chg.size hi.1, hi.2⟩
  · have := h0.base_le
    have hs1 := hd.chg.size
    have hs2 := k.chg.size
    rcases hi with hi | hi
    · have := h0.lt hi; omega
    · omega
  · rcases hi with hi | hi
    · exact .inl hi
    · exact .inr hi.1
theorem RAfter.below (hd : RAfter w w' base m s' L) (hb : Below w'.heap.size w' w2) : RAfter w w2 base m s' L :=
  ⟨(hd.disk.below hb).sub (fun k hk => by rcases hk with hk | hk; exact .inl hk; exact .inr ⟨hk.1, Nat.lt_of_lt_of_le hk.2 hb.size⟩) (fun k hk => by
    have h1 := hd.disk.base_le
    rcases hk with hk | hk
    · have := hd.disk.lt (.inl hk); have := hb.size; omega
    · refine ⟨?_, hk.2⟩
      rcases Nat.lt_or_ge k w'.heap.size with h2 | h2
      · exact (hd.disk.lt (.inr ⟨hk.1, h2⟩)).1
      · omega), hd.chg.below hb⟩
/-- First nothing of the old turned, then the call. -/
theorem RAfter.then (h0 : RDisk w base m s L) (hb : Below w.heap.size w w1) (k : RAfter w1 w2 base m s2 L) : RAfter w w2 base m s2 L :=
  (RAfter.below (RAfter.same h0) hb).next h0 ⟨k.disk.sub (fun i hi => by rcases hi with hi | hi; exact .inl (.inl hi); exact .inr hi) (fun i hi => by
    have h1 := h0.base_le
    have h2 := hb.size
    have h3 := k.chg.size
    rcases hi with (hi | hi) | hi
    · have := h0.lt hi; omega
    · omega
    · omega), k.chg.mono fun i => .inl⟩
end
end Go.Proofs.Ytfdcibghcncbmaa
