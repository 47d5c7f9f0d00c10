/- The program's disk: its small methods. -/
import Derived.Test.YtfdcibghcncbmaaD1
import Derived.Shelf.Lay
namespace Go.Proofs.Ytfdcibghcncbmaa
open Go.RowKit Go.Maps Go.Shelf

theorem ret_int {k : IntKind} {a b : Int} (h : a = b) : Ending.returned (.int k a) = .returned (.int k b) := by rw [h]
theorem ret_bool {a b : Bool} (h : a = b) : Ending.returned (.bool a) = .returned (.bool b) := by rw [h]
set_option maxHeartbeats 400000 in
theorem named_any (n : ByteArray) (w : World) (hn : n.size ≤ maxLen) : Calls Try.prog 39 #[.string n] w fun e w' => e = .returned (.bool (okName n)) ∧ w = w' := by
  unfold maxLen at hn
  by_cases h1 : 1 ≤ n.size
  · have hd : decide ((1 : Int) ≤ (n.size : Int)) = true := by simp; omega
    go_enter Try.func39, Try.ntmps39
    go_wp2
    go_ret
    exact ⟨ret_bool (by unfold okName; rw [decide_eq_decide]; omega), rfl⟩
  · have hd : decide ((1 : Int) ≤ (n.size : Int)) = false := by simp; omega
    go_enter Try.func39, Try.ntmps39
    go_wp2
    go_ret
    exact ⟨ret_bool (by simp [okName]; omega), rfl⟩
set_option maxHeartbeats 400000 in
theorem ready_any (d : Nat) (s : DS) (n : ByteArray) (w : World) (hn : n.size ≤ maxLen) (c2 : w.cell? ⟨d, 2, none⟩ = some (.bool (!s.on))) :
    Calls Try.prog 34 #[.pointer (some ⟨d, 0, none⟩), .string n] w fun e w' => e = .returned (.int .i64 (s.bad n)) ∧ w = w' := by
  have HN := Lib.hid hn
  clear hn
  cases h1 : okName n with
  | false =>
    have HS : Hid (s.bad n = 1) := by simp [DS.bad, h1, Hid]
    have H1 := Lib.hid h1
    clear h1
    go_enter Try.func34, Try.ntmps34
    go_wp2_with (go_at_call 39; refine (named_any n _ HN.out).mono ?_; rw [H1.out]; rintro e w' ⟨rfl, rfl⟩)
    go_ret
    exact ⟨ret_int HS.out.symm, rfl⟩
  | true =>
    cases h2 : s.on with
    | false =>
      have HS : Hid (s.bad n = 20) := by simp [DS.bad, h1, h2, Hid]
      have H1 := Lib.hid h1
      rw [h2] at c2
      clear h1 h2
      go_enter Try.func34, Try.ntmps34
      go_wp2_with (go_at_call 39; refine (named_any n _ HN.out).mono ?_; rw [H1.out]; rintro e w' ⟨rfl, rfl⟩)
      go_ret
      exact ⟨ret_int HS.out.symm, rfl⟩
    | true =>
      have HS : Hid (s.bad n = 0) := by simp [DS.bad, h1, h2, Hid]
      have H1 := Lib.hid h1
      rw [h2] at c2
      clear h1 h2
      go_enter Try.func34, Try.ntmps34
      go_wp2_with (go_at_call 39; refine (named_any n _ HN.out).mono ?_; rw [H1.out]; rintro e w' ⟨rfl, rfl⟩)
      go_ret
      exact ⟨ret_int HS.out.symm, rfl⟩

/-! ### what is known of the program's disk -/
structure PDisk (w : World) (base d : Nat) (s : DS) (L : Nat → Prop) : Prop where
  mk :: (out : ∃ mb g D, DiskQ w base d s mb g D ∧ Owns w mb D ∧ (∀ k, DP s d mb g k → L k) ∧ (∀ k, L k → base ≤ k ∧ k < w.heap.size))
theorem cells_of {w : World} {base d mb : Nat} {s : DS} {g : ByteArray → PF} {D : DataW Unit} (h : DiskQ w base d s mb g D) :
    w.cell? ⟨d, 0, none⟩ = some (.map (some mb)) ∧ w.cell? ⟨d, 1, none⟩ = some (.int .i64 s.room) ∧ w.cell? ⟨d, 2, none⟩ = some (.bool (!s.on)) ∧ w.cell? ⟨d, 3, none⟩ = some (.int .i64 s.count) ∧
      w.cell? ⟨d, 4, none⟩ = some (.int .i64 s.left) ∧ w.cell? ⟨d, 5, none⟩ = some (.int .i64 s.keep) :=
  ⟨(blk_cell h.blk 0).trans rfl, (blk_cell h.blk 1).trans rfl, (blk_cell h.blk 2).trans rfl, (blk_cell h.blk 3).trans rfl, (blk_cell h.blk 4).trans rfl, (blk_cell h.blk 5).trans rfl⟩
section
variable {w w' : World} {base d : Nat} {s s' : DS} {L M : Nat → Prop}
theorem PDisk.chg (h : PDisk w base d s L) (hc : Chg M w w') (hm : ∀ k, L k → ¬ M k) : PDisk w' base d s L := by
  obtain ⟨mb, g, D, hq, ho, h1, h2⟩ := h.out
  have hk : ∀ k, DP s d mb g k → w'.heap[k]? = w.heap[k]? := fun k hk => hc.block k (h2 k (h1 k hk)).2 (hm k (h1 k hk))
  exact ⟨⟨mb, g, D, hq.move fun k hk' => hk k (by rcases hk' with rfl | h3; exact .inl rfl; exact .inr (.inr h3)), ho.move (hk mb (.inr (.inl rfl))), h1, fun k hl => ⟨(h2 k hl).1, Nat.lt_of_lt_of_le (h2 k hl).2 hc.size⟩⟩⟩
theorem PDisk.below (h : PDisk w base d s L) (hb : Below w.heap.size w w') : PDisk w' base d s L := h.chg (M := fun _ => False) (.of_below hb) fun _ _ => id
theorem PDisk.base_le (h : PDisk w base d s L) : base ≤ w.heap.size := by
  obtain ⟨mb, g, D, hq, ho, h1, h2⟩ := h.out
  have := h2 d (h1 d (.inl rfl))
  omega
/-- What may be written, and what is new, is what is known behind. -/
theorem PDisk.grow (h : PDisk w' base d s M) (hm : ∀ k, M k → newL L w w' k) (hl : ∀ k, L k → base ≤ k ∧ k < w.heap.size) (hs : w.heap.size ≤ w'.heap.size) (hb : base ≤ w.heap.size) : PDisk w' base d s (newL L w w') := by
  obtain ⟨mb, g, D, hq, ho, h1, h2⟩ := h.out
  refine ⟨⟨mb, g, D, hq, ho, fun k hk => hm k (h1 k hk), fun k hk => ?_⟩⟩
  rcases hk with hk | hk
  · have := hl k hk; omega
  · omega
theorem PDisk.lt (h : PDisk w base d s L) {k : Nat} (hk : L k) : base ≤ k ∧ k < w.heap.size := by
  obtain ⟨mb, g, D, hq, ho, h1, h2⟩ := h.out
  exact h2 k hk
/-- A store into the disk's own block. -/
theorem PDisk.setD (h : PDisk w base d s L) (j : Nat) (u : Value) (s' : DS) (hf : s'.fs = s.fs) (hc : ∀ mb, (diskC s mb).setIfInBounds j u = diskC s' mb) : PDisk (w.setCell ⟨d, j, none⟩ u) base d s' L := by
  obtain ⟨mb, g, D, hq, ho, h1, h2⟩ := h.out
  refine ⟨⟨mb, g, D, hq.setD j u s' hf (hc mb), ho.setCell hq.lo.2.2.symm u, fun k hk => h1 k ?_, fun k hk => by simpa using h2 k hk⟩⟩
  unfold DP at hk ⊢
  rw [hf] at hk
  exact hk
theorem PDisk.has (h : PDisk w base d s L) : L d := by
  obtain ⟨mb, g, D, hq, ho, h1, h2⟩ := h.out
  exact h1 d (.inl rfl)
theorem PDisk.cells (h : PDisk w base d s L) : ∃ mb, w.cell? ⟨d, 0, none⟩ = some (.map (some mb)) ∧ w.cell? ⟨d, 1, none⟩ = some (.int .i64 s.room) ∧ w.cell? ⟨d, 2, none⟩ = some (.bool (!s.on)) ∧ w.cell? ⟨d, 3, none⟩ = some (.int .i64 s.count) ∧
      w.cell? ⟨d, 4, none⟩ = some (.int .i64 s.left) ∧ w.cell? ⟨d, 5, none⟩ = some (.int .i64 s.keep) ∧ (∀ j, w.frozen? ⟨d, j, none⟩ = false) ∧ d < w.heap.size := by
  obtain ⟨mb, g, D, hq, ho, h1, h2⟩ := h.out
  obtain ⟨c0, c1, c2, c3, c4, c5⟩ := cells_of hq
  exact ⟨mb, c0, c1, c2, c3, c4, c5, fun j => blk_frozen hq.blk j, blk_lt hq.blk⟩
theorem PDisk.sub (h : PDisk w base d s L) (hl : ∀ k, L k → M k) (hm : ∀ k, M k → base ≤ k ∧ k < w.heap.size) : PDisk w base d s M := by
  obtain ⟨mb, g, D, hq, ho, h1, h2⟩ := h.out
  exact ⟨⟨mb, g, D, hq, ho, fun k hk => hl k (h1 k hk), hm⟩⟩
end
/-- What a call leaves: the disk, and the rest as it was. -/
structure After (w w' : World) (base d : Nat) (s' : DS) (L : Nat → Prop) : Prop where
  disk : PDisk w' base d s' (newL L w w')
  chg : Chg L w w'
theorem After.same {w : World} {base d : Nat} {s : DS} {L : Nat → Prop} (h : PDisk w base d s L) : After w w base d s L :=
  ⟨h.sub (fun _ => .inl) (fun k hk => by rcases hk with hk | hk; exact h.lt hk; omega), Chg.refl _ _⟩
/-- The disk's blocks alone have turned, none is new. -/
theorem After.mk' {w w' : World} {base d : Nat} {s s' : DS} {L : Nat → Prop} (h0 : PDisk w base d s L) (h : PDisk w' base d s' L) (hc : Chg L w w') : After w w' base d s' L :=
  ⟨h.sub (fun _ => .inl) (fun k hk => by rcases hk with hk | hk; exact h.lt hk; have := h0.base_le; omega), hc⟩
theorem After.next {w w1 w2 : World} {base d : Nat} {s0 s1 s2 : DS} {L : Nat → Prop} (h0 : PDisk w base d s0 L) (h : After w w1 base d s1 L) (k : After w1 w2 base d s2 (newL L w w1)) : After w w2 base d s2 L := by
  refine ⟨k.disk.sub (fun i hi => ?_) (fun i hi => ?_), h.chg.next k.chg fun i hi => ?_⟩
  · rcases hi with (hi | hi) | hi
    · exact .inl hi
    · exact .inr ⟨hi.1, Nat.lt_of_lt_of_le hi.2 k.chg.size⟩
    · exact .inr ⟨Nat.le_trans h.chg.size hi.1, hi.2⟩
  · have := h0.base_le
    have hs1 := h.chg.size
    have hs2 := k.chg.size
    rcases hi with hi | hi
    · have := h0.lt hi; omega
    · omega
  · rcases hi with hi | hi
    · exact .inl hi
    · exact .inr hi.1
theorem After.drewN {w w' : World} {base d : Nat} {s' : DS} {L : Nat → Prop} (h : After w w' base d s' L) (n : Nat) : After w (w'.drewN n) base d s' L := ⟨h.disk.below (below_drewN' (Below.refl _ _) n), h.chg.drewN n⟩
end Go.Proofs.Ytfdcibghcncbmaa
