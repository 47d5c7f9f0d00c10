/- The program's disk: raw writes, settings, a file that is there. -/
import Derived.Test.YtfdcibghcncbmaaD2
namespace Go.Proofs.Ytfdcibghcncbmaa
open Go.RowKit Go.Maps Go.Shelf

/-- What is known of the program's disk, its parts by name. -/
structure KDisk (w : World) (base d : Nat) (s : DS) (mb : Nat) (g : ByteArray → PF) (D : DataW Unit) (L : Nat → Prop) : Prop where
  q : DiskQ w base d s mb g D
  o : Owns w mb D
  l : ∀ k, DP s d mb g k → L k
  lo : ∀ k, L k → base ≤ k ∧ k < w.heap.size
theorem KDisk.p {w : World} {base d mb : Nat} {s : DS} {g : ByteArray → PF} {D : DataW Unit} {L : Nat → Prop} (h : KDisk w base d s mb g D L) : PDisk w base d s L := ⟨⟨mb, g, D, h.q, h.o, h.l, h.lo⟩⟩
theorem PDisk.k {w : World} {base d : Nat} {s : DS} {L : Nat → Prop} (h : PDisk w base d s L) : ∃ mb g D, KDisk w base d s mb g D L := by
  obtain ⟨mb, g, D, h1, h2, h3, h4⟩ := h.out
  exact ⟨mb, g, D, h1, h2, h3, h4⟩
theorem KDisk.setD {w : World} {base d mb : Nat} {s : DS} {g : ByteArray → PF} {D : DataW Unit} {L : Nat → Prop} (h : KDisk w base d s mb g D L) (j : Nat) (u : Value) (s' : DS) (hf : s'.fs = s.fs) (hc : (diskC s mb).setIfInBounds j u = diskC s' mb) :
    KDisk (w.setCell ⟨d, j, none⟩ u) base d s' mb g D L :=
  ⟨h.q.setD j u s' hf hc, h.o.setCell h.q.lo.2.2.symm u, fun k hk => h.l k (by unfold DP at hk ⊢; rw [hf] at hk; exact hk), fun k hk => by simpa using h.lo k hk⟩
theorem KDisk.has {w : World} {base d mb : Nat} {s : DS} {g : ByteArray → PF} {D : DataW Unit} {L : Nat → Prop} (h : KDisk w base d s mb g D L) : L d := h.l d (.inl rfl)
theorem KDisk.below {w w' : World} {base d mb : Nat} {s : DS} {g : ByteArray → PF} {D : DataW Unit} {L : Nat → Prop} (h : KDisk w base d s mb g D L) (hb : Below w.heap.size w w') : KDisk w' base d s mb g D L :=
  ⟨h.q.move fun k hk => hb.block k (h.q.lt h.o (by rcases hk with rfl | hk; exact .inl rfl; exact .inr (.inr hk))).2, h.o.move (hb.block mb (World.ownsMap.lt h.o)), h.l, fun k hk => ⟨(h.lo k hk).1, Nat.lt_of_lt_of_le (h.lo k hk).2 hb.size⟩⟩
set_option maxHeartbeats 400000 in
theorem raw_k (d base mb : Nat) (s : DS) (g : ByteArray → PF) (D : DataW Unit) (L : Nat → Prop) (w : World) (h : KDisk w base d s mb g D L) (hc : 0 ≤ s.count ∧ s.count ≤ 1073741824) (hl : 0 ≤ s.left ∧ s.left ≤ 9223372036854775807) :
    Calls Try.prog 36 #[.pointer (some ⟨d, 0, none⟩)] w fun e w' => e = .returned (.bool s.goes) ∧ KDisk w' base d s.raw mb g D L ∧ Chg L w w' := by
  obtain ⟨_, _, _, c3, c4, _⟩ := cells_of h.q
  have f3 := blk_frozen h.q.blk 3
  have f4 := blk_frozen h.q.blk 4
  have hlt := blk_lt h.q.blk
  have H := Lib.hid h
  obtain ⟨hc0, hc1⟩ := hc
  obtain ⟨hl0, hl1⟩ := hl
  clear h
  by_cases h0 : s.left = 0
  · have hd : (s.left == 0) = true := by simp [h0]
    have HG : Hid (s.goes = false ∧ s.raw = { s with count := s.count + 1, left := s.left }) := by
      constructor
      · simp [DS.goes, h0]
      · simp [DS.raw, h0]
    clear h0
    go_enter Try.func36, Try.ntmps36
    go_wp2
    go_ret
    refine ⟨ret_bool HG.out.1.symm, ?_, ?_⟩
    · rw [HG.out.2]
      exact H.out.setD 3 _ { s with count := s.count + 1, left := s.left } rfl rfl
    · exact (Chg.refl _ _).setCell (.inl H.out.has) _
  · have hd : (s.left == 0) = false := by simp [h0]
    have HG : Hid (s.goes = (s.left - 1 == 0) ∧ s.raw = { s with count := s.count + 1, left := s.left - 1 }) := by
      constructor
      · rw [Bool.eq_iff_iff]; simp [DS.goes]; omega
      · simp [DS.raw, h0]
    clear h0
    have hl2 : 0 ≤ s.left - 1 ∧ s.left - 1 ≤ 9223372036854775807 := by
      have : s.left ≠ 0 := by simpa using hd
      omega
    obtain ⟨hl2, hl3⟩ := hl2
    go_enter Try.func36, Try.ntmps36
    go_wp2
    go_ret
    refine ⟨ret_bool HG.out.1.symm, ?_, ?_⟩
    · rw [HG.out.2]
      exact (H.out.setD 3 _ { s with count := s.count + 1, left := s.left } rfl rfl).setD 4 _ { s with count := s.count + 1, left := s.left - 1 } rfl rfl
    · exact ((Chg.refl _ _).setCell (.inl H.out.has) _).setCell (.inl H.out.has) _
set_option maxHeartbeats 400000 in
theorem Room_any (d base : Nat) (s : DS) (L : Nat → Prop) (n : Int) (w : World) (h : PDisk w base d s L) :
    Calls Try.prog 20 #[.pointer (some ⟨d, 0, none⟩), .int .i64 n] w fun e w' => e = .returned (.tuple #[]) ∧ After w w' base d { s with room := n } L := by
  obtain ⟨mb, _, c1, _, _, _, _, hf, hlt⟩ := h.cells
  have f1 := hf 1
  have H := Lib.hid h
  clear hf h
  go_enter Try.func20, Try.ntmps20
  go_wp2
  go_end0
  refine ⟨rfl, After.mk' H.out (H.out.setD 1 _ { s with room := n } rfl fun mb => rfl) ?_⟩
  exact (Chg.refl _ _).setCell (.inl H.out.has) _
set_option maxHeartbeats 400000 in
theorem Arm_any (d base : Nat) (s : DS) (L : Nat → Prop) (n k : Int) (w : World) (h : PDisk w base d s L) :
    Calls Try.prog 21 #[.pointer (some ⟨d, 0, none⟩), .int .i64 n, .int .i64 k] w fun e w' => e = .returned (.tuple #[]) ∧ After w w' base d (s.arm n k) L := by
  obtain ⟨mb, _, _, _, _, c4, c5, hf, hlt⟩ := h.cells
  have f4 := hf 4
  have f5 := hf 5
  have H := Lib.hid h
  clear hf h
  go_enter Try.func21, Try.ntmps21
  go_wp2
  go_end0
  refine ⟨rfl, After.mk' H.out ((H.out.setD 4 _ { s with left := max n 0 } rfl fun mb => rfl).setD 5 _ (s.arm n k) rfl fun mb => rfl) ?_⟩
  exact ((Chg.refl _ _).setCell (.inl H.out.has) _).setCell (.inl H.out.has) _
set_option maxHeartbeats 400000 in
theorem On_any (d base : Nat) (s : DS) (L : Nat → Prop) (w : World) (h : PDisk w base d s L) :
    Calls Try.prog 16 #[.pointer (some ⟨d, 0, none⟩)] w fun e w' => e = .returned (.tuple #[]) ∧ After w w' base d { s with on := true } L := by
  obtain ⟨mb, _, _, c2, _, _, _, hf, hlt⟩ := h.cells
  have f2 := hf 2
  have H := Lib.hid h
  clear hf h
  go_enter Try.func16, Try.ntmps16
  go_wp2
  go_end0
  refine ⟨rfl, After.mk' H.out (H.out.setD 2 _ { s with on := true } rfl fun mb => rfl) ?_⟩
  exact (Chg.refl _ _).setCell (.inl H.out.has) _
set_option maxHeartbeats 400000 in
theorem Down_any (d base : Nat) (s : DS) (L : Nat → Prop) (w : World) (h : PDisk w base d s L) :
    Calls Try.prog 32 #[.pointer (some ⟨d, 0, none⟩)] w fun e w' => e = .returned (.bool (!s.on)) ∧ w = w' := by
  obtain ⟨mb, _, _, c2, _, _, _, hf, hlt⟩ := h.cells
  clear hf h
  go_enter Try.func32, Try.ntmps32
  go_wp2
  go_ret
  exact ⟨rfl, rfl⟩
set_option maxHeartbeats 400000 in
theorem Writes_any (d base : Nat) (s : DS) (L : Nat → Prop) (w : World) (h : PDisk w base d s L) :
    Calls Try.prog 33 #[.pointer (some ⟨d, 0, none⟩)] w fun e w' => e = .returned (.int .i64 s.count) ∧ w = w' := by
  obtain ⟨mb, _, _, _, c3, _, _, hf, hlt⟩ := h.cells
  clear hf h
  go_enter Try.func33, Try.ntmps33
  go_wp2
  go_ret
  exact ⟨rfl, rfl⟩
end Go.Proofs.Ytfdcibghcncbmaa
