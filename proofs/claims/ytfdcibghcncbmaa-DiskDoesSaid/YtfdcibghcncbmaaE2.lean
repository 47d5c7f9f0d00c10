/- The document's disk: its small methods. -/
import Derived.Test.YtfdcibghcncbmaaE1
import Derived.Test.YtfdcibghcncbmaaD16
namespace Go.Proofs.Ytfdcibghcncbmaa
open Go.RowKit Go.Maps Go.Shelf

set_option maxHeartbeats 400000 in
theorem rready_any (m : Nat) (s : DS) (n : ByteArray) (w : World) (hn : n.size ≤ maxLen) (c2 : w.cell? ⟨m, 2, none⟩ = some (.bool s.on)) :
    Calls Try.prog 41 #[.pointer (some ⟨m, 0, none⟩), .string n] w fun e w' => e = .returned (.int .i64 (s.bad n)) ∧ w = w' := by
  unfold maxLen at hn
  by_cases h1 : (n.size : Int) < 1
  · have hd : decide ((n.size : Int) < 1) = true := by simpa using h1
    have HS : Hid (s.bad n = 1) := Lib.hid (by unfold DS.bad okName; rw [show decide (1 ≤ n.size ∧ n.size ≤ 16) = false from decide_eq_false (by omega)]; rfl)
    clear h1
    go_enter Try.func41, Try.ntmps41
    go_wp2
    go_ret
    exact ⟨ret_int HS.out.symm, rfl⟩
  · have hd : decide ((n.size : Int) < 1) = false := by simp; omega
    by_cases h2 : 16 < (n.size : Int)
    · have hd2 : decide (16 < (n.size : Int)) = true := by simpa using h2
      have HS : Hid (s.bad n = 1) := Lib.hid (by unfold DS.bad okName; rw [show decide (1 ≤ n.size ∧ n.size ≤ 16) = false from decide_eq_false (by omega)]; rfl)
      clear h1 h2
      go_enter Try.func41, Try.ntmps41
      go_wp2
      go_ret
      exact ⟨ret_int HS.out.symm, rfl⟩
    · have hd2 : decide (16 < (n.size : Int)) = false := by simp; omega
      have hok : okName n = true := by unfold okName; simp; omega
      clear h1 h2
      cases hon : s.on with
      | true =>
        have HS : Hid (s.bad n = 0) := Lib.hid (by unfold DS.bad; rw [hok, hon]; rfl)
        rw [hon] at c2
        clear hok hon
        go_enter Try.func41, Try.ntmps41
        go_wp2
        go_ret
        exact ⟨ret_int HS.out.symm, rfl⟩
      | false =>
        have HS : Hid (s.bad n = 20) := Lib.hid (by unfold DS.bad; rw [hok, hon]; rfl)
        rw [hon] at c2
        clear hok hon
        go_enter Try.func41, Try.ntmps41
        go_wp2
        go_ret
        exact ⟨ret_int HS.out.symm, rfl⟩
/-- Known by its parts. -/
structure KRef (w : World) (base m : Nat) (s : DS) (v : Value) (h : HV) (L : Nat → Prop) : Prop where
  q : RefQ w base m s v h
  l : ∀ k, RP s m v h k → L k
  lo : ∀ k, L k → base ≤ k ∧ k < w.heap.size
section
variable {w w' : World} {base m : Nat} {s s' : DS} {v : Value} {h : HV} {L M : Nat → Prop}
theorem KRef.p (hk : KRef w base m s v h L) : RDisk w base m s L := ⟨⟨v, h, hk.q, hk.l, hk.lo⟩⟩
theorem RDisk.k (hd : RDisk w base m s L) : ∃ v h, KRef w base m s v h L := by
  obtain ⟨v, h, h1, h2, h3⟩ := hd.out
  exact ⟨v, h, h1, h2, h3⟩
theorem KRef.setD (hk : KRef w base m s v h L) (j : Nat) (u : Value) (s' : DS) (hf : s'.fs = s.fs) (hc : (refC s v).setIfInBounds j u = refC s' v) : KRef (w.setCell ⟨m, j, none⟩ u) base m s' v h L :=
  ⟨hk.q.setD j u s' hf hc, fun k hk' => hk.l k (by unfold RP at hk' ⊢; rw [hf] at hk'; exact hk'), fun k hl => by simpa using hk.lo k hl⟩
theorem KRef.has (hk : KRef w base m s v h L) : L m := hk.l m (.inl rfl)
theorem KRef.below (hk : KRef w base m s v h L) (hb : Below w.heap.size w w') : KRef w' base m s v h L :=
  ⟨hk.q.below hb, hk.l, fun k hl => ⟨(hk.lo k hl).1, Nat.lt_of_lt_of_le (hk.lo k hl).2 hb.size⟩⟩
end
set_option maxHeartbeats 400000 in
theorem rraw_k (m base : Nat) (s : DS) (v : Value) (h : HV) (L : Nat → Prop) (w : World) (hk : KRef w base m s v h L) (hc : 0 ≤ s.count ∧ s.count ≤ 1073741824) (hl : 0 ≤ s.left ∧ s.left ≤ 9223372036854775807) :
    Calls Try.prog 45 #[.pointer (some ⟨m, 0, none⟩)] w fun e w' => e = .returned (.bool s.goes) ∧ KRef w' base m s.raw v h L ∧ Chg L w w' := by
  obtain ⟨_, _, _, c3, c4, _⟩ := hk.q.cells
  have f3 := blk_frozen hk.q.blk 3
  have f4 := blk_frozen hk.q.blk 4
  have hlt := blk_lt hk.q.blk
  have H := Lib.hid hk
  obtain ⟨hc0, hc1⟩ := hc
  obtain ⟨hl0, hl1⟩ := hl
  clear hk
  by_cases h0 : s.left = 0
  · have hd : (s.left == 0) = true := by simp [h0]
    have HG : Hid (s.goes = false ∧ s.raw = { s with count := s.count + 1, left := s.left }) := by
      constructor
      · simp [DS.goes, h0]
      · simp [DS.raw, h0]
    clear h0
    go_enter Try.func45, Try.ntmps45
    go_wp2
    go_ret
    refine ⟨ret_bool HG.out.1.symm, ?_, ?_⟩
    · rw [HG.out.2]
      exact H.out.setD 3 _ { s with count := s.count + 1, left := s.left } rfl rfl
    · exact (Chg.refl _ _).setCell (.inl H.out.has) _
  · have hd : (s.left == 0) = false := by simp [h0]
    have HG : Hid (s.goes = (s.left - 1 == 0) ∧ s.raw = { s with count := s.count + 1, left := s.left - 1 }) := by
      constructor
      · rw [Bool.eq_iff_iff]; simp [DS.goes]; omega
      · simp [DS.raw, h0]
    clear h0
    have hl2 : 0 ≤ s.left - 1 ∧ s.left - 1 ≤ 9223372036854775807 := by
      have : s.left ≠ 0 := by simpa using hd
      omega
    obtain ⟨hl2, hl3⟩ := hl2
    go_enter Try.func45, Try.ntmps45
    go_wp2
    go_ret
    refine ⟨ret_bool HG.out.1.symm, ?_, ?_⟩
    · rw [HG.out.2]
      exact (H.out.setD 3 _ { s with count := s.count + 1, left := s.left } rfl rfl).setD 4 _ { s with count := s.count + 1, left := s.left - 1 } rfl rfl
    · exact ((Chg.refl _ _).setCell (.inl H.out.has) _).setCell (.inl H.out.has) _
set_option maxHeartbeats 400000 in
theorem RArm_any (m base : Nat) (s : DS) (L : Nat → Prop) (n k : Int) (w : World) (hd : RDisk w base m s L) :
    Calls Try.prog 28 #[.pointer (some ⟨m, 0, none⟩), .int .i64 n, .int .i64 k] w fun e w' => e = .returned (.tuple #[]) ∧ RAfter w w' base m (s.arm n k) L := by
  obtain ⟨v, _, _, _, _, c4, c5, hf, hlt⟩ := hd.cells
  have f4 := hf 4
  have f5 := hf 5
  have H := Lib.hid hd
  clear hf hd
  by_cases hn : n < 0
  · have hdn : decide (n < 0) = true := by simpa using hn
    have HA : Hid (s.arm n k = { s with left := 0, keep := k }) := Lib.hid (by unfold DS.arm; rw [show max n 0 = 0 by omega])
    clear hn
    go_enter Try.func28, Try.ntmps28
    go_wp2
    go_end0
    refine ⟨rfl, ?_⟩
    rw [HA.out]
    refine RAfter.mk' H.out (((H.out.setD 4 _ { s with left := n } rfl fun mb => rfl).setD 4 _ { s with left := 0 } rfl fun mb => rfl).setD 5 _ { s with left := 0, keep := k } rfl fun mb => rfl) ?_
    exact (((Chg.refl _ _).setCell (.inl H.out.has) _).setCell (.inl H.out.has) _).setCell (.inl H.out.has) _
  · have hdn : decide (n < 0) = false := by simpa using hn
    have HA : Hid (s.arm n k = { s with left := n, keep := k }) := Lib.hid (by unfold DS.arm; rw [show max n 0 = n by omega])
    clear hn
    go_enter Try.func28, Try.ntmps28
    go_wp2
    go_end0
    refine ⟨rfl, ?_⟩
    rw [HA.out]
    refine RAfter.mk' H.out ((H.out.setD 4 _ { s with left := n } rfl fun mb => rfl).setD 5 _ { s with left := n, keep := k } rfl fun mb => rfl) ?_
    exact ((Chg.refl _ _).setCell (.inl H.out.has) _).setCell (.inl H.out.has) _
set_option maxHeartbeats 400000 in
theorem RNew_any (room : Int) (w : World) :
    Calls Try.prog 7 #[.int .i64 room] w fun e w' => ∃ m, e = .returned (.pointer (some ⟨m, 0, none⟩)) ∧ RDisk w' w.heap.size m (newS room) (fun k => w.heap.size ≤ k ∧ k < w'.heap.size) ∧ Below w.heap.size w w' := by
  go_enter Try.func7, Try.ntmps7
  go_wp2
  go_ret
  refine ⟨w.heap.size, rfl, ⟨⟨.slice none 0 0, fun _ => (undef, undef), ⟨Nat.le_refl _, blk_new w _, Own.none_ _ _ _ _ none, fun f hf => (by cases hf)⟩, ?_, fun k hk => hk⟩⟩, below_al (Below.refl _ _) _⟩
  rintro k (rfl | hk | ⟨f, hf, _⟩)
  · simp
  · simp [fp] at hk
  · cases hf
end Go.Proofs.Ytfdcibghcncbmaa
