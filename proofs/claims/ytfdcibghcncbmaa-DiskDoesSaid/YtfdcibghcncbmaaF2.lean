/- The statement's helpers: alike. -/
import Derived.Test.YtfdcibghcncbmaaF1
namespace Go.Proofs.Ytfdcibghcncbmaa
open Go.RowKit Go.Maps Go.Shelf

theorem name_cell {w : World} {b : Nat} {v : Value} {ns : List ByteArray} (h : Own w b 9 1 v ns.length (nmV ns)) (k : Nat) (n : ByteArray) (hk : ns[k]? = some n) : ∃ g cap, v = .slice (some ⟨g, 0, none⟩) ns.length cap ∧ w.cell? ⟨g, k, none⟩ = some (.string n) := by
  have hlt := (List.getElem?_eq_some_iff.1 hk).1
  obtain ⟨g, cap, rfl, _⟩ := h.form (by omega)
  refine ⟨g, cap, rfl, ?_⟩
  obtain ⟨ad, h1, h2⟩ := h.cells k (.string n) (by unfold nmV; rw [List.getElem?_map, hk]; rfl)
  injection h1 with h1
  rw [← h1, add_at] at h2
  exact h2
theorem names_ok {s : DS} (h : ∀ f ∈ s.fs, okName f.name = true) {n : ByteArray} {k : Nat} (hk : s.names[k]? = some n) : n.size ≤ maxLen := by
  have hm := List.mem_of_getElem? hk
  unfold DS.names at hm
  split at hm
  · obtain ⟨f, hf, rfl⟩ := List.mem_map.1 hm
    have := h f hf
    unfold okName at this
    simp at this
    unfold maxLen; omega
  · cases hm
theorem names_few {s : DS} : s.names.length ≤ s.fs.length := by
  unfold DS.names
  split <;> simp
theorem read_len (s : DS) (n : ByteArray) : (s.read n).1.length ≤ total s.fs := by
  unfold DS.read
  split
  · simp
  · split
    · simp
    · rename_i f hf
      have := len_le_total (findF_some hf).1
      unfold DF.len at this
      simp
      exact this
set_option maxRecDepth 100000 in
set_option maxHeartbeats 4000000 in
theorem alike_yes (d m base bm : Nat) (s : DS) (L M : Nat → Prop) (w : World) (hp : PDisk w base d s L) (hr : RDisk w bm m s M) (hs : s.fitR) (hn : ∀ f ∈ s.fs, okName f.name = true) :
    Calls Try.prog 11 #[.pointer (some ⟨d, 0, none⟩), .pointer (some ⟨m, 0, none⟩)] w fun e w' => e = .returned (.bool true) ∧ Below w.heap.size w w' := by
  have HP := Lib.hid hp
  have HR := Lib.hid hr
  have HS := Lib.hid hs
  have HNM := Lib.hid hn
  have hfw : s.fs.length ≤ 1048576 := hs.few
  have hnf := names_few (s := s)
  have HRNM : Hid (∀ W, Below w.heap.size w W → Calls Try.prog 31 #[.pointer (some ⟨m, 0, none⟩)] W fun e w' => RetN W w' s.names e ∧ Below W.heap.size W w') := Lib.hid fun W hW => by
    obtain ⟨v, h, hk⟩ := (hr.below hW).k
    exact rnames_any m bm s v h W hk.q (by omega)
  clear hp hr hs hn
  go_enter Try.func11, Try.ntmps11
  go_wp2_with first
    | (go_at_call 30; refine (Names_any d base s L _ HP.out HS.out.fit.rising (by omega)).mono ?_; rintro e w1 ⟨⟨va, rfl, hoa⟩, hb⟩; have HB1 := Lib.hid hb; have HOA := Lib.hid hoa; clear hb hoa)
    | (go_at_call 31; refine (HRNM.out _ HB1.out).mono ?_; rintro e w2 ⟨⟨vb, rfl, hob⟩, hb⟩; have HB2 := Lib.hid (below_next HB1.out hb); have HOA2 := Lib.hid (HOA.out.below hb); have HOB := Lib.hid hob; clear hb hob)
  obtain ⟨Aa, ca, hva, _⟩ := HOA2.out.slice_
  obtain ⟨Ab, cb, hvb, _⟩ := HOB.out.slice_
  subst hva; subst hvb
  have HC : Hid (∀ W, Below w.heap.size w W → W.cell? ⟨m, 2, none⟩ = some (.bool s.on) ∧ W.cell? ⟨m, 3, none⟩ = some (.int .i64 s.count)) := Lib.hid fun W hW => by
    obtain ⟨_, _, _, c2, c3, _⟩ := (HR.out.below hW).cells
    exact ⟨c2, c3⟩
  have HB2' : Hid (Below w.heap.size w w2.drew) := Lib.hid HB2.out.drew
  have HS0 := Lib.hid (HC.out _ HB2'.out)
  refine wp_region_noPanic ?_
  refine wp_region_ord (fun w' => w'.cell? ⟨m, 2, none⟩ = some (.bool s.on) ∧ w'.cell? ⟨m, 3, none⟩ = some (.int .i64 s.count))
    [(0,true),(1,true),(2,true),(3,true),(4,true),(5,true),(6,true),(8,true),(9,true),(10,true),(11,true),(7,false),(12,true),(13,true),(14,true),(15,true),(17,true),(18,true),(19,true),(20,true),(16,false),(21,true),(22,true)] [] (by kernel_rfl) (by kernel_rfl) (fun _ _ _ _ _ h => h) ?_
  iterate 11
    refine wpOrd_soft (v := ?_) (by rw [List.getElem?_toArray]; exact rfl) (by rfl) (by rfl) (fun w' hS => ?_) HS0.out ?_
    rotate_left
    · obtain ⟨a1, a2⟩ := hS
      go_simp
      try with_reducible rfl
    rotate_left
    try simp only [Act.put, List.setIfInBounds_toArray, List.set_cons_zero, List.set_cons_succ]
  refine wpOrd_hard (by rw [List.getElem?_toArray]; exact rfl) (fun K hK => ?_)
  go_simp
  go_at_call 32
  refine (Down_any d base s L _ (HP.out.below HB2'.out)).mono ?_
  rintro e w3 ⟨rfl, rfl⟩
  refine hK.out _ _ (fun _ => HS0.out) ?_
  clear hK K
  try simp only [Act.put, List.setIfInBounds_toArray, List.set_cons_zero, List.set_cons_succ]
  iterate 8
    refine wpOrd_soft (v := ?_) (by rw [List.getElem?_toArray]; exact rfl) (by rfl) (by rfl) (fun w' hS => ?_) HS0.out ?_
    rotate_left
    · obtain ⟨a1, a2⟩ := hS
      go_simp
      try with_reducible rfl
    rotate_left
    try simp only [Act.put, List.setIfInBounds_toArray, List.set_cons_zero, List.set_cons_succ]
  refine wpOrd_hard (by rw [List.getElem?_toArray]; exact rfl) (fun K hK => ?_)
  go_simp
  go_at_call 33
  refine (Writes_any d base s L _ (HP.out.below HB2'.out)).mono ?_
  rintro e w3 ⟨rfl, rfl⟩
  refine hK.out _ _ (fun _ => HS0.out) ?_
  clear hK K
  try simp only [Act.put, List.setIfInBounds_toArray, List.set_cons_zero, List.set_cons_succ]
  iterate 2
    refine wpOrd_soft (v := ?_) (by rw [List.getElem?_toArray]; exact rfl) (by rfl) (by rfl) (fun w' hS => ?_) HS0.out ?_
    rotate_left
    · obtain ⟨a1, a2⟩ := hS
      go_simp
      try with_reducible rfl
    rotate_left
    try simp only [Act.put, List.setIfInBounds_toArray, List.set_cons_zero, List.set_cons_succ]
  refine wpOrd_done (NoPanic.normal ?_)
  go_wp2_with fail
  go_loopw [41, 7] (fun i_ _ wr => ∃ k : Nat, k ≤ s.names.length ∧ i_ = .int .i64 k ∧ Below w2.heap.size w2 wr) (fun i_ _ _ => s.names.length - (intOf i_).toNat)
  case atStart => exact ⟨0, Nat.zero_le _, rfl, (Below.refl _ _).drew⟩
  case round =>
    obtain ⟨k, hk, rfl, hb⟩ := hrel
    have HBR := Lib.hid hb
    clear hb
    by_cases hlt : k < s.names.length
    · obtain ⟨n, hn⟩ : ∃ n, s.names[k]? = some n := ⟨_, List.getElem?_eq_getElem hlt⟩
      obtain ⟨ga, ca', e1, qa⟩ := name_cell (HOA2.out.below HBR.out) k n hn
      obtain ⟨gb, cb', e2, qb⟩ := name_cell (HOB.out.below HBR.out) k n hn
      injection e1 with e1 _ e3
      injection e2 with e2 _ e4
      subst e1; subst e2; subst e3; subst e4
      have HN : Hid (n.size ≤ maxLen) := Lib.hid (names_ok HNM.out hn)
      have HBW : Hid (Below w.heap.size w wr) := Lib.hid (below_next HB2.out HBR.out)
      have HQ : Hid (∀ W, Below wr.heap.size wr W → W.cell? ⟨ga, k, none⟩ = some (.string n) ∧ W.cell? ⟨gb, k, none⟩ = some (.string n)) := Lib.hid fun W hW => ⟨cell_below hW qa, cell_below hW qb⟩
      have HRL : Hid ((s.read n).1.length ≤ 1073741824) := Lib.hid (Nat.le_trans (read_len s n) HS.out.fit.bytes)
      have hki : (k : Int) < (s.names.length : Int) := by omega
      clear hn
      go_wp2_with first
        | (go_at_call 17; refine (Read_any d base s L n _ (HP.out.below HBW.out) HS.out.fit HN.out).mono ?_; rintro e w3 ⟨⟨vx, rfl, hox⟩, hb⟩; have HB3 := Lib.hid hb; have HOX := Lib.hid hox; have qb3 := (HQ.out _ hb).2; clear hb hox)
        | (go_at_call 27; refine (rread_any m bm s M n _ (HR.out.below (below_next HBW.out HB3.out)) HS.out.fit HN.out (by omega)).mono ?_; rintro e w4 ⟨⟨vy, rfl, hoy⟩, hb⟩; have HB4 := Lib.hid (below_next HB3.out hb); have HOX4 := Lib.hid (HOX.out.below hb); have HOY := Lib.hid hoy; clear hb hoy)
      have HB4' : Hid (Below wr.heap.size wr w4.drew) := Lib.hid HB4.out.drew
      have HS9 := Lib.hid (HQ.out _ HB4'.out)
      clear qa qb qb3
      refine wp_region_noPanic ?_
      refine wp_region_ord (fun w' => w'.cell? ⟨ga, k, none⟩ = some (.string n) ∧ w'.cell? ⟨gb, k, none⟩ = some (.string n))
        [(0,true),(1,true),(2,true),(3,true),(4,true),(5,true),(6,true),(7,true),(8,true),(9,true),(10,true),(11,true),(12,true),(13,true),(14,true),(15,true),(16,true),(17,false),(18,true),(19,true)] [] (by kernel_rfl) (by kernel_rfl) (fun _ _ _ _ _ h => h) ?_
      iterate 17
        refine wpOrd_soft (v := ?_) (by rw [List.getElem?_toArray]; exact rfl) (by rfl) (by rfl) (fun w' hS => ?_) HS9.out ?_
        rotate_left
        · obtain ⟨a1, a2⟩ := hS
          go_simp
          try with_reducible rfl
        rotate_left
        try simp only [Act.put, List.setIfInBounds_toArray, List.set_cons_zero, List.set_cons_succ]
      refine wpOrd_hard (by rw [List.getElem?_toArray]; exact rfl) (fun K hK => ?_)
      go_simp
      go_at_call 10
      refine (same_yes vx vy _ _ (s.read n).1 w4.drew (HOX4.out.below (Below.refl _ _).drew) (HOY.out.below (Below.refl _ _).drew) HRL.out).mono ?_
      rintro e w5 ⟨rfl, hb⟩
      have HB5 := Lib.hid (below_next HB4'.out hb)
      have HS5 := Lib.hid (HQ.out _ HB5.out)
      clear hb
      refine hK.out _ _ (fun _ => HS5.out) ?_
      clear hK K
      try simp only [Act.put, List.setIfInBounds_toArray, List.set_cons_zero, List.set_cons_succ]
      iterate 2
        refine wpOrd_soft (v := ?_) (by rw [List.getElem?_toArray]; exact rfl) (by rfl) (by rfl) (fun w' hS => ?_) HS5.out ?_
        rotate_left
        · obtain ⟨a1, a2⟩ := hS
          go_simp
          try with_reducible rfl
        rotate_left
        try simp only [Act.put, List.setIfInBounds_toArray, List.set_cons_zero, List.set_cons_succ]
      refine wpOrd_done (NoPanic.normal ?_)
      go_wp2_with fail
      go_roundw
      case rel => exact ⟨k + 1, by omega, by go_num, below_next HBR.out HB5.out⟩
      case measure => simp [intOf]; omega
    · have hk' : k = s.names.length := by omega
      subst hk'
      go_wp2_with fail
      go_ret
      exact ⟨rfl, below_next HB2.out HBR.out⟩
end Go.Proofs.Ytfdcibghcncbmaa
