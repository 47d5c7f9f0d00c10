/- The program's disk: Read. -/
import Derived.Test.YtfdcibghcncbmaaD14
namespace Go.Proofs.Ytfdcibghcncbmaa
open Go.RowKit Go.Maps Go.Shelf

/-- A row of bytes of the call's own is answered. -/
def RetB (w w' : World) (code : Int) (b : Bs) (e : Ending) : Prop := ∃ v, e = .returned (.tuple #[v, .int .i64 code]) ∧ Own w' w.heap.size 5 1 v b.length (bv b)
set_option maxRecDepth 100000 in
set_option maxHeartbeats 1000000 in
theorem Read_any (d base : Nat) (s : DS) (L : Nat → Prop) (n : ByteArray) (w : World) (h : PDisk w base d s L) (hs : s.fit) (hn : n.size ≤ maxLen) :
    Calls Try.prog 17 #[.pointer (some ⟨d, 0, none⟩), .string n] w fun e w' => RetB w w' (s.read n).2 (s.read n).1 e ∧ Below w.heap.size w w' := by
  obtain ⟨mb, g, D, hk⟩ := h.k
  have HK := Lib.hid hk
  have HS := Lib.hid hs
  have HT := Lib.hid (there_any d base mb s g D n w hk.q hk.o hn)
  clear h hs hn hk
  by_cases hb : s.bad n = 0
  · cases hx : findF n s.fs with
    | none =>
      have HV := Lib.hid (there_none (g := g) hb hx)
      have HW : Hid (s.read n = ([], 21)) := Lib.hid (by unfold DS.read; rw [if_neg (by simp [hb]), hx])
      clear hb hx
      go_enter Try.func17, Try.ntmps17
      go_wp2_with (go_at_call 38; refine HT.out.mono ?_; rw [HV.out]; rintro e w' ⟨rfl, rfl⟩)
      go_ret2
      rw [HW.out]
      exact ⟨⟨_, rfl, Own.none_ _ _ _ _ none⟩, Below.refl _ _⟩
    | some f =>
      have HV := Lib.hid (there_some (g := g) hb hx)
      have HW : Hid (s.read n = (f.safe ++ f.wait, 0)) := Lib.hid (by unfold DS.read; rw [if_neg (by simp [hb]), hx])
      obtain ⟨hfm, hfn⟩ := findF_some hx
      have hp : FileP w base (g n) f := by rw [← hfn]; exact HK.out.q.file f hfm
      have HP := Lib.hid hp
      obtain ⟨A1, k1, A2, k2, e1, e2, q1, q2⟩ := fileCells hp
      have hlen := len_le_total hfm
      have hT := HS.out.bytes
      have hlen' : f.safe.length + f.wait.length ≤ 1073741824 := by unfold DF.len at hlen; omega
      have HO1 : Hid (Own w base 5 1 (.slice A1 f.safe.length k1) f.safe.length (bv f.safe)) := Lib.hid (by have := hp.safe; rw [e1] at this; exact this)
      have HO2 : Hid (Own w base 5 1 (.slice A2 f.wait.length k2) f.wait.length (bv f.wait)) := Lib.hid (by have := hp.wait; rw [e2] at this; exact this)
      have HS0 : Hid (w.drew.cell? ⟨(g n).blk, 0, none⟩ = some (.slice A1 f.safe.length k1) ∧ w.drew.cell? ⟨(g n).blk, 1, none⟩ = some (.slice A2 f.wait.length k2)) := Lib.hid ⟨q1, q2⟩
      have HC : Hid (Calls Try.prog 40 #[.slice (some ⟨w.heap.size, 0, none⟩) 2 2] (w.drew.alloc (.cells #[.slice A1 f.safe.length k1, .slice A2 f.wait.length k2] 29)) fun e w' => ∃ v, e = .returned v ∧ Own w' w.heap.size 5 1 v (f.safe.length + f.wait.length) (bv (f.safe ++ f.wait)) ∧ Below w.heap.size w w') := Lib.hid (by
        refine (Concat_any w.heap.size A1 A2 k1 k2 f.safe f.wait _ (blk_new w.drew _) (fun j u hu => ?_) (fun j u hu => ?_) hlen').mono ?_
        · obtain ⟨ad, ha, hc⟩ := HO1.out.cells j u hu
          exact ⟨ad, ha, cell_below (below_al (Below.refl _ w.drew) _) hc⟩
        · obtain ⟨ad, ha, hc⟩ := HO2.out.cells j u hu
          exact ⟨ad, ha, cell_below (below_al (Below.refl _ w.drew) _) hc⟩
        · rintro e w' ⟨v, rfl, h1, h2⟩
          exact ⟨v, rfl, h1.lower (by simp), below_next (below_al (Below.refl _ w).drew _) h2⟩)
      clear hb hx hfm hfn hp e1 e2 q1 q2 hlen hT
      go_enter Try.func17, Try.ntmps17
      go_wp2_with (go_at_call 38; refine HT.out.mono ?_; rw [HV.out]; rintro e w' ⟨rfl, rfl⟩)
      refine wp_region_noPanic ?_
      refine wp_region_ord (fun w' => w'.cell? ⟨(g n).blk, 0, none⟩ = some (.slice A1 f.safe.length k1) ∧ w'.cell? ⟨(g n).blk, 1, none⟩ = some (.slice A2 f.wait.length k2))
        [(0,true),(1,true),(2,true),(3,true),(4,true),(5,true),(6,true),(7,true),(8,false),(9,false),(10,true),(11,true)] [10,11] (by kernel_rfl) (by kernel_rfl) (fun _ _ _ _ _ h => h) ?_
      iterate 8
        refine wpOrd_soft (v := ?_) (by rw [List.getElem?_toArray]; exact rfl) (by rfl) (by rfl) (fun w' hS => ?_) HS0.out ?_
        rotate_left
        · obtain ⟨b0, b1⟩ := hS
          go_simp
          try with_reducible rfl
        rotate_left
        try simp only [Act.put, List.setIfInBounds_toArray, List.set_cons_zero, List.set_cons_succ]
      refine wpOrd_hard (by rw [List.getElem?_toArray]; exact rfl) (fun K hK => ?_)
      go_simp
      refine hK.out _ _ (fun _ => ⟨cell_below (below_al (Below.refl _ w.drew) _) HS0.out.1, cell_below (below_al (Below.refl _ w.drew) _) HS0.out.2⟩) ?_
      clear hK K
      try simp only [Act.put, List.setIfInBounds_toArray, List.set_cons_zero, List.set_cons_succ]
      refine wpOrd_hard (by rw [List.getElem?_toArray]; exact rfl) (fun K hK => ?_)
      go_simp
      go_at_call 40
      refine HC.out.mono ?_
      rintro e w1 ⟨v, rfl, ho, hb1⟩
      have HO := Lib.hid ho
      have HB1 := Lib.hid hb1
      clear ho hb1
      refine hK.out _ _ (fun _ => ⟨cell_below HB1.out HS0.out.1, cell_below HB1.out HS0.out.2⟩) ?_
      clear hK K
      try simp only [Act.put, List.setIfInBounds_toArray, List.set_cons_zero, List.set_cons_succ]
      iterate 2
        refine wpOrd_free (v := ?_) (by rw [List.getElem?_toArray]; exact rfl) (by rfl) (by rfl) (fun w' => ?_) ?_
        rotate_left
        · go_simp
          try with_reducible rfl
        rotate_left
        try simp only [Act.put, List.setIfInBounds_toArray, List.set_cons_zero, List.set_cons_succ]
      refine wpOrd_done (NoPanic.normal ?_)
      go_wp2_with fail
      go_ret2
      rw [HW.out]
      exact ⟨⟨v, rfl, by rw [List.length_append]; exact HO.out⟩, HB1.out⟩
  · have HV := Lib.hid (there_bad (g := g) hb)
    have HW : Hid (s.read n = ([], s.bad n)) := Lib.hid (by unfold DS.read; rw [if_pos hb])
    have hd : (s.bad n != 0) = true := by simp [hb]
    clear hb
    go_enter Try.func17, Try.ntmps17
    go_wp2_with (go_at_call 38; refine HT.out.mono ?_; rw [HV.out]; rintro e w' ⟨rfl, rfl⟩)
    go_ret2
    rw [HW.out]
    exact ⟨⟨_, rfl, Own.none_ _ _ _ _ none⟩, Below.refl _ _⟩
end Go.Proofs.Ytfdcibghcncbmaa
