/- The document's disk: Read. -/
import Derived.Test.YtfdcibghcncbmaaE4
namespace Go.Proofs.Ytfdcibghcncbmaa
open Go.RowKit Go.Maps Go.Shelf

set_option maxRecDepth 100000 in
set_option maxHeartbeats 1000000 in
theorem rread_any (m base : Nat) (s : DS) (L : Nat → Prop) (n : ByteArray) (w : World) (hd : RDisk w base m s L) (hs : s.fit) (hn : n.size ≤ maxLen) (hfew : s.fs.length ≤ 1073741824) :
    Calls Try.prog 27 #[.pointer (some ⟨m, 0, none⟩), .string n] w fun e w' => RetB w w' (s.read n).2 (s.read n).1 e ∧ Below w.heap.size w w' := by
  obtain ⟨v, h, hk⟩ := hd.k
  obtain ⟨c0, _, c2, _⟩ := hk.q.cells
  have HK := Lib.hid hk
  have HS := Lib.hid hs
  have HR := Lib.hid (rready_any m s n w hn c2)
  have HA := Lib.hid (at_any m base s v h n w hk.q hn hfew)
  clear hd hs hn hk c2
  by_cases hb : s.bad n = 0
  · have HBAD := Lib.hid hb
    cases hx : findF n s.fs with
    | none =>
      have HV := Lib.hid (atI_none hx)
      have HW : Hid (s.read n = ([], 21)) := Lib.hid (by unfold DS.read; rw [if_neg (by simp [hb]), hx])
      clear hb hx
      go_enter Try.func27, Try.ntmps27
      go_wp2_with first
        | (go_at_call 41; refine HR.out.mono ?_; rw [HBAD.out]; rintro e w' ⟨rfl, rfl⟩)
        | (go_at_call 42; refine HA.out.mono ?_; rw [HV.out]; rintro e w1 ⟨rfl, hb1⟩; have HB1 := Lib.hid hb1; clear hb1)
      go_ret2
      rw [HW.out]
      exact ⟨⟨_, rfl, Own.none_ _ _ _ _ none⟩, HB1.out⟩
    | some f =>
      obtain ⟨k, hkv, hkf⟩ := atI_some HS.out.rising hx
      have HV := Lib.hid hkv
      have HW : Hid (s.read n = (f.safe ++ f.wait, 0)) := Lib.hid (by unfold DS.read; rw [if_neg (by simp [hb]), hx])
      have hlt := (List.getElem?_eq_some_iff.1 hkf).1
      have hki : (k : Int) < (s.fs.length : Int) := by omega
      have hlen := len_le_total (List.mem_of_getElem? hkf)
      have hT := HS.out.bytes
      have hlen' : f.safe.length + f.wait.length ≤ 1073741824 := by unfold DF.len at hlen; omega
      have HKF := Lib.hid hkf
      clear hb hx hkv hkf hlen hT
      go_enter Try.func27, Try.ntmps27
      go_wp2_with first
        | (go_at_call 41; refine HR.out.mono ?_; rw [HBAD.out]; rintro e w' ⟨rfl, rfl⟩)
        | (go_at_call 42; refine HA.out.mono ?_; rw [HV.out]; rintro e w1 ⟨rfl, hb1⟩; have HB1 := Lib.hid hb1; clear hb1)
      have HQ1 := Lib.hid (HK.out.q.below HB1.out)
      obtain ⟨g, cap, A1, k1, A2, k2, e0, e1, e2, q0, q1, q2, fz, gl, hcap⟩ := HQ1.out.at_ k f HKF.out
      have d0 := HQ1.out.cells.1
      rw [e0] at d0
      have HO1 : Hid (Own w1.drew w.heap.size 5 1 (.slice none 0 0) 0 []) := Lib.hid (Own.none_ _ _ _ _ none)
      have HX : Hid (∀ W, Below w1.heap.size w1 W → ∀ j u, (bv f.safe)[j]? = some u → ∃ ad, A1 = some ad ∧ W.cell? (ad.add j) = some u) := Lib.hid fun W hW => by
        have := ((HQ1.out.bytes f (List.mem_of_getElem? HKF.out)).below hW).safe
        rw [e1] at this; exact this.cells
      have HY : Hid (∀ W, Below w1.heap.size w1 W → ∀ j u, (bv f.wait)[j]? = some u → ∃ ad, A2 = some ad ∧ W.cell? (ad.add j) = some u) := Lib.hid fun W hW => by
        have := ((HQ1.out.bytes f (List.mem_of_getElem? HKF.out)).below hW).wait
        rw [e2] at this; exact this.cells
      have HS0 : Hid (∀ W, Below w1.heap.size w1 W → W.cell? ⟨m, 0, none⟩ = some (.slice (some ⟨g, 0, none⟩) s.fs.length cap) ∧ W.cell? ⟨g, k * 3 + 1, none⟩ = some (.slice A1 f.safe.length k1) ∧ W.cell? ⟨g, k * 3 + 2, none⟩ = some (.slice A2 f.wait.length k2)) :=
        Lib.hid fun W hW => ⟨cell_below hW d0, cell_below hW q1, cell_below hW q2⟩
      have HD := Lib.hid (HS0.out w1.drew (Below.refl _ _).drew)
      clear e0 e1 e2 q0 q1 q2 fz gl d0 c0
      refine wp_region_noPanic ?_
      refine wp_region_ord (fun w' => w'.cell? ⟨m, 0, none⟩ = some (.slice (some ⟨g, 0, none⟩) s.fs.length cap) ∧ w'.cell? ⟨g, k * 3 + 1, none⟩ = some (.slice A1 f.safe.length k1) ∧ w'.cell? ⟨g, k * 3 + 2, none⟩ = some (.slice A2 f.wait.length k2))
        [(1,true),(2,true),(3,true),(4,true),(5,true),(6,true),(7,true),(8,true),(10,true),(11,true),(12,true),(13,true),(14,true),(15,true),(16,true),(17,true),(0,false),(9,false),(18,false),(19,true),(20,true)] [] (by kernel_rfl) (by kernel_rfl) (fun _ _ _ _ _ h => h) ?_
      iterate 16
        refine wpOrd_soft (v := ?_) (by rw [List.getElem?_toArray]; exact rfl) (by rfl) (by rfl) (fun w' hS => ?_) HD.out ?_
        rotate_left
        · obtain ⟨b0, b1, b2⟩ := hS
          go_simp
          try with_reducible rfl
        rotate_left
        try simp only [Act.put, List.setIfInBounds_toArray, List.set_cons_zero, List.set_cons_succ]
      refine wpOrd_hard (by rw [List.getElem?_toArray]; exact rfl) (fun K hK => ?_)
      go_simp
      have HB2 : Hid (Below w1.heap.size w1 (w1.drew.alloc (.cells #[] 5))) := Lib.hid (below_al (Below.refl _ _).drew _)
      refine hK.out _ _ (fun _ => HS0.out _ HB2.out) ?_
      clear hK K
      try simp only [Act.put, List.setIfInBounds_toArray, List.set_cons_zero, List.set_cons_succ]
      refine wpOrd_hard (by rw [List.getElem?_toArray]; exact rfl) (fun K hK => ?_)
      rw [if_pos (by rfl)]
      refine oper_append_any _ _ _ _ rfl w1.heap.size 5 (.int .u8 0) 1 1 Try.underlying29 infoB rfl (by decide) (.slice (some ⟨w1.heap.size, 0, none⟩) 0 0) 0 [] rfl (Own.none_ _ _ _ _ _) A1 f.safe.length k1 (bv f.safe) rfl (by rw [bv_len]; omega) (HX.out _ HB2.out) (bv_one _) (by omega) (by omega) (by simp) ?_
      intro v2 w2 ho2 hg2 hf2
      simp only [Nat.zero_add, List.nil_append] at ho2
      obtain ⟨A3, k3, rfl, _⟩ := ho2.slice_
      have HO2 := Lib.hid ho2
      have HB3 : Hid (Below w1.heap.size w1 w2) := Lib.hid (HB2.out.grown hg2 HB2.out.size fun j e => by simp [fp] at e)
      have HBW := Lib.hid HB1.out.size
      clear ho2 hg2 hf2
      refine hK.out _ _ (fun _ => HS0.out _ HB3.out) ?_
      clear hK K
      try simp only [Act.put, List.setIfInBounds_toArray, List.set_cons_zero, List.set_cons_succ]
      refine wpOrd_hard (by rw [List.getElem?_toArray]; exact rfl) (fun K hK => ?_)
      rw [if_pos (by rfl)]
      refine oper_append_any _ _ _ _ rfl w1.heap.size 5 (.int .u8 0) 1 1 Try.underlying29 infoB rfl (by decide) (.slice A3 f.safe.length k3) f.safe.length (bv f.safe) rfl HO2.out A2 f.wait.length k2 (bv f.wait) rfl (by rw [bv_len]; omega) (HY.out _ HB3.out) (bv_one _) (by omega) (by omega) HB3.out.size ?_
      intro v3 w3 ho3 hg3 hf3
      obtain ⟨A4, k4, rfl, _⟩ := ho3.slice_
      have HO3 := Lib.hid ho3
      have HB4 : Hid (Below w1.heap.size w1 w3) := Lib.hid (HB3.out.grown hg3 HB3.out.size fun j e => (HO2.out.lt e).1)
      clear ho3 hg3 hf3
      refine hK.out _ _ (fun _ => HS0.out _ HB4.out) ?_
      clear hK K
      try simp only [Act.put, List.setIfInBounds_toArray, List.set_cons_zero, List.set_cons_succ]
      have HD4 := Lib.hid (HS0.out _ HB4.out)
      iterate 2
        refine wpOrd_soft (v := ?_) (by rw [List.getElem?_toArray]; exact rfl) (by rfl) (by rfl) (fun w' hS => ?_) HD4.out ?_
        rotate_left
        · obtain ⟨b0, b1, b2⟩ := hS
          go_simp
          try with_reducible rfl
        rotate_left
        try simp only [Act.put, List.setIfInBounds_toArray, List.set_cons_zero, List.set_cons_succ]
      refine wpOrd_done (NoPanic.normal ?_)
      go_wp2_with fail
      go_ret2
      rw [HW.out]
      exact ⟨⟨_, rfl, by rw [List.length_append, bv_app]; exact HO3.out.lower HBW.out⟩, below_next HB1.out HB4.out⟩
  · have HW : Hid (s.read n = ([], s.bad n)) := Lib.hid (by unfold DS.read; rw [if_pos hb])
    have hd : (s.bad n != 0) = true := by simp [hb]
    clear hb
    go_enter Try.func27, Try.ntmps27
    go_wp2_with (go_at_call 41; refine HR.out.mono ?_; rintro e w' ⟨rfl, rfl⟩)
    go_ret2
    rw [HW.out]
    exact ⟨⟨_, rfl, Own.none_ _ _ _ _ none⟩, Below.refl _ _⟩
end Go.Proofs.Ytfdcibghcncbmaa
