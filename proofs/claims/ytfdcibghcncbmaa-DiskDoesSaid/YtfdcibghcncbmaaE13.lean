/- The document's disk: Sync. -/
import Derived.Test.YtfdcibghcncbmaaE12
namespace Go.Proofs.Ytfdcibghcncbmaa
open Go.RowKit Go.Maps Go.Shelf

theorem KRef.setFile {w0 w : World} {base m : Nat} {s : DS} {g cap : Nat} {h : HV} {L : Nat → Prop} (h0 : KRef w0 base m s (.slice (some ⟨g, 0, none⟩) s.fs.length cap) h L) (hb : Below w0.heap.size w0 w) (hr : Rising s.fs) {i : Nat} {f f' : DF} (hf : s.fs[i]? = some f) (hn : f'.name = f.name) (u1 u2 : Value)
    (hB : BytesOf w base (fun _ => (u1, u2)) f') (hu : ∀ k, fp u1 = some k ∨ fp u2 = some k → L k ∨ w0.heap.size ≤ k) :
    RAfter w0 (((w.setCell ⟨g, i * 3, none⟩ (.string f'.name)).setCell ⟨g, i * 3 + 1, none⟩ u1).setCell ⟨g, i * 3 + 2, none⟩ u2) base m { s with fs := updF f' s.fs } L := by
  have hq := h0.q.below hb
  have hset := hq.setFile hr hf hn (u1, u2) hB
  have hlt := (List.getElem?_eq_some_iff.1 hf).1
  have hfp : fp (.slice (some ⟨g, 0, none⟩) s.fs.length cap) = some g := by
    obtain ⟨g', cap', e, h1, _⟩ := hq.row.form (by omega)
    injection e with e1 _ e3
    subst e3
    simp [fp]; omega
  have hg : L g := h0.l g (.inr (.inl hfp))
  have hbase : base ≤ w0.heap.size := by have := h0.lo m h0.has; omega
  have hws := hb.size
  have hc : Chg L w0 (((w.setCell ⟨g, i * 3, none⟩ (.string f'.name)).setCell ⟨g, i * 3 + 1, none⟩ u1).setCell ⟨g, i * 3 + 2, none⟩ u2) :=
    (((Chg.of_below hb).setCell (p := ⟨g, i * 3, none⟩) (.inl hg) _).setCell (p := ⟨g, i * 3 + 1, none⟩) (.inl hg) _).setCell (p := ⟨g, i * 3 + 2, none⟩) (.inl hg) _
  refine ⟨⟨⟨_, _, hset, fun k hk => ?_, fun k hk => ?_⟩⟩, hc⟩
  · have hlk : k < w.heap.size := by have := (hset.lt hk).2; simpa using this
    rcases hk with rfl | hk | ⟨y, hy, hk⟩
    · exact .inl h0.has
    · exact .inl (h0.l k (.inr (.inl hk)))
    · obtain ⟨z, hz, rfl⟩ := List.mem_map.1 hy
      by_cases hzn : neq z.name f'.name = true
      · rw [if_pos hzn, hPut_same] at hk
        rcases hu k hk with h1 | h1
        · exact .inl h1
        · exact .inr ⟨h1, by simpa using hlk⟩
      · rw [if_neg hzn, hPut_other _ _ (by simpa using hzn)] at hk
        exact .inl (h0.l k (.inr (.inr ⟨z, hz, hk⟩)))
  · have h1 := hc.size
    rcases hk with hk | hk
    · have := h0.lo k hk; omega
    · omega
theorem RAfter.drew {w w' : World} {base m : Nat} {s' : DS} {L : Nat → Prop} (h : RAfter w w' base m s' L) : RAfter w w'.drew base m s' L := h.below (Below.refl _ _).drew
set_option maxRecDepth 100000 in
set_option maxHeartbeats 4000000 in
theorem RSync_any (m base : Nat) (s : DS) (L : Nat → Prop) (n : ByteArray) (w : World) (hd : RDisk w base m s L) (hs : s.fitR) (hn : n.size ≤ maxLen) :
    Calls Try.prog 23 #[.pointer (some ⟨m, 0, none⟩), .string n] w fun e w' => e = .returned (.int .i64 (s.sync n).2) ∧ RAfter w w' base m (s.sync n).1 L := by
  obtain ⟨v, h, hk⟩ := hd.k
  obtain ⟨_, _, c2, _⟩ := hk.q.cells
  have HD := Lib.hid hd
  have HK := Lib.hid hk
  have HS := Lib.hid hs
  have HR := Lib.hid (rready_any m s n w hn c2)
  have HA := Lib.hid (at_any m base s v h n w hk.q hn (by have := hs.few; omega))
  clear hd hs hn hk c2
  by_cases hb : s.bad n = 0
  · have HBAD := Lib.hid hb
    cases hx : findF n s.fs with
    | none =>
      have HV := Lib.hid (atI_none hx)
      have HW := Lib.hid (with_none hb hx fun f => s.fin fun t => { t with fs := updF ⟨n, f.safe ++ f.wait, []⟩ t.fs })
      clear hb hx
      go_enter Try.func23, Try.ntmps23
      go_wp2_with first
        | (go_at_call 41; refine HR.out.mono ?_; rw [HBAD.out]; rintro e w' ⟨rfl, rfl⟩)
        | (go_at_call 42; refine HA.out.mono ?_; rw [HV.out]; rintro e w1 ⟨rfl, hb1⟩; have HB1 := Lib.hid hb1; clear hb1)
      go_ret
      unfold DS.sync
      rw [HW.out]
      exact ⟨rfl, (RAfter.same HD.out).below HB1.out⟩
    | some f =>
      obtain ⟨k, hkv, hkf⟩ := atI_some HS.out.fit.rising hx
      have HV := Lib.hid hkv
      have HW := Lib.hid (with_some hb hx fun f => s.fin fun t => { t with fs := updF ⟨n, f.safe ++ f.wait, []⟩ t.fs })
      have HFN := Lib.hid (findF_some hx).2
      have hk0 : ¬ ((k : Int) < 0) := by omega
      have hlt := (List.getElem?_eq_some_iff.1 hkf).1
      have hki : (k : Int) < (s.fs.length : Int) := by omega
      have hlen := len_le_total (List.mem_of_getElem? hkf)
      have hT := HS.out.fit.bytes
      have hlen' : f.safe.length + f.wait.length ≤ 1073741824 := by unfold DF.len at hlen; omega
      have HKF := Lib.hid hkf
      clear hb hx hkv hkf hlen hT
      cases hg : s.goes with
      | true =>
        have HF := Lib.hid (fin_goes hg fun t => { t with fs := updF ⟨n, f.safe ++ f.wait, []⟩ t.fs })
        have HG := Lib.hid hg
        clear hg
        go_enter Try.func23, Try.ntmps23
        go_wp2_with first
          | (go_at_call 41; refine HR.out.mono ?_; rw [HBAD.out]; rintro e w' ⟨rfl, rfl⟩)
          | (go_at_call 42; refine HA.out.mono ?_; rw [HV.out]; rintro e w1 ⟨rfl, hb1⟩; have HB1 := Lib.hid hb1; clear hb1)
          | (go_at_call 45; refine (rraw_k m base s v h L _ (HK.out.below HB1.out) HS.out.fit.count HS.out.fit.left).mono ?_; rw [HG.out]; rintro e w2 ⟨rfl, hk2, hc2⟩; have HK2 := Lib.hid hk2; have HC2 := Lib.hid hc2; have y5 := hk2.q.cells.2.2.2.2.2; clear hk2 hc2)
          | (go_at_call 29; refine (ROff_any m base s.raw L s.raw.keep _ HK2.out.p HS.out.fit.rising HS.out.fit.bytes HS.out.few HS.out.keep).mono ?_; rintro e w3 ⟨rfl, ha⟩; have HA3 := Lib.hid ha; clear ha)
        go_ret
        unfold DS.sync
        rw [HW.out, HF.out]
        exact ⟨rfl, RAfter.then' ((Chg.of_below HB1.out).trans HC2.out) HK.out.lo HD.out.base_le HA3.out⟩
      | false =>
        have HF := Lib.hid (fin_stays hg fun t => { t with fs := updF ⟨n, f.safe ++ f.wait, []⟩ t.fs })
        have HG := Lib.hid hg
        clear hg
        go_enter Try.func23, Try.ntmps23
        go_wp2_with first
          | (go_at_call 41; refine HR.out.mono ?_; rw [HBAD.out]; rintro e w' ⟨rfl, rfl⟩)
          | (go_at_call 42; refine HA.out.mono ?_; rw [HV.out]; rintro e w1 ⟨rfl, hb1⟩; have HB1 := Lib.hid hb1; clear hb1)
          | (go_at_call 45; refine (rraw_k m base s v h L _ (HK.out.below HB1.out) HS.out.fit.count HS.out.fit.left).mono ?_; rw [HG.out]; rintro e w2 ⟨rfl, hk2, hc2⟩; have HK2 := Lib.hid hk2; have HC2 := Lib.hid hc2; obtain ⟨g, cap, A1, c1, A2, c2x, e0, e1, e2, q0, q1, q2, fz, gl, hcap⟩ := hk2.q.at_ k f HKF.out; have y0 := hk2.q.cells.1; rw [e0] at y0; have HE0 := Lib.hid e0; have HE1 := Lib.hid e1; have HE2 := Lib.hid e2; have HFZ := Lib.hid fz; clear hk2 hc2 e0 e1 e2 fz)
        have HW0 : Hid (Below w2.heap.size w2 (w2.alloc (.cells #[.string f.name, .slice A1 f.safe.length c1, .slice A2 f.wait.length c2x] 65)).drew) := Lib.hid (below_al (Below.refl _ _) _).drew
        have hbx : (w2.alloc (.cells #[.string f.name, .slice A1 f.safe.length c1, .slice A2 f.wait.length c2x] 65)).drew.heap[w2.heap.size]? = some (.cells #[.string f.name, .slice A1 f.safe.length c1, .slice A2 f.wait.length c2x] 65 (0, 0)) := blk_new w2 _
        obtain ⟨W0, hW0⟩ : ∃ W0, (w2.alloc (.cells #[.string f.name, .slice A1 f.safe.length c1, .slice A2 f.wait.length c2x] 65)).drew = W0 := ⟨_, rfl⟩
        rw [hW0] at HW0 hbx
        have HN : Hid (∀ W, Below W0.heap.size W0 W → W.cell? ⟨m, 0, none⟩ = some (.slice (some ⟨g, 0, none⟩) s.raw.fs.length cap) ∧ W.cell? ⟨w2.heap.size, 1, none⟩ = some (.slice A1 f.safe.length c1) ∧ W.cell? ⟨w2.heap.size, 2, none⟩ = some (.slice A2 f.wait.length c2x)) :=
          Lib.hid fun W hW => ⟨cell_below hW (cell_below HW0.out y0), cell_below hW (blk_cell hbx 1), cell_below hW (blk_cell hbx 2)⟩
        have HB2 : Hid (BytesOf w2 base h f) := Lib.hid (HK2.out.q.bytes f (List.mem_of_getElem? HKF.out))
        have HX : Hid (∀ W, Below W0.heap.size W0 W → ∀ j u, (bv f.safe)[j]? = some u → ∃ ad, A1 = some ad ∧ W.cell? (ad.add j) = some u) := Lib.hid fun W hW => by
          have := (HB2.out.below (below_next HW0.out hW)).safe
          rw [HE1.out] at this; exact this.cells
        have HY : Hid (∀ W, Below W0.heap.size W0 W → ∀ j u, (bv f.wait)[j]? = some u → ∃ ad, A2 = some ad ∧ W.cell? (ad.add j) = some u) := Lib.hid fun W hW => by
          have := (HB2.out.below (below_next HW0.out hW)).wait
          rw [HE2.out] at this; exact this.cells
        have HD0 := Lib.hid (HN.out W0 (Below.refl _ _))
        refine wp_region_noPanic ?_
        refine wp_region_ord (fun w' => w'.cell? ⟨m, 0, none⟩ = some (.slice (some ⟨g, 0, none⟩) s.raw.fs.length cap) ∧ w'.cell? ⟨w2.heap.size, 1, none⟩ = some (.slice A1 f.safe.length c1) ∧ w'.cell? ⟨w2.heap.size, 2, none⟩ = some (.slice A2 f.wait.length c2x))
          [(0,true),(1,true),(2,true),(3,true),(4,true),(5,true),(7,true),(8,true),(10,true),(11,true),(6,false),(9,false),(12,false),(13,true),(14,true),(15,false)] [15] (by kernel_rfl) (by kernel_rfl) (fun _ _ _ _ _ h => h) ?_
        rw [hW0]
        clear hbx hW0 y0
        iterate 10
          refine wpOrd_soft (v := ?_) (by rw [List.getElem?_toArray]; exact rfl) (by rfl) (by rfl) (fun w' hS => ?_) HD0.out ?_
          rotate_left
          · obtain ⟨a1, a2, a3⟩ := hS
            go_simp
            try with_reducible rfl
          rotate_left
          try simp only [Act.put, List.setIfInBounds_toArray, List.set_cons_zero, List.set_cons_succ]
        refine wpOrd_hard (by rw [List.getElem?_toArray]; exact rfl) (fun K hK => ?_)
        go_simp
        have HW1 : Hid (Below W0.heap.size W0 (W0.alloc (.cells #[] 5))) := Lib.hid (below_al (Below.refl _ _) _)
        refine hK.out _ _ (fun _ => HN.out _ HW1.out) ?_
        clear hK K
        try simp only [Act.put, List.setIfInBounds_toArray, List.set_cons_zero, List.set_cons_succ]
        refine wpOrd_hard (by rw [List.getElem?_toArray]; exact rfl) (fun K hK => ?_)
        rw [if_pos (by rfl)]
        refine oper_append_any _ _ _ _ rfl W0.heap.size 5 (.int .u8 0) 1 1 Try.underlying29 infoB rfl (by decide) (.slice (some ⟨W0.heap.size, 0, none⟩) 0 0) 0 [] rfl (Own.none_ _ _ _ _ _) A1 f.safe.length c1 (bv f.safe) rfl (by rw [bv_len]; omega) (HX.out _ HW1.out) (bv_one _) (by omega) (by omega) (by simp) ?_
        intro v3 w3 ho3 hg3 hf3
        simp only [Nat.zero_add, List.nil_append] at ho3
        obtain ⟨A3, k3, rfl, _⟩ := ho3.slice_
        have HO3 := Lib.hid ho3
        have HW3 : Hid (Below W0.heap.size W0 w3) := Lib.hid (HW1.out.grown hg3 HW1.out.size fun j e => by simp [fp] at e)
        clear ho3 hg3 hf3
        refine hK.out _ _ (fun _ => HN.out _ HW3.out) ?_
        clear hK K
        try simp only [Act.put, List.setIfInBounds_toArray, List.set_cons_zero, List.set_cons_succ]
        refine wpOrd_hard (by rw [List.getElem?_toArray]; exact rfl) (fun K hK => ?_)
        rw [if_pos (by rfl)]
        refine oper_append_any _ _ _ _ rfl W0.heap.size 5 (.int .u8 0) 1 1 Try.underlying29 infoB rfl (by decide) (.slice A3 f.safe.length k3) f.safe.length (bv f.safe) rfl HO3.out A2 f.wait.length c2x (bv f.wait) rfl (by rw [bv_len]; omega) (HY.out _ HW3.out) (bv_one _) (by omega) (by omega) HW3.out.size ?_
        intro v4 w4 ho4 hg4 hf4
        obtain ⟨A4, k4, rfl, _⟩ := ho4.slice_
        have HO4 := Lib.hid ho4
        have HW4 : Hid (Below W0.heap.size W0 w4) := Lib.hid (HW3.out.grown hg4 HW3.out.size fun j e => (HO3.out.lt e).1)
        clear ho4 hg4 hf4
        refine hK.out _ _ (fun _ => HN.out _ HW4.out) ?_
        clear hK K
        try simp only [Act.put, List.setIfInBounds_toArray, List.set_cons_zero, List.set_cons_succ]
        have HD4 := Lib.hid (HN.out _ HW4.out)
        have HW5 : Hid (Below w2.heap.size w2 w4) := Lib.hid (below_next HW0.out HW4.out)
        iterate 2
          refine wpOrd_soft (v := ?_) (by rw [List.getElem?_toArray]; exact rfl) (by rfl) (by rfl) (fun w' hS => ?_) HD4.out ?_
          rotate_left
          · obtain ⟨a1, a2, a3⟩ := hS
            go_simp
            try with_reducible rfl
          rotate_left
          try simp only [Act.put, List.setIfInBounds_toArray, List.set_cons_zero, List.set_cons_succ]
        refine wpOrd_hard (by rw [List.getElem?_toArray]; exact rfl) (fun K hK => ?_)
        have r0 := cell_below HW5.out q0
        have r1 := cell_below HW5.out q1
        have r2 := cell_below HW5.out q2
        have z0 : w4.frozen? ⟨g, k * 3, none⟩ = false := (HW5.out.frozen (p := ⟨g, k * 3, none⟩) gl).trans (HFZ.out _)
        have z1 : w4.frozen? ⟨g, k * 3 + 1, none⟩ = false := (HW5.out.frozen (p := ⟨g, k * 3 + 1, none⟩) gl).trans (HFZ.out _)
        have z2 : w4.frozen? ⟨g, k * 3 + 2, none⟩ = false := (HW5.out.frozen (p := ⟨g, k * 3 + 2, none⟩) gl).trans (HFZ.out _)
        have gl4 : g < w4.heap.size := Nat.lt_of_lt_of_le gl HW5.out.size
        go_simp
        refine hK.out _ _ (fun h => absurd h (by decide)) ?_
        clear hK K
        try simp only [Act.put, List.setIfInBounds_toArray, List.set_cons_zero, List.set_cons_succ]
        refine wpOrd_done (NoPanic.normal ?_)
        go_wp2_with fail
        go_ret
        unfold DS.sync
        rw [HW.out, HF.out]
        refine ⟨rfl, RAfter.then' ((Chg.of_below HB1.out).trans HC2.out) HK.out.lo HD.out.base_le ?_⟩
        have hk2 := HK2.out
        rw [HE0.out] at hk2
        have hws : base ≤ W0.heap.size := by have := HK2.out.lo m HK2.out.has; have := HW0.out.size; omega
        have el : (f.safe ++ f.wait).length = f.safe.length + f.wait.length := List.length_append
        refine hk2.setFile HW5.out HS.out.fit.rising HKF.out (f' := ⟨n, f.safe ++ f.wait, []⟩) HFN.out.symm _ _ ⟨?_, Own.none_ _ _ _ _ none⟩ (fun x hx => ?_)
        · show Own _ base _ 1 (.slice A4 (f.safe.length + f.wait.length) k4) (f.safe ++ f.wait).length (bv (f.safe ++ f.wait))
          rw [el, bv_app]
          exact HO4.out.lower hws
        · rcases hx with hx | hx
          · have := (HO4.out.lt hx).1
            have := HW0.out.size
            exact .inr (by omega)
          · simp [fp] at hx
  · have HW := Lib.hid (with_bad hb fun f => s.fin fun t => { t with fs := updF ⟨n, f.safe ++ f.wait, []⟩ t.fs })
    have hd : (s.bad n != 0) = true := by simp [hb]
    clear hb
    go_enter Try.func23, Try.ntmps23
    go_wp2_with (go_at_call 41; refine HR.out.mono ?_; rintro e w' ⟨rfl, rfl⟩)
    go_ret
    unfold DS.sync
    rw [HW.out]
    exact ⟨rfl, RAfter.same HD.out⟩
end Go.Proofs.Ytfdcibghcncbmaa
