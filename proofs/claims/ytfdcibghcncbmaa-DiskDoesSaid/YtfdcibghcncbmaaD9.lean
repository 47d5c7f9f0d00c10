/- The program's disk: Truncate. -/
import Derived.Test.YtfdcibghcncbmaaD8
namespace Go.Proofs.Ytfdcibghcncbmaa
open Go.RowKit Go.Maps Go.Shelf

section
variable {w : World} {base : Nat} {p : PF} {f : DF}
/-- The first bytes stay. -/
theorem turn_trunc (h : FileP w base p f) (nm : ByteArray) {A1 A2 : Option Addr} {c1 c2 : Nat} (e1 : p.v1 = .slice A1 f.safe.length c1) (e2 : p.v2 = .slice A2 f.wait.length c2) (m1 m2 : Nat) (l1 : m1 ≤ f.safe.length) (l2 : m2 ≤ f.wait.length) :
    FileP ((w.setCell ⟨p.blk, 1, none⟩ (.slice A2 m2 c2)).setCell ⟨p.blk, 0, none⟩ (.slice A1 m1 c1)) base ⟨p.blk, .slice A1 m1 c1, .slice A2 m2 c2⟩ ⟨nm, f.safe.take m1, f.wait.take m2⟩ ∧
      (∀ k, (PF.mk p.blk (.slice A1 m1 c1) (.slice A2 m2 c2)).has k → p.has k ∨ w.heap.size ≤ k) ∧
      (∀ k, k < w.heap.size → ¬ p.has k → ((w.setCell ⟨p.blk, 1, none⟩ (.slice A2 m2 c2)).setCell ⟨p.blk, 0, none⟩ (.slice A1 m1 c1)).heap[k]? = w.heap[k]?) := by
  have o1 := h.safe
  have o2 := h.wait
  rw [e1] at o1
  rw [e2] at o2
  have s1 := o1.shorter m1 l1
  have s2 := o2.shorter m2 l2
  have g1 : fp (.slice A1 m1 c1) = fp p.v1 := by rw [e1]; exact fp_shorter _ _ _ _
  have g2 : fp (.slice A2 m2 c2) = fp p.v2 := by rw [e2]; exact fp_shorter _ _ _ _
  have far : ∀ k, k ≠ p.blk → ((w.setCell ⟨p.blk, 1, none⟩ (.slice A2 m2 c2)).setCell ⟨p.blk, 0, none⟩ (.slice A1 m1 c1)).heap[k]? = w.heap[k]? := fun k hk => by
    rw [Below.heap_setCell _ ⟨p.blk, 0, none⟩ _ k hk, Below.heap_setCell _ ⟨p.blk, 1, none⟩ _ k hk]
  have t1 : (f.safe.take m1).length = m1 := by rw [List.length_take]; omega
  have t2 : (f.wait.take m2).length = m2 := by rw [List.length_take]; omega
  refine ⟨⟨h.lo, blk_set (blk_set h.blk 1 _) 0 _, ?_, ?_, fun k hk => ?_⟩, ?_, fun k hk hn => far k fun e => hn (.inl e)⟩
  · show Own _ base _ 1 (.slice A1 m1 c1) (f.safe.take m1).length (bv (f.safe.take m1))
    rw [t1, bv_take]
    exact s1.move fun k hk => far k fun e => h.blk_ne.1 (by rw [← g1, hk, e])
  · show Own _ base _ 1 (.slice A2 m2 c2) (f.wait.take m2).length (bv (f.wait.take m2))
    rw [t2, bv_take]
    exact s2.move fun k hk => far k fun e => h.blk_ne.2 (by rw [← g2, hk, e])
  · have hk : fp (.slice A1 m1 c1) = some k := hk
    show fp (.slice A2 m2 c2) ≠ some k
    rw [g2]
    exact h.ne k (g1 ▸ hk)
  · rintro k (rfl | hk | hk)
    · exact .inl (.inl rfl)
    · exact .inl (.inr (.inl (g1 ▸ hk)))
    · exact .inl (.inr (.inr (g2 ▸ hk)))
end
set_option maxRecDepth 100000 in
set_option maxHeartbeats 1000000 in
theorem Truncate_any (d base : Nat) (s : DS) (L : Nat → Prop) (n : ByteArray) (k : Int) (w : World) (h : PDisk w base d s L) (hs : s.fit) (hn : n.size ≤ maxLen) :
    Calls Try.prog 18 #[.pointer (some ⟨d, 0, none⟩), .string n, .int .i64 k] w fun e w' => e = .returned (.int .i64 (s.trunc n k).2) ∧ After w w' base d (s.trunc n k).1 L := by
  obtain ⟨mb, g, D, hk⟩ := h.k
  have H := Lib.hid h
  have HK := Lib.hid hk
  have HS := Lib.hid hs
  have HT := Lib.hid (there_any d base mb s g D n w hk.q hk.o hn)
  clear h hs hn hk
  by_cases hb : s.bad n = 0
  · cases hx : findF n s.fs with
    | none =>
      have HV := Lib.hid (there_none (g := g) hb hx)
      have HW := Lib.hid (with_none hb hx fun f => if k < 0 ∨ (f.len : Int) < k then (s, 3) else s.fin fun t => { t with fs := updF (truncF n k f) t.fs })
      clear hb hx
      go_enter Try.func18, Try.ntmps18
      go_wp2_with (go_at_call 38; refine HT.out.mono ?_; rw [HV.out]; rintro e w' ⟨rfl, rfl⟩)
      go_ret
      unfold DS.trunc
      rw [HW.out]
      exact ⟨rfl, After.same H.out⟩
    | some f =>
      have HV := Lib.hid (there_some (g := g) hb hx)
      have HW := Lib.hid (with_some hb hx fun f => if k < 0 ∨ (f.len : Int) < k then (s, 3) else s.fin fun t => { t with fs := updF (truncF n k f) t.fs })
      have HX := Lib.hid hx
      clear hb hx
      obtain ⟨hfm, hfn⟩ := findF_some HX.out
      have hp : FileP w base (g n) f := by rw [← hfn]; exact HK.out.q.file f hfm
      have HP := Lib.hid hp
      obtain ⟨A1, k1, A2, k2, e1, e2, q1, q2⟩ := fileCells hp
      have hlen := len_le_total hfm
      have hT := HS.out.bytes
      have hlen' : f.safe.length + f.wait.length ≤ 1073741824 := by unfold DF.len at hlen; omega
      have hc1 : f.safe.length ≤ k1 := by
        obtain ⟨A, c, e, hc⟩ := hp.safe.slice_
        rw [e1] at e; injection e with _ _ e; omega
      have hc2 : f.wait.length ≤ k2 := by
        obtain ⟨A, c, e, hc⟩ := hp.wait.slice_
        rw [e2] at e; injection e with _ _ e; omega
      have HE1 := Lib.hid e1
      have HE2 := Lib.hid e2
      have HFN := Lib.hid hfn
      have HFM := Lib.hid hfm
      clear hp hlen hT hfm e1 e2 hfn
      by_cases hk0 : k < 0
      · have hd0 : decide (k < 0) = true := by simpa using hk0
        have HZ := Lib.hid hk0
        clear hk0
        go_enter Try.func18, Try.ntmps18
        go_wp2_with (go_at_call 38; refine HT.out.mono ?_; rw [HV.out]; rintro e w' ⟨rfl, rfl⟩)
        go_quiet (fail)
        go_wp2_with fail
        go_ret
        unfold DS.trunc
        have e := HW.out
        rw [if_pos (.inl HZ.out)] at e
        rw [e]
        exact ⟨rfl, (After.same H.out).drewN _⟩
      · have hd0 : decide (k < 0) = false := by simpa using hk0
        have hsum : IntKind.i64.wrap ((f.safe.length : Int) + (f.wait.length : Int)) = (f.safe.length : Int) + (f.wait.length : Int) := IntWalk.i64_in _ (by omega)
        by_cases hk3 : (f.safe.length : Int) + (f.wait.length : Int) < k
        · have hd3 : decide ((f.safe.length : Int) + (f.wait.length : Int) < k) = true := by simpa using hk3
          have HZ : Hid ((f.len : Int) < k) := by unfold DF.len; show _ < _; omega
          clear hk0 hk3
          go_enter Try.func18, Try.ntmps18
          go_wp2_with (go_at_call 38; refine HT.out.mono ?_; rw [HV.out]; rintro e w' ⟨rfl, rfl⟩)
          go_quiet (fail)
          go_wp2_with fail
          go_ret
          unfold DS.trunc
          have e := HW.out
          rw [if_pos (.inr HZ.out)] at e
          rw [e]
          exact ⟨rfl, (After.same H.out).drewN _⟩
        · have hd3 : decide ((f.safe.length : Int) + (f.wait.length : Int) < k) = false := by simpa using hk3
          have HZ : Hid (¬ (k < 0 ∨ (f.len : Int) < k)) := by unfold DF.len; show ¬ _; omega
          have hkl : 0 ≤ k ∧ k ≤ 1073741824 := by omega
          obtain ⟨hkl0, hkl1⟩ := hkl
          have HK3 := Lib.hid hk3
          clear hk0 hk3
          cases hg : s.goes with
          | true =>
            have HF := Lib.hid (fin_goes hg fun t => { t with fs := updF (truncF n k f) t.fs })
            have HG := Lib.hid hg
            clear hg
            go_enter Try.func18, Try.ntmps18
            go_wp2_with (go_at_call 38; refine HT.out.mono ?_; rw [HV.out]; rintro e w' ⟨rfl, rfl⟩)
            go_quiet (fail)
            go_wp2_with first
              | (go_at_call 36; refine (raw_k d base mb s g D L _ (HK.out.below (below_drewN' (Below.refl _ _) _)) HS.out.count HS.out.left).mono ?_; rw [HG.out]; rintro e w1 ⟨rfl, hk1, hc1⟩; have HK1 := Lib.hid hk1; have HC1 := Lib.hid hc1; clear hk1 hc1)
              | (go_at_call 37; refine (ends_any d base s.raw L _ HK1.out.p HS.out.raw.1 HS.out.raw.2).mono ?_; rintro e w2 ⟨rfl, ha⟩; have HA := Lib.hid ha; clear ha)
            go_ret
            unfold DS.trunc
            have e := HW.out
            rw [if_neg HZ.out, HF.out] at e
            rw [e]
            exact ⟨rfl, After.then (s1 := s) (((Chg.refl _ _).drewN _).trans HC1.out) HK.out.lo H.out.base_le HA.out⟩
          | false =>
            have HF := Lib.hid (fin_stays hg fun t => { t with fs := updF (truncF n k f) t.fs })
            have HG := Lib.hid hg
            clear hg
            have hsub : IntKind.i64.wrap (k - (f.safe.length : Int)) = k - (f.safe.length : Int) := IntWalk.i64_in _ (by omega)
            obtain ⟨m2, hm2⟩ : ∃ m : Nat, max 0 (k - (f.safe.length : Int)) = (m : Int) := ⟨(max 0 (k - (f.safe.length : Int))).toNat, by omega⟩
            obtain ⟨m1, hm1⟩ : ∃ m : Nat, min k (f.safe.length : Int) = (m : Int) := ⟨(min k (f.safe.length : Int)).toNat, by omega⟩
            have hl1 : m1 ≤ f.safe.length := by omega
            have hl2 : m2 ≤ f.wait.length := by have := HK3.out; omega
            have hi1 : (m1 : Int) ≤ (k1 : Int) := by omega
            have hi2 : (m2 : Int) ≤ (k2 : Int) := by omega
            have HTF : Hid (truncF n k f = ⟨n, f.safe.take m1, f.wait.take m2⟩) := by
              show _ = _
              unfold truncF
              congr 1
              · rw [List.take_eq_take_iff]; omega
              · rw [List.take_eq_take_iff]; omega
            go_enter Try.func18, Try.ntmps18
            go_wp2_with (go_at_call 38; refine HT.out.mono ?_; rw [HV.out]; rintro e w' ⟨rfl, rfl⟩)
            go_quiet (fail)
            go_wp2_with first
              | (go_at_call 36; refine (raw_k d base mb s g D L _ (HK.out.below (below_drewN' (Below.refl _ _) _)) HS.out.count HS.out.left).mono ?_; rw [HG.out]; rintro e w1 ⟨rfl, hk1, hc1⟩; have HK1 := Lib.hid hk1; have HC1 := Lib.hid hc1; clear hk1 hc1)
            have hp1 : FileP w1 base (g n) f := by rw [← HFN.out]; exact HK1.out.q.file f HFM.out
            have HP1 := Lib.hid hp1
            have y1 : w1.cell? ⟨(g n).blk, 0, none⟩ = some (.slice A1 f.safe.length k1) := (blk_cell hp1.blk 0).trans (by rw [HE1.out]; rfl)
            have y2 : w1.cell? ⟨(g n).blk, 1, none⟩ = some (.slice A2 f.wait.length k2) := (blk_cell hp1.blk 1).trans (by rw [HE2.out]; rfl)
            have z1 := blk_frozen hp1.blk 0
            have z2 := blk_frozen hp1.blk 1
            have hbl := blk_lt hp1.blk
            clear hp1 hd0 hd3 hsum q1 q2
            have HY0 : Hid (w1.drew.cell? ⟨(g n).blk, 0, none⟩ = some (.slice A1 f.safe.length k1) ∧ w1.drew.cell? ⟨(g n).blk, 1, none⟩ = some (.slice A2 f.wait.length k2)) := Lib.hid ⟨y1, y2⟩
            refine wp_region_noPanic ?_
            refine wp_region_ord (fun w' => w'.cell? ⟨(g n).blk, 0, none⟩ = some (.slice A1 f.safe.length k1) ∧ w'.cell? ⟨(g n).blk, 1, none⟩ = some (.slice A2 f.wait.length k2))
              [(0,true),(1,true),(2,true),(3,true),(4,true),(5,true),(6,true),(7,true),(8,true),(9,true),(10,true),(11,true),(12,true),(13,true),(14,true),(15,true),(16,false)] [14,15,16] (by kernel_rfl) (by kernel_rfl) (fun _ _ _ _ _ h => h) ?_
            iterate 14
              refine wpOrd_soft (v := ?_) (by rw [List.getElem?_toArray]; exact rfl) (by rfl) (by rfl) (fun w' hS => ?_) HY0.out ?_
              rotate_left
              · obtain ⟨b0, b1⟩ := hS
                go_simp
                try with_reducible rfl
              rotate_left
              try simp only [Act.put, List.setIfInBounds_toArray, List.set_cons_zero, List.set_cons_succ]
            iterate 2
              refine wpOrd_free (v := ?_) (by rw [List.getElem?_toArray]; exact rfl) (by rfl) (by rfl) (fun w' => ?_) ?_
              rotate_left
              · go_simp
                try with_reducible rfl
              rotate_left
              try simp only [Act.put, List.setIfInBounds_toArray, List.set_cons_zero, List.set_cons_succ]
            refine wpOrd_hard (by rw [List.getElem?_toArray]; exact rfl) (fun K hK => ?_)
            go_simp
            refine hK.out _ _ (fun h => absurd h (by decide)) ?_
            clear hK K
            try simp only [Act.put, List.setIfInBounds_toArray, List.set_cons_zero, List.set_cons_succ]
            refine wpOrd_done (NoPanic.normal ?_)
            go_wp2_with fail
            have x1 : (w1.drew.setCell ⟨(g n).blk, 1, none⟩ (.slice A2 m2 k2)).cell? ⟨(g n).blk, 0, none⟩ = some (.slice A1 f.safe.length k1) := by
              have := blk_cell (blk_set HP1.out.blk 1 (.slice A2 m2 k2)) 0
              rw [HE1.out] at this
              exact this
            have x2 : (w1.drew.setCell ⟨(g n).blk, 1, none⟩ (.slice A2 m2 k2)).frozen? ⟨(g n).blk, 0, none⟩ = false := blk_frozen (blk_set HP1.out.blk 1 (.slice A2 m2 k2)) 0
            have HX0 : Hid ((w1.drew.setCell ⟨(g n).blk, 1, none⟩ (.slice A2 m2 k2)).drew.cell? ⟨(g n).blk, 0, none⟩ = some (.slice A1 f.safe.length k1) ∧ True) := Lib.hid ⟨x1, trivial⟩
            refine wp_region_noPanic ?_
            refine wp_region_ord (fun w' => w'.cell? ⟨(g n).blk, 0, none⟩ = some (.slice A1 f.safe.length k1) ∧ True)
              [(0,true),(1,true),(2,true),(3,true),(4,true),(5,true),(6,true),(7,true),(8,true),(9,true),(10,true),(11,true),(12,true),(13,true),(14,true),(15,false)] [13,14,15] (by kernel_rfl) (by kernel_rfl) (fun _ _ _ _ _ h => h) ?_
            iterate 13
              refine wpOrd_soft (v := ?_) (by rw [List.getElem?_toArray]; exact rfl) (by rfl) (by rfl) (fun w' hS => ?_) HX0.out ?_
              rotate_left
              · obtain ⟨b0, _⟩ := hS
                go_simp
                try with_reducible rfl
              rotate_left
              try simp only [Act.put, List.setIfInBounds_toArray, List.set_cons_zero, List.set_cons_succ]
            iterate 2
              refine wpOrd_free (v := ?_) (by rw [List.getElem?_toArray]; exact rfl) (by rfl) (by rfl) (fun w' => ?_) ?_
              rotate_left
              · go_simp
                try with_reducible rfl
              rotate_left
              try simp only [Act.put, List.setIfInBounds_toArray, List.set_cons_zero, List.set_cons_succ]
            refine wpOrd_hard (by rw [List.getElem?_toArray]; exact rfl) (fun K hK => ?_)
            go_simp
            refine hK.out _ _ (fun h => absurd h (by decide)) ?_
            clear hK K
            try simp only [Act.put, List.setIfInBounds_toArray, List.set_cons_zero, List.set_cons_succ]
            refine wpOrd_done (NoPanic.normal ?_)
            go_wp2_with fail
            go_ret
            unfold DS.trunc
            have e := HW.out
            rw [if_neg HZ.out, HF.out, HTF.out] at e
            have e' : (s.with n fun f => if k < 0 ∨ (f.len : Int) < k then (s, 3) else s.fin fun t => { t with fs := updF (truncF n k f) t.fs }) = _ := e
            rw [e']
            obtain ⟨t1, t2, t3⟩ := turn_trunc HP1.out n HE1.out HE2.out m1 m2 hl1 hl2
            refine ⟨rfl, After.then (s1 := s) (((Chg.refl _ _).drewN _).trans HC1.out) HK.out.lo H.out.base_le ?_⟩
            exact (After.drew (After.drew (HK1.out.upd HS.out.raw.1 f ⟨n, f.safe.take m1, f.wait.take m2⟩ ⟨(g n).blk, .slice A1 m1 k1, .slice A2 m2 k2⟩ HX.out t1 rfl t2 t3 (by simp) rfl rfl rfl)))
  · have HV := Lib.hid (there_bad (g := g) hb)
    have HW := Lib.hid (with_bad hb fun f => if k < 0 ∨ (f.len : Int) < k then (s, 3) else s.fin fun t => { t with fs := updF (truncF n k f) t.fs })
    have hd : (s.bad n != 0) = true := by simp [hb]
    clear hb
    go_enter Try.func18, Try.ntmps18
    go_wp2_with (go_at_call 38; refine HT.out.mono ?_; rw [HV.out]; rintro e w' ⟨rfl, rfl⟩)
    go_ret
    unfold DS.trunc
    rw [HW.out]
    exact ⟨rfl, After.same H.out⟩
end Go.Proofs.Ytfdcibghcncbmaa
