/- The program's disk: Sync. -/
import Derived.Test.YtfdcibghcncbmaaD7
namespace Go.Proofs.Ytfdcibghcncbmaa
open Go.RowKit Go.Maps Go.Shelf

section
variable {w w' : World} {base d mb : Nat} {s : DS} {g : ByteArray → PF} {D : DataW Unit} {L : Nat → Prop}
/-- What a raw write leaves is what the call leaves. -/
theorem After.of_k {w1 : World} {s1 : DS} (h0 : PDisk w base d s L) (h : KDisk w1 base d s1 mb g D L) (hc : Chg L w w1) : After w w1 base d s1 L := After.mk' h0 h.p hc
theorem After.then {w1 w2 : World} {s1 s2 : DS} (hs : Chg L w w1) (hz : ∀ k, L k → base ≤ k ∧ k < w.heap.size) (hb : base ≤ w.heap.size) (k : After w1 w2 base d s2 L) : After w w2 base d s2 L := by
  refine ⟨k.disk.sub (fun i hi => ?_) (fun i hi => ?_), hs.trans k.chg⟩
  · rcases hi with hi | hi
    · exact .inl hi
    · exact .inr ⟨Nat.le_trans hs.size hi.1, hi.2⟩
  · have h1 := hs.size
    have h2 := k.chg.size
    rcases hi with hi | hi
    · have := hz i hi; omega
    · omega
theorem After.below {w2 : World} {s' : DS} (h : After w w' base d s' L) (hb : Below w'.heap.size w' w2) : After w w2 base d s' L :=
  ⟨(h.disk.below hb).sub (fun k hk => by rcases hk with hk | hk; exact .inl hk; exact .inr ⟨hk.1, Nat.lt_of_lt_of_le hk.2 hb.size⟩) (fun k hk => by
    have h1 := h.disk.base_le
    rcases hk with hk | hk
    · have := h.disk.lt (.inl hk); have := hb.size; omega
    · refine ⟨?_, hk.2⟩
      rcases Nat.lt_or_ge k w'.heap.size with h2 | h2
      · exact (h.disk.lt (.inr ⟨hk.1, h2⟩)).1
      · omega), h.chg.below hb⟩
theorem After.drew {s' : DS} (h : After w w' base d s' L) : After w w'.drew base d s' L := ⟨h.disk.below (Below.refl _ _).drew, h.chg.drew⟩
/-- A file is another one of the same name. -/
theorem KDisk.upd (h : KDisk w base d s mb g D L) (hr : Rising s.fs) (f f' : DF) (p' : PF) (hf : findF f'.name s.fs = some f) (hp : FileP w' base p' f') (hb : p'.blk = (g f'.name).blk)
    (hnew : ∀ k, p'.has k → (g f'.name).has k ∨ w.heap.size ≤ k) (hm : ∀ k, k < w.heap.size → ¬ (g f'.name).has k → w'.heap[k]? = w.heap[k]?) (hs : w.heap.size ≤ w'.heap.size) (e1 : w'.os = w.os) (e2 : w'.tape = w.tape) (e3 : w'.output = w.output) :
    After w w' base d { s with fs := updF f' s.fs } L := by
  obtain ⟨hfm, hfn⟩ := findF_some hf
  have hL : ∀ k, (g f'.name).has k → L k := fun k hk => h.l k (.inr (.inr ⟨f, hfm, by rw [hfn]; exact hk⟩))
  have hms : mb < w.heap.size := World.ownsMap.lt h.o
  have hmb : ¬ (g f'.name).has mb := fun hk => by rw [← hfn] at hk; exact (h.q.away f hfm mb hk).2 rfl
  have hbase : base ≤ w.heap.size := by have := h.lo d h.has; omega
  refine ⟨⟨⟨mb, _, D, h.q.upd h.o hr f f' p' hf hp hb hnew hm, h.o.move (hm mb hms hmb), fun k hk => ?_, fun k hk => ?_⟩⟩, ⟨e1, e2, e3, hs, fun k hk hn => hm k hk fun h1 => hn (hL k h1)⟩⟩
  · rcases hk with rfl | rfl | ⟨y, hy, hk⟩
    · exact .inl h.has
    · exact .inl (h.l _ (.inr (.inl rfl)))
    · obtain ⟨z, hz, rfl⟩ := List.mem_map.1 hy
      by_cases hn : neq z.name f'.name = true
      · have hk : (if neq (if neq z.name f'.name = true then f' else z).name f'.name = true then p' else _ : PF).has k := hk
        rw [if_pos hn, if_pos (neq_self _)] at hk
        rcases hnew k hk with h1 | h1
        · exact .inl (hL k h1)
        · exact .inr ⟨h1, (hp.lt hk).2⟩
      · have hk : (if neq (if neq z.name f'.name = true then f' else z).name f'.name = true then p' else _ : PF).has k := hk
        rw [if_neg hn, if_neg hn] at hk
        exact .inl (h.l k (.inr (.inr ⟨z, hz, hk⟩)))
  · rcases hk with hk | hk
    · have := h.lo k hk; omega
    · omega
end
set_option maxHeartbeats 400000 in
theorem ends_any (d base : Nat) (s : DS) (L : Nat → Prop) (w : World) (h : PDisk w base d s L) (hr : Rising s.fs) (ht : total s.fs ≤ 1073741824) :
    Calls Try.prog 37 #[.pointer (some ⟨d, 0, none⟩)] w fun e w' => e = .returned (.int .i64 20) ∧ After w w' base d (s.off s.keep) L := by
  obtain ⟨mb, _, _, _, _, _, c5, hf, hlt⟩ := h.cells
  have HO := Lib.hid (Off_any d base s L s.keep w h hr ht)
  clear h hr ht hf
  go_enter Try.func37, Try.ntmps37
  go_wp2_with (go_at_call 15; refine HO.out.mono ?_; rintro e w' ⟨rfl, ha⟩; have HA := Lib.hid ha; clear ha)
  go_ret
  exact ⟨rfl, HA.out⟩
/-- The raw write's two ways. -/
theorem fin_goes {s : DS} (h : s.goes = true) (f : DS → DS) : s.fin f = (s.raw.off s.raw.keep, 20) := by unfold DS.fin; rw [if_pos h]; rfl
theorem fin_stays {s : DS} (h : s.goes = false) (f : DS → DS) : s.fin f = (f s.raw, 0) := by unfold DS.fin; rw [h]; rfl
theorem with_bad {s : DS} {n : ByteArray} (h : s.bad n ≠ 0) (k : DF → DS × Int) : s.with n k = (s, s.bad n) := by unfold DS.with; rw [if_pos h]
theorem with_none {s : DS} {n : ByteArray} (h : s.bad n = 0) (hf : findF n s.fs = none) (k : DF → DS × Int) : s.with n k = (s, 21) := by unfold DS.with; rw [if_neg (by simp [h]), hf]
theorem with_some {s : DS} {n : ByteArray} {f : DF} (h : s.bad n = 0) (hf : findF n s.fs = some f) (k : DF → DS × Int) : s.with n k = k f := by unfold DS.with; rw [if_neg (by simp [h]), hf]
theorem there_bad {s : DS} {g : ByteArray → PF} {n : ByteArray} (h : s.bad n ≠ 0) : thereV s g n = (.pointer none, s.bad n) := by unfold thereV; rw [if_pos h]
theorem there_none {s : DS} {g : ByteArray → PF} {n : ByteArray} (h : s.bad n = 0) (hf : findF n s.fs = none) : thereV s g n = (.pointer none, 21) := by unfold thereV; rw [if_neg (by simp [h]), hf]
theorem there_some {s : DS} {g : ByteArray → PF} {n : ByteArray} {f : DF} (h : s.bad n = 0) (hf : findF n s.fs = some f) : thereV s g n = (.pointer (some ⟨(g n).blk, 0, none⟩), 0) := by unfold thereV; rw [if_neg (by simp [h]), hf]; rfl

/-- What the calls ask of a disk's numbers. -/
structure DS.fit (s : DS) : Prop where
  rising : Rising s.fs
  bytes : total s.fs ≤ 1073741824
  count : 0 ≤ s.count ∧ s.count ≤ 1073741824
  left : 0 ≤ s.left ∧ s.left ≤ 9223372036854775807
theorem DS.fit.raw {s : DS} (h : s.fit) : Rising s.raw.fs ∧ total s.raw.fs ≤ 1073741824 := ⟨h.rising, h.bytes⟩
set_option maxRecDepth 100000 in
set_option maxHeartbeats 1000000 in
theorem Sync_any (d base : Nat) (s : DS) (L : Nat → Prop) (n : ByteArray) (w : World) (h : PDisk w base d s L) (hs : s.fit) (hn : n.size ≤ maxLen) :
    Calls Try.prog 13 #[.pointer (some ⟨d, 0, none⟩), .string n] w fun e w' => e = .returned (.int .i64 (s.sync n).2) ∧ After w w' base d (s.sync n).1 L := by
  obtain ⟨mb, g, D, hk⟩ := h.k
  have H := Lib.hid h
  have HK := Lib.hid hk
  have HS := Lib.hid hs
  have HT := Lib.hid (there_any d base mb s g D n w hk.q hk.o hn)
  clear h hs hn hk
  by_cases hb : s.bad n = 0
  · cases hx : findF n s.fs with
    | none =>
      have HV := Lib.hid (there_none (g := g) hb hx)
      have HW := Lib.hid (with_none hb hx fun f => s.fin fun t => { t with fs := updF ⟨n, f.safe ++ f.wait, []⟩ t.fs })
      clear hb hx
      go_enter Try.func13, Try.ntmps13
      go_wp2_with (go_at_call 38; refine HT.out.mono ?_; rw [HV.out]; rintro e w' ⟨rfl, rfl⟩)
      go_ret
      unfold DS.sync
      rw [HW.out]
      exact ⟨rfl, After.same H.out⟩
    | some f =>
      have HV := Lib.hid (there_some (g := g) hb hx)
      have HW := Lib.hid (with_some hb hx fun f => s.fin fun t => { t with fs := updF ⟨n, f.safe ++ f.wait, []⟩ t.fs })
      have HX := Lib.hid hx
      clear hb hx
      cases hg : s.goes with
      | true =>
        have HF := Lib.hid (fin_goes hg fun t => { t with fs := updF ⟨n, f.safe ++ f.wait, []⟩ t.fs })
        have HG := Lib.hid hg
        clear hg
        go_enter Try.func13, Try.ntmps13
        go_wp2_with first
          | (go_at_call 38; refine HT.out.mono ?_; rw [HV.out]; rintro e w' ⟨rfl, rfl⟩)
          | (go_at_call 36; refine (raw_k d base mb s g D L _ HK.out HS.out.count HS.out.left).mono ?_; rw [HG.out]; rintro e w1 ⟨rfl, hk1, hc1⟩; have HK1 := Lib.hid hk1; have HC1 := Lib.hid hc1; clear hk1 hc1)
          | (go_at_call 37; refine (ends_any d base s.raw L _ HK1.out.p HS.out.raw.1 HS.out.raw.2).mono ?_; rintro e w2 ⟨rfl, ha⟩; have HA := Lib.hid ha; clear ha)
        go_ret
        unfold DS.sync
        rw [HW.out, HF.out]
        exact ⟨rfl, After.then (s1 := s) HC1.out HK.out.lo H.out.base_le HA.out⟩
      | false =>
        have HF := Lib.hid (fin_stays hg fun t => { t with fs := updF ⟨n, f.safe ++ f.wait, []⟩ t.fs })
        have HG := Lib.hid hg
        clear hg
        go_enter Try.func13, Try.ntmps13
        go_wp2_with first
          | (go_at_call 38; refine HT.out.mono ?_; rw [HV.out]; rintro e w' ⟨rfl, rfl⟩)
          | (go_at_call 36; refine (raw_k d base mb s g D L _ HK.out HS.out.count HS.out.left).mono ?_; rw [HG.out]; rintro e w1 ⟨rfl, hk1, hc1⟩; have HK1 := Lib.hid hk1; have HC1 := Lib.hid hc1; clear hk1 hc1)
        obtain ⟨hfm, hfn⟩ := findF_some HX.out
        have hp : FileP w1 base (g n) f := by rw [← hfn]; exact HK1.out.q.file f hfm
        have HP := Lib.hid hp
        obtain ⟨A1, k1, A2, k2, e1, e2, q1, q2⟩ := fileCells hp
        have hlen := len_le_total hfm
        have hT := HS.out.bytes
        have hlen' : f.safe.length + f.wait.length ≤ 1073741824 := by unfold DF.len at hlen; omega
        have HOW1 : Hid (Own w1.drew base 5 1 (.slice A1 f.safe.length k1) f.safe.length (bv f.safe)) := Lib.hid (by have := hp.safe; rw [e1] at this; exact this)
        have HOW2 : Hid (Own w1.drew base 5 1 (.slice A2 f.wait.length k2) f.wait.length (bv f.wait)) := Lib.hid (by have := hp.wait; rw [e2] at this; exact this)
        have HBS : Hid (base ≤ w1.drew.heap.size) := Lib.hid (by have := hp.lo; have := blk_lt hp.blk; show base ≤ w1.heap.size; omega)
        have HS0 : Hid (w1.drew.cell? ⟨(g n).blk, 0, none⟩ = some (.slice A1 f.safe.length k1) ∧ w1.drew.cell? ⟨(g n).blk, 1, none⟩ = some (.slice A2 f.wait.length k2)) := Lib.hid ⟨q1, q2⟩
        have HE1 := Lib.hid e1
        have HE2 := Lib.hid e2
        have HFN := Lib.hid hfn
        clear hp q1 q2 hlen hT hfm e1 e2 hfn
        refine wp_region_noPanic ?_
        refine wp_region_ord (fun w' => w'.cell? ⟨(g n).blk, 0, none⟩ = some (.slice A1 f.safe.length k1) ∧ w'.cell? ⟨(g n).blk, 1, none⟩ = some (.slice A2 f.wait.length k2))
          [(1,true),(0,true),(2,true),(3,true),(4,true),(5,true),(6,true),(7,true),(8,true),(9,true),(10,false),(11,true),(12,true),(13,false),(14,true),(15,true),(16,false)] [1,11,12,13,14,15,16] (by kernel_rfl) (by kernel_rfl) (fun _ _ _ _ _ h => h) ?_
        iterate 1
          refine wpOrd_free (v := ?_) (by rw [List.getElem?_toArray]; exact rfl) (by rfl) (by rfl) (fun w' => ?_) ?_
          rotate_left
          · go_simp
            try with_reducible rfl
          rotate_left
          try simp only [Act.put, List.setIfInBounds_toArray, List.set_cons_zero, List.set_cons_succ]
        iterate 9
          refine wpOrd_soft (v := ?_) (by rw [List.getElem?_toArray]; exact rfl) (by rfl) (by rfl) (fun w' hS => ?_) HS0.out ?_
          rotate_left
          · obtain ⟨b0, b1⟩ := hS
            go_simp
            try with_reducible rfl
          rotate_left
          try simp only [Act.put, List.setIfInBounds_toArray, List.set_cons_zero, List.set_cons_succ]
        refine wpOrd_hard (by rw [List.getElem?_toArray]; exact rfl) (fun K hK => ?_)
        rw [if_pos (by rfl)]
        refine oper_append_any w1.drew _ _ _ rfl base 5 (.int .u8 0) 1 1 Try.underlying29 infoB rfl (by decide) _ f.safe.length (bv f.safe) rfl HOW1.out A2 f.wait.length k2 (bv f.wait) rfl (by rw [bv_len]; omega) (HOW2.out.cells) (bv_one _) (by omega) (by omega) HBS.out ?_
        intro v' w2 ho2 hg2 hf2
        obtain ⟨A3, k3, rfl, _⟩ := ho2.slice_
        have HO2 := Lib.hid ho2
        have HG2 := Lib.hid hg2
        have HF2 := Lib.hid hf2
        have hb2 : w2.heap[(g n).blk]? = some (.cells #[(g n).v1, (g n).v2] 57 (0, 0)) := (hg2.block _ (blk_lt HP.out.blk) (fun e => HP.out.blk_ne.1 (by rw [HE1.out]; exact e.symm))).trans HP.out.blk
        have q1 := blk_cell hb2 0
        have q2 := blk_cell hb2 1
        have f1 := blk_frozen hb2 0
        have f2 := blk_frozen hb2 1
        have hbl := blk_lt hb2
        simp only [HE1.out, HE2.out] at q1 q2
        refine hK.out _ _ (fun _ => ⟨q1, q2⟩) ?_
        clear hK K ho2 hg2 hf2 hb2
        try simp only [Act.put, List.setIfInBounds_toArray, List.set_cons_zero, List.set_cons_succ]
        iterate 2
          refine wpOrd_free (v := ?_) (by rw [List.getElem?_toArray]; exact rfl) (by rfl) (by rfl) (fun w' => ?_) ?_
          rotate_left
          · go_simp
            try with_reducible rfl
          rotate_left
          try simp only [Act.put, List.setIfInBounds_toArray, List.set_cons_zero, List.set_cons_succ]
        refine wpOrd_hard (by rw [List.getElem?_toArray]; exact rfl) (fun K hK => ?_)
        go_simp
        refine hK.out _ _ (fun h => absurd h (by decide)) ?_
        clear hK K
        try simp only [Act.put, List.setIfInBounds_toArray, List.set_cons_zero, List.set_cons_succ]
        iterate 2
          refine wpOrd_free (v := ?_) (by rw [List.getElem?_toArray]; exact rfl) (by rfl) (by rfl) (fun w' => ?_) ?_
          rotate_left
          · go_simp
            try with_reducible rfl
          rotate_left
          try simp only [Act.put, List.setIfInBounds_toArray, List.set_cons_zero, List.set_cons_succ]
        refine wpOrd_hard (by rw [List.getElem?_toArray]; exact rfl) (fun K hK => ?_)
        go_simp
        refine hK.out _ _ (fun h => absurd h (by decide)) ?_
        clear hK K
        try simp only [Act.put, List.setIfInBounds_toArray, List.set_cons_zero, List.set_cons_succ]
        refine wpOrd_done (NoPanic.normal ?_)
        go_wp2_with fail
        go_ret
        unfold DS.sync
        rw [HW.out, HF.out]
        have el : (f.safe ++ f.wait).length = f.safe.length + f.wait.length := List.length_append
        have hgg : w1.grownBy w2 (fp (g n).v1) := by rw [HE1.out]; exact ⟨HG2.out.os, HG2.out.tape, HG2.out.output, HG2.out.size, HG2.out.block⟩
        obtain ⟨t1, t2, t3⟩ := turn_safe HP.out hgg n (.slice A3 (f.safe.length + f.wait.length) k3) (f.safe ++ f.wait) (by rw [bv_app, el]; exact HO2.out) (by rw [HE1.out]; exact HF2.out)
        refine ⟨rfl, After.then (s1 := s) HC1.out HK.out.lo H.out.base_le ?_⟩
        exact HK1.out.upd HS.out.raw.1 f ⟨n, f.safe ++ f.wait, []⟩ _ HX.out t1 rfl t2 t3 (by simpa using hgg.size) hgg.os hgg.tape hgg.output
  · have HV := Lib.hid (there_bad (g := g) hb)
    have HW := Lib.hid (with_bad hb fun f => s.fin fun t => { t with fs := updF ⟨n, f.safe ++ f.wait, []⟩ t.fs })
    have hd : (s.bad n != 0) = true := by simp [hb]
    clear hb
    go_enter Try.func13, Try.ntmps13
    go_wp2_with (go_at_call 38; refine HT.out.mono ?_; rw [HV.out]; rintro e w' ⟨rfl, rfl⟩)
    go_ret
    unfold DS.sync
    rw [HW.out]
    exact ⟨rfl, After.same H.out⟩
end Go.Proofs.Ytfdcibghcncbmaa
