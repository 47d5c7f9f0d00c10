/- The program's disk: Append. -/
import Derived.Test.YtfdcibghcncbmaaD10
namespace Go.Proofs.Ytfdcibghcncbmaa
open Go.RowKit Go.Maps Go.Shelf

theorem app_bad {s : DS} {n : ByteArray} (h : s.bad n ≠ 0) (b : Bs) : s.append n b = (s, s.bad n) := by unfold DS.append; rw [if_pos h]
theorem app_long {s : DS} {n : ByteArray} (h : s.bad n = 0) (b : Bs) (h1 : ((findF n s.fs).getD ⟨n, [], []⟩).len + b.length > 1048576) : s.append n b = (s, 3) := by
  unfold DS.append; rw [if_neg (by simp [h])]; simp only []; rw [if_pos h1]
theorem app_full {s : DS} {n : ByteArray} (h : s.bad n = 0) (b : Bs) (h1 : ¬ ((findF n s.fs).getD ⟨n, [], []⟩).len + b.length > 1048576) (h2 : ((findF n s.fs).isNone = true ∧ 16 ≤ s.fs.length) ∨ s.room < (total s.fs + b.length : Nat)) : s.append n b = (s, 22) := by
  unfold DS.append; rw [if_neg (by simp [h])]; simp only []; rw [if_neg h1, if_pos h2]
theorem app_ok {s : DS} {n : ByteArray} (h : s.bad n = 0) (b : Bs) (h1 : ¬ ((findF n s.fs).getD ⟨n, [], []⟩).len + b.length > 1048576) (h2 : ¬ (((findF n s.fs).isNone = true ∧ 16 ≤ s.fs.length) ∨ s.room < (total s.fs + b.length : Nat))) :
    s.append n b = DS.fin { s with fs := putF ⟨n, ((findF n s.fs).getD ⟨n, [], []⟩).safe, ((findF n s.fs).getD ⟨n, [], []⟩).wait ++ b⟩ s.fs } id := by
  unfold DS.append; rw [if_neg (by simp [h])]; simp only []; rw [if_neg h1, if_neg h2]
set_option maxRecDepth 100000 in
set_option maxHeartbeats 2000000 in
/-- A file that is there. -/
theorem Append_some (d base mb : Nat) (s : DS) (g : ByteArray → PF) (D : DataW Unit) (L : Nat → Prop) (n : ByteArray) (A : Option Addr) (b : Bs) (c : Nat) (w : World) (hk : KDisk w base d s mb g D L) (hs : s.fit) (hn : n.size ≤ maxLen) (hb : Src w L A b)
    (hroom : -9223372036854775808 ≤ s.room ∧ s.room ≤ 9223372036854775807) (hT : total s.fs + b.length ≤ 1073741824) (hbad : s.bad n = 0) (f : DF) (hx : findF n s.fs = some f) :
    Calls Try.prog 12 #[.pointer (some ⟨d, 0, none⟩), .string n, .slice A b.length c] w fun e w' => e = .returned (.int .i64 (s.append n b).2) ∧ After w w' base d (s.append n b).1 L := by
  have HK := Lib.hid hk
  have HS := Lib.hid hs
  have HB := Lib.hid hb
  have HX := Lib.hid hx
  have HN := Lib.hid hn
  obtain ⟨hfm, hfn⟩ := findF_some hx
  have hp : FileP w base (g n) f := by rw [← hfn]; exact hk.q.file f hfm
  have HP := Lib.hid hp
  obtain ⟨A1, k1, A2, k2, e1, e2, q1, q2⟩ := fileCells hp
  have hlen := len_le_total hfm
  have hlen' : f.safe.length + f.wait.length + b.length ≤ 1073741824 := by unfold DF.len at hlen; omega
  obtain ⟨c0, c1, c2, _⟩ := cells_of hk.q
  have hl := look_some hk.q hk.o hn hx
  have HR := Lib.hid (ready_any d s n w hn c2)
  have HBAD := Lib.hid hbad
  have HE1 := Lib.hid e1
  have HE2 := Lib.hid e2
  have HFN := Lib.hid hfn
  have HFM := Lib.hid hfm
  have HTT := Lib.hid hT
  have hgd : (findF n s.fs).getD ⟨n, [], []⟩ = f := by rw [hx]; rfl
  have HGD := Lib.hid hgd
  have HZ : Hid (∀ W, Below w.heap.size w W → Calls Try.prog 35 #[.pointer (some ⟨d, 0, none⟩)] W fun e w' => e = .returned (.int .i64 (total s.fs)) ∧ Below W.heap.size W w') :=
    Lib.hid fun W hW => size_any d base mb s g D W (hk.below hW).q (hk.below hW).o hs.rising hs.bytes
  have HC1 : Hid (∀ W, Below w.heap.size w W → W.cell? ⟨d, 1, none⟩ = some (.int .i64 s.room)) := Lib.hid fun W hW => (cells_of (hk.below hW).q).2.1
  have w1 : IntKind.i64.wrap (1048576 - (f.safe.length : Int)) = 1048576 - (f.safe.length : Int) := IntWalk.i64_in _ (by omega)
  have w2 : IntKind.i64.wrap (1048576 - (f.safe.length : Int) - (f.wait.length : Int)) = 1048576 - (f.safe.length : Int) - (f.wait.length : Int) := IntWalk.i64_in _ (by omega)
  clear hk hs hb hx hn hfm hfn hp hlen e1 e2 c2 hT hgd
  by_cases hlong : 1048576 - (f.safe.length : Int) - (f.wait.length : Int) < (b.length : Int)
  · have hd : decide (1048576 - (f.safe.length : Int) - (f.wait.length : Int) < (b.length : Int)) = true := by simpa using hlong
    have HA : Hid (s.append n b = (s, 3)) := Lib.hid (app_long hbad b (by rw [HGD.out]; unfold DF.len; omega))
    clear hlong hbad
    go_enter Try.func12, Try.ntmps12
    go_wp2_with (go_at_call 34; refine HR.out.mono ?_; rw [HBAD.out]; rintro e w' ⟨rfl, rfl⟩)
    go_quiet (fail)
    go_wp2_with fail
    go_ret
    rw [HA.out]
    exact ⟨rfl, (After.same HK.out.p).drewN _⟩
  · have hd : decide (1048576 - (f.safe.length : Int) - (f.wait.length : Int) < (b.length : Int)) = false := by simpa using hlong
    have hb2 : (b.length : Int) ≤ 1048576 := by omega
    have hd2 : decide (1048576 < (b.length : Int)) = false := by simp; omega
    have hlong' : ¬ ((findF n s.fs).getD ⟨n, [], []⟩).len + b.length > 1048576 := by rw [HGD.out]; unfold DF.len; omega
    have HLO := Lib.hid hlong'
    have w3 : IntKind.i64.wrap ((total s.fs : Int) + (b.length : Int)) = (total s.fs : Int) + (b.length : Int) := IntWalk.i64_in _ (by have := HTT.out; omega)
    obtain ⟨hr1, hr2⟩ := hroom
    by_cases hfull : s.room < (total s.fs : Int) + (b.length : Int)
    · have hd3 : decide (s.room < (total s.fs : Int) + (b.length : Int)) = true := by simpa using hfull
      have HA : Hid (s.append n b = (s, 22)) := Lib.hid (app_full hbad b hlong' (.inr (by simpa using hfull)))
      clear hlong hbad hlong' hfull
      go_enter Try.func12, Try.ntmps12
      go_wp2_with (go_at_call 34; refine HR.out.mono ?_; rw [HBAD.out]; rintro e w' ⟨rfl, rfl⟩)
      go_quiet (fail)
      go_wp2_with fail
      have HB0 : Hid (Below w.heap.size w (w.drewN nq).drew) := Lib.hid (below_drewN' (Below.refl _ _) _).drew
      have HS0 := Lib.hid (HC1.out _ HB0.out)
      refine wp_region_noPanic ?_
      refine wp_region_ord (fun w' => w'.cell? ⟨d, 1, none⟩ = some (.int .i64 s.room)) [(0,true),(2,true),(3,true),(5,true),(6,true),(7,true),(8,true),(1,false),(4,true),(9,true),(10,true)] [] (by kernel_rfl) (by kernel_rfl) (fun _ _ _ _ _ h => h) ?_
      iterate 7
        refine wpOrd_soft (v := ?_) (by rw [List.getElem?_toArray]; exact rfl) (by rfl) (by rfl) (fun w' hS => ?_) HS0.out ?_
        rotate_left
        · obtain b1 := hS
          go_simp
          try with_reducible rfl
        rotate_left
        try simp only [Act.put, List.setIfInBounds_toArray, List.set_cons_zero, List.set_cons_succ]
      refine wpOrd_hard (by rw [List.getElem?_toArray]; exact rfl) (fun K hK => ?_)
      go_simp
      go_at_call 35
      refine (HZ.out _ HB0.out).mono ?_
      rintro e w1 ⟨rfl, hb1⟩
      have HB1 := Lib.hid (below_next HB0.out hb1)
      have HS1 := Lib.hid (HC1.out _ HB1.out)
      clear hb1
      refine hK.out _ _ (fun _ => HS1.out) ?_
      clear hK K
      try simp only [Act.put, List.setIfInBounds_toArray, List.set_cons_zero, List.set_cons_succ]
      iterate 3
        refine wpOrd_soft (v := ?_) (by rw [List.getElem?_toArray]; exact rfl) (by rfl) (by rfl) (fun w' hS => ?_) HS1.out ?_
        rotate_left
        · obtain b1 := hS
          go_simp
          try with_reducible rfl
        rotate_left
        try simp only [Act.put, List.setIfInBounds_toArray, List.set_cons_zero, List.set_cons_succ]
      refine wpOrd_done (NoPanic.normal ?_)
      go_wp2_with fail
      go_ret
      rw [HA.out]
      exact ⟨rfl, (After.same HK.out.p).below HB1.out⟩
    · have hd3 : decide (s.room < (total s.fs : Int) + (b.length : Int)) = false := by simpa using hfull
      have HA : Hid (s.append n b = DS.fin { s with fs := updF ⟨n, f.safe, f.wait ++ b⟩ s.fs } id) := Lib.hid (by
        rw [app_ok hbad b hlong' (by rintro (h | h); rw [HX.out] at h; exact absurd h.1 (by simp); simp at h; omega), HGD.out, put_some HS.out.rising (by show (findF n s.fs).isSome = true; rw [HX.out]; rfl)])
      clear hlong hbad hlong' hfull
      go_enter Try.func12, Try.ntmps12
      go_wp2_with (go_at_call 34; refine HR.out.mono ?_; rw [HBAD.out]; rintro e w' ⟨rfl, rfl⟩)
      go_quiet (fail)
      go_wp2_with fail
      have HB0 : Hid (Below w.heap.size w (w.drewN nq).drew) := Lib.hid (below_drewN' (Below.refl _ _) _).drew
      have HS0 := Lib.hid (HC1.out _ HB0.out)
      refine wp_region_noPanic ?_
      refine wp_region_ord (fun w' => w'.cell? ⟨d, 1, none⟩ = some (.int .i64 s.room)) [(0,true),(2,true),(3,true),(5,true),(6,true),(7,true),(8,true),(1,false),(4,true),(9,true),(10,true)] [] (by kernel_rfl) (by kernel_rfl) (fun _ _ _ _ _ h => h) ?_
      iterate 7
        refine wpOrd_soft (v := ?_) (by rw [List.getElem?_toArray]; exact rfl) (by rfl) (by rfl) (fun w' hS => ?_) HS0.out ?_
        rotate_left
        · obtain b1 := hS
          go_simp
          try with_reducible rfl
        rotate_left
        try simp only [Act.put, List.setIfInBounds_toArray, List.set_cons_zero, List.set_cons_succ]
      refine wpOrd_hard (by rw [List.getElem?_toArray]; exact rfl) (fun K hK => ?_)
      go_simp
      go_at_call 35
      refine (HZ.out _ HB0.out).mono ?_
      rintro e w1 ⟨rfl, hb1⟩
      have HB1 := Lib.hid (below_next HB0.out hb1)
      have HS1 := Lib.hid (HC1.out _ HB1.out)
      clear hb1
      refine hK.out _ _ (fun _ => HS1.out) ?_
      clear hK K
      try simp only [Act.put, List.setIfInBounds_toArray, List.set_cons_zero, List.set_cons_succ]
      iterate 3
        refine wpOrd_soft (v := ?_) (by rw [List.getElem?_toArray]; exact rfl) (by rfl) (by rfl) (fun w' hS => ?_) HS1.out ?_
        rotate_left
        · obtain b1 := hS
          go_simp
          try with_reducible rfl
        rotate_left
        try simp only [Act.put, List.setIfInBounds_toArray, List.set_cons_zero, List.set_cons_succ]
      refine wpOrd_done (NoPanic.normal ?_)
      have HK1 := Lib.hid (HK.out.below HB1.out)
      have hp1 : FileP w1 base (g n) f := by rw [← HFN.out]; exact HK1.out.q.file f HFM.out
      have HP1 := Lib.hid hp1
      have y2 : w1.cell? ⟨(g n).blk, 1, none⟩ = some (.slice A2 f.wait.length k2) := (blk_cell hp1.blk 1).trans (by rw [HE2.out]; rfl)
      have HOW : Hid (Own w1 base 5 1 (.slice A2 f.wait.length k2) f.wait.length (bv f.wait)) := Lib.hid (by have := hp1.wait; rw [HE2.out] at this; exact this)
      have HSRC := Lib.hid (HB.out.chg (M := L) (.of_below HB1.out) fun _ => id)
      have HBS : Hid (base ≤ w1.heap.size) := Lib.hid (by have := hp1.lo; have := blk_lt hp1.blk; omega)
      clear hp1 q1 q2 hl c0 c1 hd hd2 hd3 w3
      obtain ⟨s1, hs1⟩ : ∃ s1 : DS, s1 = { s with fs := updF ⟨n, f.safe, f.wait ++ b⟩ s.fs } := ⟨_, rfl⟩
      rw [← hs1] at HA
      have HF1 : Hid s1.fit := Lib.hid (by
        have ht := total_upd (x := ⟨n, f.safe, f.wait ++ b⟩) HS.out.rising HX.out
        have hl1 : DF.len ⟨n, f.safe, f.wait ++ b⟩ = f.len + b.length := by unfold DF.len; simp; omega
        rw [hs1]
        exact ⟨rising_map _ (fun x => by split; rename_i e; exact ((neq_iff _ _).1 e).symm; rfl) HS.out.rising, by have := HTT.out; show total (updF _ s.fs) ≤ _; omega, HS.out.count, HS.out.left⟩)
      have HGE : Hid (s1.goes = s.goes) := Lib.hid (by rw [hs1]; rfl)
      have HS1 := Lib.hid hs1
      clear hs1
      go_wp2_with (at_builtin; refine wpList_append_any _ rfl _ _ 29 rfl base 5 (.int .u8 0) 1 1 Try.underlying29 infoB rfl (by decide) _ f.wait.length (bv f.wait) rfl HOW.out A b.length c (bv b) rfl (by rw [bv_len]; omega) HSRC.out.1 (bv_one _) (by omega) (by omega) HBS.out ?_; intro v' w2 ho2 hg2 hf2; obtain ⟨A3, k3, rfl, _⟩ := ho2.slice_; have HO2 := Lib.hid ho2; have HG2 := Lib.hid hg2; have HF2 := Lib.hid hf2; have hb2' := (hg2.block _ (blk_lt HP1.out.blk) (fun e => HP1.out.blk_ne.2 (by rw [HE2.out]; exact e.symm))).trans HP1.out.blk; have q2 := blk_cell hb2' 1; have f2 := blk_frozen hb2' 1; have hbl := blk_lt hb2'; simp only [HE2.out] at q2; clear ho2 hg2 hf2 hb2')
      have hgg : w1.grownBy w2 (fp (g n).v2) := by rw [HE2.out]; exact HG2.out
      have el : (f.wait ++ b).length = f.wait.length + b.length := List.length_append
      obtain ⟨t1, t2, t3⟩ := turn_wait HP1.out hgg n (.slice A3 (f.wait.length + b.length) k3) (f.wait ++ b) (by rw [bv_app, el]; exact HO2.out) (by rw [HE2.out]; exact HF2.out)
      have hup := HK1.out.upd HS.out.rising f ⟨n, f.safe, f.wait ++ b⟩ _ HX.out t1 rfl t2 t3 (by simpa using hgg.size) hgg.os hgg.tape hgg.output
      have HU : Hid (After w (w2.setCell ⟨(g n).blk, 1, none⟩ (.slice A3 (f.wait.length + b.length) k3)) base d s1 L) := Lib.hid (by rw [HS1.out]; exact After.then (s1 := s) (.of_below HB1.out) HK.out.lo HK.out.p.base_le hup)
      clear hgg el t1 t2 t3 hup
      cases hg : s1.goes with
      | true =>
        have HG := Lib.hid hg
        have HFN := Lib.hid (fin_goes hg id)
        clear hg
        go_wp2_with first
          | (go_at_call 36; refine (raw_any d base s1 _ _ HU.out.disk HF1.out.count HF1.out.left).mono ?_; rw [HG.out]; rintro e w3 ⟨rfl, ha⟩; have HV := Lib.hid (HU.out.next HK.out.p ha); clear ha)
          | (go_at_call 37; refine (ends_any d base s1.raw _ _ HV.out.disk HF1.out.raw.1 HF1.out.raw.2).mono ?_; rintro e w4 ⟨rfl, ha⟩; have HW := Lib.hid (HV.out.next HK.out.p ha); clear ha)
        go_ret
        rw [HA.out, HFN.out]
        exact ⟨rfl, HW.out⟩
      | false =>
        have HG := Lib.hid hg
        have HFN := Lib.hid (fin_stays hg id)
        clear hg
        go_wp2_with first
          | (go_at_call 36; refine (raw_any d base s1 _ _ HU.out.disk HF1.out.count HF1.out.left).mono ?_; rw [HG.out]; rintro e w3 ⟨rfl, ha⟩; have HV := Lib.hid (HU.out.next HK.out.p ha); clear ha)
        go_ret
        rw [HA.out, HFN.out]
        exact ⟨rfl, HV.out⟩
end Go.Proofs.Ytfdcibghcncbmaa
