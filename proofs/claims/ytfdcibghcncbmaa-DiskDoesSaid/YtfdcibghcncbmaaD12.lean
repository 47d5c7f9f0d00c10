/- The program's disk: Append, a file more; Append whole. -/
import Derived.Test.YtfdcibghcncbmaaD11
namespace Go.Proofs.Ytfdcibghcncbmaa
open Go.RowKit Go.Maps Go.Shelf

theorem fit_room {s : DS} (hf : s.fit) {fs : List DF} (hr : Rising fs) (ht : total fs ≤ 1073741824) : DS.fit { s with fs := fs } := ⟨hr, ht, hf.count, hf.left⟩
section
variable {w w1 w2 w3 : World} {base d mb : Nat} {s : DS} {g : ByteArray → PF} {D : DataW Unit} {L : Nat → Prop}
theorem KDisk.add (h : KDisk w1 base d s mb g D L) (hr : Rising s.fs) (n : ByteArray) (hn : n.size ≤ maxLen) (b : Bs) (hg2 : (w1.alloc (.cells #[.slice none 0 0, .slice none 0 0] 57)).grownBy w2 (some mb)) {m : Nat}
    (ho2 : w2.ownsMap Try.prog 9 ptrR mb m (D.put (kL n) (.lit (.int .i64 w1.heap.size)))) (hg3 : w2.grownBy w3 none) (v' : Value) (ho : Own w3 base 5 1 v' b.length (bv b)) (hf : fp v' = none ∨ ∃ k, fp v' = some k ∧ w2.heap.size ≤ k) :
    After w1 (w3.setCell ⟨w1.heap.size, 1, none⟩ v') base d { s with fs := putF ⟨n, [], b⟩ s.fs } L := by
  have hms : mb < w1.heap.size := World.ownsMap.lt h.o
  have hs2 : w1.heap.size + 1 ≤ w2.heap.size := by have := hg2.size; simpa using this
  have hs3 := hg3.size
  have hb2 : w2.heap[w1.heap.size]? = some (.cells #[.slice none 0 0, .slice none 0 0] 57 (0, 0)) := (hg2.block _ (by simp) (by simp; omega)).trans (blk_new _ _)
  have hb3 : w3.heap[w1.heap.size]? = some (.cells #[.slice none 0 0, .slice none 0 0] 57 (0, 0)) := (hg3.block _ (by omega) (by simp)).trans hb2
  have hbase : base ≤ w1.heap.size := by have := h.lo d h.has; omega
  have hB : ∀ k, fp v' = some k → k ≠ w1.heap.size := fun k hk e => by
    rcases hf with hf | ⟨j, hf, hj⟩
    · rw [hf] at hk; cases hk
    · rw [hf] at hk; injection hk with hk; omega
  have far : ∀ k, k ≠ w1.heap.size → (w3.setCell ⟨w1.heap.size, 1, none⟩ v').heap[k]? = w3.heap[k]? := fun k hk => Below.heap_setCell w3 ⟨w1.heap.size, 1, none⟩ v' k hk
  have hm : ∀ k, k < w1.heap.size → k ≠ mb → (w3.setCell ⟨w1.heap.size, 1, none⟩ v').heap[k]? = w1.heap[k]? := fun k hk hkm => by
    rw [far k (by omega), hg3.block k (by omega) (by simp), hg2.block k (by simp; omega) (by simpa using hkm), Below.heap_alloc _ _ k hk]
  have hp : FileP (w3.setCell ⟨w1.heap.size, 1, none⟩ v') base ⟨w1.heap.size, .slice none 0 0, v'⟩ ⟨n, [], b⟩ :=
    ⟨hbase, blk_set hb3 1 v', by simpa [bv] using Own.none_ _ _ _ _ none, ho.move fun k hk => far k (hB k hk), fun k hk => by simp [fp] at hk⟩
  have hk := h.put hr ⟨n, [], b⟩ ⟨w1.heap.size, .slice none 0 0, v'⟩ hn hp hm (fun k hk => by
    left
    rcases hk with rfl | hk | hk
    · exact Nat.le_refl _
    · simp [fp] at hk
    · have hk : fp v' = some k := hk
      rcases hf with hf | ⟨j, hf, hj⟩
      · rw [hf] at hk; cases hk
      · rw [hf] at hk; injection hk with hk; omega) ((Owns.of ho2).move (by rw [far mb (by omega), hg3.block mb (by omega) (by simp)])) (by simp; omega)
  refine After.of_put hk ⟨?_, ?_, ?_, by simp; omega, fun k hk hn => hm k hk fun e => hn (e ▸ h.l mb (.inr (.inl rfl)))⟩
  · show w3.os = w1.os
    rw [hg3.os, hg2.os]; rfl
  · show w3.tape = w1.tape
    rw [hg3.tape, hg2.tape]; rfl
  · show w3.output = w1.output
    rw [hg3.output, hg2.output]; rfl
end
set_option maxRecDepth 100000 in
set_option maxHeartbeats 2000000 in
/-- A file that isn't there. -/
theorem Append_none (d base mb : Nat) (s : DS) (g : ByteArray → PF) (D : DataW Unit) (L : Nat → Prop) (n : ByteArray) (A : Option Addr) (b : Bs) (c : Nat) (w : World) (hk : KDisk w base d s mb g D L) (hs : s.fit) (hn : n.size ≤ maxLen) (hb : Src w L A b)
    (hroom : -9223372036854775808 ≤ s.room ∧ s.room ≤ 9223372036854775807) (hT : total s.fs + b.length ≤ 1073741824) (hbl : b.length ≤ 9223372036854775807) (hbad : s.bad n = 0) (hx : findF n s.fs = none) (hfew : s.fs.length ≤ 1073741824) :
    Calls Try.prog 12 #[.pointer (some ⟨d, 0, none⟩), .string n, .slice A b.length c] w fun e w' => e = .returned (.int .i64 (s.append n b).2) ∧ After w w' base d (s.append n b).1 L := by
  have HK := Lib.hid hk
  have HS := Lib.hid hs
  have HB := Lib.hid hb
  have HX := Lib.hid hx
  have HN := Lib.hid hn
  obtain ⟨c0, c1, c2, _⟩ := cells_of hk.q
  have hl := look_none hk.q hk.o hn hx
  have HR := Lib.hid (ready_any d s n w hn c2)
  have HBAD := Lib.hid hbad
  have HTT := Lib.hid hT
  have hgd : (findF n s.fs).getD ⟨n, [], []⟩ = ⟨n, [], []⟩ := by rw [hx]; rfl
  have HGD := Lib.hid hgd
  have HZ : Hid (∀ W, Below w.heap.size w W → Calls Try.prog 35 #[.pointer (some ⟨d, 0, none⟩)] W fun e w' => e = .returned (.int .i64 (total s.fs)) ∧ Below W.heap.size W w') :=
    Lib.hid fun W hW => size_any d base mb s g D W (hk.below hW).q (hk.below hW).o hs.rising hs.bytes
  have HC1 : Hid (∀ W, Below w.heap.size w W → W.cell? ⟨d, 1, none⟩ = some (.int .i64 s.room)) := Lib.hid fun W hW => (cells_of (hk.below hW).q).2.1
  have HLEN : Hid (∀ W, Below w.heap.size w W → (Builtin.len_ #[44] 3 #[.map (some mb)]).run Try.prog W = .ok (.int .i64 s.fs.length) W) :=
    Lib.hid fun W hW => by have := World.ownsMap.len (hk.below hW).o Try.underlying44 3; rw [hk.q.is.size] at this; exact this
  clear hk hs hb hx hn c2 hgd
  by_cases hlong : (1048576 : Int) < (b.length : Int)
  · have hd : decide ((1048576 : Int) < (b.length : Int)) = true := by simpa using hlong
    have HA : Hid (s.append n b = (s, 3)) := Lib.hid (app_long hbad b (by rw [HGD.out]; unfold DF.len; simp; omega))
    clear hlong hbad
    go_enter Try.func12, Try.ntmps12
    go_wp2_with (go_at_call 34; refine HR.out.mono ?_; rw [HBAD.out]; rintro e w' ⟨rfl, rfl⟩)
    go_quiet (fail)
    go_wp2_with fail
    go_ret
    rw [HA.out]
    exact ⟨rfl, (After.same HK.out.p).drewN _⟩
  · have hd : decide ((1048576 : Int) < (b.length : Int)) = false := by simpa using hlong
    have hlong' : ¬ ((findF n s.fs).getD ⟨n, [], []⟩).len + b.length > 1048576 := by rw [HGD.out]; unfold DF.len; simp; omega
    have w3 : IntKind.i64.wrap ((total s.fs : Int) + (b.length : Int)) = (total s.fs : Int) + (b.length : Int) := IntWalk.i64_in _ (by have := HTT.out; omega)
    obtain ⟨hr1, hr2⟩ := hroom
    by_cases hfewer : (16 : Int) ≤ (s.fs.length : Int)
    · have hd2 : decide ((16 : Int) ≤ (s.fs.length : Int)) = true := by simpa using hfewer
      have HA : Hid (s.append n b = (s, 22)) := Lib.hid (app_full hbad b hlong' (.inl ⟨by rw [HX.out]; rfl, by omega⟩))
      clear hlong hbad hlong' hfewer
      go_enter Try.func12, Try.ntmps12
      go_wp2_with (go_at_call 34; refine HR.out.mono ?_; rw [HBAD.out]; rintro e w' ⟨rfl, rfl⟩)
      go_quiet (fail)
      have hle := HLEN.out _ (below_drewN' (Below.refl _ w) nq)
      go_wp2_with fail
      go_ret
      rw [HA.out]
      exact ⟨rfl, (After.same HK.out.p).drewN _⟩
    · have hd2 : decide ((16 : Int) ≤ (s.fs.length : Int)) = false := by simpa using hfewer
      have hfew16 : s.fs.length ≤ 16 := by omega
      by_cases hfull : s.room < (total s.fs : Int) + (b.length : Int)
      · have hd3 : decide (s.room < (total s.fs : Int) + (b.length : Int)) = true := by simpa using hfull
        have HA : Hid (s.append n b = (s, 22)) := Lib.hid (app_full hbad b hlong' (.inr (by simpa using hfull)))
        clear hlong hbad hlong' hfull hfewer
        go_enter Try.func12, Try.ntmps12
        go_wp2_with (go_at_call 34; refine HR.out.mono ?_; rw [HBAD.out]; rintro e w' ⟨rfl, rfl⟩)
        go_quiet (fail)
        have hle := HLEN.out _ (below_drewN' (Below.refl _ w) nq)
        go_wp2_with fail
        clear hle
        have HB0 : Hid (Below w.heap.size w (w.drewN nq).drew) := Lib.hid (below_drewN' (Below.refl _ _) _).drew
        have HS0 := Lib.hid (HC1.out _ HB0.out)
        refine wp_region_noPanic ?_
        refine wp_region_ord (fun w' => w'.cell? ⟨d, 1, none⟩ = some (.int .i64 s.room)) [(0,true),(2,true),(3,true),(5,true),(6,true),(7,true),(8,true),(1,false),(4,true),(9,true),(10,true)] [] (by kernel_rfl) (by kernel_rfl) (fun _ _ _ _ _ h => h) ?_
        iterate 7
          refine wpOrd_soft (v := ?_) (by rw [List.getElem?_toArray]; exact rfl) (by rfl) (by rfl) (fun w' hS => ?_) HS0.out ?_
          rotate_left
          · obtain b1 := hS
            go_simp
            try with_reducible rfl
          rotate_left
          try simp only [Act.put, List.setIfInBounds_toArray, List.set_cons_zero, List.set_cons_succ]
        refine wpOrd_hard (by rw [List.getElem?_toArray]; exact rfl) (fun K hK => ?_)
        go_simp
        go_at_call 35
        refine (HZ.out _ HB0.out).mono ?_
        rintro e w1 ⟨rfl, hb1⟩
        have HB1 := Lib.hid (below_next HB0.out hb1)
        have HS1 := Lib.hid (HC1.out _ HB1.out)
        clear hb1
        refine hK.out _ _ (fun _ => HS1.out) ?_
        clear hK K
        try simp only [Act.put, List.setIfInBounds_toArray, List.set_cons_zero, List.set_cons_succ]
        iterate 3
          refine wpOrd_soft (v := ?_) (by rw [List.getElem?_toArray]; exact rfl) (by rfl) (by rfl) (fun w' hS => ?_) HS1.out ?_
          rotate_left
          · obtain b1 := hS
            go_simp
            try with_reducible rfl
          rotate_left
          try simp only [Act.put, List.setIfInBounds_toArray, List.set_cons_zero, List.set_cons_succ]
        refine wpOrd_done (NoPanic.normal ?_)
        go_wp2_with fail
        go_ret
        rw [HA.out]
        exact ⟨rfl, (After.same HK.out.p).below HB1.out⟩
      · have hd3 : decide (s.room < (total s.fs : Int) + (b.length : Int)) = false := by simpa using hfull
        have HA : Hid (s.append n b = DS.fin { s with fs := putF ⟨n, [], b⟩ s.fs } id) := Lib.hid (by
          rw [app_ok hbad b hlong' (by rintro (h | h); omega; simp at h; omega), HGD.out]; rfl)
        clear hlong hbad hlong' hfull hfewer
        obtain ⟨s1, hs1⟩ : ∃ s1 : DS, s1 = { s with fs := putF ⟨n, [], b⟩ s.fs } := ⟨_, rfl⟩
        rw [← hs1] at HA
        have HF1 : Hid s1.fit := Lib.hid (by
          rw [hs1]
          refine fit_room HS.out (rising_put HS.out.rising _) ?_
          rw [total_add (by exact HX.out)]
          have := HTT.out
          unfold DF.len; simp; omega)
        have HSS := Lib.hid hs1
        clear hs1
        go_enter Try.func12, Try.ntmps12
        go_wp2_with (go_at_call 34; refine HR.out.mono ?_; rw [HBAD.out]; rintro e w' ⟨rfl, rfl⟩)
        go_quiet (fail)
        have hle := HLEN.out _ (below_drewN' (Below.refl _ w) nq)
        go_wp2_with fail
        clear hle
        have HB0 : Hid (Below w.heap.size w (w.drewN nq).drew) := Lib.hid (below_drewN' (Below.refl _ _) _).drew
        have HS0 := Lib.hid (HC1.out _ HB0.out)
        refine wp_region_noPanic ?_
        refine wp_region_ord (fun w' => w'.cell? ⟨d, 1, none⟩ = some (.int .i64 s.room)) [(0,true),(2,true),(3,true),(5,true),(6,true),(7,true),(8,true),(1,false),(4,true),(9,true),(10,true)] [] (by kernel_rfl) (by kernel_rfl) (fun _ _ _ _ _ h => h) ?_
        iterate 7
          refine wpOrd_soft (v := ?_) (by rw [List.getElem?_toArray]; exact rfl) (by rfl) (by rfl) (fun w' hS => ?_) HS0.out ?_
          rotate_left
          · obtain b1 := hS
            go_simp
            try with_reducible rfl
          rotate_left
          try simp only [Act.put, List.setIfInBounds_toArray, List.set_cons_zero, List.set_cons_succ]
        refine wpOrd_hard (by rw [List.getElem?_toArray]; exact rfl) (fun K hK => ?_)
        go_simp
        go_at_call 35
        refine (HZ.out _ HB0.out).mono ?_
        rintro e w1 ⟨rfl, hb1⟩
        have HB1 := Lib.hid (below_next HB0.out hb1)
        have HS1 := Lib.hid (HC1.out _ HB1.out)
        clear hb1
        refine hK.out _ _ (fun _ => HS1.out) ?_
        clear hK K
        try simp only [Act.put, List.setIfInBounds_toArray, List.set_cons_zero, List.set_cons_succ]
        iterate 3
          refine wpOrd_soft (v := ?_) (by rw [List.getElem?_toArray]; exact rfl) (by rfl) (by rfl) (fun w' hS => ?_) HS1.out ?_
          rotate_left
          · obtain b1 := hS
            go_simp
            try with_reducible rfl
          rotate_left
          try simp only [Act.put, List.setIfInBounds_toArray, List.set_cons_zero, List.set_cons_succ]
        refine wpOrd_done (NoPanic.normal ?_)
        have HK1 := Lib.hid (HK.out.below HB1.out)
        have HO1 : Hid (Owns (w1.alloc (.cells #[.slice none 0 0, .slice none 0 0] 57)) mb D) := Lib.hid (World.ownsMap.alloc HK1.out.o _)
        have HSRC := Lib.hid (HB.out.chg (M := L) (.of_below HB1.out) fun _ => id)
        have y0 := (cells_of HK1.out.q).1
        have hdl := blk_lt HK1.out.q.blk
        clear hl c0 c1 hd hd2 hd3 w3
        go_wp2_with first
          | (at_mapUpdate; refine wpList_mapUpdate_own _ rfl _ _ _ 44 rfl 9 55 strK Try.underlying44 ptrR mb (Maps.size D) D rfl HO1.out (by rw [HK1.out.q.is.size]; unfold maxLen; omega) _ _ (kL n) rfl rfl (kL_key n HN.out) (.lit (.int .i64 w1.heap.size)) [] rfl ?_; intro w2 hown2 hg2; have HOWN2 := Lib.hid hown2; have HG2 := Lib.hid hg2; have hmb : mb < w1.heap.size := World.ownsMap.lt HK1.out.o; have hb3 : w2.heap[w1.heap.size]? = some (.cells #[.slice none 0 0, .slice none 0 0] 57 (0, 0)) := (hg2.block _ (by simp) (by simp; omega)).trans (blk_new _ _); have q2 : w2.cell? ⟨w1.heap.size, 1, none⟩ = some (.slice none 0 0) := blk_cell hb3 1; have f2 := blk_frozen hb3 1; have hbl3 := blk_lt hb3; have HB3 := Lib.hid hb3; have HSRC2 : Hid (Src w2 L A b) := Lib.hid (HSRC.out.chg (M := L) (((Chg.refl L w1).alloc _).grown HG2.out fun k e => .inl (by injection e with e; rw [← e]; exact HK1.out.l mb (.inr (.inl rfl)))) fun _ => id); have HBS : Hid (base ≤ w2.heap.size) := Lib.hid (by have h1 := HK1.out.lo d HK1.out.has; have := HG2.out.size; simp at this; omega); clear hown2 hg2 hb3 hmb)
          | (at_builtin; refine wpList_append_any _ rfl _ _ 29 rfl base 5 (.int .u8 0) 1 1 Try.underlying29 infoB rfl (by decide) (.slice none 0 0) 0 [] rfl (Own.none_ _ _ _ _ none) A b.length c (bv b) rfl (by rw [bv_len]; omega) HSRC2.out.1 (bv_one _) (by omega) (by omega) HBS.out ?_; intro v' w3 ho3 hg3 hf3; simp only [Nat.zero_add, List.nil_append] at ho3; obtain ⟨A3, k3, rfl, _⟩ := ho3.slice_; have HO3 := Lib.hid ho3; have HG3 := Lib.hid hg3; have HF3 := Lib.hid hf3; have hb4 := (hg3.block _ hbl3 (fun e => by cases e)).trans HB3.out; have q3 : w3.cell? ⟨w1.heap.size, 1, none⟩ = some (.slice none 0 0) := blk_cell hb4 1; have f3 := blk_frozen hb4 1; have hbl4 := blk_lt hb4; clear ho3 hg3 hf3 hb4)
        have HU : Hid (After w (w3.setCell ⟨w1.heap.size, 1, none⟩ (.slice A3 b.length k3)) base d s1 L) := Lib.hid (by
          rw [HSS.out]
          refine After.then (s1 := s) (.of_below HB1.out) HK.out.lo HK.out.p.base_le (HK1.out.add HS.out.rising n HN.out b HG2.out HOWN2.out (by have := HG3.out; exact this) _ HO3.out ?_)
          exact HF3.out)
        cases hg : s1.goes with
        | true =>
          have HG := Lib.hid hg
          have HFN := Lib.hid (fin_goes hg id)
          clear hg
          go_wp2_with first
            | (go_at_call 36; refine (raw_any d base s1 _ _ HU.out.disk HF1.out.count HF1.out.left).mono ?_; rw [HG.out]; rintro e w4 ⟨rfl, ha⟩; have HV := Lib.hid (HU.out.next HK.out.p ha); clear ha)
            | (go_at_call 37; refine (ends_any d base s1.raw _ _ HV.out.disk HF1.out.raw.1 HF1.out.raw.2).mono ?_; rintro e w5 ⟨rfl, ha⟩; have HW := Lib.hid (HV.out.next HK.out.p ha); clear ha)
          go_ret
          rw [HA.out, HFN.out]
          exact ⟨rfl, HW.out⟩
        | false =>
          have HG := Lib.hid hg
          have HFN := Lib.hid (fin_stays hg id)
          clear hg
          go_wp2_with first
            | (go_at_call 36; refine (raw_any d base s1 _ _ HU.out.disk HF1.out.count HF1.out.left).mono ?_; rw [HG.out]; rintro e w4 ⟨rfl, ha⟩; have HV := Lib.hid (HU.out.next HK.out.p ha); clear ha)
          go_ret
          rw [HA.out, HFN.out]
          exact ⟨rfl, HV.out⟩
theorem Append_bad (d base mb : Nat) (s : DS) (g : ByteArray → PF) (D : DataW Unit) (L : Nat → Prop) (n : ByteArray) (A : Option Addr) (b : Bs) (c : Nat) (w : World) (hk : KDisk w base d s mb g D L) (hn : n.size ≤ maxLen) (hbad : s.bad n ≠ 0) :
    Calls Try.prog 12 #[.pointer (some ⟨d, 0, none⟩), .string n, .slice A b.length c] w fun e w' => e = .returned (.int .i64 (s.append n b).2) ∧ After w w' base d (s.append n b).1 L := by
  obtain ⟨_, _, c2, _⟩ := cells_of hk.q
  have HK := Lib.hid hk
  have HR := Lib.hid (ready_any d s n w hn c2)
  have HA := Lib.hid (app_bad hbad b)
  have hd : (s.bad n != 0) = true := by simp [hbad]
  clear hk hn hbad c2
  go_enter Try.func12, Try.ntmps12
  go_wp2_with (go_at_call 34; refine HR.out.mono ?_; rintro e w' ⟨rfl, rfl⟩)
  go_ret
  rw [HA.out]
  exact ⟨rfl, After.same HK.out.p⟩
/-- Append. -/
theorem Append_any (d base : Nat) (s : DS) (L : Nat → Prop) (n : ByteArray) (A : Option Addr) (b : Bs) (c : Nat) (w : World) (h : PDisk w base d s L) (hs : s.fit) (hn : n.size ≤ maxLen) (hb : Src w L A b)
    (hroom : -9223372036854775808 ≤ s.room ∧ s.room ≤ 9223372036854775807) (hT : total s.fs + b.length ≤ 1073741824) (hfew : s.fs.length ≤ 1073741824) :
    Calls Try.prog 12 #[.pointer (some ⟨d, 0, none⟩), .string n, .slice A b.length c] w fun e w' => e = .returned (.int .i64 (s.append n b).2) ∧ After w w' base d (s.append n b).1 L := by
  obtain ⟨mb, g, D, hk⟩ := h.k
  by_cases hbad : s.bad n = 0
  · cases hx : findF n s.fs with
    | none => exact Append_none d base mb s g D L n A b c w hk hs hn hb hroom hT (by omega) hbad hx hfew
    | some f => exact Append_some d base mb s g D L n A b c w hk hs hn hb hroom hT hbad f hx
  · exact Append_bad d base mb s g D L n A b c w hk hn hbad
end Go.Proofs.Ytfdcibghcncbmaa
