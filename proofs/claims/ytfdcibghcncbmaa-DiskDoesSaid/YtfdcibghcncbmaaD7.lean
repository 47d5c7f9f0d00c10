/- The program's disk: Off. -/
import Derived.Test.YtfdcibghcncbmaaD6
namespace Go.Proofs.Ytfdcibghcncbmaa
open Go.RowKit Go.Maps Go.Shelf

theorem off_on {s : DS} (h : s.on = true) (k : Int) : s.off k = { s with fs := s.fs.map (DF.off k), on := false, left := 0 } := by unfold DS.off; rw [if_pos h]
/-- The loop's relation: those that have come are off. -/
structure OffR (w wr : World) (base d mb : Nat) (s : DS) (g : ByteArray → PF) (D : DataW Unit) (L : Nat → Prop) (k : Int) (left : Lit → Bool) (cnt : Nat) : Prop where
  rg : wr.ranges Try.prog 9 ptrR mb w.heap.size (Maps.size D) D left cnt
  q : ∃ g', DiskQ wr base d { s with fs := offL left k s.fs } mb g' D ∧ (∀ x, DP { s with fs := offL left k s.fs } d mb g' x → L x ∨ w.heap.size ≤ x)
  chg : Chg L w wr
theorem ranges_move {w w' : World} {mb r n cnt : Nat} {D : DataW Unit} {left : Lit → Bool} (h : w.ranges Try.prog 9 ptrR mb r n D left cnt) (h1 : w'.heap[mb]? = w.heap[mb]?) (h2 : w'.heap[r]? = w.heap[r]?) : w'.ranges Try.prog 9 ptrR mb r n D left cnt := by
  obtain ⟨es, clock, since, seen, c0, hb, F, hs, hD, hr, rest⟩ := h
  exact ⟨es, clock, since, seen, c0, h1.trans hb, F, hs, hD, h2.trans hr, rest⟩
theorem FileP.far {w : World} {base mb r n cnt : Nat} {D : DataW Unit} {left : Lit → Bool} (h : w.ranges Try.prog 9 ptrR mb r n D left cnt) {p : PF} {f : DF} (hp : FileP w base p f) {k : Nat} (hk : p.has k) : k ≠ mb ∧ k ≠ r := by
  rcases hk with rfl | hk | hk
  · exact ranges_far h hp.blk
  · obtain ⟨cur, hc⟩ := hp.safe.typed hk
    exact ranges_far h hc
  · obtain ⟨cur, hc⟩ := hp.wait.typed hk
    exact ranges_far h hc
/-- The iterator has gone on; the disk lies as it lay. -/
theorem DiskQ.next {w w1 : World} {base d mb r n cnt : Nat} {s : DS} {g : ByteArray → PF} {D : DataW Unit} {left : Lit → Bool} (hq : DiskQ w base d s mb g D) (h : w.ranges Try.prog 9 ptrR mb r n D left cnt) (hg : w.grownBy w1 (some r)) : DiskQ w1 base d s mb g D := by
  refine hq.move fun k hk => ?_
  rcases hk with rfl | ⟨f, hf, hk⟩
  · exact hg.block _ (blk_lt hq.blk) fun e => (ranges_far h hq.blk).2 (by injection e)
  · exact hg.block _ ((hq.file f hf).lt hk).2 fun e => ((hq.file f hf).far h hk).2 (by injection e)
theorem OffR.turn {w wr w1 w2 : World} {base d mb : Nat} {s : DS} {g g' : ByteArray → PF} {D : DataW Unit} {L : Nat → Prop} {k : Int} {left : Lit → Bool} {cnt cnt1 : Nat} (h : OffR w wr base d mb s g D L k left cnt)
    (hq : DiskQ wr base d { s with fs := offL left k s.fs } mb g' D) (hd : ∀ x, DP { s with fs := offL left k s.fs } d mb g' x → L x ∨ w.heap.size ≤ x) (hr : Rising s.fs) (hD : MapIs D s.fs g)
    {f : DF} (hf : f ∈ offL left k s.fs) (hl : left (kL f.name) = true) (hrg : w1.ranges Try.prog 9 ptrR mb w.heap.size (Maps.size D) D (fun z => left z && !z.sameKey (kL f.name)) cnt1) (hg : wr.grownBy w1 (some w.heap.size))
    (v' : Value) (hg2 : w1.grownBy w2 (fp (g' f.name).v1)) (ho : Own w2 base 5 1 v' (f.off k).safe.length (bv (f.off k).safe)) (hfp : fp v' = fp (g' f.name).v1 ∨ ∃ b, fp v' = some b ∧ w1.heap.size ≤ b) :
    OffR w ((w2.setCell ⟨(g' f.name).blk, 0, none⟩ v').setCell ⟨(g' f.name).blk, 1, none⟩ (.slice none 0 0)) base d mb s g D L k (fun z => left z && !z.sameKey (kL f.name)) cnt1 := by
  have hq1 := hq.next h.rg hg
  have hp := hq1.file f hf
  obtain ⟨t1, t2, t3⟩ := turn_safe hp hg2 f.name v' (f.off k).safe ho hfp
  have hfs := offL_mem hf hl
  have hff : findF (f.off k).name (offL left k s.fs) = some f := findF_mem (offL_rising hr) hf
  have ho1 : Owns w1 mb D := hrg.owns
  have hup := hq1.upd (s := { s with fs := offL left k s.fs }) ho1 (offL_rising hr) f (f.off k) ⟨(g' f.name).blk, v', .slice none 0 0⟩ hff t1 rfl t2 t3
  have hL' : ∀ x, (g' f.name).has x → L x ∨ w.heap.size ≤ x := fun x hx => hd x (.inr (.inr ⟨f, hf, hx⟩))
  refine ⟨ranges_move hrg ?_ ?_, ⟨_, by rw [← offL_step hr hfs hl]; exact hup, fun x hx => ?_⟩, ?_⟩
  · exact t3 mb (World.ownsMap.lt ho1) fun hk => (hp.far hrg hk).1 rfl
  · exact t3 _ hrg.lt fun hk => (hp.far hrg hk).2 rfl
  · rw [← offL_step hr hfs hl] at hx
    rcases hx with rfl | rfl | ⟨y, hy, hk⟩
    · exact hd _ (.inl rfl)
    · exact hd _ (.inr (.inl rfl))
    · obtain ⟨z, hz, rfl⟩ := List.mem_map.1 hy
      have hw : w.heap.size ≤ w1.heap.size := Nat.le_trans h.chg.size hg.size
      by_cases hn : neq z.name f.name = true
      · have e : neq (if neq z.name (f.off k).name = true then f.off k else z).name (f.off k).name = true := by
          rw [show (f.off k).name = f.name from rfl, if_pos hn]; exact neq_self _
        have hk : (if neq (if neq z.name (f.off k).name = true then f.off k else z).name (f.off k).name = true then _ else _ : PF).has x := hk
        rw [if_pos e] at hk
        rcases t2 x hk with h1 | h1
        · exact hL' x h1
        · exact .inr (by omega)
      · have e : (if neq z.name (f.off k).name = true then f.off k else z) = z := if_neg hn
        have hk : (if neq (if neq z.name (f.off k).name = true then f.off k else z).name (f.off k).name = true then _ else _ : PF).has x := hk
        rw [e, if_neg (show ¬ neq z.name (f.off k).name = true from hn)] at hk
        exact hd x (.inr (.inr ⟨z, hz, hk⟩))
  · refine Chg.next (L' := fun x => (g' f.name).has x ∨ w1.heap.size ≤ x) (h.chg.grown hg fun j e => .inr (by injection e with e; omega)) ⟨hg2.os, hg2.tape, hg2.output, by simpa using hg2.size, fun x hx hn => t3 x hx fun hk => hn (.inl hk)⟩ fun x hx => ?_
    rcases hx with hx | hx
    · exact hL' x hx
    · have hw : w.heap.size ≤ w1.heap.size := Nat.le_trans h.chg.size hg.size
      exact .inr (by omega)
set_option maxRecDepth 100000 in
set_option maxHeartbeats 1000000 in
theorem Off_any (d base : Nat) (s : DS) (L : Nat → Prop) (k : Int) (w : World) (h : PDisk w base d s L) (hr : Rising s.fs) (ht : total s.fs ≤ 1073741824) :
    Calls Try.prog 15 #[.pointer (some ⟨d, 0, none⟩), .int .i64 k] w fun e w' => e = .returned (.tuple #[]) ∧ After w w' base d (s.off k) L := by
  obtain ⟨mb, g, D, hq, ho, hL, hlo⟩ := h.out
  obtain ⟨c0, _, c2, _, _, _⟩ := cells_of hq
  cases hon : s.on with
  | false =>
    have H := Lib.hid h
    have HS : Hid (s.off k = s) := by unfold DS.off; rw [hon]; rfl
    rw [hon] at c2
    simp only [Bool.not_false, Bool.not_true] at c2
    clear hq ho hL hlo hon hr ht h
    go_enter Try.func15, Try.ntmps15
    go_wp2
    refine bodyPost_ret (results_none rfl _ _ _) rfl ?_
    exact ⟨rfl, by rw [HS.out]; exact After.same H.out⟩
  | true =>
    have H := Lib.hid h
    have HQ := Lib.hid hq
    have HR := Lib.hid hr
    have HT := Lib.hid ht
    have HON := Lib.hid hon
    have HL := Lib.hid hL
    have HLO := Lib.hid hlo
    rw [hon] at c2
    simp only [Bool.not_false, Bool.not_true] at c2
    clear hq hr ht hon hL hlo h
    go_enter Try.func15, Try.ntmps15
    go_wp2_with (at_range; refine wpList_range_own _ rfl _ 44 rfl 9 55 strK Try.underlying44 ptrR mb (Maps.size D) D rfl ho ?_; intro w0 hrg0 hg0 hs0)
    go_frame
    have HI : Hid (OffR w w0 base d mb s g D L k (Maps.has D) (Maps.size D)) := Lib.hid ⟨hrg0, ⟨g, by
        have e : ({ s with fs := offL (Maps.has D) k s.fs } : DS) = s := by rw [offL_start HQ.out.is HR.out]
        rw [e]
        exact ⟨HQ.out.move fun x hx => (grown_below hg0).block x (by have := HQ.out.lt ho (show DP s d mb g x from by rcases hx with rfl | hx; exact .inl rfl; exact .inr (.inr hx)); omega), fun x hx => .inl (HL.out x hx)⟩⟩, .of_below (grown_below hg0)⟩
    have HO := Lib.hid ho
    clear hs0 ho hg0 c0 c2 hrg0
    go_loopw [5] (fun _ wr => ∃ left cnt, Hid (OffR w wr base d mb s g D L k left cnt)) (fun _ wr => wr.rangeLeft mb w.heap.size)
    case atStart => exact ⟨_, _, HI⟩
    case round =>
      obtain ⟨left, cnt, HI⟩ := hrel
      obtain ⟨g', hq', hd'⟩ := HI.out.q
      have HQ' := Lib.hid hq'
      have HD' := Lib.hid hd'
      clear hq' hd'
      go_wp2_with (at_next; refine wpList_next_disk _ rfl _ rfl (offL left k s.fs) g' mb w.heap.size (Maps.size D) D left cnt rfl HQ'.out.is HI.out.rg ?_ ?_)
      · intro _ hl0
        obtain ⟨_, _, c2, _, c4, _⟩ := cells_of HQ'.out
        have f2 := blk_frozen HQ'.out.blk 2
        have f4 := blk_frozen HQ'.out.blk 4
        have hlt := blk_lt HQ'.out.blk
        have HL0 := Lib.hid hl0
        clear hl0
        go_wp2_with fail
        go_end0
        have hoff := off_on HON.out k
        rw [← offL_end HL0.out k] at hoff
        refine ⟨rfl, ?_⟩
        rw [hoff]
        have hdm := HQ'.out.lo.2.2
        have hc : Chg L w ((wr.setCell ⟨d, 2, none⟩ (.bool true)).setCell ⟨d, 4, none⟩ (.int .i64 0)) := (HI.out.chg.setCell (.inl (HL.out d (.inl rfl))) _).setCell (.inl (HL.out d (.inl rfl))) _
        refine ⟨⟨⟨mb, g', D, (HQ'.out.setD 2 _ { s with fs := offL left k s.fs, on := false } rfl rfl).setD 4 _ { s with fs := offL left k s.fs, on := false, left := 0 } rfl rfl, (Owns.setCell HI.out.rg.owns hdm.symm _).setCell hdm.symm _, fun x hx => ?_, fun x hx => ?_⟩⟩, hc⟩
        · rcases HD'.out x hx with h1 | h1
          · exact .inl h1
          · refine .inr ⟨h1, ?_⟩
            have := (HQ'.out.lt HI.out.rg.owns hx).2
            simpa using this
        · have := hc.size
          have h2 := H.out.base_le
          rcases hx with hx | hx
          · have := HLO.out x hx
            omega
          · omega
      · intro f w1 cnt1 hfm hlk hrg1 hlt hg1 hs1 hen
        have hfs := offL_mem hfm hlk
        have HQ1 := Lib.hid (HQ'.out.next HI.out.rg hg1)
        have hp := HQ1.out.file f hfm
        have HP := Lib.hid hp
        obtain ⟨A1, k1, A2, k2, e1, e2, q1, q2⟩ := fileCells hp
        have hlen := len_le_total hfs
        have hT := HT.out
        obtain ⟨m, hm⟩ : ∃ m : Nat, min (max k 0) (f.wait.length : Int) = (m : Int) := ⟨(min (max k 0) (f.wait.length : Int)).toNat, by omega⟩
        have hml : m ≤ f.wait.length := by omega
        have HTK : Hid (f.wait.take m = f.wait.take k.toNat) := by
          show _ = _
          rw [List.take_eq_take_iff]
          omega
        obtain ⟨A2', k2', e2', hk2⟩ := hp.wait.slice_
        rw [e2] at e2'
        injection e2' with x1 _ x3
        subst x1; subst x3
        have hc2 : (m : Int) ≤ (k2 : Int) := by omega
        have hlen' : f.safe.length + f.wait.length ≤ 1073741824 := by unfold DF.len at hlen; omega
        have HOW1 : Hid (Own w1.drew base 5 1 (.slice A1 f.safe.length k1) f.safe.length (bv f.safe)) := Lib.hid (by have := hp.safe; rw [e1] at this; exact this)
        have HOW2 : Hid (Own w1.drew base 5 1 (.slice A2 m k2) m (bv (f.wait.take m))) := Lib.hid (by have := hp.wait; rw [e2] at this; have := this.shorter m hml; rw [bv_take]; exact this)
        have HBS : Hid (base ≤ w1.drew.heap.size) := Lib.hid (by have := hp.lo; have := blk_lt hp.blk; show base ≤ w1.heap.size; omega)
        have HS0 : Hid (w1.drew.cell? ⟨(g' f.name).blk, 0, none⟩ = some (.slice A1 f.safe.length k1) ∧ w1.drew.cell? ⟨(g' f.name).blk, 1, none⟩ = some (.slice A2 f.wait.length k2)) := Lib.hid ⟨q1, q2⟩
        have HRG1 := Lib.hid hrg1
        have HG1 := Lib.hid hg1
        have HLT := Lib.hid hlt
        have HFM := Lib.hid hfm
        have HLK := Lib.hid hlk
        have HE1 := Lib.hid e1
        have HE2 := Lib.hid e2
        clear hfs hp q1 q2 hlen hT hrg1 hlt hfm hlk hg1 hs1 e1 e2 hk2
        go_wp2_with fail
        refine wp_region_noPanic ?_
        refine wp_region_ord (fun w' => w'.cell? ⟨(g' f.name).blk, 0, none⟩ = some (.slice A1 f.safe.length k1) ∧ w'.cell? ⟨(g' f.name).blk, 1, none⟩ = some (.slice A2 f.wait.length k2))
          [(1,true),(0,true),(2,true),(3,true),(4,true),(5,true),(6,true),(7,true),(8,true),(9,true),(10,true),(11,true),(12,true),(13,true),(14,true),(15,true),(16,true),(17,true),(18,true),(19,false),(20,true),(21,true),(22,false),(23,true),(24,true),(25,false)] [1,20,21,22,23,24,25] (by kernel_rfl) (by kernel_rfl) (fun _ _ _ _ _ h => h) ?_
        iterate 1
          refine wpOrd_free (v := ?_) (by rw [List.getElem?_toArray]; exact rfl) (by rfl) (by rfl) (fun w' => ?_) ?_
          rotate_left
          · go_simp
            try with_reducible rfl
          rotate_left
          try simp only [Act.put, List.setIfInBounds_toArray, List.set_cons_zero, List.set_cons_succ]
        iterate 18
          refine wpOrd_soft (v := ?_) (by rw [List.getElem?_toArray]; exact rfl) (by rfl) (by rfl) (fun w' hS => ?_) HS0.out ?_
          rotate_left
          · obtain ⟨b0, b1⟩ := hS
            go_simp
            try with_reducible rfl
          rotate_left
          try simp only [Act.put, List.setIfInBounds_toArray, List.set_cons_zero, List.set_cons_succ]
        refine wpOrd_hard (by rw [List.getElem?_toArray]; exact rfl) (fun K hK => ?_)
        rw [if_pos (by rfl)]
        refine oper_append_any w1.drew _ _ _ rfl base 5 (.int .u8 0) 1 1 Try.underlying29 infoB rfl (by decide) _ f.safe.length (bv f.safe) rfl HOW1.out A2 m k2 (bv (f.wait.take m)) rfl (by rw [bv_len, List.length_take]; omega) (HOW2.out.cells) (bv_one _) (by omega) (by omega) HBS.out ?_
        intro v' w2 ho2 hg2 hf2
        obtain ⟨A3, k3, rfl, _⟩ := ho2.slice_
        have HO2 := Lib.hid ho2
        have HG2 := Lib.hid hg2
        have HF2 := Lib.hid hf2
        have hb2 : w2.heap[(g' f.name).blk]? = some (.cells #[(g' f.name).v1, (g' f.name).v2] 57 (0, 0)) := (hg2.block _ (blk_lt HP.out.blk) (fun e => HP.out.blk_ne.1 (by rw [HE1.out]; exact e.symm))).trans HP.out.blk
        have q1 := blk_cell hb2 0
        have q2 := blk_cell hb2 1
        have f1 := blk_frozen hb2 0
        have f2 := blk_frozen hb2 1
        have hbl := blk_lt hb2
        simp only [HE1.out, HE2.out] at q1 q2
        refine hK.out _ _ (fun _ => ⟨q1, q2⟩) ?_
        clear hK K ho2 hg2 hf2 hb2
        try simp only [Act.put, List.setIfInBounds_toArray, List.set_cons_zero, List.set_cons_succ]
        iterate 2
          refine wpOrd_free (v := ?_) (by rw [List.getElem?_toArray]; exact rfl) (by rfl) (by rfl) (fun w' => ?_) ?_
          rotate_left
          · go_simp
            try with_reducible rfl
          rotate_left
          try simp only [Act.put, List.setIfInBounds_toArray, List.set_cons_zero, List.set_cons_succ]
        refine wpOrd_hard (by rw [List.getElem?_toArray]; exact rfl) (fun K hK => ?_)
        go_simp
        refine hK.out _ _ (fun h => absurd h (by decide)) ?_
        clear hK K
        try simp only [Act.put, List.setIfInBounds_toArray, List.set_cons_zero, List.set_cons_succ]
        iterate 2
          refine wpOrd_free (v := ?_) (by rw [List.getElem?_toArray]; exact rfl) (by rfl) (by rfl) (fun w' => ?_) ?_
          rotate_left
          · go_simp
            try with_reducible rfl
          rotate_left
          try simp only [Act.put, List.setIfInBounds_toArray, List.set_cons_zero, List.set_cons_succ]
        refine wpOrd_hard (by rw [List.getElem?_toArray]; exact rfl) (fun K hK => ?_)
        go_simp
        refine hK.out _ _ (fun h => absurd h (by decide)) ?_
        clear hK K
        try simp only [Act.put, List.setIfInBounds_toArray, List.set_cons_zero, List.set_cons_succ]
        refine wpOrd_done (NoPanic.normal ?_)
        go_wp2_with fail
        go_roundw
        case rel =>
          have es : (f.off k).safe = f.safe ++ f.wait.take m := by unfold DF.off; rw [HTK.out]
          have el : (f.safe ++ f.wait.take m).length = f.safe.length + m := by rw [List.length_append, List.length_take]; omega
          have hgg : w1.grownBy w2 (fp (g' f.name).v1) := by rw [HE1.out]; exact ⟨HG2.out.os, HG2.out.tape, HG2.out.output, HG2.out.size, HG2.out.block⟩
          refine ⟨fun z => left z && !z.sameKey (kL f.name), cnt1, Lib.hid (HI.out.turn HQ'.out HD'.out HR.out HQ.out.is HFM.out HLK.out HRG1.out HG1.out _ hgg ?_ ?_)⟩
          · rw [es, bv_app, el]; exact HO2.out
          · rw [HE1.out]; exact HF2.out
        case measure =>
          have es : (f.off k).safe = f.safe ++ f.wait.take m := by unfold DF.off; rw [HTK.out]
          have el : (f.safe ++ f.wait.take m).length = f.safe.length + m := by rw [List.length_append, List.length_take]; omega
          have hgg : w1.grownBy w2 (fp (g' f.name).v1) := by rw [HE1.out]; exact ⟨HG2.out.os, HG2.out.tape, HG2.out.output, HG2.out.size, HG2.out.block⟩
          have h3 := HI.out.turn HQ'.out HD'.out HR.out HQ.out.is HFM.out HLK.out HRG1.out HG1.out (.slice A3 (f.safe.length + m) k3) hgg (by rw [es, bv_app, el]; exact HO2.out) (by rw [HE1.out]; exact HF2.out)
          have e1 := World.ranges.left_eq h3.rg
          have e2 := World.ranges.left_eq HI.out.rg
          have := HLT.out
          omega
end Go.Proofs.Ytfdcibghcncbmaa
