/- The document's disk: Off. -/
import Derived.Test.YtfdcibghcncbmaaE9
namespace Go.Proofs.Ytfdcibghcncbmaa
open Go.RowKit Go.Maps Go.Shelf

structure ROff (w wr : World) (base m : Nat) (s : DS) (v : Value) (L : Nat → Prop) (k : Int) (i : Nat) : Prop where
  q : ∃ h', RefQ wr base m { s with fs := offT k i s.fs } v h' ∧ (∀ x, RP { s with fs := offT k i s.fs } m v h' x → L x ∨ w.heap.size ≤ x)
  chg : Chg L w wr
/-- The inner loop: j bytes more are safe. -/
structure RIn (wr wr2 : World) (base : Nat) (f : DF) (sv0 wv sv : Value) (k : Int) (j : Nat) : Prop where
  box : wr2.heap[wr.heap.size]? = some (.cells #[.string f.name, sv, wv] 65 (0, 0))
  own : Own wr2 base 5 1 sv (f.safe.length + j) (bv (f.safe ++ f.wait.take j))
  fpr : fp sv = fp sv0 ∨ ∃ b, fp sv = some b ∧ wr.heap.size ≤ b
  below : Below wr.heap.size wr wr2
  le : j ≤ f.wait.length ∧ (j : Int) ≤ max k 0
theorem take_off {j : Nat} {k : Int} {xs : Bs} (h1 : j ≤ xs.length) (h2 : (j : Int) ≤ max k 0) (h3 : j = xs.length ∨ k ≤ j) : xs.take j = xs.take k.toNat := by
  rw [List.take_eq_take_iff]
  omega
theorem RIn.next {wo wr w4 : World} {base : Nat} {f : DF} {sv0 wv sv v4 : Value} {k : Int} {j : Nat} (h : RIn wo wr base f sv0 wv sv k j) (hj : (j : Int) < (f.wait.length : Int)) (hk : (j : Int) < k) (hB0 : base ≤ wr.heap.size) (hb : Below wr.heap.size wr w4)
    (ho : Own w4 wr.heap.size 5 1 v4 (f.safe.length + j + 1) (bv (f.safe ++ f.wait.take j) ++ [.int .u8 (f.wait[j]'(by omega)).toNat])) :
    RIn wo (w4.setCell ⟨wo.heap.size, 1, none⟩ v4) base f sv0 wv v4 k (j + 1) := by
  have hbx := (hb.block _ (blk_lt h.box)).trans h.box
  have hws : wo.heap.size ≤ wr.heap.size := h.below.size
  have hbase : base ≤ wr.heap.size := by
    rcases h.own.2 with ⟨h0, A, e⟩ | ⟨g, cap, cur, e, h0, h1, h2, _⟩
    · exact hB0
    · have := blk_lt h2; omega
  refine ⟨blk_set hbx 1 v4, ?_, ?_, (h.below.trans (hb.mono hws)).setCell (Nat.le_refl _) _, by omega, by omega⟩
  · have hne : ∀ x, fp v4 = some x → x ≠ wo.heap.size := fun x hx e => by have := (ho.lt hx).1; have := blk_lt h.box; omega
    have h2 := (ho.lower hbase).move (w1 := w4.setCell ⟨wo.heap.size, 1, none⟩ v4) fun x hx => Below.heap_setCell w4 ⟨wo.heap.size, 1, none⟩ v4 x (hne x hx)
    have e : bv (f.safe ++ f.wait.take j) ++ [.int .u8 (f.wait[j]'(by omega)).toNat] = bv (f.safe ++ f.wait.take (j + 1)) := by
      rw [take_snoc' (List.getElem?_eq_getElem (by omega)), ← List.append_assoc, bv_app (f.safe ++ f.wait.take j)]; rfl
    rw [e] at h2
    exact h2
  · obtain ⟨g, cap, e, h0, h1, _⟩ := ho.form (by omega)
    refine .inr ⟨g, ?_, by omega⟩
    rw [e]; simp [fp]; omega
theorem ROff.turn {w wr wr2 : World} {base m : Nat} {s : DS} {g cap : Nat} {L : Nat → Prop} {k : Int} {i : Nat} {h' : HV} {f : DF} {sv wv sv0 : Value} {j : Nat} (hR : ROff w wr base m s (.slice (some ⟨g, 0, none⟩) s.fs.length cap) L k i)
    (hq : RefQ wr base m { s with fs := offT k i s.fs } (.slice (some ⟨g, 0, none⟩) s.fs.length cap) h') (hd : ∀ x, RP { s with fs := offT k i s.fs } m (.slice (some ⟨g, 0, none⟩) s.fs.length cap) h' x → L x ∨ w.heap.size ≤ x)
    (hr : Rising s.fs) (hf : s.fs[i]? = some f) (hI : RIn wr wr2 base f sv0 wv sv k j) (h3 : j = f.wait.length ∨ k ≤ j) (hsv : sv0 = (h' f.name).1) :
    ROff w (((wr2.setCell ⟨g, i * 3, none⟩ (.string f.name)).setCell ⟨g, i * 3 + 1, none⟩ sv).setCell ⟨g, i * 3 + 2, none⟩ (.slice none 0 0)) base m s (.slice (some ⟨g, 0, none⟩) s.fs.length cap) L k (i + 1) := by
  have hlt := (List.getElem?_eq_some_iff.1 hf).1
  have hlen : (offT k i s.fs).length = s.fs.length := offT_len k i s.fs
  have hq2 := hq.below hI.below
  have hq2' : RefQ wr2 base m { s with fs := offT k i s.fs } (.slice (some ⟨g, 0, none⟩) (offT k i s.fs).length cap) h' := by rw [hlen]; exact hq2
  have hfi : (offT k i s.fs)[i]? = some f := (offT_get hlt).trans hf
  have hri : Rising (offT k i s.fs) := rising_names (offT_name k i s.fs) hr
  have hsafe : (f.off k).safe = f.safe ++ f.wait.take j := by unfold DF.off; rw [take_off hI.le.1 hI.le.2 h3]
  have hb : BytesOf wr2 base (fun _ => (sv, .slice none 0 0)) (f.off k) := by
    refine ⟨?_, Own.none_ _ _ _ _ none⟩
    show Own wr2 base 5 1 sv (f.off k).safe.length (bv (f.off k).safe)
    rw [hsafe, List.length_append, List.length_take, Nat.min_eq_left hI.le.1]
    exact hI.own
  have hset := hq2'.setFile hri hfi (f' := f.off k) rfl (sv, .slice none 0 0) hb
  have hfp : fp (.slice (some ⟨g, 0, none⟩) s.fs.length cap) = some g := by
    obtain ⟨g', cap', e, h0, _⟩ := hq.row.form (by show 0 < (offT k i s.fs).length; omega)
    injection e with e1 _ e3
    subst e3
    simp [fp]; omega
  have hg := hd g (.inr (.inl hfp))
  have hws : w.heap.size ≤ wr.heap.size := hR.chg.size
  have hset' : RefQ (((wr2.setCell ⟨g, i * 3, none⟩ (.string f.name)).setCell ⟨g, i * 3 + 1, none⟩ sv).setCell ⟨g, i * 3 + 2, none⟩ (.slice none 0 0)) base m { s with fs := updF (f.off k) (offT k i s.fs) } (.slice (some ⟨g, 0, none⟩) (offT k i s.fs).length cap) (hPut h' (f.off k).name (sv, .slice none 0 0)) := hset
  rw [hlen, offT_step hr hf] at hset'
  refine ⟨⟨hPut h' (f.off k).name (sv, .slice none 0 0), hset', fun x hx => ?_⟩, ((((hR.chg.below hI.below).setCell (p := ⟨g, i * 3, none⟩) hg _).setCell (p := ⟨g, i * 3 + 1, none⟩) hg _).setCell (p := ⟨g, i * 3 + 2, none⟩) hg _)⟩
  · rw [← offT_step hr hf] at hx
    rcases hx with rfl | hx | ⟨y, hy, hx⟩
    · exact hd _ (.inl rfl)
    · exact hd _ (.inr (.inl hx))
    · obtain ⟨z, hz, rfl⟩ := List.mem_map.1 hy
      by_cases hn : neq z.name (f.off k).name = true
      · rw [if_pos hn, hPut_same] at hx
        rcases hx with hx | hx
        · have hx : fp sv = some x := hx
          rcases hI.fpr with h1 | ⟨b, h1, h2⟩
          · rw [h1, hsv] at hx
            exact hd x (.inr (.inr ⟨f, List.mem_of_getElem? hfi, .inl hx⟩))
          · rw [h1] at hx; injection hx with hx; exact .inr (by omega)
        · simp [fp] at hx
      · rw [if_neg hn, hPut_other _ _ (by simpa using hn)] at hx
        exact hd x (.inr (.inr ⟨z, hz, hx⟩))
theorem ROff.drew {w wr : World} {base m : Nat} {s : DS} {v : Value} {L : Nat → Prop} {k : Int} {i : Nat} (h : ROff w wr base m s v L k i) : ROff w wr.drew base m s v L k i := by
  obtain ⟨h', h1, h2⟩ := h.q
  exact ⟨⟨h', h1.below (Below.refl _ _).drew, h2⟩, h.chg.drew⟩
set_option maxRecDepth 100000 in
set_option maxHeartbeats 8000000 in
theorem ROff_k (m base : Nat) (s : DS) (v : Value) (h : HV) (L : Nat → Prop) (k : Int) (w : World) (hk : KRef w base m s v h L) (hr : Rising s.fs) (ht : total s.fs ≤ 1073741824) (hfew : s.fs.length ≤ 1048576) (hkk : -9223372036854775808 ≤ k ∧ k ≤ 9223372036854775807) (hon : s.on = true) :
    Calls Try.prog 29 #[.pointer (some ⟨m, 0, none⟩), .int .i64 k] w fun e w' => e = .returned (.tuple #[]) ∧ RAfter w w' base m (s.off k) L := by
  obtain ⟨c0, _, c2, _⟩ := hk.q.cells
  obtain ⟨A, cap, hv, _⟩ := hk.q.row.slice_
  have HK := Lib.hid hk
  have HR := Lib.hid hr
  have HT := Lib.hid ht
  have HON := Lib.hid hon
  have hml := blk_lt hk.q.blk
  rw [hon] at c2
  subst hv
  obtain ⟨hk0, hk1⟩ := hkk
  clear hk hr ht hon
  go_enter Try.func29, Try.ntmps29
  go_wp2_with fail
  go_loopw [17, 4, 5, 6] (fun i_ _ _ _ wr => ∃ i : Nat, i ≤ s.fs.length ∧ i_ = .int .i64 i ∧ Hid (ROff w wr base m s (.slice A s.fs.length cap) L k i)) (fun i_ _ _ _ _ => s.fs.length - (intOf i_).toNat)
  case atStart => exact ⟨0, Nat.zero_le _, rfl, Lib.hid ⟨⟨h, by rw [offT_zero]; exact ⟨HK.out.q, fun x hx => .inl (HK.out.l x hx)⟩⟩, Chg.refl _ _⟩⟩
  case round =>
    obtain ⟨i, hi, rfl, HO⟩ := hrel
    obtain ⟨h', hq', hd'⟩ := HO.out.q
    have HQ' := Lib.hid hq'
    have HD' := Lib.hid hd'
    clear hq' hd'
    by_cases hlt : i < s.fs.length
    · obtain ⟨f, hf⟩ : ∃ f, s.fs[i]? = some f := ⟨_, List.getElem?_eq_getElem hlt⟩
      have HF := Lib.hid hf
      obtain ⟨g, cap', A1, c1, A2, c2', e0, e1, e2, q0, q1, q2, fz, gl, hcap⟩ := HQ'.out.at_ i f ((offT_get hlt).trans hf)
      injection e0 with x1 x2 x3
      subst x1; subst x3
      clear x2
      rw [show ({ s with fs := offT k i s.fs } : DS).fs.length = s.fs.length from offT_len k i s.fs] at hcap
      have hii : (i : Int) < (s.fs.length : Int) := by omega
      have d0 := HQ'.out.cells.1
      have hlen := len_le_total (List.mem_of_getElem? hf)
      have hT := HT.out
      have hlen' : f.safe.length + f.wait.length ≤ 1073741824 := by unfold DF.len at hlen; omega
      have HE1 := Lib.hid e1
      have HE2 := Lib.hid e2
      have HBF := Lib.hid (HQ'.out.bytes f (List.mem_of_getElem? ((offT_get hlt).trans hf)))
      clear e1 e2 fz hf hlen hT c0 c2
      go_wp2_with fail
      obtain ⟨wo, rfl⟩ : ∃ wo : World, wo = wr := ⟨_, rfl⟩
      have HI0 : Hid (RIn wo (wo.alloc (.cells #[.string f.name, .slice A1 f.safe.length c1, .slice A2 f.wait.length c2'] 65)) base f (.slice A1 f.safe.length c1) (.slice A2 f.wait.length c2') (.slice A1 f.safe.length c1) k 0) := Lib.hid ⟨blk_new _ _, by
        have := HBF.out.safe
        rw [HE1.out] at this
        simpa using this.below (below_al (Below.refl _ _) _), .inl rfl, below_al (Below.refl _ _) _, by omega, by omega⟩
      go_loopw [6] (fun j_ w2 => ∃ (j : Nat) (sv : Value), j_ = .int .i64 j ∧ Hid (RIn wo w2 base f (.slice A1 f.safe.length c1) (.slice A2 f.wait.length c2') sv k j)) (fun j_ _ => f.wait.length - (intOf j_).toNat)
      case atStart => exact ⟨0, _, rfl, HI0⟩
      case round =>
        obtain ⟨j, sv, rfl, HI⟩ := hrel
        clear HI0
        obtain ⟨As, cs, hsv, _⟩ := HI.out.own.slice_
        have HBW : Hid (base ≤ wr.heap.size) := Lib.hid (by have := HQ'.out.lo; have := blk_lt HQ'.out.blk; have := HI.out.below.size; omega)
        subst hsv
        have hjl := HI.out.le.1
        have b0 : wr.cell? ⟨wo.heap.size, 0, none⟩ = some (.string f.name) := blk_cell HI.out.box 0
        have b1 : wr.cell? ⟨wo.heap.size, 1, none⟩ = some (.slice As (f.safe.length + j) cs) := blk_cell HI.out.box 1
        have b2 : wr.cell? ⟨wo.heap.size, 2, none⟩ = some (.slice A2 f.wait.length c2') := blk_cell HI.out.box 2
        have bf1 := blk_frozen HI.out.box 1
        have bl := blk_lt HI.out.box
        by_cases hj : (j : Int) < (f.wait.length : Int) ∧ (j : Int) < k
        · obtain ⟨hj1, hj2⟩ := hj
          have hd1 : decide ((j : Int) < (f.wait.length : Int)) = true := by simpa using hj1
          have hd2 : decide ((j : Int) < k) = true := by simpa using hj2
          go_wp2_with fail
          obtain ⟨gw, HGW⟩ : ∃ gw, Hid (A2 = some ⟨gw, 0, none⟩ ∧ ∀ x u, (bv f.wait)[x]? = some u → wo.cell? ⟨gw, x, none⟩ = some u) := by
            have h1 := HBF.out.wait
            rw [HE2.out] at h1
            obtain ⟨g', cap', e, _⟩ := h1.form (by omega)
            injection e with e _ _
            subst e
            exact ⟨g', rfl, fun x u hu => by
              obtain ⟨ad, ha, hc⟩ := h1.cells x u hu
              injection ha with ha
              rw [← ha, add_at] at hc
              exact hc⟩
          obtain ⟨rfl, HGC⟩ := HGW.out
          have bw : wr.cell? ⟨gw, j, none⟩ = some (.int .u8 (f.wait[j]'(by omega)).toNat) := cell_below HI.out.below (HGC j _ (by unfold bv; rw [List.getElem?_map, List.getElem?_eq_getElem (by omega)]; rfl))
          have HN : Hid (∀ W, Below wr.heap.size wr W → W.cell? ⟨wo.heap.size, 1, none⟩ = some (.slice As (f.safe.length + j) cs) ∧ W.cell? ⟨wo.heap.size, 2, none⟩ = some (.slice (some ⟨gw, 0, none⟩) f.wait.length c2') ∧ W.cell? ⟨gw, j, none⟩ = some (.int .u8 (f.wait[j]'(by omega)).toNat)) :=
            Lib.hid fun W hW => ⟨cell_below hW b1, cell_below hW b2, cell_below hW bw⟩
          have HSAFE : Hid (∀ W, Below wr.heap.size wr W → ∀ x u, (bv (f.safe ++ f.wait.take j))[x]? = some u → ∃ ad, As = some ad ∧ W.cell? (ad.add x) = some u) := Lib.hid fun W hW => (HI.out.own.below hW).cells
          have HLN : Hid ((bv (f.safe ++ f.wait.take j)).length = (f.safe.length + j) * 1) := Lib.hid (by rw [bv_len, List.length_append, List.length_take]; omega)
          have HD := Lib.hid (HN.out wr.drew (Below.refl _ _).drew)
          have HB0 : Hid (Below wr.heap.size wr wr.drew) := Lib.hid (Below.refl _ _).drew
          clear b0 b1 b2 bw HGC HGW hd1 hd2
          refine wp_region_noPanic ?_
          refine wp_region_tree (fun w' => w'.cell? ⟨wo.heap.size, 1, none⟩ = some (.slice As (f.safe.length + j) cs) ∧ w'.cell? ⟨wo.heap.size, 2, none⟩ = some (.slice (some ⟨gw, 0, none⟩) f.wait.length c2') ∧ w'.cell? ⟨gw, j, none⟩ = some (.int .u8 (f.wait[j]'(by omega)).toNat)) (.soft 1 (.soft 2 (.soft 4 (.soft 5 (.soft 6 (.soft 7 (.soft 8 (.two 0 (.two 3 (.one 9 (.one 10 (.soft 11 (.one 12 .nil)))) 9 (.one 3 (.one 10 (.soft 11 (.one 12 .nil))))) 9 (.one 0 (.one 3 (.one 10 (.soft 11 (.one 12 .nil))))))))))))) [12] (by kernel_rfl) (by kernel_rfl) (fun _ _ _ _ _ h => h) ?_
          iterate 7
            refine wpTree_soft (v := ?_) (by rw [List.getElem?_toArray]; exact rfl) (by rfl) (by rfl) (fun w' hS => ?_) HD.out ?_
            rotate_left
            · obtain ⟨a1, a2, a3⟩ := hS
              go_simp
              try with_reducible rfl
            rotate_left
            try simp only [Act.put, List.setIfInBounds_toArray, List.set_cons_zero, List.set_cons_succ]
          refine wpTree_fork ?_ ?_
          · skip
            refine wpTree_hard (by rw [List.getElem?_toArray]; exact rfl) (fun K hK => ?_)
            go_simp
            have HB1 : Hid (Below wr.heap.size wr (wr.drew.alloc (.cells #[] 5))) := Lib.hid (below_al HB0.out _)
            refine hK.out _ _ (fun _ => HN.out _ HB1.out) ?_
            clear hK K
            try simp only [Act.put, List.setIfInBounds_toArray, List.set_cons_zero, List.set_cons_succ]
            refine wpTree_fork ?_ ?_
            · skip
              refine wpTree_hard (by rw [List.getElem?_toArray]; exact rfl) (fun K hK => ?_)
              rw [if_pos (by rfl)]
              refine oper_append_any _ _ _ _ rfl wr.heap.size 5 (.int .u8 0) 1 1 Try.underlying29 infoB rfl (by decide) (.slice (some ⟨wr.heap.size, 0, none⟩) 0 0) 0 [] rfl (Own.none_ _ _ _ _ _) As (f.safe.length + j) cs (bv (f.safe ++ f.wait.take j)) rfl HLN.out (HSAFE.out _ HB1.out) (bv_one _) (by omega) (by omega) HB1.out.size ?_
              intro v2 w2 ho2 hg2 hf2
              simp only [Nat.zero_add, List.nil_append] at ho2
              obtain ⟨A3, k3, rfl, _⟩ := ho2.slice_
              have HO2 := Lib.hid ho2
              have HB2 : Hid (Below wr.heap.size wr w2) := Lib.hid (HB1.out.grown hg2 HB1.out.size fun x e => by simp [fp] at e)
              clear ho2 hg2 hf2
              refine hK.out _ _ (fun _ => HN.out _ HB2.out) ?_
              clear hK K
              try simp only [Act.put, List.setIfInBounds_toArray, List.set_cons_zero, List.set_cons_succ]
              refine wpTree_hard (by rw [List.getElem?_toArray]; exact rfl) (fun K hK => ?_)
              go_simp
              have HB3 : Hid (Below wr.heap.size wr (w2.alloc (.cells #[.int .u8 (f.wait[j]'(by omega)).toNat] 5))) := Lib.hid (below_al HB2.out _)
              have HN9 : Hid ((w2.alloc (.cells #[.int .u8 (f.wait[j]'(by omega)).toNat] 5)).heap[w2.heap.size]? = some (.cells #[.int .u8 (f.wait[j]'(by omega)).toNat] 5 (0, 0))) := Lib.hid (by have := blk_new w2 (.cells #[.int .u8 (f.wait[j]'(by omega)).toNat] 5 (0, 0)); first | (simp only [World.size_alloc] at this; exact this) | exact this)
              refine hK.out _ _ (fun _ => HN.out _ HB3.out) ?_
              clear hK K
              try simp only [Act.put, List.setIfInBounds_toArray, List.set_cons_zero, List.set_cons_succ]
              refine wpTree_hard (by rw [List.getElem?_toArray]; exact rfl) (fun K hK => ?_)
              rw [if_pos (by rfl)]
              refine oper_append_any _ _ _ _ rfl wr.heap.size 5 (.int .u8 0) 1 1 Try.underlying29 infoB rfl (by decide) (.slice A3 (f.safe.length + j) k3) (f.safe.length + j) (bv (f.safe ++ f.wait.take j)) rfl (HO2.out.below (below_al (Below.refl _ _) _)) (some ⟨w2.heap.size, 0, none⟩) 1 1 [.int .u8 (f.wait[j]'(by omega)).toNat] rfl rfl (news_cells HN9.out) (fun u hu => by simp at hu; rw [hu]; rfl) (by omega) (by omega) HB3.out.size ?_
              intro v4 w4 ho4 hg4 hf4
              obtain ⟨A4, k4, rfl, _⟩ := ho4.slice_
              have HO4 := Lib.hid ho4
              have HB4 : Hid (Below wr.heap.size wr w4) := Lib.hid (HB3.out.grown hg4 HB3.out.size fun x e => (HO2.out.lt e).1)
              clear ho4 hg4 hf4
              refine hK.out _ _ (fun _ => HN.out _ HB4.out) ?_
              clear hK K
              try simp only [Act.put, List.setIfInBounds_toArray, List.set_cons_zero, List.set_cons_succ]
              have HD4 := Lib.hid (HN.out _ HB4.out)
              iterate 1
                refine wpTree_soft (v := ?_) (by rw [List.getElem?_toArray]; exact rfl) (by rfl) (by rfl) (fun w' hS => ?_) HD4.out ?_
                rotate_left
                · obtain ⟨a1, a2, a3⟩ := hS
                  go_simp
                  try with_reducible rfl
                rotate_left
                try simp only [Act.put, List.setIfInBounds_toArray, List.set_cons_zero, List.set_cons_succ]
              refine wpTree_hard (by rw [List.getElem?_toArray]; exact rfl) (fun K hK => ?_)
              have y1 := HD4.out.1
              have yf : w4.frozen? ⟨wo.heap.size, 1, none⟩ = false := (HB4.out.frozen (p := ⟨wo.heap.size, 1, none⟩) bl).trans bf1
              have yl : wo.heap.size < w4.heap.size := Nat.lt_of_lt_of_le bl HB4.out.size
              go_simp
              refine hK.out _ _ (fun h => absurd h (by decide)) ?_
              clear hK K y1 yf yl
              try simp only [Act.put, List.setIfInBounds_toArray, List.set_cons_zero, List.set_cons_succ]
              refine wpTree_done (NoPanic.normal ?_)
              go_wp2_with fail
              go_roundw
              case rel => exact ⟨j + 1, _, by go_num, Lib.hid (HI.out.next hj1 hj2 HBW.out HB4.out HO4.out)⟩
              case measure => simp [intOf]; omega
            · skip
              refine wpTree_hard (by rw [List.getElem?_toArray]; exact rfl) (fun K hK => ?_)
              go_simp
              have HB2 : Hid (Below wr.heap.size wr ((wr.drew.alloc (.cells #[] 5)).alloc (.cells #[.int .u8 (f.wait[j]'(by omega)).toNat] 5))) := Lib.hid (below_al HB1.out _)
              have HN9 : Hid (((wr.drew.alloc (.cells #[] 5)).alloc (.cells #[.int .u8 (f.wait[j]'(by omega)).toNat] 5)).heap[wr.heap.size + 1]? = some (.cells #[.int .u8 (f.wait[j]'(by omega)).toNat] 5 (0, 0))) := Lib.hid (by have := blk_new (wr.drew.alloc (.cells #[] 5)) (.cells #[.int .u8 (f.wait[j]'(by omega)).toNat] 5 (0, 0)); first | (simp only [World.size_alloc] at this; exact this) | exact this)
              refine hK.out _ _ (fun _ => HN.out _ HB2.out) ?_
              clear hK K
              try simp only [Act.put, List.setIfInBounds_toArray, List.set_cons_zero, List.set_cons_succ]
              refine wpTree_hard (by rw [List.getElem?_toArray]; exact rfl) (fun K hK => ?_)
              rw [if_pos (by rfl)]
              refine oper_append_any _ _ _ _ rfl wr.heap.size 5 (.int .u8 0) 1 1 Try.underlying29 infoB rfl (by decide) (.slice (some ⟨wr.heap.size, 0, none⟩) 0 0) 0 [] rfl (Own.none_ _ _ _ _ _) As (f.safe.length + j) cs (bv (f.safe ++ f.wait.take j)) rfl HLN.out (HSAFE.out _ HB2.out) (bv_one _) (by omega) (by omega) HB2.out.size ?_
              intro v2 w2 ho2 hg2 hf2
              simp only [Nat.zero_add, List.nil_append] at ho2
              obtain ⟨A3, k3, rfl, _⟩ := ho2.slice_
              have HO2 := Lib.hid ho2
              have HB3 : Hid (Below wr.heap.size wr w2) := Lib.hid (HB2.out.grown hg2 HB2.out.size fun x e => by simp [fp] at e)
              have HN9' : Hid (w2.heap[wr.heap.size + 1]? = some (.cells #[.int .u8 (f.wait[j]'(by omega)).toNat] 5 (0, 0))) := Lib.hid ((hg2.block _ (blk_lt HN9.out) (fun e => by cases e)).trans HN9.out)
              clear ho2 hg2 hf2
              refine hK.out _ _ (fun _ => HN.out _ HB3.out) ?_
              clear hK K
              try simp only [Act.put, List.setIfInBounds_toArray, List.set_cons_zero, List.set_cons_succ]
              refine wpTree_hard (by rw [List.getElem?_toArray]; exact rfl) (fun K hK => ?_)
              rw [if_pos (by rfl)]
              refine oper_append_any _ _ _ _ rfl wr.heap.size 5 (.int .u8 0) 1 1 Try.underlying29 infoB rfl (by decide) (.slice A3 (f.safe.length + j) k3) (f.safe.length + j) (bv (f.safe ++ f.wait.take j)) rfl HO2.out (some ⟨wr.heap.size + 1, 0, none⟩) 1 1 [.int .u8 (f.wait[j]'(by omega)).toNat] rfl rfl (news_cells HN9'.out) (fun u hu => by simp at hu; rw [hu]; rfl) (by omega) (by omega) HB3.out.size ?_
              intro v4 w4 ho4 hg4 hf4
              obtain ⟨A4, k4, rfl, _⟩ := ho4.slice_
              have HO4 := Lib.hid ho4
              have HB4 : Hid (Below wr.heap.size wr w4) := Lib.hid (HB3.out.grown hg4 HB3.out.size fun x e => (HO2.out.lt e).1)
              clear ho4 hg4 hf4
              refine hK.out _ _ (fun _ => HN.out _ HB4.out) ?_
              clear hK K
              try simp only [Act.put, List.setIfInBounds_toArray, List.set_cons_zero, List.set_cons_succ]
              have HD4 := Lib.hid (HN.out _ HB4.out)
              iterate 1
                refine wpTree_soft (v := ?_) (by rw [List.getElem?_toArray]; exact rfl) (by rfl) (by rfl) (fun w' hS => ?_) HD4.out ?_
                rotate_left
                · obtain ⟨a1, a2, a3⟩ := hS
                  go_simp
                  try with_reducible rfl
                rotate_left
                try simp only [Act.put, List.setIfInBounds_toArray, List.set_cons_zero, List.set_cons_succ]
              refine wpTree_hard (by rw [List.getElem?_toArray]; exact rfl) (fun K hK => ?_)
              have y1 := HD4.out.1
              have yf : w4.frozen? ⟨wo.heap.size, 1, none⟩ = false := (HB4.out.frozen (p := ⟨wo.heap.size, 1, none⟩) bl).trans bf1
              have yl : wo.heap.size < w4.heap.size := Nat.lt_of_lt_of_le bl HB4.out.size
              go_simp
              refine hK.out _ _ (fun h => absurd h (by decide)) ?_
              clear hK K y1 yf yl
              try simp only [Act.put, List.setIfInBounds_toArray, List.set_cons_zero, List.set_cons_succ]
              refine wpTree_done (NoPanic.normal ?_)
              go_wp2_with fail
              go_roundw
              case rel => exact ⟨j + 1, _, by go_num, Lib.hid (HI.out.next hj1 hj2 HBW.out HB4.out HO4.out)⟩
              case measure => simp [intOf]; omega
          · skip
            refine wpTree_hard (by rw [List.getElem?_toArray]; exact rfl) (fun K hK => ?_)
            go_simp
            have HB1 : Hid (Below wr.heap.size wr (wr.drew.alloc (.cells #[.int .u8 (f.wait[j]'(by omega)).toNat] 5))) := Lib.hid (below_al HB0.out _)
            have HN9 : Hid ((wr.drew.alloc (.cells #[.int .u8 (f.wait[j]'(by omega)).toNat] 5)).heap[wr.heap.size]? = some (.cells #[.int .u8 (f.wait[j]'(by omega)).toNat] 5 (0, 0))) := Lib.hid (by have := blk_new wr.drew (.cells #[.int .u8 (f.wait[j]'(by omega)).toNat] 5 (0, 0)); first | (simp only [World.size_alloc] at this; exact this) | exact this)
            refine hK.out _ _ (fun _ => HN.out _ HB1.out) ?_
            clear hK K
            try simp only [Act.put, List.setIfInBounds_toArray, List.set_cons_zero, List.set_cons_succ]
            have HN8 : Hid (((wr.drew.alloc (.cells #[.int .u8 (f.wait[j]'(by omega)).toNat] 5)).alloc (.cells #[] 5)).heap[wr.heap.size]? = some (.cells #[.int .u8 (f.wait[j]'(by omega)).toNat] 5 (0, 0))) := Lib.hid (blk_alloc HN9.out _)
            refine wpTree_hard (by rw [List.getElem?_toArray]; exact rfl) (fun K hK => ?_)
            go_simp
            have HB2 : Hid (Below wr.heap.size wr ((wr.drew.alloc (.cells #[.int .u8 (f.wait[j]'(by omega)).toNat] 5)).alloc (.cells #[] 5))) := Lib.hid (below_al HB1.out _)
            refine hK.out _ _ (fun _ => HN.out _ HB2.out) ?_
            clear hK K
            try simp only [Act.put, List.setIfInBounds_toArray, List.set_cons_zero, List.set_cons_succ]
            refine wpTree_hard (by rw [List.getElem?_toArray]; exact rfl) (fun K hK => ?_)
            rw [if_pos (by rfl)]
            refine oper_append_any _ _ _ _ rfl wr.heap.size 5 (.int .u8 0) 1 1 Try.underlying29 infoB rfl (by decide) (.slice (some ⟨(wr.heap.size + 1), 0, none⟩) 0 0) 0 [] rfl (Own.none_ _ _ _ _ _) As (f.safe.length + j) cs (bv (f.safe ++ f.wait.take j)) rfl HLN.out (HSAFE.out _ HB2.out) (bv_one _) (by omega) (by omega) HB2.out.size ?_
            intro v2 w2 ho2 hg2 hf2
            simp only [Nat.zero_add, List.nil_append] at ho2
            obtain ⟨A3, k3, rfl, _⟩ := ho2.slice_
            have HO2 := Lib.hid ho2
            have HB3 : Hid (Below wr.heap.size wr w2) := Lib.hid (HB2.out.grown hg2 HB2.out.size fun x e => by simp [fp] at e)
            have HN9' : Hid (w2.heap[wr.heap.size]? = some (.cells #[.int .u8 (f.wait[j]'(by omega)).toNat] 5 (0, 0))) := Lib.hid ((hg2.block _ (blk_lt HN8.out) (fun e => by cases e)).trans HN8.out)
            clear ho2 hg2 hf2
            refine hK.out _ _ (fun _ => HN.out _ HB3.out) ?_
            clear hK K
            try simp only [Act.put, List.setIfInBounds_toArray, List.set_cons_zero, List.set_cons_succ]
            refine wpTree_hard (by rw [List.getElem?_toArray]; exact rfl) (fun K hK => ?_)
            rw [if_pos (by rfl)]
            refine oper_append_any _ _ _ _ rfl wr.heap.size 5 (.int .u8 0) 1 1 Try.underlying29 infoB rfl (by decide) (.slice A3 (f.safe.length + j) k3) (f.safe.length + j) (bv (f.safe ++ f.wait.take j)) rfl HO2.out (some ⟨wr.heap.size, 0, none⟩) 1 1 [.int .u8 (f.wait[j]'(by omega)).toNat] rfl rfl (news_cells HN9'.out) (fun u hu => by simp at hu; rw [hu]; rfl) (by omega) (by omega) HB3.out.size ?_
            intro v4 w4 ho4 hg4 hf4
            obtain ⟨A4, k4, rfl, _⟩ := ho4.slice_
            have HO4 := Lib.hid ho4
            have HB4 : Hid (Below wr.heap.size wr w4) := Lib.hid (HB3.out.grown hg4 HB3.out.size fun x e => (HO2.out.lt e).1)
            clear ho4 hg4 hf4
            refine hK.out _ _ (fun _ => HN.out _ HB4.out) ?_
            clear hK K
            try simp only [Act.put, List.setIfInBounds_toArray, List.set_cons_zero, List.set_cons_succ]
            have HD4 := Lib.hid (HN.out _ HB4.out)
            iterate 1
              refine wpTree_soft (v := ?_) (by rw [List.getElem?_toArray]; exact rfl) (by rfl) (by rfl) (fun w' hS => ?_) HD4.out ?_
              rotate_left
              · obtain ⟨a1, a2, a3⟩ := hS
                go_simp
                try with_reducible rfl
              rotate_left
              try simp only [Act.put, List.setIfInBounds_toArray, List.set_cons_zero, List.set_cons_succ]
            refine wpTree_hard (by rw [List.getElem?_toArray]; exact rfl) (fun K hK => ?_)
            have y1 := HD4.out.1
            have yf : w4.frozen? ⟨wo.heap.size, 1, none⟩ = false := (HB4.out.frozen (p := ⟨wo.heap.size, 1, none⟩) bl).trans bf1
            have yl : wo.heap.size < w4.heap.size := Nat.lt_of_lt_of_le bl HB4.out.size
            go_simp
            refine hK.out _ _ (fun h => absurd h (by decide)) ?_
            clear hK K y1 yf yl
            try simp only [Act.put, List.setIfInBounds_toArray, List.set_cons_zero, List.set_cons_succ]
            refine wpTree_done (NoPanic.normal ?_)
            go_wp2_with fail
            go_roundw
            case rel => exact ⟨j + 1, _, by go_num, Lib.hid (HI.out.next hj1 hj2 HBW.out HB4.out HO4.out)⟩
            case measure => simp [intOf]; omega
        · have HX : Hid (j = f.wait.length ∨ k ≤ j) := Lib.hid (by omega)
          by_cases hj1 : (j : Int) < (f.wait.length : Int)
          · have hd1 : decide ((j : Int) < (f.wait.length : Int)) = true := by simpa using hj1
            have hd2 : decide ((j : Int) < k) = false := by simp; have := HX.out; omega
            have hn1 : j < f.wait.length := by omega
            clear hj hj1
            go_wp2_with fail
            obtain ⟨g', cap'', B1, d1, B2, d2, e0', _, _, r0, r1, r2, rfz, rgl, _⟩ := (HQ'.out.below HI.out.below).at_ i f ((offT_get hlt).trans HF.out)
            injection e0' with y1 y2 y3
            injection y1 with y1
            injection y1 with y1 _ _
            subst y1
            subst y3
            clear y2
            have rf0 := rfz (i * 3)
            have rf1 := rfz (i * 3 + 1)
            have rf2 := rfz (i * 3 + 2)
            have HS9 : Hid (wr.drew.cell? ⟨m, 0, none⟩ = some (.slice (some ⟨g, 0, none⟩) s.fs.length cap) ∧ wr.drew.cell? ⟨wo.heap.size, 0, none⟩ = some (.string f.name) ∧ wr.drew.cell? ⟨wo.heap.size, 1, none⟩ = some (.slice As (f.safe.length + j) cs)) := Lib.hid ⟨cell_below HI.out.below d0, b0, b1⟩
            clear b0 b1 b2 rfz
            refine wp_region_noPanic ?_
            refine wp_region_ord (fun w' => w'.cell? ⟨m, 0, none⟩ = some (.slice (some ⟨g, 0, none⟩) s.fs.length cap) ∧ w'.cell? ⟨wo.heap.size, 0, none⟩ = some (.string f.name) ∧ w'.cell? ⟨wo.heap.size, 1, none⟩ = some (.slice As (f.safe.length + j) cs))
              [(0,true),(1,true),(2,true),(3,true),(4,true),(5,true),(6,true),(7,true),(8,true),(9,true),(10,true),(11,false)] [11] (by kernel_rfl) (by kernel_rfl) (fun _ _ _ _ _ h => h) ?_
            iterate 11
              refine wpOrd_soft (v := ?_) (by rw [List.getElem?_toArray]; exact rfl) (by rfl) (by rfl) (fun w' hS => ?_) HS9.out ?_
              rotate_left
              · obtain ⟨a1, a2, a3⟩ := hS
                go_simp
                try with_reducible rfl
              rotate_left
              try simp only [Act.put, List.setIfInBounds_toArray, List.set_cons_zero, List.set_cons_succ]
            refine wpOrd_hard (by rw [List.getElem?_toArray]; exact rfl) (fun K hK => ?_)
            go_simp
            refine hK.out _ _ (fun h => absurd h (by decide)) ?_
            clear hK K
            try simp only [Act.put, List.setIfInBounds_toArray, List.set_cons_zero, List.set_cons_succ]
            refine wpOrd_done (NoPanic.normal ?_)
            go_wp2_with fail
            go_roundw
            case rel => exact ⟨i + 1, by omega, by go_num, Lib.hid (HO.out.turn HQ'.out HD'.out HR.out HF.out HI.out HX.out HE1.out.symm).drew⟩
            case measure => simp [intOf]; omega
          · have hd1 : decide ((j : Int) < (f.wait.length : Int)) = false := by simp; omega
            have hn1 : f.wait.length ≤ j := by omega
            clear hj hj1
            go_wp2_with fail
            obtain ⟨g', cap'', B1, d1, B2, d2, e0', _, _, r0, r1, r2, rfz, rgl, _⟩ := (HQ'.out.below HI.out.below).at_ i f ((offT_get hlt).trans HF.out)
            injection e0' with y1 y2 y3
            injection y1 with y1
            injection y1 with y1 _ _
            subst y1
            subst y3
            clear y2
            have rf0 := rfz (i * 3)
            have rf1 := rfz (i * 3 + 1)
            have rf2 := rfz (i * 3 + 2)
            have HS9 : Hid (wr.drew.cell? ⟨m, 0, none⟩ = some (.slice (some ⟨g, 0, none⟩) s.fs.length cap) ∧ wr.drew.cell? ⟨wo.heap.size, 0, none⟩ = some (.string f.name) ∧ wr.drew.cell? ⟨wo.heap.size, 1, none⟩ = some (.slice As (f.safe.length + j) cs)) := Lib.hid ⟨cell_below HI.out.below d0, b0, b1⟩
            clear b0 b1 b2 rfz
            refine wp_region_noPanic ?_
            refine wp_region_ord (fun w' => w'.cell? ⟨m, 0, none⟩ = some (.slice (some ⟨g, 0, none⟩) s.fs.length cap) ∧ w'.cell? ⟨wo.heap.size, 0, none⟩ = some (.string f.name) ∧ w'.cell? ⟨wo.heap.size, 1, none⟩ = some (.slice As (f.safe.length + j) cs))
              [(0,true),(1,true),(2,true),(3,true),(4,true),(5,true),(6,true),(7,true),(8,true),(9,true),(10,true),(11,false)] [11] (by kernel_rfl) (by kernel_rfl) (fun _ _ _ _ _ h => h) ?_
            iterate 11
              refine wpOrd_soft (v := ?_) (by rw [List.getElem?_toArray]; exact rfl) (by rfl) (by rfl) (fun w' hS => ?_) HS9.out ?_
              rotate_left
              · obtain ⟨a1, a2, a3⟩ := hS
                go_simp
                try with_reducible rfl
              rotate_left
              try simp only [Act.put, List.setIfInBounds_toArray, List.set_cons_zero, List.set_cons_succ]
            refine wpOrd_hard (by rw [List.getElem?_toArray]; exact rfl) (fun K hK => ?_)
            go_simp
            refine hK.out _ _ (fun h => absurd h (by decide)) ?_
            clear hK K
            try simp only [Act.put, List.setIfInBounds_toArray, List.set_cons_zero, List.set_cons_succ]
            refine wpOrd_done (NoPanic.normal ?_)
            go_wp2_with fail
            go_roundw
            case rel => exact ⟨i + 1, by omega, by go_num, Lib.hid (HO.out.turn HQ'.out HD'.out HR.out HF.out HI.out HX.out HE1.out.symm).drew⟩
            case measure => simp [intOf]; omega
    · have hk' : i = s.fs.length := by omega
      subst hk'
      have d0 := HQ'.out.cells.1
      have d2 := HQ'.out.cells.2.2.1
      have d4 := HQ'.out.cells.2.2.2.2.1
      have f2 := blk_frozen HQ'.out.blk 2
      have f4 := blk_frozen HQ'.out.blk 4
      have ml := blk_lt HQ'.out.blk
      go_wp2_with fail
      go_end0
      refine ⟨rfl, ?_⟩
      have hoff := off_on HON.out k
      rw [← offT_end k s.fs] at hoff
      rw [hoff]
      have hm : L m := HK.out.has
      have hc : Chg L w ((wr.setCell ⟨m, 2, none⟩ (.bool false)).setCell ⟨m, 4, none⟩ (.int .i64 0)) := (HO.out.chg.setCell (.inl hm) _).setCell (.inl hm) _
      refine ⟨⟨⟨_, h', (HQ'.out.setD 2 _ { s with fs := offT k s.fs.length s.fs, on := false } rfl rfl).setD 4 _ { s with fs := offT k s.fs.length s.fs, on := false, left := 0 } rfl rfl, fun x hx => ?_, fun x hx => ?_⟩⟩, hc⟩
      · rcases HD'.out x hx with h1 | h1
        · exact .inl h1
        · refine .inr ⟨h1, ?_⟩
          have := (HQ'.out.lt hx).2
          simpa using this
      · have h1 := hc.size
        have h2 := HK.out.lo m hm
        rcases hx with hx | hx
        · have := HK.out.lo x hx; omega
        · omega
end Go.Proofs.Ytfdcibghcncbmaa
