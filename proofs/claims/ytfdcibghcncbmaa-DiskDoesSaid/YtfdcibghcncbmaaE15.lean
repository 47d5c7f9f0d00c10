/- The document's disk: Truncate whole. -/
import Derived.Test.YtfdcibghcncbmaaE14
namespace Go.Proofs.Ytfdcibghcncbmaa
open Go.RowKit Go.Maps Go.Shelf

set_option maxRecDepth 100000 in
set_option maxHeartbeats 4000000 in
theorem RTrunc_safe (m base : Nat) (s : DS) (L : Nat → Prop) (n : ByteArray) (kn : Nat) (w : World) (hd : RDisk w base m s L) (hs : s.fitR) (hn : n.size ≤ maxLen) (hb : s.bad n = 0) (f : DF) (hx : findF n s.fs = some f) (hle : kn ≤ f.len) (hg : s.goes = false) (hsf : kn ≤ f.safe.length) :
    Calls Try.prog 24 #[.pointer (some ⟨m, 0, none⟩), .string n, .int .i64 kn] w fun e w' => e = .returned (.int .i64 (s.trunc n kn).2) ∧ RAfter w w' base m (s.trunc n kn).1 L := by
  obtain ⟨v, h, hk⟩ := hd.k
  obtain ⟨_, _, c2, _⟩ := hk.q.cells
  have HD := Lib.hid hd
  have HK := Lib.hid hk
  have HS := Lib.hid hs
  have HR := Lib.hid (rready_any m s n w hn c2)
  have HA := Lib.hid (at_any m base s v h n w hk.q hn (by have := hs.few; omega))
  obtain ⟨kk, hkv, hkf⟩ := atI_some HS.out.fit.rising hx
  have HV := Lib.hid hkv
  have HBAD := Lib.hid hb
  have HFN := Lib.hid (findF_some hx).2
  have hk0 : ¬ ((kk : Int) < 0) := by omega
  have hlt := (List.getElem?_eq_some_iff.1 hkf).1
  have hki : (kk : Int) < (s.fs.length : Int) := by omega
  have hlen := len_le_total (List.mem_of_getElem? hkf)
  have hT := HS.out.fit.bytes
  have hlen' : f.safe.length + f.wait.length ≤ 1073741824 := by unfold DF.len at hlen; omega
  have HKF := Lib.hid hkf
  have HW : Hid (s.trunc n kn = ({ s.raw with fs := updF (truncF n kn f) s.raw.fs }, 0)) := Lib.hid (by unfold DS.trunc; rw [with_some hb hx, if_neg (by omega), fin_stays hg])
  have hle' : kn ≤ f.safe.length + f.wait.length := hle
  have HG := Lib.hid hg
  clear hd hs hn hk c2 hb hx hkv hkf hlen hT hle hg
  go_enter Try.func24, Try.ntmps24
  go_wp2_with first
    | (go_at_call 41; refine HR.out.mono ?_; rw [HBAD.out]; rintro e w' ⟨rfl, rfl⟩)
    | (go_at_call 42; refine HA.out.mono ?_; rw [HV.out]; rintro e w1 ⟨rfl, hb1⟩; have HB1 := Lib.hid hb1; have hq1 := HK.out.q.below hb1; obtain ⟨g, cap, A1, c1, A2, c2x, e0, e1, e2, q0, q1, q2, fz, gl, hcap⟩ := hq1.at_ kk f HKF.out; have y0 := hq1.cells.1; rw [e0] at y0; have HE0 := Lib.hid e0; have HE1 := Lib.hid e1; have HE2 := Lib.hid e2; clear hb1 hq1 e0 e1 e2 fz)
    | (go_at_call 45; refine (rraw_k m base s v h L _ ((HK.out.below HB1.out).below (below_al (Below.refl _ _) _)) HS.out.fit.count HS.out.fit.left).mono ?_; rw [HG.out]; rintro e w2 ⟨rfl, hk2, hc2⟩; have HK2 := Lib.hid hk2; have HC2 := Lib.hid hc2; have y5 := hk2.q.cells.2.2.2.2.2; have hbx : w2.heap[w1.heap.size]? = some (.cells #[.string f.name, .slice A1 f.safe.length c1, .slice A2 f.wait.length c2x] 65 (0, 0)) := (hc2.block _ (by simp) (fun hl => by have := (HK.out.lo _ hl).2; have := HB1.out.size; omega)).trans (blk_new _ _); have bx1 : w2.cell? ⟨w1.heap.size, 1, none⟩ = some (.slice A1 f.safe.length c1) := blk_cell hbx 1; have bx2 : w2.cell? ⟨w1.heap.size, 2, none⟩ = some (.slice A2 f.wait.length c2x) := blk_cell hbx 2; have hw12 : w1.heap.size < w2.heap.size := blk_lt hbx; clear hbx; clear hk2 hc2)
  obtain ⟨g', cap', A1', c1', A2', c2', e0', e1', e2', r0, r1, r2, rfz, rgl, hcap'⟩ := HK2.out.q.at_ kk f HKF.out
  have hcc1 : (f.safe.length : Int) ≤ (c1 : Int) := by
    obtain ⟨A, c, e, hc⟩ := (HK2.out.q.bytes f (List.mem_of_getElem? HKF.out)).safe.slice_
    rw [HE1.out] at e; injection e with _ _ e; omega
  have hcc2 : (f.wait.length : Int) ≤ (c2x : Int) := by
    obtain ⟨A, c, e, hc⟩ := (HK2.out.q.bytes f (List.mem_of_getElem? HKF.out)).wait.slice_
    rw [HE2.out] at e; injection e with _ _ e; omega
  rw [HE0.out] at e0'
  rw [HE1.out] at e1'
  rw [HE2.out] at e2'
  injection e0' with x1 x2 x3
  injection x1 with x1
  injection x1 with x1 _ _
  subst x1; subst x3
  injection e1' with y1 _ y3
  subst y1; subst y3
  injection e2' with z1 _ z3
  subst z1; subst z3
  have z0' := HK2.out.q.cells.1
  rw [HE0.out] at z0'
  have HFZ := Lib.hid rfz
  have HB2 : Hid (BytesOf w2 base h f) := Lib.hid (HK2.out.q.bytes f (List.mem_of_getElem? HKF.out))
  have HN : Hid (∀ W, Below w2.heap.size w2 W → W.cell? ⟨m, 0, none⟩ = some (.slice (some ⟨g, 0, none⟩) s.fs.length cap) ∧ W.cell? ⟨w1.heap.size, 1, none⟩ = some (.slice A1 f.safe.length c1) ∧ W.cell? ⟨w1.heap.size, 2, none⟩ = some (.slice A2 f.wait.length c2x)) :=
    Lib.hid fun W hW => ⟨cell_below hW z0', cell_below hW bx1, cell_below hW bx2⟩
  have HX : Hid (∀ W, Below w2.heap.size w2 W → ∀ j u, (bv (f.safe.take kn))[j]? = some u → ∃ ad, A1 = some ad ∧ W.cell? (ad.add j) = some u) := Lib.hid fun W hW => by
    have := (HB2.out.below hW).safe
    rw [HE1.out] at this
    have := this.shorter kn hsf
    rw [← bv_take] at this
    exact this.cells
  have HD0 := Lib.hid (HN.out w2.drew (Below.refl _ _).drew)
  have hkc : kn ≤ c1 := by omega
  clear rfz z0' bx1 bx2 x2
  refine wp_region_noPanic ?_
  refine wp_region_ord (fun w' => w'.cell? ⟨m, 0, none⟩ = some (.slice (some ⟨g, 0, none⟩) s.fs.length cap) ∧ w'.cell? ⟨w1.heap.size, 1, none⟩ = some (.slice A1 f.safe.length c1) ∧ w'.cell? ⟨w1.heap.size, 2, none⟩ = some (.slice A2 f.wait.length c2x))
    [(0,true),(1,true),(2,true),(3,true),(4,true),(5,true),(7,true),(8,true),(9,true),(10,true),(6,false),(11,false),(12,true),(13,true),(14,false)] [14] (by kernel_rfl) (by kernel_rfl) (fun _ _ _ _ _ h => h) ?_
  iterate 10
    refine wpOrd_soft (v := ?_) (by rw [List.getElem?_toArray]; exact rfl) (by rfl) (by rfl) (fun w' hS => ?_) HD0.out ?_
    rotate_left
    · obtain ⟨a1, a2, a3⟩ := hS
      go_simp
      try with_reducible rfl
    rotate_left
    try simp only [Act.put, List.setIfInBounds_toArray, List.set_cons_zero, List.set_cons_succ]
  refine wpOrd_hard (by rw [List.getElem?_toArray]; exact rfl) (fun K hK => ?_)
  go_simp
  have HW1 : Hid (Below w2.heap.size w2 (w2.drew.alloc (.cells #[] 5))) := Lib.hid (below_al (Below.refl _ _).drew _)
  refine hK.out _ _ (fun _ => HN.out _ HW1.out) ?_
  clear hK K
  try simp only [Act.put, List.setIfInBounds_toArray, List.set_cons_zero, List.set_cons_succ]
  refine wpOrd_hard (by rw [List.getElem?_toArray]; exact rfl) (fun K hK => ?_)
  rw [if_pos (by rfl)]
  refine oper_append_any _ _ _ _ rfl w2.heap.size 5 (.int .u8 0) 1 1 Try.underlying29 infoB rfl (by decide) (.slice (some ⟨w2.heap.size, 0, none⟩) 0 0) 0 [] rfl (Own.none_ _ _ _ _ _) A1 kn c1 (bv (f.safe.take kn)) rfl (by rw [bv_len, List.length_take]; omega) (HX.out _ HW1.out) (bv_one _) (by omega) (by omega) (by simp) ?_
  intro v3 w3 ho3 hg3 hf3
  simp only [Nat.zero_add, List.nil_append] at ho3
  obtain ⟨A3, k3, rfl, _⟩ := ho3.slice_
  have HO3 := Lib.hid ho3
  have HW3 : Hid (Below w2.heap.size w2 w3) := Lib.hid (HW1.out.grown hg3 HW1.out.size fun j e => by simp [fp] at e)
  clear ho3 hg3 hf3
  refine hK.out _ _ (fun _ => HN.out _ HW3.out) ?_
  clear hK K
  try simp only [Act.put, List.setIfInBounds_toArray, List.set_cons_zero, List.set_cons_succ]
  have HD4 := Lib.hid (HN.out _ HW3.out)
  iterate 2
    refine wpOrd_soft (v := ?_) (by rw [List.getElem?_toArray]; exact rfl) (by rfl) (by rfl) (fun w' hS => ?_) HD4.out ?_
    rotate_left
    · obtain ⟨a1, a2, a3⟩ := hS
      go_simp
      try with_reducible rfl
    rotate_left
    try simp only [Act.put, List.setIfInBounds_toArray, List.set_cons_zero, List.set_cons_succ]
  refine wpOrd_hard (by rw [List.getElem?_toArray]; exact rfl) (fun K hK => ?_)
  have s0 := cell_below HW3.out r0
  have s1 := cell_below HW3.out r1
  have s2 := cell_below HW3.out r2
  have z0 : w3.frozen? ⟨g, kk * 3, none⟩ = false := (HW3.out.frozen (p := ⟨g, kk * 3, none⟩) rgl).trans (HFZ.out _)
  have z1 : w3.frozen? ⟨g, kk * 3 + 1, none⟩ = false := (HW3.out.frozen (p := ⟨g, kk * 3 + 1, none⟩) rgl).trans (HFZ.out _)
  have z2 : w3.frozen? ⟨g, kk * 3 + 2, none⟩ = false := (HW3.out.frozen (p := ⟨g, kk * 3 + 2, none⟩) rgl).trans (HFZ.out _)
  have gl4 : g < w3.heap.size := Nat.lt_of_lt_of_le rgl HW3.out.size
  go_simp
  refine hK.out _ _ (fun h => absurd h (by decide)) ?_
  clear hK K
  try simp only [Act.put, List.setIfInBounds_toArray, List.set_cons_zero, List.set_cons_succ]
  refine wpOrd_done (NoPanic.normal ?_)
  go_wp2_with fail
  go_ret
  rw [HW.out]
  refine ⟨rfl, RAfter.then' (((Chg.of_below HB1.out).alloc (.cells #[.string f.name, .slice A1 f.safe.length c1, .slice A2 f.wait.length c2x] 65)).trans HC2.out) HK.out.lo HD.out.base_le ?_⟩
  have hk2 := HK2.out
  rw [HE0.out] at hk2
  have hws : base ≤ w2.heap.size := by have := HK2.out.lo m HK2.out.has; omega
  have hk2' : KRef w2 base m s.raw (.slice (some ⟨g, 0, none⟩) s.raw.fs.length cap) h L := hk2
  have htf : truncF n (kn : Int) f = ⟨n, f.safe.take kn, []⟩ := by
    unfold truncF
    rw [Int.toNat_natCast, Nat.sub_eq_zero_of_le hsf, List.take_zero]
  rw [htf]
  refine hk2'.setFile HW3.out HS.out.fit.rising HKF.out (f' := ⟨n, f.safe.take kn, []⟩) HFN.out.symm _ _ ⟨?_, Own.none_ _ _ _ _ none⟩ (fun x hx => ?_)
  · show Own _ base _ 1 (.slice A3 kn k3) (f.safe.take kn).length (bv (f.safe.take kn))
    rw [List.length_take, Nat.min_eq_left hsf]
    exact HO3.out.lower hws
  · rcases hx with hx | hx
    · exact .inr (HO3.out.lt hx).1
    · simp [fp] at hx
set_option maxRecDepth 100000 in
set_option maxHeartbeats 4000000 in
theorem RTrunc_wait (m base : Nat) (s : DS) (L : Nat → Prop) (n : ByteArray) (kn : Nat) (w : World) (hd : RDisk w base m s L) (hs : s.fitR) (hn : n.size ≤ maxLen) (hb : s.bad n = 0) (f : DF) (hx : findF n s.fs = some f) (hle : kn ≤ f.len) (hg : s.goes = false) (hsf : f.safe.length < kn) :
    Calls Try.prog 24 #[.pointer (some ⟨m, 0, none⟩), .string n, .int .i64 kn] w fun e w' => e = .returned (.int .i64 (s.trunc n kn).2) ∧ RAfter w w' base m (s.trunc n kn).1 L := by
  obtain ⟨v, h, hk⟩ := hd.k
  obtain ⟨_, _, c2, _⟩ := hk.q.cells
  have HD := Lib.hid hd
  have HK := Lib.hid hk
  have HS := Lib.hid hs
  have HR := Lib.hid (rready_any m s n w hn c2)
  have HA := Lib.hid (at_any m base s v h n w hk.q hn (by have := hs.few; omega))
  obtain ⟨kk, hkv, hkf⟩ := atI_some HS.out.fit.rising hx
  have HV := Lib.hid hkv
  have HBAD := Lib.hid hb
  have HFN := Lib.hid (findF_some hx).2
  have hk0 : ¬ ((kk : Int) < 0) := by omega
  have hlt := (List.getElem?_eq_some_iff.1 hkf).1
  have hki : (kk : Int) < (s.fs.length : Int) := by omega
  have hlen := len_le_total (List.mem_of_getElem? hkf)
  have hT := HS.out.fit.bytes
  have hlen' : f.safe.length + f.wait.length ≤ 1073741824 := by unfold DF.len at hlen; omega
  have HKF := Lib.hid hkf
  have HW : Hid (s.trunc n kn = ({ s.raw with fs := updF (truncF n kn f) s.raw.fs }, 0)) := Lib.hid (by unfold DS.trunc; rw [with_some hb hx, if_neg (by omega), fin_stays hg])
  have hle' : kn ≤ f.safe.length + f.wait.length := hle
  have HG := Lib.hid hg
  obtain ⟨m2, hm2⟩ : ∃ m2 : Nat, (kn : Int) - (f.safe.length : Int) = (m2 : Int) := ⟨kn - f.safe.length, by omega⟩
  have hsub : IntKind.i64.wrap (m2 : Int) = (m2 : Int) := IntWalk.i64_in _ (by omega)
  have hm2l : m2 ≤ f.wait.length := by omega
  have HM2 : Hid (kn - f.safe.length = m2) := Lib.hid (by omega)
  clear hd hs hn hk c2 hb hx hkv hkf hlen hT hle hg
  go_enter Try.func24, Try.ntmps24
  go_wp2_with first
    | (go_at_call 41; refine HR.out.mono ?_; rw [HBAD.out]; rintro e w' ⟨rfl, rfl⟩)
    | (go_at_call 42; refine HA.out.mono ?_; rw [HV.out]; rintro e w1 ⟨rfl, hb1⟩; have HB1 := Lib.hid hb1; have hq1 := HK.out.q.below hb1; obtain ⟨g, cap, A1, c1, A2, c2x, e0, e1, e2, q0, q1, q2, fz, gl, hcap⟩ := hq1.at_ kk f HKF.out; have y0 := hq1.cells.1; rw [e0] at y0; have HE0 := Lib.hid e0; have HE1 := Lib.hid e1; have HE2 := Lib.hid e2; clear hb1 hq1 e0 e1 e2 fz)
    | (go_at_call 45; refine (rraw_k m base s v h L _ ((HK.out.below HB1.out).below (below_al (Below.refl _ _) _)) HS.out.fit.count HS.out.fit.left).mono ?_; rw [HG.out]; rintro e w2 ⟨rfl, hk2, hc2⟩; have HK2 := Lib.hid hk2; have HC2 := Lib.hid hc2; have y5 := hk2.q.cells.2.2.2.2.2; have hbx : w2.heap[w1.heap.size]? = some (.cells #[.string f.name, .slice A1 f.safe.length c1, .slice A2 f.wait.length c2x] 65 (0, 0)) := (hc2.block _ (by simp) (fun hl => by have := (HK.out.lo _ hl).2; have := HB1.out.size; omega)).trans (blk_new _ _); have bx1 : w2.cell? ⟨w1.heap.size, 1, none⟩ = some (.slice A1 f.safe.length c1) := blk_cell hbx 1; have bx2 : w2.cell? ⟨w1.heap.size, 2, none⟩ = some (.slice A2 f.wait.length c2x) := blk_cell hbx 2; have hw12 : w1.heap.size < w2.heap.size := blk_lt hbx; clear hbx; clear hk2 hc2)
  obtain ⟨g', cap', A1', c1', A2', c2', e0', e1', e2', r0, r1, r2, rfz, rgl, hcap'⟩ := HK2.out.q.at_ kk f HKF.out
  have hcc1 : (f.safe.length : Int) ≤ (c1 : Int) := by
    obtain ⟨A, c, e, hc⟩ := (HK2.out.q.bytes f (List.mem_of_getElem? HKF.out)).safe.slice_
    rw [HE1.out] at e; injection e with _ _ e; omega
  have hcc2 : (f.wait.length : Int) ≤ (c2x : Int) := by
    obtain ⟨A, c, e, hc⟩ := (HK2.out.q.bytes f (List.mem_of_getElem? HKF.out)).wait.slice_
    rw [HE2.out] at e; injection e with _ _ e; omega
  rw [HE0.out] at e0'
  rw [HE1.out] at e1'
  rw [HE2.out] at e2'
  injection e0' with x1 x2 x3
  injection x1 with x1
  injection x1 with x1 _ _
  subst x1; subst x3
  injection e1' with y1 _ y3
  subst y1; subst y3
  injection e2' with z1 _ z3
  subst z1; subst z3
  have z0' := HK2.out.q.cells.1
  rw [HE0.out] at z0'
  have HFZ := Lib.hid rfz
  have HB2 : Hid (BytesOf w2 base h f) := Lib.hid (HK2.out.q.bytes f (List.mem_of_getElem? HKF.out))
  have HN : Hid (∀ W, Below w2.heap.size w2 W → W.cell? ⟨m, 0, none⟩ = some (.slice (some ⟨g, 0, none⟩) s.fs.length cap) ∧ W.cell? ⟨w1.heap.size, 1, none⟩ = some (.slice A1 f.safe.length c1) ∧ W.cell? ⟨w1.heap.size, 2, none⟩ = some (.slice A2 f.wait.length c2x)) :=
    Lib.hid fun W hW => ⟨cell_below hW z0', cell_below hW bx1, cell_below hW bx2⟩
  have HX : Hid (∀ W, Below w2.heap.size w2 W → ∀ j u, (bv (f.wait.take m2))[j]? = some u → ∃ ad, A2 = some ad ∧ W.cell? (ad.add j) = some u) := Lib.hid fun W hW => by
    have := (HB2.out.below hW).wait
    rw [HE2.out] at this
    have := this.shorter m2 hm2l
    rw [← bv_take] at this
    exact this.cells
  have HD0 := Lib.hid (HN.out w2.drew (Below.refl _ _).drew)
  have hkc : m2 ≤ c2x := by omega
  clear rfz z0' bx1 bx2 x2
  refine wp_region_noPanic ?_
  refine wp_region_ord (fun w' => w'.cell? ⟨m, 0, none⟩ = some (.slice (some ⟨g, 0, none⟩) s.fs.length cap) ∧ w'.cell? ⟨w1.heap.size, 1, none⟩ = some (.slice A1 f.safe.length c1) ∧ w'.cell? ⟨w1.heap.size, 2, none⟩ = some (.slice A2 f.wait.length c2x))
    [(0,true),(1,true),(2,true),(3,true),(4,true),(5,true),(6,true),(7,true),(9,true),(10,true),(11,true),(12,true),(13,true),(14,true),(15,true),(16,true),(8,false),(17,false),(18,true),(19,true),(20,false)] [20] (by kernel_rfl) (by kernel_rfl) (fun _ _ _ _ _ h => h) ?_
  iterate 16
    refine wpOrd_soft (v := ?_) (by rw [List.getElem?_toArray]; exact rfl) (by rfl) (by rfl) (fun w' hS => ?_) HD0.out ?_
    rotate_left
    · obtain ⟨a1, a2, a3⟩ := hS
      go_simp
      try with_reducible rfl
    rotate_left
    try simp only [Act.put, List.setIfInBounds_toArray, List.set_cons_zero, List.set_cons_succ]
  refine wpOrd_hard (by rw [List.getElem?_toArray]; exact rfl) (fun K hK => ?_)
  go_simp
  have HW1 : Hid (Below w2.heap.size w2 (w2.drew.alloc (.cells #[] 5))) := Lib.hid (below_al (Below.refl _ _).drew _)
  refine hK.out _ _ (fun _ => HN.out _ HW1.out) ?_
  clear hK K
  try simp only [Act.put, List.setIfInBounds_toArray, List.set_cons_zero, List.set_cons_succ]
  refine wpOrd_hard (by rw [List.getElem?_toArray]; exact rfl) (fun K hK => ?_)
  rw [if_pos (by rfl)]
  refine oper_append_any _ _ _ _ rfl w2.heap.size 5 (.int .u8 0) 1 1 Try.underlying29 infoB rfl (by decide) (.slice (some ⟨w2.heap.size, 0, none⟩) 0 0) 0 [] rfl (Own.none_ _ _ _ _ _) A2 m2 c2x (bv (f.wait.take m2)) rfl (by rw [bv_len, List.length_take]; omega) (HX.out _ HW1.out) (bv_one _) (by omega) (by omega) (by simp) ?_
  intro v3 w3 ho3 hg3 hf3
  simp only [Nat.zero_add, List.nil_append] at ho3
  obtain ⟨A3, k3, rfl, _⟩ := ho3.slice_
  have HO3 := Lib.hid ho3
  have HW3 : Hid (Below w2.heap.size w2 w3) := Lib.hid (HW1.out.grown hg3 HW1.out.size fun j e => by simp [fp] at e)
  clear ho3 hg3 hf3
  refine hK.out _ _ (fun _ => HN.out _ HW3.out) ?_
  clear hK K
  try simp only [Act.put, List.setIfInBounds_toArray, List.set_cons_zero, List.set_cons_succ]
  have HD4 := Lib.hid (HN.out _ HW3.out)
  iterate 2
    refine wpOrd_soft (v := ?_) (by rw [List.getElem?_toArray]; exact rfl) (by rfl) (by rfl) (fun w' hS => ?_) HD4.out ?_
    rotate_left
    · obtain ⟨a1, a2, a3⟩ := hS
      go_simp
      try with_reducible rfl
    rotate_left
    try simp only [Act.put, List.setIfInBounds_toArray, List.set_cons_zero, List.set_cons_succ]
  refine wpOrd_hard (by rw [List.getElem?_toArray]; exact rfl) (fun K hK => ?_)
  have s0 := cell_below HW3.out r0
  have s1 := cell_below HW3.out r1
  have s2 := cell_below HW3.out r2
  have z0 : w3.frozen? ⟨g, kk * 3, none⟩ = false := (HW3.out.frozen (p := ⟨g, kk * 3, none⟩) rgl).trans (HFZ.out _)
  have z1 : w3.frozen? ⟨g, kk * 3 + 1, none⟩ = false := (HW3.out.frozen (p := ⟨g, kk * 3 + 1, none⟩) rgl).trans (HFZ.out _)
  have z2 : w3.frozen? ⟨g, kk * 3 + 2, none⟩ = false := (HW3.out.frozen (p := ⟨g, kk * 3 + 2, none⟩) rgl).trans (HFZ.out _)
  have gl4 : g < w3.heap.size := Nat.lt_of_lt_of_le rgl HW3.out.size
  go_simp
  refine hK.out _ _ (fun h => absurd h (by decide)) ?_
  clear hK K
  try simp only [Act.put, List.setIfInBounds_toArray, List.set_cons_zero, List.set_cons_succ]
  refine wpOrd_done (NoPanic.normal ?_)
  go_wp2_with fail
  go_ret
  rw [HW.out]
  refine ⟨rfl, RAfter.then' (((Chg.of_below HB1.out).alloc (.cells #[.string f.name, .slice A1 f.safe.length c1, .slice A2 f.wait.length c2x] 65)).trans HC2.out) HK.out.lo HD.out.base_le ?_⟩
  have hk2 := HK2.out
  rw [HE0.out] at hk2
  have hws : base ≤ w2.heap.size := by have := HK2.out.lo m HK2.out.has; omega
  have hk2' : KRef w2 base m s.raw (.slice (some ⟨g, 0, none⟩) s.raw.fs.length cap) h L := hk2
  have htf : truncF n (kn : Int) f = ⟨n, f.safe, f.wait.take m2⟩ := by
    unfold truncF
    rw [Int.toNat_natCast, HM2.out, List.take_of_length_le (by omega)]
  rw [htf]
  refine hk2'.setFile HW3.out HS.out.fit.rising HKF.out (f' := ⟨n, f.safe, f.wait.take m2⟩) HFN.out.symm _ _ ⟨?_, ?_⟩ (fun x hx => ?_)
  · have := (HB2.out.below HW3.out).safe
    rw [HE1.out] at this
    exact this
  · show Own _ base _ 1 (.slice A3 m2 k3) (f.wait.take m2).length (bv (f.wait.take m2))
    rw [List.length_take, Nat.min_eq_left hm2l]
    exact HO3.out.lower hws
  · rcases hx with hx | hx
    · exact .inl (HK2.out.l x (.inr (.inr ⟨f, List.mem_of_getElem? HKF.out, .inl (by rw [HE1.out]; exact hx)⟩)))
    · exact .inr (HO3.out.lt hx).1
theorem RTruncate_any (m base : Nat) (s : DS) (L : Nat → Prop) (n : ByteArray) (k : Int) (w : World) (hd : RDisk w base m s L) (hs : s.fitR) (hn : n.size ≤ maxLen) :
    Calls Try.prog 24 #[.pointer (some ⟨m, 0, none⟩), .string n, .int .i64 k] w fun e w' => e = .returned (.int .i64 (s.trunc n k).2) ∧ RAfter w w' base m (s.trunc n k).1 L := by
  by_cases hb : s.bad n = 0
  · cases hx : findF n s.fs with
    | none => exact RTrunc_no m base s L n k w hd hs hn (.inr hx)
    | some f =>
      by_cases hlg : k < 0 ∨ (f.len : Int) < k
      · exact RTrunc_long m base s L n k w hd hs hn hb f hx hlg
      · obtain ⟨kn, rfl⟩ : ∃ kn : Nat, k = kn := ⟨k.toNat, by omega⟩
        cases hg : s.goes with
        | true => exact RTrunc_goes m base s L n kn w hd hs hn hb f hx (by omega) hg
        | false =>
          by_cases hsf : kn ≤ f.safe.length
          · exact RTrunc_safe m base s L n kn w hd hs hn hb f hx (by omega) hg hsf
          · exact RTrunc_wait m base s L n kn w hd hs hn hb f hx (by omega) hg (by omega)
  · exact RTrunc_no m base s L n k w hd hs hn (.inl hb)
end Go.Proofs.Ytfdcibghcncbmaa
