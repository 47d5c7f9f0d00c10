/- The document's disk: Append. -/
import Derived.Test.YtfdcibghcncbmaaE15
namespace Go.Proofs.Ytfdcibghcncbmaa
open Go.RowKit Go.Maps Go.Shelf

section
variable {w w' : World} {base m : Nat} {s : DS} {v : Value} {h : HV} {L : Nat → Prop}
theorem KRef.grow (hk : KRef w base m s v h L) (hb : Below w.heap.size w w') : KRef w' base m s v h (newL L w w') := by
  have hk' := hk.below hb
  refine ⟨hk'.q, fun k hl => .inl (hk.l k hl), fun k hl => ?_⟩
  have h1 := hk.lo m hk.has
  rcases hl with hl | hl
  · exact hk'.lo k hl
  · omega
end
theorem rraw_any (m base : Nat) (s : DS) (L : Nat → Prop) (w : World) (hd : RDisk w base m s L) (hc : 0 ≤ s.count ∧ s.count ≤ 1073741824) (hl : 0 ≤ s.left ∧ s.left ≤ 9223372036854775807) :
    Calls Try.prog 45 #[.pointer (some ⟨m, 0, none⟩)] w fun e w' => e = .returned (.bool s.goes) ∧ RAfter w w' base m s.raw L := by
  obtain ⟨v, h, hk⟩ := hd.k
  exact (rraw_k m base s v h L w hk hc hl).mono fun e w' ⟨h1, h2, h3⟩ => ⟨h1, hk.after h2 h3⟩
theorem RDisk.keep_ {w : World} {base m : Nat} {s : DS} {L : Nat → Prop} (hd : RDisk w base m s L) : w.cell? ⟨m, 5, none⟩ = some (.int .i64 s.keep) := by
  obtain ⟨v, _, _, _, _, _, c5, _⟩ := hd.cells
  exact c5
set_option maxRecDepth 100000 in
set_option maxHeartbeats 1000000 in
theorem RAppend_bad (m base : Nat) (s : DS) (L : Nat → Prop) (n : ByteArray) (A : Option Addr) (b : Bs) (c : Nat) (w : World) (hd : RDisk w base m s L) (hn : n.size ≤ maxLen) (hb : s.bad n ≠ 0) :
    Calls Try.prog 22 #[.pointer (some ⟨m, 0, none⟩), .string n, .slice A b.length c] w fun e w' => e = .returned (.int .i64 (s.append n b).2) ∧ RAfter w w' base m (s.append n b).1 L := by
  obtain ⟨v, h, hk⟩ := hd.k
  obtain ⟨_, _, c2, _⟩ := hk.q.cells
  have HD := Lib.hid hd
  have HR := Lib.hid (rready_any m s n w hn c2)
  have HA := Lib.hid (app_bad hb b)
  have hd : (s.bad n != 0) = true := by simp [hb]
  clear hn hb hk c2
  go_enter Try.func22, Try.ntmps22
  go_wp2_with (go_at_call 41; refine HR.out.mono ?_; rintro e w' ⟨rfl, rfl⟩)
  go_ret
  rw [HA.out]
  exact ⟨rfl, RAfter.same HD.out⟩
theorem put_k' (m base : Nat) (s : DS) (v : Value) (h : HV) (L : Nat → Prop) (x : DF) (X1 X2 : Option Addr) (l1 l2 xc1 xc2 : Nat) (h1 : l1 = x.safe.length) (h2 : l2 = x.wait.length) (w : World) (hk : KRef w base m s v h L) (hs : Rising s.fs) (hfew : s.fs.length ≤ 1048576)
    (hx : BytesOf w base (fun _ => (.slice X1 l1 xc1, .slice X2 l2 xc2)) x) (hxL : ∀ k, fp (.slice X1 l1 xc1) = some k ∨ fp (.slice X2 l2 xc2) = some k → L k) (hn : x.name.size ≤ maxLen) :
    Calls Try.prog 44 #[.pointer (some ⟨m, 0, none⟩), .agg #[.string x.name, .slice X1 l1 xc1, .slice X2 l2 xc2]] w fun e w' => e = .returned (.tuple #[]) ∧ RAfter w w' base m { s with fs := putF x s.fs } L := by
  subst h1; subst h2
  exact put_k m base s v h L x X1 X2 xc1 xc2 w hk hs hfew hx hxL hn
/-- The appended file's rows, behind the store into the box. -/
theorem app_bytes {w1 w3 w5 : World} {base : Nat} {cs : Array Value} {u1 u2 : Value} {n : ByteArray} {sf wt : Bs} (hbx : w3.heap[w1.heap.size]? = some (.cells cs 65 (0, 0))) (hb : Below w3.heap.size w3 w5)
    (h1 : Own w3 base 5 1 u1 sf.length (bv sf)) {l2 : Nat} (h2 : Own w5 w3.heap.size 5 1 u2 l2 (bv wt)) (hle : base ≤ w3.heap.size) (hl : wt.length = l2) : BytesOf (w5.setCell ⟨w1.heap.size, 2, none⟩ u2) base (fun _ => (u1, u2)) ⟨n, sf, wt⟩ := by
  subst hl
  have hb5 := (hb.block _ (blk_lt hbx)).trans hbx
  have o1 := h1.below hb
  have o2 := h2.lower hle
  exact ⟨o1.move fun k hk => Below.heap_setCell _ ⟨w1.heap.size, 2, none⟩ _ k (typed_ne o1 hb5 (by decide) hk), o2.move fun k hk => Below.heap_setCell _ ⟨w1.heap.size, 2, none⟩ _ k (typed_ne o2 hb5 (by decide) hk)⟩
set_option maxRecDepth 100000 in
set_option maxHeartbeats 4000000 in
theorem RAppend_some_long (m base : Nat) (s : DS) (L : Nat → Prop) (n : ByteArray) (A : Option Addr) (b : Bs) (c : Nat) (w : World) (hd : RDisk w base m s L) (hs : s.fitR) (hn : n.size ≤ maxLen) (hsrc : Src w L A b) (hb : s.bad n = 0) (hT : total s.fs + b.length ≤ 1073741824)
    (hroom : -9223372036854775808 ≤ s.room ∧ s.room ≤ 9223372036854775807) (f : DF) (hx : findF n s.fs = some f) (hlg : 1048576 < f.len + b.length) :
    Calls Try.prog 22 #[.pointer (some ⟨m, 0, none⟩), .string n, .slice A b.length c] w fun e w' => e = .returned (.int .i64 (s.append n b).2) ∧ RAfter w w' base m (s.append n b).1 L := by
  obtain ⟨v, h, hk⟩ := hd.k
  obtain ⟨_, _, c2, _⟩ := hk.q.cells
  obtain ⟨Av, cap, hv, _⟩ := hk.q.row.slice_
  subst hv
  have HD := Lib.hid hd
  have HK := Lib.hid hk
  have HS := Lib.hid hs
  have HN := Lib.hid hn
  have HB := Lib.hid hsrc
  have HR := Lib.hid (rready_any m s n w hn c2)
  have HA := Lib.hid (at_any m base s _ h n w hk.q hn (by have := hs.few; omega))
  have HBAD := Lib.hid hb
  have HTT := Lib.hid hT
  obtain ⟨hr1, hr2⟩ := hroom
  have hbl : b.length ≤ 1073741824 := by omega
  obtain ⟨kk, hkv, hkf⟩ := atI_some HS.out.fit.rising hx
  have HV := Lib.hid hkv
  have HX := Lib.hid hx
  have HFN := Lib.hid (findF_some hx).2
  have HGD : Hid ((findF n s.fs).getD ⟨n, [], []⟩ = f) := Lib.hid (by rw [hx]; rfl)
  have hk0 : (0 : Int) ≤ (kk : Int) := by omega
  have hlt := (List.getElem?_eq_some_iff.1 hkf).1
  have hki : (kk : Int) < (s.fs.length : Int) := by omega
  have hdk : decide ((kk : Int) < 0) = false := decide_eq_false (by omega)
  have hlen := len_le_total (List.mem_of_getElem? hkf)
  have hT2 := HS.out.fit.bytes
  have hlen' : f.safe.length + f.wait.length + b.length ≤ 1073741824 := by unfold DF.len at hlen; omega
  have HKF := Lib.hid hkf
  have HW : Hid (s.append n b = (s, 3)) := Lib.hid (app_long hb b (by rw [HGD.out]; unfold DF.len; unfold DF.len at hlg; omega))
  have hlg' : (1048576 : Int) < ((f.safe.length : Int) + (f.wait.length : Int) + (b.length : Int)) := by unfold DF.len at hlg; omega
  clear hd hs hn hk c2 hb hsrc hT hx hkv hkf hlen hT2 hlg
  go_enter Try.func22, Try.ntmps22
  go_wp2_with first
    | (go_at_call 41; refine HR.out.mono ?_; rw [HBAD.out]; rintro e w' ⟨rfl, rfl⟩)
    | (go_at_call 42; refine HA.out.mono ?_; rw [HV.out]; rintro e w1 ⟨rfl, hb1⟩; have HB1 := Lib.hid hb1; have hq1 := HK.out.q.below hb1; obtain ⟨g, cap', A1, c1, A2, c2x, e0, e1, e2, q0, q1, q2, fz, gl, hcap⟩ := hq1.at_ kk f HKF.out; injection e0 with x1 x2 x3; subst x1; subst x3; have y0 := hq1.cells.1; have yl := blk_lt hq1.blk; have HE1 := Lib.hid e1; have HE2 := Lib.hid e2; have HBY := Lib.hid (hq1.bytes f (List.mem_of_getElem? HKF.out)); have hfn : f.name = n := HFN.out; rw [hfn] at q0; clear hb1 hq1 e1 e2 fz x2 hfn)
  go_ret
  rw [HW.out]
  exact ⟨rfl, ((RAfter.same HD.out).below HB1.out).below (below_al (Below.refl _ _) _)⟩
set_option maxRecDepth 100000 in
set_option maxHeartbeats 4000000 in
theorem RAppend_some_full (m base : Nat) (s : DS) (L : Nat → Prop) (n : ByteArray) (A : Option Addr) (b : Bs) (c : Nat) (w : World) (hd : RDisk w base m s L) (hs : s.fitR) (hn : n.size ≤ maxLen) (hsrc : Src w L A b) (hb : s.bad n = 0) (hT : total s.fs + b.length ≤ 1073741824)
    (hroom : -9223372036854775808 ≤ s.room ∧ s.room ≤ 9223372036854775807) (f : DF) (hx : findF n s.fs = some f) (hnl : f.len + b.length ≤ 1048576) (hfl : s.room < (total s.fs : Int) + (b.length : Int)) :
    Calls Try.prog 22 #[.pointer (some ⟨m, 0, none⟩), .string n, .slice A b.length c] w fun e w' => e = .returned (.int .i64 (s.append n b).2) ∧ RAfter w w' base m (s.append n b).1 L := by
  obtain ⟨v, h, hk⟩ := hd.k
  obtain ⟨_, _, c2, _⟩ := hk.q.cells
  obtain ⟨Av, cap, hv, _⟩ := hk.q.row.slice_
  subst hv
  have HD := Lib.hid hd
  have HK := Lib.hid hk
  have HS := Lib.hid hs
  have HN := Lib.hid hn
  have HB := Lib.hid hsrc
  have HR := Lib.hid (rready_any m s n w hn c2)
  have HA := Lib.hid (at_any m base s _ h n w hk.q hn (by have := hs.few; omega))
  have HBAD := Lib.hid hb
  have HTT := Lib.hid hT
  obtain ⟨hr1, hr2⟩ := hroom
  have hbl : b.length ≤ 1073741824 := by omega
  obtain ⟨kk, hkv, hkf⟩ := atI_some HS.out.fit.rising hx
  have HV := Lib.hid hkv
  have HX := Lib.hid hx
  have HFN := Lib.hid (findF_some hx).2
  have HGD : Hid ((findF n s.fs).getD ⟨n, [], []⟩ = f) := Lib.hid (by rw [hx]; rfl)
  have hk0 : (0 : Int) ≤ (kk : Int) := by omega
  have hlt := (List.getElem?_eq_some_iff.1 hkf).1
  have hki : (kk : Int) < (s.fs.length : Int) := by omega
  have hdk : decide ((kk : Int) < 0) = false := decide_eq_false (by omega)
  have hlen := len_le_total (List.mem_of_getElem? hkf)
  have hT2 := HS.out.fit.bytes
  have hlen' : f.safe.length + f.wait.length + b.length ≤ 1073741824 := by unfold DF.len at hlen; omega
  have HKF := Lib.hid hkf
  have hnl' : ¬ ((findF n s.fs).getD ⟨n, [], []⟩).len + b.length > 1048576 := by rw [HGD.out]; unfold DF.len; unfold DF.len at hnl; omega
  have hlg' : ((f.safe.length : Int) + (f.wait.length : Int) + (b.length : Int)) ≤ (1048576 : Int) := by unfold DF.len at hnl; omega
  have w3s : IntKind.i64.wrap ((total s.fs : Int) + (b.length : Int)) = (total s.fs : Int) + (b.length : Int) := IntWalk.i64_in _ (by have := HTT.out; omega)
  have HW : Hid (s.append n b = (s, 22)) := Lib.hid (app_full hb b hnl' (.inr (by simpa using hfl)))
  have hd3 : decide (s.room < (total s.fs : Int) + (b.length : Int)) = true := by simpa using hfl
  clear hd hs hn hk c2 hb hsrc hT hx hkv hkf hlen hT2 hnl hnl' hfl
  go_enter Try.func22, Try.ntmps22
  go_wp2_with first
    | (go_at_call 41; refine HR.out.mono ?_; rw [HBAD.out]; rintro e w' ⟨rfl, rfl⟩)
    | (go_at_call 42; refine HA.out.mono ?_; rw [HV.out]; rintro e w1 ⟨rfl, hb1⟩; have HB1 := Lib.hid hb1; have hq1 := HK.out.q.below hb1; obtain ⟨g, cap', A1, c1, A2, c2x, e0, e1, e2, q0, q1, q2, fz, gl, hcap⟩ := hq1.at_ kk f HKF.out; injection e0 with x1 x2 x3; subst x1; subst x3; have y0 := hq1.cells.1; have yl := blk_lt hq1.blk; have HE1 := Lib.hid e1; have HE2 := Lib.hid e2; have HBY := Lib.hid (hq1.bytes f (List.mem_of_getElem? HKF.out)); have hfn : f.name = n := HFN.out; rw [hfn] at q0; clear hb1 hq1 e1 e2 fz x2 hfn)
  have HB2 : Hid (Below w.heap.size w (w1.alloc (.cells #[.string n, .slice A1 f.safe.length c1, .slice A2 f.wait.length c2x] 65)).drew) := Lib.hid (below_al HB1.out _).drew
  have HN1 : Hid (∀ W, Below w.heap.size w W → W.cell? ⟨m, 0, none⟩ = some (.slice (some ⟨g, 0, none⟩) s.fs.length cap) ∧ W.cell? ⟨m, 1, none⟩ = some (.int .i64 s.room)) := Lib.hid fun W hW => ⟨(HK.out.q.below hW).cells.1, (HK.out.q.below hW).cells.2.1⟩
  have HZ : Hid (∀ W, Below w.heap.size w W → Calls Try.prog 43 #[.pointer (some ⟨m, 0, none⟩)] W fun e w' => e = .returned (.int .i64 (total s.fs)) ∧ Below W.heap.size W w') := Lib.hid fun W hW => rsize_any m base s _ h W (HK.out.q.below hW) HS.out.fit.bytes (by have := HS.out.few; omega)
  have HD0 := Lib.hid (HN1.out _ HB2.out)
  refine wp_region_noPanic ?_
  refine wp_region_ord (fun w' => w'.cell? ⟨m, 0, none⟩ = some (.slice (some ⟨g, 0, none⟩) s.fs.length cap) ∧ w'.cell? ⟨m, 1, none⟩ = some (.int .i64 s.room))
    [(0,true),(1,true),(2,true),(3,true),(4,true),(5,true),(6,true),(7,true),(8,true),(9,true),(10,true),(11,true),(13,true),(14,true),(16,true),(17,true),(18,true),(19,true),(12,false),(15,true),(20,true),(21,true)] [] (by kernel_rfl) (by kernel_rfl) (fun _ _ _ _ _ h => h) ?_
  iterate 3
    refine wpOrd_soft (v := ?_) (by rw [List.getElem?_toArray]; exact rfl) (by rfl) (by rfl) (fun w' hS => ?_) HD0.out ?_
    rotate_left
    · obtain ⟨a1, a2⟩ := hS
      go_simp
      try with_reducible rfl
    rotate_left
    try simp only [Act.put, List.setIfInBounds_toArray, List.set_cons_zero, List.set_cons_succ]
  iterate 6
    refine wpOrd_off (by rw [List.getElem?_toArray]; exact rfl) (by rfl) HD0.out ?_
    try simp only [Act.put, List.setIfInBounds_toArray, List.set_cons_zero, List.set_cons_succ]
  iterate 3
    refine wpOrd_soft (v := ?_) (by rw [List.getElem?_toArray]; exact rfl) (by rfl) (by rfl) (fun w' hS => ?_) HD0.out ?_
    rotate_left
    · obtain ⟨a1, a2⟩ := hS
      go_simp
      try with_reducible rfl
    rotate_left
    try simp only [Act.put, List.setIfInBounds_toArray, List.set_cons_zero, List.set_cons_succ]
  iterate 6
    refine wpOrd_soft (v := ?_) (by rw [List.getElem?_toArray]; exact rfl) (by rfl) (by rfl) (fun w' hS => ?_) HD0.out ?_
    rotate_left
    · obtain ⟨a1, a2⟩ := hS
      go_simp
      try with_reducible rfl
    rotate_left
    try simp only [Act.put, List.setIfInBounds_toArray, List.set_cons_zero, List.set_cons_succ]
  refine wpOrd_hard (by rw [List.getElem?_toArray]; exact rfl) (fun K hK => ?_)
  go_simp
  go_at_call 43
  refine (HZ.out _ HB2.out).mono ?_
  rintro e w3 ⟨rfl, hb3⟩
  have HB3 := Lib.hid (below_next HB2.out hb3)
  have HW3 := Lib.hid hb3
  have HD3 := Lib.hid (HN1.out _ HB3.out)
  clear hb3
  refine hK.out _ _ (fun _ => HD3.out) ?_
  clear hK K
  try simp only [Act.put, List.setIfInBounds_toArray, List.set_cons_zero, List.set_cons_succ]
  iterate 3
    refine wpOrd_soft (v := ?_) (by rw [List.getElem?_toArray]; exact rfl) (by rfl) (by rfl) (fun w' hS => ?_) HD3.out ?_
    rotate_left
    · obtain ⟨a1, a2⟩ := hS
      go_simp
      try with_reducible rfl
    rotate_left
    try simp only [Act.put, List.setIfInBounds_toArray, List.set_cons_zero, List.set_cons_succ]
  refine wpOrd_done (NoPanic.normal ?_)
  go_wp2_with fail
  go_ret
  rw [HW.out]
  exact ⟨rfl, (RAfter.same HD.out).below HB3.out⟩
set_option maxRecDepth 100000 in
set_option maxHeartbeats 4000000 in
theorem RAppend_some_ok (m base : Nat) (s : DS) (L : Nat → Prop) (n : ByteArray) (A : Option Addr) (b : Bs) (c : Nat) (w : World) (hd : RDisk w base m s L) (hs : s.fitR) (hn : n.size ≤ maxLen) (hsrc : Src w L A b) (hb : s.bad n = 0) (hT : total s.fs + b.length ≤ 1073741824)
    (hroom : -9223372036854775808 ≤ s.room ∧ s.room ≤ 9223372036854775807) (f : DF) (hx : findF n s.fs = some f) (hnl : f.len + b.length ≤ 1048576) (hfl : (total s.fs : Int) + (b.length : Int) ≤ s.room) :
    Calls Try.prog 22 #[.pointer (some ⟨m, 0, none⟩), .string n, .slice A b.length c] w fun e w' => e = .returned (.int .i64 (s.append n b).2) ∧ RAfter w w' base m (s.append n b).1 L := by
  obtain ⟨v, h, hk⟩ := hd.k
  obtain ⟨_, _, c2, _⟩ := hk.q.cells
  obtain ⟨Av, cap, hv, _⟩ := hk.q.row.slice_
  subst hv
  have HD := Lib.hid hd
  have HK := Lib.hid hk
  have HS := Lib.hid hs
  have HN := Lib.hid hn
  have HB := Lib.hid hsrc
  have HR := Lib.hid (rready_any m s n w hn c2)
  have HA := Lib.hid (at_any m base s _ h n w hk.q hn (by have := hs.few; omega))
  have HBAD := Lib.hid hb
  have HTT := Lib.hid hT
  obtain ⟨hr1, hr2⟩ := hroom
  have hbl : b.length ≤ 1073741824 := by omega
  obtain ⟨kk, hkv, hkf⟩ := atI_some HS.out.fit.rising hx
  have HV := Lib.hid hkv
  have HX := Lib.hid hx
  have HFN := Lib.hid (findF_some hx).2
  have HGD : Hid ((findF n s.fs).getD ⟨n, [], []⟩ = f) := Lib.hid (by rw [hx]; rfl)
  have hk0 : (0 : Int) ≤ (kk : Int) := by omega
  have hlt := (List.getElem?_eq_some_iff.1 hkf).1
  have hki : (kk : Int) < (s.fs.length : Int) := by omega
  have hdk : decide ((kk : Int) < 0) = false := decide_eq_false (by omega)
  have hlen := len_le_total (List.mem_of_getElem? hkf)
  have hT2 := HS.out.fit.bytes
  have hlen' : f.safe.length + f.wait.length + b.length ≤ 1073741824 := by unfold DF.len at hlen; omega
  have HKF := Lib.hid hkf
  have hnl' : ¬ ((findF n s.fs).getD ⟨n, [], []⟩).len + b.length > 1048576 := by rw [HGD.out]; unfold DF.len; unfold DF.len at hnl; omega
  have hlg' : ((f.safe.length : Int) + (f.wait.length : Int) + (b.length : Int)) ≤ (1048576 : Int) := by unfold DF.len at hnl; omega
  have w3s : IntKind.i64.wrap ((total s.fs : Int) + (b.length : Int)) = (total s.fs : Int) + (b.length : Int) := IntWalk.i64_in _ (by have := HTT.out; omega)
  obtain ⟨s1, hs1⟩ : ∃ s1 : DS, s1 = { s with fs := putF ⟨n, f.safe, f.wait ++ b⟩ s.fs } := ⟨_, rfl⟩
  have HW : Hid (s.append n b = s1.fin id) := Lib.hid (by rw [app_ok hb b hnl' (by rintro (h1 | h1); rw [hx] at h1; exact absurd h1.1 (by simp); rw [Int.natCast_add] at h1; omega), HGD.out, hs1]; try rfl)
  have hd3 : decide (s.room < (total s.fs : Int) + (b.length : Int)) = false := by simp; omega
  have HF1 : Hid s1.fit := Lib.hid (by
    rw [hs1]
    refine fit_room HS.out.fit (rising_put HS.out.fit.rising _) ?_
    have ht := total_upd (x := ⟨n, f.safe, f.wait ++ b⟩) HS.out.fit.rising hx
    rw [put_some HS.out.fit.rising (by show (findF n s.fs).isSome = true; rw [hx]; rfl)]
    have hl1 : DF.len ⟨n, f.safe, f.wait ++ b⟩ = f.len + b.length := by unfold DF.len; simp; omega
    omega)
  have HFW : Hid (s1.fs.length ≤ 1048576) := Lib.hid (by rw [hs1]; show (putF _ s.fs).length ≤ _; have := HS.out.few; rw [put_some HS.out.fit.rising (by show (findF n s.fs).isSome = true; rw [hx]; rfl), upd_length]; omega)
  have HKP : Hid (s1.keep = s.keep) := Lib.hid (by rw [hs1])
  have HSS := Lib.hid hs1
  clear hd hs hn hk c2 hb hsrc hT hx hkv hkf hlen hT2 hnl hnl' hfl hs1
  go_enter Try.func22, Try.ntmps22
  go_wp2_with first
    | (go_at_call 41; refine HR.out.mono ?_; rw [HBAD.out]; rintro e w' ⟨rfl, rfl⟩)
    | (go_at_call 42; refine HA.out.mono ?_; rw [HV.out]; rintro e w1 ⟨rfl, hb1⟩; have HB1 := Lib.hid hb1; have hq1 := HK.out.q.below hb1; obtain ⟨g, cap', A1, c1, A2, c2x, e0, e1, e2, q0, q1, q2, fz, gl, hcap⟩ := hq1.at_ kk f HKF.out; injection e0 with x1 x2 x3; subst x1; subst x3; have y0 := hq1.cells.1; have yl := blk_lt hq1.blk; have HE1 := Lib.hid e1; have HE2 := Lib.hid e2; have HBY := Lib.hid (hq1.bytes f (List.mem_of_getElem? HKF.out)); have hfn : f.name = n := HFN.out; rw [hfn] at q0; clear hb1 hq1 e1 e2 fz x2 hfn)
  have HB2 : Hid (Below w.heap.size w (w1.alloc (.cells #[.string n, .slice A1 f.safe.length c1, .slice A2 f.wait.length c2x] 65)).drew) := Lib.hid (below_al HB1.out _).drew
  have HN1 : Hid (∀ W, Below w.heap.size w W → W.cell? ⟨m, 0, none⟩ = some (.slice (some ⟨g, 0, none⟩) s.fs.length cap) ∧ W.cell? ⟨m, 1, none⟩ = some (.int .i64 s.room)) := Lib.hid fun W hW => ⟨(HK.out.q.below hW).cells.1, (HK.out.q.below hW).cells.2.1⟩
  have HZ : Hid (∀ W, Below w.heap.size w W → Calls Try.prog 43 #[.pointer (some ⟨m, 0, none⟩)] W fun e w' => e = .returned (.int .i64 (total s.fs)) ∧ Below W.heap.size W w') := Lib.hid fun W hW => rsize_any m base s _ h W (HK.out.q.below hW) HS.out.fit.bytes (by have := HS.out.few; omega)
  have HD0 := Lib.hid (HN1.out _ HB2.out)
  refine wp_region_noPanic ?_
  refine wp_region_ord (fun w' => w'.cell? ⟨m, 0, none⟩ = some (.slice (some ⟨g, 0, none⟩) s.fs.length cap) ∧ w'.cell? ⟨m, 1, none⟩ = some (.int .i64 s.room))
    [(0,true),(1,true),(2,true),(3,true),(4,true),(5,true),(6,true),(7,true),(8,true),(9,true),(10,true),(11,true),(13,true),(14,true),(16,true),(17,true),(18,true),(19,true),(12,false),(15,true),(20,true),(21,true)] [] (by kernel_rfl) (by kernel_rfl) (fun _ _ _ _ _ h => h) ?_
  iterate 3
    refine wpOrd_soft (v := ?_) (by rw [List.getElem?_toArray]; exact rfl) (by rfl) (by rfl) (fun w' hS => ?_) HD0.out ?_
    rotate_left
    · obtain ⟨a1, a2⟩ := hS
      go_simp
      try with_reducible rfl
    rotate_left
    try simp only [Act.put, List.setIfInBounds_toArray, List.set_cons_zero, List.set_cons_succ]
  iterate 6
    refine wpOrd_off (by rw [List.getElem?_toArray]; exact rfl) (by rfl) HD0.out ?_
    try simp only [Act.put, List.setIfInBounds_toArray, List.set_cons_zero, List.set_cons_succ]
  iterate 3
    refine wpOrd_soft (v := ?_) (by rw [List.getElem?_toArray]; exact rfl) (by rfl) (by rfl) (fun w' hS => ?_) HD0.out ?_
    rotate_left
    · obtain ⟨a1, a2⟩ := hS
      go_simp
      try with_reducible rfl
    rotate_left
    try simp only [Act.put, List.setIfInBounds_toArray, List.set_cons_zero, List.set_cons_succ]
  iterate 6
    refine wpOrd_soft (v := ?_) (by rw [List.getElem?_toArray]; exact rfl) (by rfl) (by rfl) (fun w' hS => ?_) HD0.out ?_
    rotate_left
    · obtain ⟨a1, a2⟩ := hS
      go_simp
      try with_reducible rfl
    rotate_left
    try simp only [Act.put, List.setIfInBounds_toArray, List.set_cons_zero, List.set_cons_succ]
  refine wpOrd_hard (by rw [List.getElem?_toArray]; exact rfl) (fun K hK => ?_)
  go_simp
  go_at_call 43
  refine (HZ.out _ HB2.out).mono ?_
  rintro e w3 ⟨rfl, hb3⟩
  have HB3 := Lib.hid (below_next HB2.out hb3)
  have HW3 := Lib.hid hb3
  have HD3 := Lib.hid (HN1.out _ HB3.out)
  clear hb3
  refine hK.out _ _ (fun _ => HD3.out) ?_
  clear hK K
  try simp only [Act.put, List.setIfInBounds_toArray, List.set_cons_zero, List.set_cons_succ]
  iterate 3
    refine wpOrd_soft (v := ?_) (by rw [List.getElem?_toArray]; exact rfl) (by rfl) (by rfl) (fun w' hS => ?_) HD3.out ?_
    rotate_left
    · obtain ⟨a1, a2⟩ := hS
      go_simp
      try with_reducible rfl
    rotate_left
    try simp only [Act.put, List.setIfInBounds_toArray, List.set_cons_zero, List.set_cons_succ]
  refine wpOrd_done (NoPanic.normal ?_)
  have hbx : w3.heap[w1.heap.size]? = some (.cells #[.string n, .slice A1 f.safe.length c1, .slice A2 f.wait.length c2x] 65 (0, 0)) := (HW3.out.block _ (by simp)).trans (blk_new w1 _)
  have bx0 : w3.cell? ⟨w1.heap.size, 0, none⟩ = some (.string n) := blk_cell hbx 0
  have bx1 : w3.cell? ⟨w1.heap.size, 1, none⟩ = some (.slice A1 f.safe.length c1) := blk_cell hbx 1
  have bx2 : w3.cell? ⟨w1.heap.size, 2, none⟩ = some (.slice A2 f.wait.length c2x) := blk_cell hbx 2
  have HBX := Lib.hid hbx
  have hbl3 := blk_lt hbx
  have hw13 : w.heap.size ≤ w1.heap.size := HB1.out.size
  have hw3 : w.heap.size ≤ w3.heap.size := HB3.out.size
  have HWT : Hid (∀ W, Below w3.heap.size w3 W → ∀ j u, (bv f.wait)[j]? = some u → ∃ ad, A2 = some ad ∧ W.cell? (ad.add j) = some u) := Lib.hid fun W hW => by
    have h1 := (HBY.out.below (below_next (below_al (Below.refl _ w1) (.cells #[.string n, .slice A1 f.safe.length c1, .slice A2 f.wait.length c2x] 65)).drew (HW3.out))).below hW
    have := h1.wait
    rw [HE2.out] at this; exact this.cells
  have HSB : Hid (∀ W, Below w3.heap.size w3 W → ∀ j u, (bv b)[j]? = some u → ∃ ad, A = some ad ∧ W.cell? (ad.add j) = some u) := Lib.hid fun W hW => (HB.out.chg (M := L) (.of_below (below_next HB3.out hW)) fun _ => id).1
  clear hbx
  have tok1 : True := trivial
  go_wp2_with first
    | (at_builtin; have _t := tok1; refine wpList_append_any _ rfl _ _ 29 rfl w3.heap.size 5 (.int .u8 0) 1 1 Try.underlying29 infoB rfl (by decide) (.slice (some ⟨w3.heap.size, 0, none⟩) 0 0) 0 [] rfl (Own.none_ _ _ _ _ _) A2 f.wait.length c2x (bv f.wait) rfl (by rw [bv_len]; omega) (HWT.out _ (below_al (Below.refl _ _) _)) (bv_one _) (by omega) (by omega) (by simp) ?_; intro v4 w4 ho4 hg4 hf4; simp only [Nat.zero_add, List.nil_append] at ho4; obtain ⟨A4, k4, rfl, _⟩ := ho4.slice_; have HO4 := Lib.hid ho4; have HW4 : Hid (Below w3.heap.size w3 w4) := Lib.hid ((below_al (Below.refl _ _) _).grown hg4 (by simp) fun j e => by simp [fp] at e); clear ho4 hg4 hf4 tok1)
    | (at_builtin; refine wpList_append_any _ rfl _ _ 29 rfl w3.heap.size 5 (.int .u8 0) 1 1 Try.underlying29 infoB rfl (by decide) (.slice A4 f.wait.length k4) f.wait.length (bv f.wait) rfl HO4.out A b.length c (bv b) rfl (by rw [bv_len]; omega) (HSB.out _ HW4.out) (bv_one _) (by omega) (by omega) HW4.out.size ?_; intro v5 w5 ho5 hg5 hf5; obtain ⟨A5, k5, rfl, _⟩ := ho5.slice_; have HO5 := Lib.hid ho5; have HW5 : Hid (Below w3.heap.size w3 w5) := Lib.hid (HW4.out.grown hg5 HW4.out.size fun j e => (HO4.out.lt e).1); have hb5 := (HW5.out.block _ hbl3).trans HBX.out; have z0 : w5.cell? ⟨w1.heap.size, 0, none⟩ = some (.string n) := blk_cell hb5 0; have z1 : w5.cell? ⟨w1.heap.size, 1, none⟩ = some (.slice A1 f.safe.length c1) := blk_cell hb5 1; have z2 : w5.cell? ⟨w1.heap.size, 2, none⟩ = some (.slice A2 f.wait.length c2x) := blk_cell hb5 2; have zf := blk_frozen hb5 2; have zl := blk_lt hb5; clear ho5 hg5 hf5 hb5)
  have HB6 : Hid (Below w.heap.size w (w5.setCell ⟨w1.heap.size, 2, none⟩ (.slice A5 (f.wait.length + b.length) k5))) := Lib.hid ((below_next HB3.out HW5.out).setCell (p := ⟨w1.heap.size, 2, none⟩) hw13 _)
  have HK6 := Lib.hid (HK.out.grow HB6.out)
  have HX6 : Hid (BytesOf (w5.setCell ⟨w1.heap.size, 2, none⟩ (.slice A5 (f.wait.length + b.length) k5)) base (fun _ => (.slice A1 f.safe.length c1, .slice A5 (f.wait.length + b.length) k5)) ⟨n, f.safe, f.wait ++ b⟩) := Lib.hid (app_bytes HBX.out HW5.out (by have h1 := (HBY.out.below (below_next (below_al (Below.refl _ w1) (.cells #[.string n, .slice A1 f.safe.length c1, .slice A2 f.wait.length c2x] 65)).drew (HW3.out))).safe; rw [HE1.out] at h1; exact h1) (by have h1 := HO5.out; rw [← bv_app] at h1; exact h1) (by have := HK.out.lo m HK.out.has; omega) (by rw [List.length_append]))
  have HXL : Hid (∀ x, fp (.slice A1 f.safe.length c1) = some x ∨ fp (.slice A5 (f.wait.length + b.length) k5) = some x → newL L w (w5.setCell ⟨w1.heap.size, 2, none⟩ (.slice A5 (f.wait.length + b.length) k5)) x) := Lib.hid fun x hx => by
    rcases hx with hx | hx
    · exact .inl (HK.out.l x (.inr (.inr ⟨f, List.mem_of_getElem? HKF.out, .inl (by rw [HE1.out]; exact hx)⟩)))
    · have h1 := HO5.out.lt hx
      exact .inr ⟨by omega, by simpa using h1.2⟩
  cases hg : s1.goes with
  | true =>
    have HG := Lib.hid hg
    have HF := Lib.hid (fin_goes hg id)
    clear hg
    go_wp2_with first
      | (go_at_call 44; refine (put_k' m base s _ h _ ⟨n, f.safe, f.wait ++ b⟩ A1 A5 f.safe.length (f.wait.length + b.length) c1 k5 rfl List.length_append.symm _ HK6.out HS.out.fit.rising HS.out.few HX6.out HXL.out HN.out).mono ?_; rintro e w7 ⟨rfl, ha⟩; have HA7 : Hid (RAfter w w7 base m s1 L) := Lib.hid (by rw [HSS.out]; exact RAfter.next HD.out ⟨HK6.out.p, .of_below HB6.out⟩ ha); clear ha)
      | (go_at_call 45; refine (rraw_any m base s1 _ _ HA7.out.disk HF1.out.count HF1.out.left).mono ?_; rw [HG.out]; rintro e w8 ⟨rfl, ha⟩; have HA8 := Lib.hid (HA7.out.next HD.out ha); have y5 := ha.disk.keep_; clear ha)
      | (go_at_call 29; refine (ROff_any m base s1.raw _ s1.raw.keep _ HA8.out.disk HF1.out.rising HF1.out.bytes HFW.out (by show _ ≤ s1.keep ∧ s1.keep ≤ _; rw [HKP.out]; exact HS.out.keep)).mono ?_; rintro e w9 ⟨rfl, ha⟩; have HA9 := Lib.hid (HA8.out.next HD.out ha); clear ha)
    go_ret
    rw [HW.out, HF.out]
    exact ⟨rfl, HA9.out⟩
  | false =>
    have HG := Lib.hid hg
    have HF := Lib.hid (fin_stays hg id)
    clear hg
    go_wp2_with first
      | (go_at_call 44; refine (put_k' m base s _ h _ ⟨n, f.safe, f.wait ++ b⟩ A1 A5 f.safe.length (f.wait.length + b.length) c1 k5 rfl List.length_append.symm _ HK6.out HS.out.fit.rising HS.out.few HX6.out HXL.out HN.out).mono ?_; rintro e w7 ⟨rfl, ha⟩; have HA7 : Hid (RAfter w w7 base m s1 L) := Lib.hid (by rw [HSS.out]; exact RAfter.next HD.out ⟨HK6.out.p, .of_below HB6.out⟩ ha); clear ha)
      | (go_at_call 45; refine (rraw_any m base s1 _ _ HA7.out.disk HF1.out.count HF1.out.left).mono ?_; rw [HG.out]; rintro e w8 ⟨rfl, ha⟩; have HA8 := Lib.hid (HA7.out.next HD.out ha); clear ha)
    go_ret
    rw [HW.out, HF.out]
    exact ⟨rfl, HA8.out⟩
set_option maxRecDepth 100000 in
set_option maxHeartbeats 4000000 in
theorem RAppend_none_long (m base : Nat) (s : DS) (L : Nat → Prop) (n : ByteArray) (A : Option Addr) (b : Bs) (c : Nat) (w : World) (hd : RDisk w base m s L) (hs : s.fitR) (hn : n.size ≤ maxLen) (hsrc : Src w L A b) (hb : s.bad n = 0) (hT : total s.fs + b.length ≤ 1073741824)
    (hroom : -9223372036854775808 ≤ s.room ∧ s.room ≤ 9223372036854775807) (hx : findF n s.fs = none) (hlg : 1048576 < b.length) :
    Calls Try.prog 22 #[.pointer (some ⟨m, 0, none⟩), .string n, .slice A b.length c] w fun e w' => e = .returned (.int .i64 (s.append n b).2) ∧ RAfter w w' base m (s.append n b).1 L := by
  obtain ⟨v, h, hk⟩ := hd.k
  obtain ⟨_, _, c2, _⟩ := hk.q.cells
  obtain ⟨Av, cap, hv, _⟩ := hk.q.row.slice_
  subst hv
  have HD := Lib.hid hd
  have HK := Lib.hid hk
  have HS := Lib.hid hs
  have HN := Lib.hid hn
  have HB := Lib.hid hsrc
  have HR := Lib.hid (rready_any m s n w hn c2)
  have HA := Lib.hid (at_any m base s _ h n w hk.q hn (by have := hs.few; omega))
  have HBAD := Lib.hid hb
  have HTT := Lib.hid hT
  obtain ⟨hr1, hr2⟩ := hroom
  have hbl : b.length ≤ 1073741824 := by omega
  have HV := Lib.hid (atI_none hx)
  have HX := Lib.hid hx
  have HGD : Hid ((findF n s.fs).getD ⟨n, [], []⟩ = ⟨n, [], []⟩) := Lib.hid (by rw [hx]; rfl)
  have HW : Hid (s.append n b = (s, 3)) := Lib.hid (app_long hb b (by rw [HGD.out]; unfold DF.len; simp; omega))
  have hlg' : (1048576 : Int) < (b.length : Int) := by omega
  clear hd hs hn hk c2 hb hsrc hT hx hlg
  go_enter Try.func22, Try.ntmps22
  go_wp2_with first
    | (go_at_call 41; refine HR.out.mono ?_; rw [HBAD.out]; rintro e w' ⟨rfl, rfl⟩)
    | (go_at_call 42; refine HA.out.mono ?_; rw [HV.out]; rintro e w1 ⟨rfl, hb1⟩; have HB1 := Lib.hid hb1; clear hb1)
  go_ret
  rw [HW.out]
  exact ⟨rfl, ((RAfter.same HD.out).below HB1.out).below (below_al (Below.refl _ _) _)⟩
set_option maxRecDepth 100000 in
set_option maxHeartbeats 4000000 in
theorem RAppend_none_few (m base : Nat) (s : DS) (L : Nat → Prop) (n : ByteArray) (A : Option Addr) (b : Bs) (c : Nat) (w : World) (hd : RDisk w base m s L) (hs : s.fitR) (hn : n.size ≤ maxLen) (hsrc : Src w L A b) (hb : s.bad n = 0) (hT : total s.fs + b.length ≤ 1073741824)
    (hroom : -9223372036854775808 ≤ s.room ∧ s.room ≤ 9223372036854775807) (hx : findF n s.fs = none) (hnl : b.length ≤ 1048576) (hfw : 16 ≤ s.fs.length) :
    Calls Try.prog 22 #[.pointer (some ⟨m, 0, none⟩), .string n, .slice A b.length c] w fun e w' => e = .returned (.int .i64 (s.append n b).2) ∧ RAfter w w' base m (s.append n b).1 L := by
  obtain ⟨v, h, hk⟩ := hd.k
  obtain ⟨_, _, c2, _⟩ := hk.q.cells
  obtain ⟨Av, cap, hv, _⟩ := hk.q.row.slice_
  subst hv
  have HD := Lib.hid hd
  have HK := Lib.hid hk
  have HS := Lib.hid hs
  have HN := Lib.hid hn
  have HB := Lib.hid hsrc
  have HR := Lib.hid (rready_any m s n w hn c2)
  have HA := Lib.hid (at_any m base s _ h n w hk.q hn (by have := hs.few; omega))
  have HBAD := Lib.hid hb
  have HTT := Lib.hid hT
  obtain ⟨hr1, hr2⟩ := hroom
  have hbl : b.length ≤ 1073741824 := by omega
  have HV := Lib.hid (atI_none hx)
  have HX := Lib.hid hx
  have HGD : Hid ((findF n s.fs).getD ⟨n, [], []⟩ = ⟨n, [], []⟩) := Lib.hid (by rw [hx]; rfl)
  have hnl' : ¬ ((findF n s.fs).getD ⟨n, [], []⟩).len + b.length > 1048576 := by rw [HGD.out]; unfold DF.len; simp; omega
  have hlg' : (b.length : Int) ≤ (1048576 : Int) := by omega
  have HW : Hid (s.append n b = (s, 22)) := Lib.hid (app_full hb b hnl' (.inl ⟨by rw [hx]; rfl, hfw⟩))
  have hd2 : decide ((16 : Int) ≤ (s.fs.length : Int)) = true := by simp; omega
  clear hd hs hn hk c2 hb hsrc hT hx hnl hnl'
  go_enter Try.func22, Try.ntmps22
  go_wp2_with first
    | (go_at_call 41; refine HR.out.mono ?_; rw [HBAD.out]; rintro e w' ⟨rfl, rfl⟩)
    | (go_at_call 42; refine HA.out.mono ?_; rw [HV.out]; rintro e w1 ⟨rfl, hb1⟩; have HB1 := Lib.hid hb1; clear hb1)
  have HB2 : Hid (Below w.heap.size w (w1.alloc (.cells #[.string n, .slice none 0 0, .slice none 0 0] 65)).drew) := Lib.hid (below_al HB1.out _).drew
  have HN1 : Hid (∀ W, Below w.heap.size w W → W.cell? ⟨m, 0, none⟩ = some (.slice Av s.fs.length cap) ∧ W.cell? ⟨m, 1, none⟩ = some (.int .i64 s.room)) := Lib.hid fun W hW => ⟨(HK.out.q.below hW).cells.1, (HK.out.q.below hW).cells.2.1⟩
  have HZ : Hid (∀ W, Below w.heap.size w W → Calls Try.prog 43 #[.pointer (some ⟨m, 0, none⟩)] W fun e w' => e = .returned (.int .i64 (total s.fs)) ∧ Below W.heap.size W w') := Lib.hid fun W hW => rsize_any m base s _ h W (HK.out.q.below hW) HS.out.fit.bytes (by have := HS.out.few; omega)
  have HD0 := Lib.hid (HN1.out _ HB2.out)
  refine wp_region_noPanic ?_
  refine wp_region_ord (fun w' => w'.cell? ⟨m, 0, none⟩ = some (.slice Av s.fs.length cap) ∧ w'.cell? ⟨m, 1, none⟩ = some (.int .i64 s.room))
    [(0,true),(1,true),(2,true),(3,true),(4,true),(5,true),(6,true),(7,true),(8,true),(9,true),(10,true),(11,true),(13,true),(14,true),(16,true),(17,true),(18,true),(19,true),(12,false),(15,true),(20,true),(21,true)] [] (by kernel_rfl) (by kernel_rfl) (fun _ _ _ _ _ h => h) ?_
  iterate 11
    refine wpOrd_soft (v := ?_) (by rw [List.getElem?_toArray]; exact rfl) (by rfl) (by rfl) (fun w' hS => ?_) HD0.out ?_
    rotate_left
    · obtain ⟨a1, a2⟩ := hS
      go_simp
      try with_reducible rfl
    rotate_left
    try simp only [Act.put, List.setIfInBounds_toArray, List.set_cons_zero, List.set_cons_succ]
  iterate 7
    refine wpOrd_off (by rw [List.getElem?_toArray]; exact rfl) (by rfl) HD0.out ?_
    try simp only [Act.put, List.setIfInBounds_toArray, List.set_cons_zero, List.set_cons_succ]
  refine wpOrd_hard (by rw [List.getElem?_toArray]; exact rfl) (fun K hK => ?_)
  rw [if_neg (by simp [Region.wanted, yielded])]
  refine hK.out _ _ (fun _ => HD0.out) ?_
  clear hK K
  try simp only [Act.put, List.setIfInBounds_toArray, List.set_cons_zero, List.set_cons_succ]
  iterate 2
    refine wpOrd_off (by rw [List.getElem?_toArray]; exact rfl) (by rfl) HD0.out ?_
    try simp only [Act.put, List.setIfInBounds_toArray, List.set_cons_zero, List.set_cons_succ]
  iterate 1
    refine wpOrd_soft (v := ?_) (by rw [List.getElem?_toArray]; exact rfl) (by rfl) (by rfl) (fun w' hS => ?_) HD0.out ?_
    rotate_left
    · obtain ⟨a1, a2⟩ := hS
      go_simp
      try with_reducible rfl
    rotate_left
    try simp only [Act.put, List.setIfInBounds_toArray, List.set_cons_zero, List.set_cons_succ]
  refine wpOrd_done (NoPanic.normal ?_)
  go_wp2_with fail
  go_ret
  rw [HW.out]
  exact ⟨rfl, (RAfter.same HD.out).below HB2.out⟩
set_option maxRecDepth 100000 in
set_option maxHeartbeats 4000000 in
theorem RAppend_none_full (m base : Nat) (s : DS) (L : Nat → Prop) (n : ByteArray) (A : Option Addr) (b : Bs) (c : Nat) (w : World) (hd : RDisk w base m s L) (hs : s.fitR) (hn : n.size ≤ maxLen) (hsrc : Src w L A b) (hb : s.bad n = 0) (hT : total s.fs + b.length ≤ 1073741824)
    (hroom : -9223372036854775808 ≤ s.room ∧ s.room ≤ 9223372036854775807) (hx : findF n s.fs = none) (hnl : b.length ≤ 1048576) (hfw : s.fs.length < 16) (hfl : s.room < (total s.fs : Int) + (b.length : Int)) :
    Calls Try.prog 22 #[.pointer (some ⟨m, 0, none⟩), .string n, .slice A b.length c] w fun e w' => e = .returned (.int .i64 (s.append n b).2) ∧ RAfter w w' base m (s.append n b).1 L := by
  obtain ⟨v, h, hk⟩ := hd.k
  obtain ⟨_, _, c2, _⟩ := hk.q.cells
  obtain ⟨Av, cap, hv, _⟩ := hk.q.row.slice_
  subst hv
  have HD := Lib.hid hd
  have HK := Lib.hid hk
  have HS := Lib.hid hs
  have HN := Lib.hid hn
  have HB := Lib.hid hsrc
  have HR := Lib.hid (rready_any m s n w hn c2)
  have HA := Lib.hid (at_any m base s _ h n w hk.q hn (by have := hs.few; omega))
  have HBAD := Lib.hid hb
  have HTT := Lib.hid hT
  obtain ⟨hr1, hr2⟩ := hroom
  have hbl : b.length ≤ 1073741824 := by omega
  have HV := Lib.hid (atI_none hx)
  have HX := Lib.hid hx
  have HGD : Hid ((findF n s.fs).getD ⟨n, [], []⟩ = ⟨n, [], []⟩) := Lib.hid (by rw [hx]; rfl)
  have hnl' : ¬ ((findF n s.fs).getD ⟨n, [], []⟩).len + b.length > 1048576 := by rw [HGD.out]; unfold DF.len; simp; omega
  have hlg' : (b.length : Int) ≤ (1048576 : Int) := by omega
  have hd2 : decide ((16 : Int) ≤ (s.fs.length : Int)) = false := by simp; omega
  have w3s : IntKind.i64.wrap ((total s.fs : Int) + (b.length : Int)) = (total s.fs : Int) + (b.length : Int) := IntWalk.i64_in _ (by have := HTT.out; omega)
  have HW : Hid (s.append n b = (s, 22)) := Lib.hid (app_full hb b hnl' (.inr (by simpa using hfl)))
  have hd3 : decide (s.room < (total s.fs : Int) + (b.length : Int)) = true := by simpa using hfl
  clear hd hs hn hk c2 hb hsrc hT hx hnl hnl' hfl
  go_enter Try.func22, Try.ntmps22
  go_wp2_with first
    | (go_at_call 41; refine HR.out.mono ?_; rw [HBAD.out]; rintro e w' ⟨rfl, rfl⟩)
    | (go_at_call 42; refine HA.out.mono ?_; rw [HV.out]; rintro e w1 ⟨rfl, hb1⟩; have HB1 := Lib.hid hb1; clear hb1)
  have HB2 : Hid (Below w.heap.size w (w1.alloc (.cells #[.string n, .slice none 0 0, .slice none 0 0] 65)).drew) := Lib.hid (below_al HB1.out _).drew
  have HN1 : Hid (∀ W, Below w.heap.size w W → W.cell? ⟨m, 0, none⟩ = some (.slice Av s.fs.length cap) ∧ W.cell? ⟨m, 1, none⟩ = some (.int .i64 s.room)) := Lib.hid fun W hW => ⟨(HK.out.q.below hW).cells.1, (HK.out.q.below hW).cells.2.1⟩
  have HZ : Hid (∀ W, Below w.heap.size w W → Calls Try.prog 43 #[.pointer (some ⟨m, 0, none⟩)] W fun e w' => e = .returned (.int .i64 (total s.fs)) ∧ Below W.heap.size W w') := Lib.hid fun W hW => rsize_any m base s _ h W (HK.out.q.below hW) HS.out.fit.bytes (by have := HS.out.few; omega)
  have HD0 := Lib.hid (HN1.out _ HB2.out)
  refine wp_region_noPanic ?_
  refine wp_region_ord (fun w' => w'.cell? ⟨m, 0, none⟩ = some (.slice Av s.fs.length cap) ∧ w'.cell? ⟨m, 1, none⟩ = some (.int .i64 s.room))
    [(0,true),(1,true),(2,true),(3,true),(4,true),(5,true),(6,true),(7,true),(8,true),(9,true),(10,true),(11,true),(13,true),(14,true),(16,true),(17,true),(18,true),(19,true),(12,false),(15,true),(20,true),(21,true)] [] (by kernel_rfl) (by kernel_rfl) (fun _ _ _ _ _ h => h) ?_
  iterate 11
    refine wpOrd_soft (v := ?_) (by rw [List.getElem?_toArray]; exact rfl) (by rfl) (by rfl) (fun w' hS => ?_) HD0.out ?_
    rotate_left
    · obtain ⟨a1, a2⟩ := hS
      go_simp
      try with_reducible rfl
    rotate_left
    try simp only [Act.put, List.setIfInBounds_toArray, List.set_cons_zero, List.set_cons_succ]
  iterate 1
    refine wpOrd_soft (v := ?_) (by rw [List.getElem?_toArray]; exact rfl) (by rfl) (by rfl) (fun w' hS => ?_) HD0.out ?_
    rotate_left
    · obtain ⟨a1, a2⟩ := hS
      go_simp
      try with_reducible rfl
    rotate_left
    try simp only [Act.put, List.setIfInBounds_toArray, List.set_cons_zero, List.set_cons_succ]
  iterate 6
    refine wpOrd_soft (v := ?_) (by rw [List.getElem?_toArray]; exact rfl) (by rfl) (by rfl) (fun w' hS => ?_) HD0.out ?_
    rotate_left
    · obtain ⟨a1, a2⟩ := hS
      go_simp
      try with_reducible rfl
    rotate_left
    try simp only [Act.put, List.setIfInBounds_toArray, List.set_cons_zero, List.set_cons_succ]
  refine wpOrd_hard (by rw [List.getElem?_toArray]; exact rfl) (fun K hK => ?_)
  go_simp
  go_at_call 43
  refine (HZ.out _ HB2.out).mono ?_
  rintro e w3 ⟨rfl, hb3⟩
  have HB3 := Lib.hid (below_next HB2.out hb3)
  have HW3 := Lib.hid hb3
  have HD3 := Lib.hid (HN1.out _ HB3.out)
  clear hb3
  refine hK.out _ _ (fun _ => HD3.out) ?_
  clear hK K
  try simp only [Act.put, List.setIfInBounds_toArray, List.set_cons_zero, List.set_cons_succ]
  iterate 3
    refine wpOrd_soft (v := ?_) (by rw [List.getElem?_toArray]; exact rfl) (by rfl) (by rfl) (fun w' hS => ?_) HD3.out ?_
    rotate_left
    · obtain ⟨a1, a2⟩ := hS
      go_simp
      try with_reducible rfl
    rotate_left
    try simp only [Act.put, List.setIfInBounds_toArray, List.set_cons_zero, List.set_cons_succ]
  refine wpOrd_done (NoPanic.normal ?_)
  go_wp2_with fail
  go_ret
  rw [HW.out]
  exact ⟨rfl, (RAfter.same HD.out).below HB3.out⟩
set_option maxRecDepth 100000 in
set_option maxHeartbeats 4000000 in
theorem RAppend_none_ok (m base : Nat) (s : DS) (L : Nat → Prop) (n : ByteArray) (A : Option Addr) (b : Bs) (c : Nat) (w : World) (hd : RDisk w base m s L) (hs : s.fitR) (hn : n.size ≤ maxLen) (hsrc : Src w L A b) (hb : s.bad n = 0) (hT : total s.fs + b.length ≤ 1073741824)
    (hroom : -9223372036854775808 ≤ s.room ∧ s.room ≤ 9223372036854775807) (hx : findF n s.fs = none) (hnl : b.length ≤ 1048576) (hfw : s.fs.length < 16) (hfl : (total s.fs : Int) + (b.length : Int) ≤ s.room) :
    Calls Try.prog 22 #[.pointer (some ⟨m, 0, none⟩), .string n, .slice A b.length c] w fun e w' => e = .returned (.int .i64 (s.append n b).2) ∧ RAfter w w' base m (s.append n b).1 L := by
  obtain ⟨v, h, hk⟩ := hd.k
  obtain ⟨_, _, c2, _⟩ := hk.q.cells
  obtain ⟨Av, cap, hv, _⟩ := hk.q.row.slice_
  subst hv
  have HD := Lib.hid hd
  have HK := Lib.hid hk
  have HS := Lib.hid hs
  have HN := Lib.hid hn
  have HB := Lib.hid hsrc
  have HR := Lib.hid (rready_any m s n w hn c2)
  have HA := Lib.hid (at_any m base s _ h n w hk.q hn (by have := hs.few; omega))
  have HBAD := Lib.hid hb
  have HTT := Lib.hid hT
  obtain ⟨hr1, hr2⟩ := hroom
  have hbl : b.length ≤ 1073741824 := by omega
  have HV := Lib.hid (atI_none hx)
  have HX := Lib.hid hx
  have HGD : Hid ((findF n s.fs).getD ⟨n, [], []⟩ = ⟨n, [], []⟩) := Lib.hid (by rw [hx]; rfl)
  have hnl' : ¬ ((findF n s.fs).getD ⟨n, [], []⟩).len + b.length > 1048576 := by rw [HGD.out]; unfold DF.len; simp; omega
  have hlg' : (b.length : Int) ≤ (1048576 : Int) := by omega
  have hd2 : decide ((16 : Int) ≤ (s.fs.length : Int)) = false := by simp; omega
  have w3s : IntKind.i64.wrap ((total s.fs : Int) + (b.length : Int)) = (total s.fs : Int) + (b.length : Int) := IntWalk.i64_in _ (by have := HTT.out; omega)
  obtain ⟨s1, hs1⟩ : ∃ s1 : DS, s1 = { s with fs := putF ⟨n, [], b⟩ s.fs } := ⟨_, rfl⟩
  have HW : Hid (s.append n b = s1.fin id) := Lib.hid (by rw [app_ok hb b hnl' (by rintro (h1 | h1); omega; rw [Int.natCast_add] at h1; omega), HGD.out, hs1]; try rfl)
  have hd3 : decide (s.room < (total s.fs : Int) + (b.length : Int)) = false := by simp; omega
  have HF1 : Hid s1.fit := Lib.hid (by
    rw [hs1]
    refine fit_room HS.out.fit (rising_put HS.out.fit.rising _) ?_
    rw [total_add (by exact hx)]
    unfold DF.len; simp; omega)
  have HFW : Hid (s1.fs.length ≤ 1048576) := Lib.hid (by rw [hs1]; show (putF _ s.fs).length ≤ _; have := HS.out.few; rw [length_put_none (by exact hx)]; omega)
  have HKP : Hid (s1.keep = s.keep) := Lib.hid (by rw [hs1])
  have HSS := Lib.hid hs1
  clear hd hs hn hk c2 hb hsrc hT hx hnl hnl' hfl hs1
  go_enter Try.func22, Try.ntmps22
  go_wp2_with first
    | (go_at_call 41; refine HR.out.mono ?_; rw [HBAD.out]; rintro e w' ⟨rfl, rfl⟩)
    | (go_at_call 42; refine HA.out.mono ?_; rw [HV.out]; rintro e w1 ⟨rfl, hb1⟩; have HB1 := Lib.hid hb1; clear hb1)
  have HB2 : Hid (Below w.heap.size w (w1.alloc (.cells #[.string n, .slice none 0 0, .slice none 0 0] 65)).drew) := Lib.hid (below_al HB1.out _).drew
  have HN1 : Hid (∀ W, Below w.heap.size w W → W.cell? ⟨m, 0, none⟩ = some (.slice Av s.fs.length cap) ∧ W.cell? ⟨m, 1, none⟩ = some (.int .i64 s.room)) := Lib.hid fun W hW => ⟨(HK.out.q.below hW).cells.1, (HK.out.q.below hW).cells.2.1⟩
  have HZ : Hid (∀ W, Below w.heap.size w W → Calls Try.prog 43 #[.pointer (some ⟨m, 0, none⟩)] W fun e w' => e = .returned (.int .i64 (total s.fs)) ∧ Below W.heap.size W w') := Lib.hid fun W hW => rsize_any m base s _ h W (HK.out.q.below hW) HS.out.fit.bytes (by have := HS.out.few; omega)
  have HD0 := Lib.hid (HN1.out _ HB2.out)
  refine wp_region_noPanic ?_
  refine wp_region_ord (fun w' => w'.cell? ⟨m, 0, none⟩ = some (.slice Av s.fs.length cap) ∧ w'.cell? ⟨m, 1, none⟩ = some (.int .i64 s.room))
    [(0,true),(1,true),(2,true),(3,true),(4,true),(5,true),(6,true),(7,true),(8,true),(9,true),(10,true),(11,true),(13,true),(14,true),(16,true),(17,true),(18,true),(19,true),(12,false),(15,true),(20,true),(21,true)] [] (by kernel_rfl) (by kernel_rfl) (fun _ _ _ _ _ h => h) ?_
  iterate 11
    refine wpOrd_soft (v := ?_) (by rw [List.getElem?_toArray]; exact rfl) (by rfl) (by rfl) (fun w' hS => ?_) HD0.out ?_
    rotate_left
    · obtain ⟨a1, a2⟩ := hS
      go_simp
      try with_reducible rfl
    rotate_left
    try simp only [Act.put, List.setIfInBounds_toArray, List.set_cons_zero, List.set_cons_succ]
  iterate 1
    refine wpOrd_soft (v := ?_) (by rw [List.getElem?_toArray]; exact rfl) (by rfl) (by rfl) (fun w' hS => ?_) HD0.out ?_
    rotate_left
    · obtain ⟨a1, a2⟩ := hS
      go_simp
      try with_reducible rfl
    rotate_left
    try simp only [Act.put, List.setIfInBounds_toArray, List.set_cons_zero, List.set_cons_succ]
  iterate 6
    refine wpOrd_soft (v := ?_) (by rw [List.getElem?_toArray]; exact rfl) (by rfl) (by rfl) (fun w' hS => ?_) HD0.out ?_
    rotate_left
    · obtain ⟨a1, a2⟩ := hS
      go_simp
      try with_reducible rfl
    rotate_left
    try simp only [Act.put, List.setIfInBounds_toArray, List.set_cons_zero, List.set_cons_succ]
  refine wpOrd_hard (by rw [List.getElem?_toArray]; exact rfl) (fun K hK => ?_)
  go_simp
  go_at_call 43
  refine (HZ.out _ HB2.out).mono ?_
  rintro e w3 ⟨rfl, hb3⟩
  have HB3 := Lib.hid (below_next HB2.out hb3)
  have HW3 := Lib.hid hb3
  have HD3 := Lib.hid (HN1.out _ HB3.out)
  clear hb3
  refine hK.out _ _ (fun _ => HD3.out) ?_
  clear hK K
  try simp only [Act.put, List.setIfInBounds_toArray, List.set_cons_zero, List.set_cons_succ]
  iterate 3
    refine wpOrd_soft (v := ?_) (by rw [List.getElem?_toArray]; exact rfl) (by rfl) (by rfl) (fun w' hS => ?_) HD3.out ?_
    rotate_left
    · obtain ⟨a1, a2⟩ := hS
      go_simp
      try with_reducible rfl
    rotate_left
    try simp only [Act.put, List.setIfInBounds_toArray, List.set_cons_zero, List.set_cons_succ]
  refine wpOrd_done (NoPanic.normal ?_)
  have hbx : w3.heap[w1.heap.size]? = some (.cells #[.string n, .slice none 0 0, .slice none 0 0] 65 (0, 0)) := (HW3.out.block _ (by simp)).trans (blk_new w1 _)
  have bx0 : w3.cell? ⟨w1.heap.size, 0, none⟩ = some (.string n) := blk_cell hbx 0
  have bx1 : w3.cell? ⟨w1.heap.size, 1, none⟩ = some (.slice none 0 0) := blk_cell hbx 1
  have bx2 : w3.cell? ⟨w1.heap.size, 2, none⟩ = some (.slice none 0 0) := blk_cell hbx 2
  have HBX := Lib.hid hbx
  have hbl3 := blk_lt hbx
  have hw13 : w.heap.size ≤ w1.heap.size := HB1.out.size
  have hw3 : w.heap.size ≤ w3.heap.size := HB3.out.size
  have HWT : Hid (∀ W, Below w3.heap.size w3 W → ∀ j u, (bv [])[j]? = some u → ∃ ad, (none : Option Addr) = some ad ∧ W.cell? (ad.add j) = some u) := Lib.hid fun W hW j u hu => by simp [bv] at hu
  have HSB : Hid (∀ W, Below w3.heap.size w3 W → ∀ j u, (bv b)[j]? = some u → ∃ ad, A = some ad ∧ W.cell? (ad.add j) = some u) := Lib.hid fun W hW => (HB.out.chg (M := L) (.of_below (below_next HB3.out hW)) fun _ => id).1
  clear hbx
  have tok1 : True := trivial
  go_wp2_with first
    | (at_builtin; have _t := tok1; refine wpList_append_any _ rfl _ _ 29 rfl w3.heap.size 5 (.int .u8 0) 1 1 Try.underlying29 infoB rfl (by decide) (.slice (some ⟨w3.heap.size, 0, none⟩) 0 0) 0 [] rfl (Own.none_ _ _ _ _ _) none 0 0 (bv []) rfl rfl (HWT.out _ (below_al (Below.refl _ _) _)) (bv_one _) (by omega) (by omega) (by simp) ?_; intro v4 w4 ho4 hg4 hf4; simp only [Nat.zero_add, List.nil_append] at ho4; obtain ⟨A4, k4, rfl, _⟩ := ho4.slice_; have HO4 := Lib.hid ho4; have HW4 : Hid (Below w3.heap.size w3 w4) := Lib.hid ((below_al (Below.refl _ _) _).grown hg4 (by simp) fun j e => by simp [fp] at e); clear ho4 hg4 hf4 tok1)
    | (at_builtin; refine wpList_append_any _ rfl _ _ 29 rfl w3.heap.size 5 (.int .u8 0) 1 1 Try.underlying29 infoB rfl (by decide) (.slice A4 0 k4) 0 (bv []) rfl HO4.out A b.length c (bv b) rfl (by rw [bv_len]; omega) (HSB.out _ HW4.out) (bv_one _) (by omega) (by omega) HW4.out.size ?_; intro v5 w5 ho5 hg5 hf5; simp only [Nat.zero_add] at ho5; obtain ⟨A5, k5, rfl, _⟩ := ho5.slice_; have HO5 := Lib.hid ho5; have HW5 : Hid (Below w3.heap.size w3 w5) := Lib.hid (HW4.out.grown hg5 HW4.out.size fun j e => (HO4.out.lt e).1); have hb5 := (HW5.out.block _ hbl3).trans HBX.out; have z0 : w5.cell? ⟨w1.heap.size, 0, none⟩ = some (.string n) := blk_cell hb5 0; have z1 : w5.cell? ⟨w1.heap.size, 1, none⟩ = some (.slice none 0 0) := blk_cell hb5 1; have z2 : w5.cell? ⟨w1.heap.size, 2, none⟩ = some (.slice none 0 0) := blk_cell hb5 2; have zf := blk_frozen hb5 2; have zl := blk_lt hb5; clear ho5 hg5 hf5 hb5)
  have HB6 : Hid (Below w.heap.size w (w5.setCell ⟨w1.heap.size, 2, none⟩ (.slice A5 b.length k5))) := Lib.hid ((below_next HB3.out HW5.out).setCell (p := ⟨w1.heap.size, 2, none⟩) hw13 _)
  have HK6 := Lib.hid (HK.out.grow HB6.out)
  have HX6 : Hid (BytesOf (w5.setCell ⟨w1.heap.size, 2, none⟩ (.slice A5 b.length k5)) base (fun _ => (.slice none 0 0, .slice A5 b.length k5)) ⟨n, [], b⟩) := Lib.hid (app_bytes HBX.out HW5.out (Own.none_ _ _ _ _ none) (by have h1 := HO5.out; simp only [bv, List.map_nil, List.nil_append] at h1; exact h1) (by have := HK.out.lo m HK.out.has; omega) (by rfl))
  have HXL : Hid (∀ x, fp (.slice none 0 0) = some x ∨ fp (.slice A5 b.length k5) = some x → newL L w (w5.setCell ⟨w1.heap.size, 2, none⟩ (.slice A5 b.length k5)) x) := Lib.hid fun x hx => by
    rcases hx with hx | hx
    · simp [fp] at hx
    · have h1 := HO5.out.lt hx
      exact .inr ⟨by omega, by simpa using h1.2⟩
  cases hg : s1.goes with
  | true =>
    have HG := Lib.hid hg
    have HF := Lib.hid (fin_goes hg id)
    clear hg
    go_wp2_with first
      | (go_at_call 44; refine (put_k' m base s _ h _ ⟨n, [], b⟩ none A5 0 b.length 0 k5 rfl rfl _ HK6.out HS.out.fit.rising HS.out.few HX6.out HXL.out HN.out).mono ?_; rintro e w7 ⟨rfl, ha⟩; have HA7 : Hid (RAfter w w7 base m s1 L) := Lib.hid (by rw [HSS.out]; exact RAfter.next HD.out ⟨HK6.out.p, .of_below HB6.out⟩ ha); clear ha)
      | (go_at_call 45; refine (rraw_any m base s1 _ _ HA7.out.disk HF1.out.count HF1.out.left).mono ?_; rw [HG.out]; rintro e w8 ⟨rfl, ha⟩; have HA8 := Lib.hid (HA7.out.next HD.out ha); have y5 := ha.disk.keep_; clear ha)
      | (go_at_call 29; refine (ROff_any m base s1.raw _ s1.raw.keep _ HA8.out.disk HF1.out.rising HF1.out.bytes HFW.out (by show _ ≤ s1.keep ∧ s1.keep ≤ _; rw [HKP.out]; exact HS.out.keep)).mono ?_; rintro e w9 ⟨rfl, ha⟩; have HA9 := Lib.hid (HA8.out.next HD.out ha); clear ha)
    go_ret
    rw [HW.out, HF.out]
    exact ⟨rfl, HA9.out⟩
  | false =>
    have HG := Lib.hid hg
    have HF := Lib.hid (fin_stays hg id)
    clear hg
    go_wp2_with first
      | (go_at_call 44; refine (put_k' m base s _ h _ ⟨n, [], b⟩ none A5 0 b.length 0 k5 rfl rfl _ HK6.out HS.out.fit.rising HS.out.few HX6.out HXL.out HN.out).mono ?_; rintro e w7 ⟨rfl, ha⟩; have HA7 : Hid (RAfter w w7 base m s1 L) := Lib.hid (by rw [HSS.out]; exact RAfter.next HD.out ⟨HK6.out.p, .of_below HB6.out⟩ ha); clear ha)
      | (go_at_call 45; refine (rraw_any m base s1 _ _ HA7.out.disk HF1.out.count HF1.out.left).mono ?_; rw [HG.out]; rintro e w8 ⟨rfl, ha⟩; have HA8 := Lib.hid (HA7.out.next HD.out ha); clear ha)
    go_ret
    rw [HW.out, HF.out]
    exact ⟨rfl, HA8.out⟩
theorem RAppend_any (m base : Nat) (s : DS) (L : Nat → Prop) (n : ByteArray) (A : Option Addr) (b : Bs) (c : Nat) (w : World) (hd : RDisk w base m s L) (hs : s.fitR) (hn : n.size ≤ maxLen) (hsrc : Src w L A b) (hT : total s.fs + b.length ≤ 1073741824)
    (hroom : -9223372036854775808 ≤ s.room ∧ s.room ≤ 9223372036854775807) :
    Calls Try.prog 22 #[.pointer (some ⟨m, 0, none⟩), .string n, .slice A b.length c] w fun e w' => e = .returned (.int .i64 (s.append n b).2) ∧ RAfter w w' base m (s.append n b).1 L := by
  by_cases hb : s.bad n = 0
  · cases hx : findF n s.fs with
    | none =>
      by_cases hnl : b.length ≤ 1048576
      · by_cases hfw : 16 ≤ s.fs.length
        · exact RAppend_none_few m base s L n A b c w hd hs hn hsrc hb hT hroom hx hnl hfw
        · by_cases hfl : s.room < (total s.fs : Int) + (b.length : Int)
          · exact RAppend_none_full m base s L n A b c w hd hs hn hsrc hb hT hroom hx hnl (by omega) hfl
          · exact RAppend_none_ok m base s L n A b c w hd hs hn hsrc hb hT hroom hx hnl (by omega) (by omega)
      · exact RAppend_none_long m base s L n A b c w hd hs hn hsrc hb hT hroom hx (by omega)
    | some f =>
      by_cases hnl : f.len + b.length ≤ 1048576
      · by_cases hfl : s.room < (total s.fs : Int) + (b.length : Int)
        · exact RAppend_some_full m base s L n A b c w hd hs hn hsrc hb hT hroom f hx hnl hfl
        · exact RAppend_some_ok m base s L n A b c w hd hs hn hsrc hb hT hroom f hx hnl (by omega)
      · exact RAppend_some_long m base s L n A b c w hd hs hn hsrc hb hT hroom f hx (by omega)
  · exact RAppend_bad m base s L n A b c w hd hn hb
end Go.Proofs.Ytfdcibghcncbmaa
