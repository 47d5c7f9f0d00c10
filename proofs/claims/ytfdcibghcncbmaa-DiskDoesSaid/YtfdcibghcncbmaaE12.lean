/- The document's disk: Rename. -/
import Derived.Test.YtfdcibghcncbmaaE11
namespace Go.Proofs.Ytfdcibghcncbmaa
open Go.RowKit Go.Maps Go.Shelf

theorem ok_bounds {n : ByteArray} (h : okName n = true) : (1 : Int) ≤ n.size ∧ (n.size : Int) ≤ 16 := by
  unfold okName at h
  simp at h
  omega
theorem no_bounds {n : ByteArray} (h : okName n = false) : (n.size : Int) < 1 ∨ (16 : Int) < n.size := by
  unfold okName at h
  simp at h
  omega
set_option maxRecDepth 100000 in
set_option maxHeartbeats 1000000 in
/-- A name that can't be. -/
theorem RRename_arg (m base : Nat) (s : DS) (L : Nat → Prop) (n k : ByteArray) (w : World) (hd : RDisk w base m s L) (hn : n.size ≤ maxLen) (hk : k.size ≤ maxLen) (h : okName n = false ∨ okName k = false) :
    Calls Try.prog 25 #[.pointer (some ⟨m, 0, none⟩), .string n, .string k] w fun e w' => e = .returned (.int .i64 (s.rename n k).2) ∧ RAfter w w' base m (s.rename n k).1 L := by
  have HD := Lib.hid hd
  have HW : Hid (s.rename n k = (s, 1)) := Lib.hid (by unfold DS.rename; rw [if_pos (by simpa using h)])
  unfold maxLen at hn hk
  cases h1 : okName n with
  | false =>
    have hb := no_bounds h1
    clear hd h h1
    rcases hb with hb | hb
    all_goals
      go_enter Try.func25, Try.ntmps25
      go_wp2
      go_ret
      rw [HW.out]
      exact ⟨rfl, RAfter.same HD.out⟩
  | true =>
    have hb1 := ok_bounds h1
    have hb := no_bounds (n := k) (by rcases h with h | h; rw [h1] at h; cases h; exact h)
    obtain ⟨hb2, hb3⟩ := hb1
    clear hd h h1
    rcases hb with hb | hb
    all_goals
      go_enter Try.func25, Try.ntmps25
      go_wp2
      go_ret
      rw [HW.out]
      exact ⟨rfl, RAfter.same HD.out⟩
theorem ren_bytes {w2 w3 : World} {base m : Nat} {s : DS} {v : Value} {h : HV} {L : Nat → Prop} {f : DF} {o : Obj} {u1 u2 : Value} (hk : KRef w2 base m s v h L) (hf : f ∈ s.fs) (e1 : (h f.name).1 = u1) (e2 : (h f.name).2 = u2) (hc : Chg (fun k => k = m) (w2.alloc o) w3) (q : ByteArray) :
    BytesOf w3 base (fun _ => (u1, u2)) ⟨q, f.safe, f.wait⟩ := by
  have hb := hk.q.bytes f hf
  have far : ∀ k, k < w2.heap.size → k ≠ m → w3.heap[k]? = w2.heap[k]? := fun k hk hm => (hc.block k (by simp; omega) hm).trans (Below.heap_alloc w2 o k hk)
  have o1 := hb.safe.move (w1 := w3) fun k hk' => far k (hb.safe.lt hk').2 (typed_ne hb.safe hk.q.blk (by decide) hk')
  have o2 := hb.wait.move (w1 := w3) fun k hk' => far k (hb.wait.lt hk').2 (typed_ne hb.wait hk.q.blk (by decide) hk')
  rw [e1] at o1
  rw [e2] at o2
  exact ⟨o1, o2⟩
theorem ren_blks {w2 W w3 : World} {base m : Nat} {s : DS} {v : Value} {h : HV} {L : Nat → Prop} {f : DF} {u1 u2 : Value} (hk : KRef w2 base m s v h L) (hf : f ∈ s.fs) (e1 : (h f.name).1 = u1) (e2 : (h f.name).2 = u2) : ∀ k, fp u1 = some k ∨ fp u2 = some k → newL L W w3 k := by
  intro k hk'
  rw [← e1, ← e2] at hk'
  exact .inl (hk.l k (.inr (.inr ⟨f, hf, hk'⟩)))
set_option maxRecDepth 100000 in
set_option maxHeartbeats 2000000 in
theorem RRename_any (m base : Nat) (s : DS) (L : Nat → Prop) (n q : ByteArray) (w : World) (hd : RDisk w base m s L) (hs : s.fitR) (hn : n.size ≤ maxLen) (hq : q.size ≤ maxLen) :
    Calls Try.prog 25 #[.pointer (some ⟨m, 0, none⟩), .string n, .string q] w fun e w' => e = .returned (.int .i64 (s.rename n q).2) ∧ RAfter w w' base m (s.rename n q).1 L := by
  cases ho1 : okName n with
  | false => exact RRename_arg m base s L n q w hd hn hq (.inl ho1)
  | true =>
  cases ho2 : okName q with
  | false => exact RRename_arg m base s L n q w hd hn hq (.inr ho2)
  | true =>
  obtain ⟨v, h, hk⟩ := hd.k
  obtain ⟨_, _, c2, _⟩ := hk.q.cells
  have HD := Lib.hid hd
  have HK := Lib.hid hk
  have HS := Lib.hid hs
  have HN := Lib.hid hn
  have HQ := Lib.hid hq
  obtain ⟨b1, b2⟩ := ok_bounds ho1
  obtain ⟨b3, b4⟩ := ok_bounds ho2
  have HA := Lib.hid (at_any m base s v h n w hk.q hn (by have := hs.few; omega))
  have HR := Lib.hid (rename_eq s n q ho1 ho2)
  clear hd hs hn hk hq
  rcases bad_cases s n ho1 with hb | hb
  · have hon : s.on = true := by
      cases ho : s.on with
      | true => rfl
      | false => unfold DS.bad at hb; rw [ho1, ho] at hb; simp at hb
    rw [hon] at c2
    cases hx : findF n s.fs with
    | none =>
      have HV := Lib.hid (atI_none hx)
      have HW := Lib.hid (with_none hb hx fun f => s.fin (renF n q f))
      clear hb hx ho1 ho2 hon
      go_enter Try.func25, Try.ntmps25
      go_wp2_with (go_at_call 42; refine HA.out.mono ?_; rw [HV.out]; rintro e w1 ⟨rfl, hb1⟩; have HB1 := Lib.hid hb1; clear hb1)
      go_ret
      rw [HR.out, HW.out]
      exact ⟨rfl, (RAfter.same HD.out).below HB1.out⟩
    | some f =>
      obtain ⟨k, hkv, hkf⟩ := atI_some HS.out.fit.rising hx
      have HV := Lib.hid hkv
      have HW := Lib.hid (with_some hb hx fun f => s.fin (renF n q f))
      have HX := Lib.hid hx
      have HKF := Lib.hid hkf
      have hk0 : ¬ ((k : Int) < 0) := by omega
      have hlt := (List.getElem?_eq_some_iff.1 hkf).1
      have hki : (k : Int) < (s.fs.length : Int) := by omega
      clear hb hx hkv hkf ho1 ho2 hon
      cases hg : s.goes with
      | true =>
        have HF := Lib.hid (fin_goes hg (renF n q f))
        have HG := Lib.hid hg
        clear hg
        go_enter Try.func25, Try.ntmps25
        go_wp2_with first
          | (go_at_call 42; refine HA.out.mono ?_; rw [HV.out]; rintro e w1 ⟨rfl, hb1⟩; have HB1 := Lib.hid hb1; clear hb1)
          | (go_at_call 45; refine (rraw_k m base s v h L _ (HK.out.below HB1.out) HS.out.fit.count HS.out.fit.left).mono ?_; rw [HG.out]; rintro e w2 ⟨rfl, hk2, hc2⟩; have HK2 := Lib.hid hk2; have HC2 := Lib.hid hc2; have y5 := hk2.q.cells.2.2.2.2.2; clear hk2 hc2)
          | (go_at_call 29; refine (ROff_any m base s.raw L s.raw.keep _ HK2.out.p HS.out.fit.rising HS.out.fit.bytes HS.out.few HS.out.keep).mono ?_; rintro e w3 ⟨rfl, ha⟩; have HA3 := Lib.hid ha; clear ha)
        go_ret
        rw [HR.out, HW.out, HF.out]
        exact ⟨rfl, RAfter.then' ((Chg.of_below HB1.out).trans HC2.out) HK.out.lo HD.out.base_le HA3.out⟩
      | false =>
        have HF := Lib.hid (fin_stays hg (renF n q f))
        have HG := Lib.hid hg
        clear hg
        go_enter Try.func25, Try.ntmps25
        go_wp2_with first
          | (go_at_call 42; refine HA.out.mono ?_; rw [HV.out]; rintro e w1 ⟨rfl, hb1⟩; have HB1 := Lib.hid hb1; clear hb1)
          | (go_at_call 45; refine (rraw_k m base s v h L _ (HK.out.below HB1.out) HS.out.fit.count HS.out.fit.left).mono ?_; rw [HG.out]; rintro e w2 ⟨rfl, hk2, hc2⟩; have HK2 := Lib.hid hk2; have HC2 := Lib.hid hc2; obtain ⟨g, cap, A1, c1, A2, c2x, e0, e1, e2, q0, q1, q2, fz, gl, hcap⟩ := hk2.q.at_ k f HKF.out; have y0 := hk2.q.cells.1; rw [e0] at y0; have HE1 := Lib.hid e1; have HE2 := Lib.hid e2; clear hk2 hc2 e0 e1 e2 fz)
          | (go_at_call 46; refine (drop_k m base s.raw v h L n _ (HK2.out.below (below_al (Below.refl _ _) _)) HS.out.few HN.out).mono ?_; rintro e w3 ⟨rfl, v3, hk3, hc3⟩; have HK3 := Lib.hid hk3; have HC3 := Lib.hid hc3; have hbx : w3.heap[w2.heap.size]? = some (.cells #[.string f.name, .slice A1 f.safe.length c1, .slice A2 f.wait.length c2x] 65 (0, 0)) := (hc3.block _ (by simp) (fun e => by have := blk_lt HK2.out.q.blk; omega)).trans (blk_new _ _); have r1 : w3.cell? ⟨w2.heap.size, 1, none⟩ = some (.slice A1 f.safe.length c1) := blk_cell hbx 1; have r2 : w3.cell? ⟨w2.heap.size, 2, none⟩ = some (.slice A2 f.wait.length c2x) := blk_cell hbx 2; clear hk3 hc3 hbx)
          | (go_at_call 44; refine (put_k m base _ v3 h _ ⟨q, f.safe, f.wait⟩ A1 A2 c1 c2x _ HK3.out (rising_drop HS.out.fit.rising n) (Nat.le_trans (List.length_filter_le _ _) HS.out.few) (ren_bytes HK2.out (List.mem_of_getElem? HKF.out) HE1.out HE2.out HC3.out q) (ren_blks HK2.out (List.mem_of_getElem? HKF.out) HE1.out HE2.out) HQ.out).mono ?_; rintro e w4 ⟨rfl, ha⟩; have HA4 := Lib.hid ha; clear ha)
        go_ret
        rw [HR.out, HW.out, HF.out]
        refine ⟨rfl, RAfter.then' (((Chg.of_below HB1.out).trans HC2.out).alloc (.cells #[.string f.name, .slice A1 f.safe.length c1, .slice A2 f.wait.length c2x] 65)) HK.out.lo HD.out.base_le ?_⟩
        have hk3 := HK2.out.below (below_al (Below.refl w2.heap.size w2) (.cells #[.string f.name, .slice A1 f.safe.length c1, .slice A2 f.wait.length c2x] 65))
        exact RAfter.next hk3.p ⟨HK3.out.p, HC3.out.mono fun k (e : k = m) => e ▸ HK2.out.has⟩ HA4.out
  · have HW := Lib.hid (with_bad (s := s) (n := n) (by rw [hb]; decide) fun f => s.fin (renF n q f))
    have HB := Lib.hid hb
    have hon : s.on = false := by
      cases ho : s.on with
      | false => rfl
      | true => unfold DS.bad at hb; rw [ho1, ho] at hb; simp at hb
    rw [hon] at c2
    clear hb ho1 ho2 hon
    go_enter Try.func25, Try.ntmps25
    go_wp2_with fail
    go_ret
    rw [HR.out, HW.out, HB.out]
    exact ⟨rfl, RAfter.same HD.out⟩
end Go.Proofs.Ytfdcibghcncbmaa
