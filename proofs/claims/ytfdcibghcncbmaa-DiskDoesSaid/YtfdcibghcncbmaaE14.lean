/- The document's disk: Truncate. -/
import Derived.Test.YtfdcibghcncbmaaE13
namespace Go.Proofs.Ytfdcibghcncbmaa
open Go.RowKit Go.Maps Go.Shelf

set_option maxRecDepth 100000 in
set_option maxHeartbeats 4000000 in
/-- A file that isn't there, or a name that can't be. -/
theorem RTrunc_no (m base : Nat) (s : DS) (L : Nat → Prop) (n : ByteArray) (k : Int) (w : World) (hd : RDisk w base m s L) (hs : s.fitR) (hn : n.size ≤ maxLen) (hno : s.bad n ≠ 0 ∨ findF n s.fs = none) :
    Calls Try.prog 24 #[.pointer (some ⟨m, 0, none⟩), .string n, .int .i64 k] w fun e w' => e = .returned (.int .i64 (s.trunc n k).2) ∧ RAfter w w' base m (s.trunc n k).1 L := by
  obtain ⟨v, h, hk⟩ := hd.k
  obtain ⟨_, _, c2, _⟩ := hk.q.cells
  have HD := Lib.hid hd
  have HR := Lib.hid (rready_any m s n w hn c2)
  have HA := Lib.hid (at_any m base s v h n w hk.q hn (by have := hs.few; omega))
  clear hd hs hn hk c2
  by_cases hb : s.bad n = 0
  · have HBAD := Lib.hid hb
    have hx : findF n s.fs = none := by rcases hno with h1 | h1; exact absurd hb h1; exact h1
    have HV := Lib.hid (atI_none hx)
    have HW := Lib.hid (with_none hb hx (fun f => if k < 0 ∨ (f.len : Int) < k then (s, 3) else s.fin fun t => { t with fs := updF (truncF n k f) t.fs }))
    clear hb hx hno
    go_enter Try.func24, Try.ntmps24
    go_wp2_with first
      | (go_at_call 41; refine HR.out.mono ?_; rw [HBAD.out]; rintro e w' ⟨rfl, rfl⟩)
      | (go_at_call 42; refine HA.out.mono ?_; rw [HV.out]; rintro e w1 ⟨rfl, hb1⟩; have HB1 := Lib.hid hb1; clear hb1)
    go_ret
    unfold DS.trunc
    rw [HW.out]
    exact ⟨rfl, (RAfter.same HD.out).below HB1.out⟩
  · have HW := Lib.hid (with_bad hb (fun f => if k < 0 ∨ (f.len : Int) < k then (s, 3) else s.fin fun t => { t with fs := updF (truncF n k f) t.fs }))
    have hd : (s.bad n != 0) = true := by simp [hb]
    clear hb hno
    go_enter Try.func24, Try.ntmps24
    go_wp2_with (go_at_call 41; refine HR.out.mono ?_; rintro e w' ⟨rfl, rfl⟩)
    go_ret
    unfold DS.trunc
    rw [HW.out]
    exact ⟨rfl, RAfter.same HD.out⟩
set_option maxRecDepth 100000 in
set_option maxHeartbeats 4000000 in
/-- More than there is. -/
theorem RTrunc_long (m base : Nat) (s : DS) (L : Nat → Prop) (n : ByteArray) (k : Int) (w : World) (hd : RDisk w base m s L) (hs : s.fitR) (hn : n.size ≤ maxLen) (hb : s.bad n = 0) (f : DF) (hx : findF n s.fs = some f) (hlg : k < 0 ∨ (f.len : Int) < k) :
    Calls Try.prog 24 #[.pointer (some ⟨m, 0, none⟩), .string n, .int .i64 k] w fun e w' => e = .returned (.int .i64 (s.trunc n k).2) ∧ RAfter w w' base m (s.trunc n k).1 L := by
  obtain ⟨v, h, hk⟩ := hd.k
  obtain ⟨_, _, c2, _⟩ := hk.q.cells
  have HD := Lib.hid hd
  have HK := Lib.hid hk
  have HS := Lib.hid hs
  have HR := Lib.hid (rready_any m s n w hn c2)
  have HA := Lib.hid (at_any m base s v h n w hk.q hn (by have := hs.few; omega))
  obtain ⟨kk, hkv, hkf⟩ := atI_some HS.out.fit.rising hx
  have HV := Lib.hid hkv
  have HBAD := Lib.hid hb
  have HFN := Lib.hid (findF_some hx).2
  have hk0 : ¬ ((kk : Int) < 0) := by omega
  have hlt := (List.getElem?_eq_some_iff.1 hkf).1
  have hki : (kk : Int) < (s.fs.length : Int) := by omega
  have hlen := len_le_total (List.mem_of_getElem? hkf)
  have hT := HS.out.fit.bytes
  have hlen' : f.safe.length + f.wait.length ≤ 1073741824 := by unfold DF.len at hlen; omega
  have HKF := Lib.hid hkf
  have HW : Hid (s.trunc n k = (s, 3)) := Lib.hid (by unfold DS.trunc; rw [with_some hb hx, if_pos hlg])
  have hlg' : k < 0 ∨ (f.safe.length : Int) + (f.wait.length : Int) < k := by unfold DF.len at hlg; omega
  clear hd hs hn hk c2 hb hx hkv hkf hlen hT hlg
  by_cases h1 : k < 0
  · have hd0 : decide (k < 0) = true := by simpa using h1
    go_enter Try.func24, Try.ntmps24
    go_wp2_with first
      | (go_at_call 41; refine HR.out.mono ?_; rw [HBAD.out]; rintro e w' ⟨rfl, rfl⟩)
      | (go_at_call 42; refine HA.out.mono ?_; rw [HV.out]; rintro e w1 ⟨rfl, hb1⟩; have HB1 := Lib.hid hb1; have hq1 := HK.out.q.below hb1; obtain ⟨g, cap, A1, c1, A2, c2x, e0, e1, e2, q0, q1, q2, fz, gl, hcap⟩ := hq1.at_ kk f HKF.out; have y0 := hq1.cells.1; rw [e0] at y0; have HE0 := Lib.hid e0; have HE1 := Lib.hid e1; have HE2 := Lib.hid e2; clear hb1 hq1 e0 e1 e2 fz)
    go_ret
    rw [HW.out]
    exact ⟨rfl, ((RAfter.same HD.out).below HB1.out).below (below_al (Below.refl _ _) _)⟩
  · have h2 : (f.safe.length : Int) + (f.wait.length : Int) < k := by omega
    have hd0 : decide (k < 0) = false := by simpa using h1
    have hd1 : decide ((f.safe.length : Int) + (f.wait.length : Int) < k) = true := by simpa using h2
    go_enter Try.func24, Try.ntmps24
    go_wp2_with first
      | (go_at_call 41; refine HR.out.mono ?_; rw [HBAD.out]; rintro e w' ⟨rfl, rfl⟩)
      | (go_at_call 42; refine HA.out.mono ?_; rw [HV.out]; rintro e w1 ⟨rfl, hb1⟩; have HB1 := Lib.hid hb1; have hq1 := HK.out.q.below hb1; obtain ⟨g, cap, A1, c1, A2, c2x, e0, e1, e2, q0, q1, q2, fz, gl, hcap⟩ := hq1.at_ kk f HKF.out; have y0 := hq1.cells.1; rw [e0] at y0; have HE0 := Lib.hid e0; have HE1 := Lib.hid e1; have HE2 := Lib.hid e2; clear hb1 hq1 e0 e1 e2 fz)
    go_ret
    rw [HW.out]
    exact ⟨rfl, ((RAfter.same HD.out).below HB1.out).below (below_al (Below.refl _ _) _)⟩
set_option maxRecDepth 100000 in
set_option maxHeartbeats 4000000 in
/-- The power goes. -/
theorem RTrunc_goes (m base : Nat) (s : DS) (L : Nat → Prop) (n : ByteArray) (kn : Nat) (w : World) (hd : RDisk w base m s L) (hs : s.fitR) (hn : n.size ≤ maxLen) (hb : s.bad n = 0) (f : DF) (hx : findF n s.fs = some f) (hle : kn ≤ f.len) (hg : s.goes = true) :
    Calls Try.prog 24 #[.pointer (some ⟨m, 0, none⟩), .string n, .int .i64 kn] w fun e w' => e = .returned (.int .i64 (s.trunc n kn).2) ∧ RAfter w w' base m (s.trunc n kn).1 L := by
  obtain ⟨v, h, hk⟩ := hd.k
  obtain ⟨_, _, c2, _⟩ := hk.q.cells
  have HD := Lib.hid hd
  have HK := Lib.hid hk
  have HS := Lib.hid hs
  have HR := Lib.hid (rready_any m s n w hn c2)
  have HA := Lib.hid (at_any m base s v h n w hk.q hn (by have := hs.few; omega))
  obtain ⟨kk, hkv, hkf⟩ := atI_some HS.out.fit.rising hx
  have HV := Lib.hid hkv
  have HBAD := Lib.hid hb
  have HFN := Lib.hid (findF_some hx).2
  have hk0 : ¬ ((kk : Int) < 0) := by omega
  have hlt := (List.getElem?_eq_some_iff.1 hkf).1
  have hki : (kk : Int) < (s.fs.length : Int) := by omega
  have hlen := len_le_total (List.mem_of_getElem? hkf)
  have hT := HS.out.fit.bytes
  have hlen' : f.safe.length + f.wait.length ≤ 1073741824 := by unfold DF.len at hlen; omega
  have HKF := Lib.hid hkf
  have HW : Hid (s.trunc n kn = (s.raw.off s.raw.keep, 20)) := Lib.hid (by unfold DS.trunc; rw [with_some hb hx, if_neg (by omega), fin_goes hg])
  have hle' : kn ≤ f.safe.length + f.wait.length := hle
  have HG := Lib.hid hg
  clear hd hs hn hk c2 hb hx hkv hkf hlen hT hle hg
  go_enter Try.func24, Try.ntmps24
  go_wp2_with first
    | (go_at_call 41; refine HR.out.mono ?_; rw [HBAD.out]; rintro e w' ⟨rfl, rfl⟩)
    | (go_at_call 42; refine HA.out.mono ?_; rw [HV.out]; rintro e w1 ⟨rfl, hb1⟩; have HB1 := Lib.hid hb1; have hq1 := HK.out.q.below hb1; obtain ⟨g, cap, A1, c1, A2, c2x, e0, e1, e2, q0, q1, q2, fz, gl, hcap⟩ := hq1.at_ kk f HKF.out; have y0 := hq1.cells.1; rw [e0] at y0; have HE0 := Lib.hid e0; have HE1 := Lib.hid e1; have HE2 := Lib.hid e2; clear hb1 hq1 e0 e1 e2 fz)
    | (go_at_call 45; refine (rraw_k m base s v h L _ ((HK.out.below HB1.out).below (below_al (Below.refl _ _) _)) HS.out.fit.count HS.out.fit.left).mono ?_; rw [HG.out]; rintro e w2 ⟨rfl, hk2, hc2⟩; have HK2 := Lib.hid hk2; have HC2 := Lib.hid hc2; have y5 := hk2.q.cells.2.2.2.2.2; clear hk2 hc2)
    | (go_at_call 29; refine (ROff_any m base s.raw L s.raw.keep _ HK2.out.p HS.out.fit.rising HS.out.fit.bytes HS.out.few HS.out.keep).mono ?_; rintro e w3 ⟨rfl, ha⟩; have HA3 := Lib.hid ha; clear ha)
  go_ret
  rw [HW.out]
  exact ⟨rfl, RAfter.then' (((Chg.of_below HB1.out).alloc (.cells #[.string f.name, .slice A1 f.safe.length c1, .slice A2 f.wait.length c2x] 65)).trans HC2.out) HK.out.lo HD.out.base_le HA3.out⟩
end Go.Proofs.Ytfdcibghcncbmaa
