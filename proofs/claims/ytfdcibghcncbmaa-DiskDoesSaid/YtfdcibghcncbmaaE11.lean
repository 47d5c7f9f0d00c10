/- The document's disk: Off, Remove, Rename. -/
import Derived.Test.YtfdcibghcncbmaaE10
namespace Go.Proofs.Ytfdcibghcncbmaa
open Go.RowKit Go.Maps Go.Shelf

theorem KRef.after {w w' : World} {base m : Nat} {s s' : DS} {v v' : Value} {h h' : HV} {L : Nat → Prop} (h0 : KRef w base m s v h L) (hk : KRef w' base m s' v' h' L) (hc : Chg L w w') : RAfter w w' base m s' L := .mk' h0.p hk.p hc
theorem RAfter.then' {w w1 w2 : World} {base m : Nat} {s2 : DS} {L : Nat → Prop} (hs : Chg L w w1) (hz : ∀ k, L k → base ≤ k ∧ k < w.heap.size) (hb : base ≤ w.heap.size) (k : RAfter w1 w2 base m s2 L) : RAfter w w2 base m s2 L := by
  refine ⟨k.disk.sub (fun i hi => ?_) (fun i hi => ?_), hs.trans k.chg⟩
  · rcases hi with hi | hi
    · exact .inl hi
    · exact .inr ⟨Nat.le_trans hs.size hi.1, hi.2⟩
  · have h1 := hs.size
    have h2 := k.chg.size
    rcases hi with hi | hi
    · have := hz i hi; omega
    · omega
/-- What the calls ask of the document's disk's numbers. -/
structure DS.fitR (s : DS) : Prop where
  fit : s.fit
  few : s.fs.length ≤ 1048576
  keep : -9223372036854775808 ≤ s.keep ∧ s.keep ≤ 9223372036854775807
set_option maxHeartbeats 400000 in
theorem ROff_any (m base : Nat) (s : DS) (L : Nat → Prop) (k : Int) (w : World) (hd : RDisk w base m s L) (hr : Rising s.fs) (ht : total s.fs ≤ 1073741824) (hfew : s.fs.length ≤ 1048576) (hkk : -9223372036854775808 ≤ k ∧ k ≤ 9223372036854775807) :
    Calls Try.prog 29 #[.pointer (some ⟨m, 0, none⟩), .int .i64 k] w fun e w' => e = .returned (.tuple #[]) ∧ RAfter w w' base m (s.off k) L := by
  obtain ⟨v, h, hk⟩ := hd.k
  cases hon : s.on with
  | true => exact ROff_k m base s v h L k w hk hr ht hfew hkk hon
  | false =>
    obtain ⟨_, _, c2, _⟩ := hk.q.cells
    have HD := Lib.hid hd
    have HS : Hid (s.off k = s) := Lib.hid (by unfold DS.off; rw [hon]; rfl)
    rw [hon] at c2
    clear hk hd hr hon
    go_enter Try.func29, Try.ntmps29
    go_wp2
    refine bodyPost_ret (results_none rfl _ _ _) rfl ?_
    exact ⟨rfl, by rw [HS.out]; exact RAfter.same HD.out⟩
set_option maxRecDepth 100000 in
set_option maxHeartbeats 1000000 in
theorem RRemove_any (m base : Nat) (s : DS) (L : Nat → Prop) (n : ByteArray) (w : World) (hd : RDisk w base m s L) (hs : s.fitR) (hn : n.size ≤ maxLen) :
    Calls Try.prog 26 #[.pointer (some ⟨m, 0, none⟩), .string n] w fun e w' => e = .returned (.int .i64 (s.remove n).2) ∧ RAfter w w' base m (s.remove n).1 L := by
  obtain ⟨v, h, hk⟩ := hd.k
  obtain ⟨_, _, c2, _⟩ := hk.q.cells
  have HD := Lib.hid hd
  have HK := Lib.hid hk
  have HS := Lib.hid hs
  have HN := Lib.hid hn
  have HR := Lib.hid (rready_any m s n w hn c2)
  have HA := Lib.hid (at_any m base s v h n w hk.q hn (by have := hs.few; omega))
  clear hd hs hn hk c2
  by_cases hb : s.bad n = 0
  · have HBAD := Lib.hid hb
    cases hx : findF n s.fs with
    | none =>
      have HV := Lib.hid (atI_none hx)
      have HW := Lib.hid (with_none hb hx fun _ => s.fin fun t => { t with fs := dropF n t.fs })
      clear hb hx
      go_enter Try.func26, Try.ntmps26
      go_wp2_with first
        | (go_at_call 41; refine HR.out.mono ?_; rw [HBAD.out]; rintro e w' ⟨rfl, rfl⟩)
        | (go_at_call 42; refine HA.out.mono ?_; rw [HV.out]; rintro e w1 ⟨rfl, hb1⟩; have HB1 := Lib.hid hb1; clear hb1)
      go_ret
      unfold DS.remove
      rw [HW.out]
      exact ⟨rfl, (RAfter.same HD.out).below HB1.out⟩
    | some f =>
      obtain ⟨k, hkv, hkf⟩ := atI_some HS.out.fit.rising hx
      have HV := Lib.hid hkv
      have HW := Lib.hid (with_some hb hx fun _ => s.fin fun t => { t with fs := dropF n t.fs })
      have hk0 : ¬ ((k : Int) < 0) := by omega
      clear hb hx hkv hkf
      cases hg : s.goes with
      | true =>
        have HF := Lib.hid (fin_goes hg fun t => { t with fs := dropF n t.fs })
        have HG := Lib.hid hg
        clear hg
        go_enter Try.func26, Try.ntmps26
        go_wp2_with first
          | (go_at_call 41; refine HR.out.mono ?_; rw [HBAD.out]; rintro e w' ⟨rfl, rfl⟩)
          | (go_at_call 42; refine HA.out.mono ?_; rw [HV.out]; rintro e w1 ⟨rfl, hb1⟩; have HB1 := Lib.hid hb1; clear hb1)
          | (go_at_call 45; refine (rraw_k m base s v h L _ (HK.out.below HB1.out) HS.out.fit.count HS.out.fit.left).mono ?_; rw [HG.out]; rintro e w2 ⟨rfl, hk2, hc2⟩; have HK2 := Lib.hid hk2; have HC2 := Lib.hid hc2; have y5 := hk2.q.cells.2.2.2.2.2; clear hk2 hc2)
          | (go_at_call 29; refine (ROff_any m base s.raw L s.raw.keep _ HK2.out.p HS.out.fit.rising HS.out.fit.bytes HS.out.few HS.out.keep).mono ?_; rintro e w3 ⟨rfl, ha⟩; have HA3 := Lib.hid ha; clear ha)
        go_ret
        unfold DS.remove
        rw [HW.out, HF.out]
        exact ⟨rfl, RAfter.then' ((Chg.of_below HB1.out).trans HC2.out) HK.out.lo HD.out.base_le HA3.out⟩
      | false =>
        have HF := Lib.hid (fin_stays hg fun t => { t with fs := dropF n t.fs })
        have HG := Lib.hid hg
        clear hg
        go_enter Try.func26, Try.ntmps26
        go_wp2_with first
          | (go_at_call 41; refine HR.out.mono ?_; rw [HBAD.out]; rintro e w' ⟨rfl, rfl⟩)
          | (go_at_call 42; refine HA.out.mono ?_; rw [HV.out]; rintro e w1 ⟨rfl, hb1⟩; have HB1 := Lib.hid hb1; clear hb1)
          | (go_at_call 45; refine (rraw_k m base s v h L _ (HK.out.below HB1.out) HS.out.fit.count HS.out.fit.left).mono ?_; rw [HG.out]; rintro e w2 ⟨rfl, hk2, hc2⟩; have HK2 := Lib.hid hk2; have HC2 := Lib.hid hc2; clear hk2 hc2)
          | (go_at_call 46; refine (drop_k m base s.raw v h L n _ HK2.out HS.out.few HN.out).mono ?_; rintro e w3 ⟨rfl, v3, hk3, hc3⟩; have HK3 := Lib.hid hk3; have HC3 := Lib.hid hc3; clear hk3 hc3)
        go_ret
        unfold DS.remove
        rw [HW.out, HF.out]
        exact ⟨rfl, RAfter.then' ((Chg.of_below HB1.out).trans HC2.out) HK.out.lo HD.out.base_le ⟨HK3.out.p, HC3.out.mono fun k (e : k = m) => e ▸ HK2.out.has⟩⟩
  · have HW := Lib.hid (with_bad hb fun _ => s.fin fun t => { t with fs := dropF n t.fs })
    have hd : (s.bad n != 0) = true := by simp [hb]
    clear hb
    go_enter Try.func26, Try.ntmps26
    go_wp2_with (go_at_call 41; refine HR.out.mono ?_; rintro e w' ⟨rfl, rfl⟩)
    go_ret
    unfold DS.remove
    rw [HW.out]
    exact ⟨rfl, RAfter.same HD.out⟩
end Go.Proofs.Ytfdcibghcncbmaa
