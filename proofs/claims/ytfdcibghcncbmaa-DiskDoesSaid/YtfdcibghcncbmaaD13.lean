/- The program's disk: Remove, Rename. -/
import Derived.Test.YtfdcibghcncbmaaD12
namespace Go.Proofs.Ytfdcibghcncbmaa
open Go.RowKit Go.Maps Go.Shelf

set_option maxRecDepth 100000 in
set_option maxHeartbeats 1000000 in
theorem Remove_any (d base : Nat) (s : DS) (L : Nat → Prop) (n : ByteArray) (w : World) (h : PDisk w base d s L) (hs : s.fit) (hn : n.size ≤ maxLen) :
    Calls Try.prog 19 #[.pointer (some ⟨d, 0, none⟩), .string n] w fun e w' => e = .returned (.int .i64 (s.remove n).2) ∧ After w w' base d (s.remove n).1 L := by
  obtain ⟨mb, g, D, hk⟩ := h.k
  have H := Lib.hid h
  have HK := Lib.hid hk
  have HS := Lib.hid hs
  have HN := Lib.hid hn
  have HT := Lib.hid (there_any d base mb s g D n w hk.q hk.o hn)
  clear h hs hn hk
  by_cases hb : s.bad n = 0
  · cases hx : findF n s.fs with
    | none =>
      have HV := Lib.hid (there_none (g := g) hb hx)
      have HW := Lib.hid (with_none hb hx fun _ => s.fin fun t => { t with fs := dropF n t.fs })
      clear hb hx
      go_enter Try.func19, Try.ntmps19
      go_wp2_with (go_at_call 38; refine HT.out.mono ?_; rw [HV.out]; rintro e w' ⟨rfl, rfl⟩)
      go_ret
      unfold DS.remove
      rw [HW.out]
      exact ⟨rfl, After.same H.out⟩
    | some f =>
      have HV := Lib.hid (there_some (g := g) hb hx)
      have HW := Lib.hid (with_some hb hx fun _ => s.fin fun t => { t with fs := dropF n t.fs })
      have HX := Lib.hid hx
      clear hb hx
      cases hg : s.goes with
      | true =>
        have HF := Lib.hid (fin_goes hg fun t => { t with fs := dropF n t.fs })
        have HG := Lib.hid hg
        clear hg
        go_enter Try.func19, Try.ntmps19
        go_wp2_with first
          | (go_at_call 38; refine HT.out.mono ?_; rw [HV.out]; rintro e w' ⟨rfl, rfl⟩)
          | (go_at_call 36; refine (raw_k d base mb s g D L _ HK.out HS.out.count HS.out.left).mono ?_; rw [HG.out]; rintro e w1 ⟨rfl, hk1, hc1⟩; have HK1 := Lib.hid hk1; have HC1 := Lib.hid hc1; clear hk1 hc1)
          | (go_at_call 37; refine (ends_any d base s.raw L _ HK1.out.p HS.out.raw.1 HS.out.raw.2).mono ?_; rintro e w2 ⟨rfl, ha⟩; have HA := Lib.hid ha; clear ha)
        go_ret
        unfold DS.remove
        rw [HW.out, HF.out]
        exact ⟨rfl, After.then (s1 := s) HC1.out HK.out.lo H.out.base_le HA.out⟩
      | false =>
        have HF := Lib.hid (fin_stays hg fun t => { t with fs := dropF n t.fs })
        have HG := Lib.hid hg
        clear hg
        go_enter Try.func19, Try.ntmps19
        go_wp2_with first
          | (go_at_call 38; refine HT.out.mono ?_; rw [HV.out]; rintro e w' ⟨rfl, rfl⟩)
          | (go_at_call 36; refine (raw_k d base mb s g D L _ HK.out HS.out.count HS.out.left).mono ?_; rw [HG.out]; rintro e w1 ⟨rfl, hk1, hc1⟩; have HK1 := Lib.hid hk1; have HC1 := Lib.hid hc1; have y0 := (cells_of hk1.q).1; clear hk1 hc1)
          | (at_delete; refine wpList_delete_own _ rfl _ _ 44 9 rfl 55 strK Try.underlying44 ptrR mb (Maps.size D) D rfl HK1.out.o _ (kL n) rfl (kL_key n HN.out) ?_; intro w2 hown2 hturn2; have HOWN2 := Lib.hid hown2; have HG2 := Lib.hid hturn2.grown; clear hown2 hturn2)
        go_ret
        unfold DS.remove
        rw [HW.out, HF.out]
        have hkk := HK1.out.drop HS.out.raw.1 n (fun k hk hm => HG2.out.block k hk (by simpa using hm)) (Owns.of HOWN2.out) HG2.out.size
        have hc : Chg L w1 w2 := (Chg.refl _ _).grown HG2.out fun k e => .inl (by injection e with e; rw [← e]; exact HK1.out.l mb (.inr (.inl rfl)))
        exact ⟨rfl, After.then (s1 := s) HC1.out HK.out.lo H.out.base_le (After.of_k HK1.out.p hkk hc)⟩
  · have HV := Lib.hid (there_bad (g := g) hb)
    have HW := Lib.hid (with_bad hb fun _ => s.fin fun t => { t with fs := dropF n t.fs })
    have hd : (s.bad n != 0) = true := by simp [hb]
    clear hb
    go_enter Try.func19, Try.ntmps19
    go_wp2_with (go_at_call 38; refine HT.out.mono ?_; rw [HV.out]; rintro e w' ⟨rfl, rfl⟩)
    go_ret
    unfold DS.remove
    rw [HW.out]
    exact ⟨rfl, After.same H.out⟩
theorem bad_cases (s : DS) (n : ByteArray) (h : okName n = true) : s.bad n = 0 ∨ s.bad n = 20 := by
  unfold DS.bad
  rw [h]
  cases s.on <;> simp
def renF (n m : ByteArray) (f : DF) (t : DS) : DS := { t with fs := putF ⟨m, f.safe, f.wait⟩ (dropF n t.fs) }
theorem rename_eq (s : DS) (n m : ByteArray) (h1 : okName n = true) (h2 : okName m = true) : s.rename n m = s.with n fun f => s.fin (renF n m f) := by
  unfold DS.rename; rw [h1, h2]; rfl
set_option maxRecDepth 100000 in
set_option maxHeartbeats 2000000 in
theorem Rename_any (d base : Nat) (s : DS) (L : Nat → Prop) (n m : ByteArray) (w : World) (h : PDisk w base d s L) (hs : s.fit) (hn : n.size ≤ maxLen) (hm : m.size ≤ maxLen) (hfew : s.fs.length ≤ 1073741824) :
    Calls Try.prog 14 #[.pointer (some ⟨d, 0, none⟩), .string n, .string m] w fun e w' => e = .returned (.int .i64 (s.rename n m).2) ∧ After w w' base d (s.rename n m).1 L := by
  obtain ⟨mb, g, D, hk⟩ := h.k
  have H := Lib.hid h
  have HK := Lib.hid hk
  have HS := Lib.hid hs
  have HN := Lib.hid hn
  have HM := Lib.hid hm
  have HT := Lib.hid (there_any d base mb s g D n w hk.q hk.o hn)
  clear h hs hn hm hk
  cases ho1 : okName n with
  | false =>
    have hb : s.bad n = 1 := by unfold DS.bad; rw [ho1]; rfl
    have HV := Lib.hid (there_bad (g := g) (s := s) (n := n) (by rw [hb]; decide))
    have HB := Lib.hid hb
    have HW : Hid (s.rename n m = (s, 1)) := Lib.hid (by unfold DS.rename; rw [ho1]; rfl)
    clear hb ho1
    go_enter Try.func14, Try.ntmps14
    go_wp2_with (go_at_call 38; refine HT.out.mono ?_; rw [HV.out, HB.out]; rintro e w' ⟨rfl, rfl⟩)
    go_ret
    rw [HW.out]
    exact ⟨rfl, After.same H.out⟩
  | true =>
    cases ho2 : okName m with
    | false =>
      obtain ⟨p, q, hpq, hq⟩ : ∃ p q, thereV s g n = (p, q) ∧ (q = 0 ∨ q = 20 ∨ q = 21) := by
        rcases bad_cases s n ho1 with hb | hb
        · cases hx : findF n s.fs with
          | none => exact ⟨_, _, there_none hb hx, .inr (.inr rfl)⟩
          | some f => exact ⟨_, _, there_some hb hx, .inl rfl⟩
        · exact ⟨_, _, there_bad (by rw [hb]; decide), .inr (.inl hb)⟩
      have hq1 : (q == 2) = false := by rcases hq with rfl | rfl | rfl <;> rfl
      have hq2 : (q == 1) = false := by rcases hq with rfl | rfl | rfl <;> rfl
      have HV := Lib.hid hpq
      have HO2 := Lib.hid ho2
      have HW : Hid (s.rename n m = (s, 1)) := Lib.hid (by unfold DS.rename; rw [ho1, ho2]; rfl)
      clear hpq hq ho1 ho2
      go_enter Try.func14, Try.ntmps14
      go_wp2_with first
        | (go_at_call 38; refine HT.out.mono ?_; rw [HV.out]; rintro e w' ⟨rfl, rfl⟩)
        | (go_at_call 39; refine (named_any m _ HM.out).mono ?_; rw [HO2.out]; rintro e w' ⟨rfl, rfl⟩)
      go_ret
      rw [HW.out]
      exact ⟨rfl, After.same H.out⟩
    | true =>
      have HR := Lib.hid (rename_eq s n m ho1 ho2)
      have HO2 := Lib.hid ho2
      rcases bad_cases s n ho1 with hb | hb
      · cases hx : findF n s.fs with
        | none =>
          have HV := Lib.hid (there_none (g := g) hb hx)
          have HW := Lib.hid (with_none hb hx fun f => s.fin (renF n m f))
          clear hb hx ho1 ho2
          go_enter Try.func14, Try.ntmps14
          go_wp2_with first
            | (go_at_call 38; refine HT.out.mono ?_; rw [HV.out]; rintro e w' ⟨rfl, rfl⟩)
            | (go_at_call 39; refine (named_any m _ HM.out).mono ?_; rw [HO2.out]; rintro e w' ⟨rfl, rfl⟩)
          go_ret
          rw [HR.out, HW.out]
          exact ⟨rfl, After.same H.out⟩
        | some f =>
          have HV := Lib.hid (there_some (g := g) hb hx)
          have HW := Lib.hid (with_some hb hx fun f => s.fin (renF n m f))
          have HX := Lib.hid hx
          clear hb hx ho1 ho2
          cases hg : s.goes with
          | true =>
            have HF := Lib.hid (fin_goes hg (renF n m f))
            have HG := Lib.hid hg
            clear hg
            go_enter Try.func14, Try.ntmps14
            go_wp2_with first
              | (go_at_call 38; refine HT.out.mono ?_; rw [HV.out]; rintro e w' ⟨rfl, rfl⟩)
              | (go_at_call 39; refine (named_any m _ HM.out).mono ?_; rw [HO2.out]; rintro e w' ⟨rfl, rfl⟩)
              | (go_at_call 36; refine (raw_k d base mb s g D L _ HK.out HS.out.count HS.out.left).mono ?_; rw [HG.out]; rintro e w1 ⟨rfl, hk1, hc1⟩; have HK1 := Lib.hid hk1; have HC1 := Lib.hid hc1; clear hk1 hc1)
              | (go_at_call 37; refine (ends_any d base s.raw L _ HK1.out.p HS.out.raw.1 HS.out.raw.2).mono ?_; rintro e w2 ⟨rfl, ha⟩; have HA := Lib.hid ha; clear ha)
            go_ret
            rw [HR.out, HW.out, HF.out]
            exact ⟨rfl, After.then (s1 := s) HC1.out HK.out.lo H.out.base_le HA.out⟩
          | false =>
            have HF := Lib.hid (fin_stays hg (renF n m f))
            have HG := Lib.hid hg
            clear hg
            go_enter Try.func14, Try.ntmps14
            go_wp2_with first
              | (go_at_call 38; refine HT.out.mono ?_; rw [HV.out]; rintro e w' ⟨rfl, rfl⟩)
              | (go_at_call 39; refine (named_any m _ HM.out).mono ?_; rw [HO2.out]; rintro e w' ⟨rfl, rfl⟩)
              | (go_at_call 36; refine (raw_k d base mb s g D L _ HK.out HS.out.count HS.out.left).mono ?_; rw [HG.out]; rintro e w1 ⟨rfl, hk1, hc1⟩; have HK1 := Lib.hid hk1; have HC1 := Lib.hid hc1; have y0 := (cells_of hk1.q).1; have hdl := blk_lt hk1.q.blk; clear hk1 hc1)
              | (at_delete; refine wpList_delete_own _ rfl _ _ 44 9 rfl 55 strK Try.underlying44 ptrR mb (Maps.size D) D rfl HK1.out.o _ (kL n) rfl (kL_key n HN.out) ?_; intro w2 hown2 hturn2; have HG2 := Lib.hid hturn2.grown; have hk2 := HK1.out.drop HS.out.raw.1 n (fun k hk hm => HG2.out.block k hk (by simpa using hm)) (Owns.of hown2) HG2.out.size; have HK2 := Lib.hid hk2; have z0 := (cells_of hk2.q).1; clear hown2 hturn2 hk2)
              | (at_mapUpdate; refine wpList_mapUpdate_own _ rfl _ _ _ 44 rfl 9 55 strK Try.underlying44 ptrR mb (Maps.size (D.del (kL n))) (D.del (kL n)) rfl HK2.out.o (by have := HK2.out.q.is.size; have h3 := length_drop HS.out.raw.1 n; rw [this]; show (dropF n s.raw.fs).length < _; have : s.raw.fs = s.fs := rfl; rw [this] at h3 ⊢; unfold maxLen; omega) _ _ (kL m) rfl rfl (kL_key m HM.out) (.lit (.int .i64 (g n).blk)) [] rfl ?_; intro w3 hown3 hg3; have HOWN3 := Lib.hid hown3; have HG3 := Lib.hid hg3; clear hown3 hg3)
            go_ret
            rw [HR.out, HW.out, HF.out]
            obtain ⟨hfm, hfn⟩ := findF_some HX.out
            have hp1 : FileP w1 base (g n) f := by rw [← hfn]; exact HK1.out.q.file f hfm
            have haw := HK1.out.q.away f hfm
            have hap := HK1.out.q.apart f hfm
            rw [hfn] at haw hap
            have hs2 := HG2.out.size
            have hp3 : FileP w3 base (g n) ⟨m, f.safe, f.wait⟩ := by
              have := hp1.move (w' := w3) fun k hk => by
                have h1 := (hp1.lt hk).2
                have h2 := (haw k hk).2
                rw [HG3.out.block k (by omega) (by simpa using h2), HG2.out.block k h1 (by simpa using h2)]
              exact ⟨this.lo, this.blk, this.safe, this.wait, this.ne⟩
            have hkk := HK2.out.put (w' := w3) (rising_drop HS.out.raw.1 n) ⟨m, f.safe, f.wait⟩ (g n) HM.out hp3 (fun k hk hm => HG3.out.block k hk (by simpa using hm)) (fun k hk => by
              right
              refine ⟨HK1.out.l k (.inr (.inr ⟨f, hfm, by rw [hfn]; exact hk⟩)), (haw k hk).1, (haw k hk).2, fun y hy hk' => ?_⟩
              obtain ⟨h1, h2⟩ := mem_drop.1 hy
              exact hap y h1 (fun e => h2 (by rw [← e])) k hk hk') (Owns.of HOWN3.out) HG3.out.size
            have hLm : L mb := HK1.out.l mb (.inr (.inl rfl))
            have hc2 : Chg L w1 w2 := (Chg.refl _ _).grown HG2.out fun k e => .inl (by injection e with e; rw [← e]; exact hLm)
            have hc3 : Chg L w2 w3 := (Chg.refl _ _).grown HG3.out fun k e => .inl (by injection e with e; rw [← e]; exact hLm)
            refine ⟨rfl, After.then (s1 := s) (HC1.out.trans hc2) HK.out.lo H.out.base_le (After.of_put hkk hc3)⟩
      · have HV := Lib.hid (there_bad (g := g) (s := s) (n := n) (by rw [hb]; decide))
        have HW := Lib.hid (with_bad (s := s) (n := n) (by rw [hb]; decide) fun f => s.fin (renF n m f))
        have HB := Lib.hid hb
        clear hb ho1 ho2
        go_enter Try.func14, Try.ntmps14
        go_wp2_with first
          | (go_at_call 38; refine HT.out.mono ?_; rw [HV.out, HB.out]; rintro e w' ⟨rfl, rfl⟩)
          | (go_at_call 39; refine (named_any m _ HM.out).mono ?_; rw [HO2.out]; rintro e w' ⟨rfl, rfl⟩)
        go_ret
        rw [HR.out, HW.out, HB.out]
        exact ⟨rfl, After.same H.out⟩
end Go.Proofs.Ytfdcibghcncbmaa
