/- The statement itself: the program's disk does what the document's disk says. -/
import Derived.Test.YtfdcibghcncbmaaF7
namespace Go.Proofs.Ytfdcibghcncbmaa
open Go.RowKit Go.Maps Go.Shelf

def runS (s : DS) (os : List DOp) : DS := os.foldl (fun s o => (s.step o).1) s
theorem runS_snoc {s : DS} {os : List DOp} {k : Nat} {o : DOp} (h : os[k]? = some o) : runS s (os.take (k + 1)) = ((runS s (os.take k)).step o).1 := by
  rw [take_snoc' h]
  unfold runS
  rw [List.foldl_append]
  rfl
theorem step_len (s : DS) (o : DOp) : (s.step o).2.1.length ≤ total s.fs := by
  unfold DS.step
  repeat' split
  all_goals first | exact read_len _ _ | simp
theorem OpAt.srcB {w w' : World} {p : Addr} {o : DOp} {A : Option Addr} {c : Nat} (h : OpAt w p o A c) (hb : Below w.heap.size w w') {L : Nat → Prop} (hl : ∀ k, L k → w.heap.size ≤ k) : Src w' L A o.b :=
  (h.src hl).chg (M := fun _ => False) (.of_below hb) fun _ => False.elim
/-- Both disks, side by side. -/
structure Two (w : World) (b d bm m : Nat) (s : DS) : Prop where
  mk :: (out : ∃ L M, PDisk w b d s L ∧ RDisk w bm m s M ∧ ∀ k, L k → ¬ M k)
theorem Two.below {w w' : World} {b d bm m : Nat} {s : DS} (h : Two w b d bm m s) (hb : Below w.heap.size w w') : Two w' b d bm m s := by
  obtain ⟨L, M, h1, h2, h3⟩ := h.out
  exact ⟨⟨L, M, h1.below hb, h2.below hb, h3⟩⟩
/-- What does_any leaves. -/
structure TwoP (w : World) (b d bm m : Nat) (s s' : DS) (c : Nat) : Prop where
  mk :: (out : ∃ L M, PDisk w b d s' L ∧ RDisk w bm m s M ∧ (∀ k, L k → ¬ M k) ∧ ∀ k, M k → k < c)
theorem TwoP.below {w w' : World} {b d bm m n : Nat} {s s' : DS} (h : TwoP w b d bm m s s' n) (hb : Below w.heap.size w w') : TwoP w' b d bm m s s' n := by
  obtain ⟨L, M, h1, h2, h3, h4⟩ := h.out
  exact ⟨⟨L, M, h1.below hb, h2.below hb, h3, h4⟩⟩
theorem Own.chg {w w' : World} {base e sz : Nat} {v : Value} {n : Nat} {xs : List Value} {M : Nat → Prop} (h : Own w base e sz v n xs) (hc : Chg M w w') (hm : ∀ k, M k → k < base) : Own w' base e sz v n xs :=
  h.move fun k hk => hc.block k (h.lt hk).2 fun hk' => by have := hm k hk'; have := (h.lt hk).1; omega
theorem two_does {w wa : World} {b d bm m : Nat} {s : DS} (ha : Two wa b d bm m s) (hwa : Below wa.heap.size wa w) (hs : s.okS) (o : DOp) (ho : o.ok) (A : Option Addr) (c : Nat) (w0 : World) (h0 : w0.heap.size ≤ b ∧ w0.heap.size ≤ bm) (hb0 : Below w0.heap.size w0 w) {p : Addr} (hop : OpAt w0 p o A c) (hT : total s.fs + o.b.length ≤ 1073741824) :
    Calls Try.prog 8 #[.pointer (some ⟨d, 0, none⟩), o.val A c] w fun e w' => RetB w w' (s.step o).2.2 (s.step o).2.1 e ∧ TwoP w' b d bm m s (s.step o).1 w.heap.size ∧ Below w0.heap.size w0 w' ∧ Chg (fun k => k < wa.heap.size) w w' := by
  obtain ⟨L, M, h1, h2, h3⟩ := ha.out
  have hz := h1
  replace h1 := h1.below hwa
  replace h2 := h2.below hwa
  refine (does_any d b s L o A c w h1 hs ho (hop.srcB hb0 fun k hk => by have := h1.lt hk; omega) hT).mono ?_
  rintro e w' ⟨hr, ha⟩
  refine ⟨hr, ⟨⟨_, M, ha.disk, h2.chg ha.chg fun k hm hl => h3 k hl hm, fun k hk hm => ?_, fun k hm => (h2.lt hm).2⟩⟩, ?_⟩
  · rcases hk with hk | hk
    · exact h3 k hk hm
    · have := (h2.lt hm).2; omega
  · exact ⟨hb0.trans (ha.chg.toBelow (fun k hk => by have := (h1.lt hk).1; omega) hb0.size), ha.chg.mono fun k hk => (hz.lt hk).2⟩
theorem two_says {w : World} {b d bm m n : Nat} {s s' : DS} (h : TwoP w b d bm m s s' n) (hs : s.okS) (o : DOp) (he : s' = (s.step o).1) (ho : o.ok) (A : Option Addr) (c : Nat) (w0 : World) (h0 : w0.heap.size ≤ b ∧ w0.heap.size ≤ bm) (hb0 : Below w0.heap.size w0 w) {p : Addr} (hop : OpAt w0 p o A c) (hT : total s.fs + o.b.length ≤ 1073741824) :
    Calls Try.prog 9 #[.pointer (some ⟨m, 0, none⟩), o.val A c] w fun e w' => RetB w w' (s.step o).2.2 (s.step o).2.1 e ∧ Two w' b d bm m (s.step o).1 ∧ Below w0.heap.size w0 w' ∧ Chg (fun k => k < n) w w' := by
  obtain ⟨L, M, h1, h2, h3, h4⟩ := h.out
  subst he
  refine (says_any m bm s M o A c w h2 hs ho (hop.srcB hb0 fun k hk => by have := h2.lt hk; omega) hT).mono ?_
  rintro e w' ⟨hr, ha⟩
  refine ⟨hr, ⟨⟨L, _, h1.chg ha.chg h3, ha.disk, fun k hk hm => ?_⟩⟩, ?_, ha.chg.mono h4⟩
  · rcases hm with hm | hm
    · exact h3 k hk hm
    · have := (h1.lt hk).2; omega
  · exact hb0.trans (ha.chg.toBelow (fun k hk => by have := (h2.lt hk).1; omega) hb0.size)
theorem two_alike {w : World} {b d bm m : Nat} {s : DS} (h : Two w b d bm m s) (hs : s.okS) :
    Calls Try.prog 11 #[.pointer (some ⟨d, 0, none⟩), .pointer (some ⟨m, 0, none⟩)] w fun e w' => e = .returned (.bool true) ∧ Below w.heap.size w w' := by
  obtain ⟨L, M, h1, h2, _⟩ := h.out
  exact alike_yes d m b bm s L M w h1 h2 hs.fit hs.names
set_option maxRecDepth 100000 in
set_option maxHeartbeats 4000000 in
theorem disk_does (room : Int) (os : List DOp) (v : Value) (w : World) (hs : Script w v os) (hr : -9223372036854775808 ≤ room ∧ room ≤ 9223372036854775807) :
    Calls Try.prog 3 #[.int .i64 room, v] w fun e w' => e = .returned (.bool true) ∧ Below w.heap.size w w' := by
  have HS := Lib.hid hs
  have HR := Lib.hid hr
  obtain ⟨A, cap, hv, _⟩ := hs.form
  have hfew : os.length ≤ 140737488355328 := hs.few
  subst hv
  clear hs hr
  by_cases hlong : 4194304 < costs os
  · have hlg : decide (4194304 < costs os) = true := decide_eq_true hlong
    clear hlong
    go_enter Try.func3, Try.ntmps3
    go_wp2_with first
      | (go_at_call 4; refine (wakes_yes _).mono ?_; rintro e w1 ⟨rfl, hb⟩; have HB1 := Lib.hid hb; clear hb)
      | (go_at_call 5; refine (long_any os _ _ (HS.out.below HB1.out)).mono ?_; rw [hlg]; rintro e w2 ⟨rfl, hb⟩; have HB2 := Lib.hid (below_next HB1.out hb); clear hb)
    go_ret
    exact ⟨rfl, HB2.out⟩
  · have hlg : decide (4194304 < costs os) = false := decide_eq_false hlong
    have HC : Hid (costs os ≤ 4194304) := Lib.hid (by omega)
    have HK : Hid (os.length ≤ 65536) := Lib.hid (by have := costs_len os; omega)
    clear hlong
    go_enter Try.func3, Try.ntmps3
    go_wp2_with first
      | (go_at_call 4; refine (wakes_yes _).mono ?_; rintro e w1 ⟨rfl, hb⟩; have HB1 := Lib.hid hb; clear hb)
      | (go_at_call 5; refine (long_any os _ _ (HS.out.below HB1.out)).mono ?_; rw [hlg]; rintro e w2 ⟨rfl, hb⟩; have HB2 := Lib.hid (below_next HB1.out hb); clear hb)
      | (go_at_call 6; refine (New_any room _).mono ?_; rintro e w3 ⟨d, rfl, hp, hb⟩; have HP3 := Lib.hid hp; have HB3 := Lib.hid (below_next HB2.out hb); clear hp hb)
      | (go_at_call 7; refine (RNew_any room _).mono ?_; rintro e w4 ⟨m, rfl, hp, hb⟩; have HT4 : Hid (Two w4 w2.heap.size d w3.heap.size m (newS room)) := Lib.hid ⟨⟨_, _, HP3.out.below hb, hp, fun k h1 h2 => by omega⟩⟩; have HB4 := Lib.hid (below_next HB3.out hb); clear hp hb)
    have HZ : Hid (w.heap.size ≤ w2.heap.size ∧ w.heap.size ≤ w3.heap.size) := Lib.hid ⟨HB2.out.size, HB3.out.size⟩
    go_loopw [25, 8, 9, 10, 11, 12] (fun i_ _ _ _ _ _ wr => ∃ k : Nat, k ≤ os.length ∧ i_ = .int .i64 k ∧ Hid (Two wr w2.heap.size d w3.heap.size m (runS (newS room) (os.take k))) ∧ Hid ((runS (newS room) (os.take k)).okB (costs (os.take k)) k) ∧ Below w.heap.size w wr) (fun i_ _ _ _ _ _ _ => os.length - (intOf i_).toNat)
    case atStart => exact ⟨0, Nat.zero_le _, rfl, HT4, Lib.hid (newS_ok room HR.out), HB4.out⟩
    case round =>
      obtain ⟨k, hk, rfl, HT, HO, hb⟩ := hrel
      have HB := Lib.hid hb
      clear hb
      by_cases hlt : k < os.length
      · obtain ⟨o, ho⟩ : ∃ o, os[k]? = some o := ⟨_, List.getElem?_eq_getElem hlt⟩
        obtain ⟨A', cap', e0, hat⟩ := HS.out.form
        injection e0 with x1 _ x3
        subst x1; subst x3
        obtain ⟨ad, B, cb, rfl, hop⟩ := hat k o ho
        have HOP := Lib.hid hop
        obtain ⟨c0, c1, c2, c3, c4, c5, _, _⟩ := hop.below HB.out
        have HRS := Lib.hid (runS_snoc (s := newS room) ho)
        have HCS := Lib.hid (costs_snoc ho)
        have HCL := Lib.hid (costs_take_le os (k + 1))
        clear hat hop ho
        generalize hs : runS (newS room) (os.take k) = s at HT HO HRS
        have HOS : Hid s.okS := Lib.hid (HO.out.okS (by have := HC.out; have := HCS.out; have := HCL.out; omega) (by have := HK.out; omega))
        have HTT : Hid (total s.fs + o.b.length ≤ 1073741824) := Lib.hid (by have := HO.out.bytes; have := HC.out; have := HCS.out; have := HCL.out; omega)
        have HSL : Hid ((s.step o).2.1.length ≤ 1073741824) := Lib.hid (by have := step_len s o; have := HTT.out; omega)
        have hki : (k : Int) < (os.length : Int) := by omega
        clear hs
        go_wp2_with first
          | (go_at_call 8; refine (two_does HT.out (below_al (Below.refl _ _) _) HOS.out o HOP.out.ok.ok B cb w HZ.out (below_al HB.out _) HOP.out HTT.out).mono ?_; rintro e w5 ⟨⟨va, rfl, hov⟩, htp, hb, hcg⟩; have hbx := hcg.block wr.heap.size (by simp) (by omega); have q0 := fun (j : Nat) => (World.cell?_of_block (a := ⟨wr.heap.size, j, none⟩) hbx).trans (World.cell?_alloc_mark _ _ _ _ _); have x0 := q0 0; have x1 := q0 1; have x2 := q0 2; have x3 := q0 3; have x4 := q0 4; have x5 := q0 5; clear hcg hbx q0; simp only [List.getElem?_toArray, List.getElem?_cons_zero, List.getElem?_cons_succ] at x0 x1 x2 x3 x4 x5; have HVA := Lib.hid hov; have HTP := Lib.hid htp; have HB5 := Lib.hid hb; clear hov htp hb)
          | (go_at_call 9; refine (two_says HTP.out HOS.out o rfl HOP.out.ok.ok B cb w HZ.out HB5.out HOP.out HTT.out).mono ?_; rintro e w6 ⟨⟨vb, rfl, hov⟩, htw, hb, hc⟩; have HVB := Lib.hid hov; have HTW := Lib.hid htw; have HB6 := Lib.hid hb; have HVA6 := Lib.hid (HVA.out.chg hc fun k hk => hk); clear hov htw hb hc)
          | (go_at_call 10; refine (same_yes va vb _ _ (s.step o).2.1 _ HVA6.out HVB.out HSL.out).mono ?_; rintro e w7 ⟨rfl, hb⟩; have HTW7 := Lib.hid (HTW.out.below hb); have HB7 := Lib.hid (below_next HB6.out hb); clear hb)
          | (go_at_call 11; refine (two_alike HTW7.out ((HO.out.step o HOP.out.ok.n HOP.out.ok.ok.k).okS (by have := HC.out; have := HCS.out; have := HCL.out; omega) (by have := HK.out; omega))).mono ?_; rintro e w8 ⟨rfl, hb⟩; have HTW8 := Lib.hid (HTW7.out.below hb); have HB8 := Lib.hid (below_next HB7.out hb); clear hb)
        go_roundw
        case rel =>
          have h1 := HCS.out
          exact ⟨k + 1, by omega, by go_num, by rw [HRS.out]; exact HTW8, by rw [HRS.out]; exact Lib.hid ((HO.out.step o HOP.out.ok.n HOP.out.ok.ok.k).mono (by omega) (Nat.le_refl _)), HB8.out⟩
        case measure => simp [intOf]; omega
      · have hk' : k = os.length := by omega
        subst hk'
        go_wp2_with fail
        go_ret
        exact ⟨rfl, HB.out⟩
end Go.Proofs.Ytfdcibghcncbmaa
