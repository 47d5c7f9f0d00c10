/- The statement's helpers: wakes. -/
import Derived.Test.YtfdcibghcncbmaaF5
import Derived.Lib.SlBytesConst
namespace Go.Proofs.Ytfdcibghcncbmaa
open Go.RowKit Go.Maps Go.Shelf

def nmA : ByteArray := ⟨#[97]⟩
def nmB : ByteArray := ⟨#[98]⟩
def sw0 : DS := newS 9
def sw1 : DS := ⟨[⟨nmA, [], [120, 121]⟩], 9, true, 1, 0, 0⟩
def sw2 : DS := ⟨[⟨nmA, [120, 121], []⟩], 9, true, 2, 0, 0⟩
def sw3 : DS := ⟨[⟨nmA, [120, 121], [122]⟩], 9, true, 3, 0, 0⟩
def sw4 : DS := ⟨[⟨nmB, [120, 121], [122]⟩], 9, true, 4, 0, 0⟩
def sw5 : DS := ⟨[⟨nmB, [120, 121], []⟩], 9, false, 4, 0, 0⟩
def sw6 : DS := ⟨[⟨nmB, [120, 121], []⟩], 9, true, 4, 0, 0⟩
theorem wk1 : sw0.append nmA [120, 121] = (sw1, 0) := by rfl
theorem wk2 : sw1.sync nmA = (sw2, 0) := by rfl
theorem wk3 : sw2.append nmA [122] = (sw3, 0) := by rfl
theorem wk4 : sw3.rename nmA nmB = (sw4, 0) := by rfl
theorem wk5 : sw4.off 0 = sw5 := by rfl
theorem wk6 : sw6.read nmB = ([120, 121], 0) := by rfl
theorem wk7 : sw6.read nmA = ([], 21) := by rfl
theorem fit_small {s : DS} (h1 : Rising s.fs) (h2 : total s.fs ≤ 1073741824) (h3 : 0 ≤ s.count ∧ s.count ≤ 1073741824) (h4 : 0 ≤ s.left ∧ s.left ≤ 9223372036854775807) : s.fit := ⟨h1, h2, h3, h4⟩
theorem sw0_fit : sw0.fit := ⟨List.Pairwise.nil, by decide, by decide, by decide⟩
theorem sw1_fit : sw1.fit := ⟨List.pairwise_singleton _ _, by decide, by decide, by decide⟩
theorem sw2_fit : sw2.fit := ⟨List.pairwise_singleton _ _, by decide, by decide, by decide⟩
theorem sw3_fit : sw3.fit := ⟨List.pairwise_singleton _ _, by decide, by decide, by decide⟩
theorem sw4_fit : sw4.fit := ⟨List.pairwise_singleton _ _, by decide, by decide, by decide⟩
theorem sw6_fit : sw6.fit := ⟨List.pairwise_singleton _ _, by decide, by decide, by decide⟩
/-- A constant's bytes. -/
theorem src_const {W : World} {L : Nat → Prop} (b : Bs) (t : TypeId) (fr : Nat × Nat) (hL : ∀ k, L k → k < W.heap.size) : Src (W.alloc (.cells (bv b).toArray t fr)) L (some ⟨W.heap.size, 0, none⟩) b := by
  refine ⟨fun j u hu => ⟨_, rfl, ?_⟩, fun ad ha _ hl => ?_⟩
  · rw [add_at, World.cell?_alloc_mark]
    simpa using hu
  · injection ha with ha
    subst ha
    have := hL _ hl
    simp at this
theorem newL_lt {L : Nat → Prop} {w w' : World} (hl : ∀ k, L k → k < w.heap.size) (hs : w.heap.size ≤ w'.heap.size) : ∀ k, newL L w w' k → k < w'.heap.size := by
  intro k hk
  rcases hk with hk | hk
  · have := hl k hk; omega
  · exact hk.2
theorem conv_xy {w : World} {base : Nat} {v : Value} (h : Own w base 5 1 v ([120, 121] : Bs).length (bv [120, 121])) : (convert 29 9 v).run Try.prog w = .ok (.string ⟨#[120, 121]⟩) w := by
  obtain ⟨g, cap, rfl, _⟩ := h.form (by decide)
  refine run_convert_bytes_back w 29 9 5 ⟨g, 0, none⟩ cap [120, 121] Try.underlying29 Try.underlying5 Try.underlying9 fun j hj => ?_
  obtain ⟨ad, ha, hc⟩ := h.cells j (.int .u8 (([120, 121] : Bs)[j]'hj).toNat) (by unfold bv; rw [List.getElem?_map, List.getElem?_eq_getElem hj]; rfl)
  injection ha with ha
  rw [ha]; exact hc
theorem After.toBelow {w w' : World} {base d : Nat} {s0 s : DS} {L : Nat → Prop} (h0 : PDisk w base d s0 L) (ha : After w w' base d s L) : Below base w w' := ha.chg.toBelow (fun k hk => (h0.lt hk).1) h0.base_le
set_option maxRecDepth 100000 in
set_option maxHeartbeats 4000000 in
theorem wakes_yes (w : World) : Calls Try.prog 4 #[] w fun e w' => e = .returned (.bool true) ∧ Below w.heap.size w w' := by
  have kc := fun (w : World) (C : Array Value) (n c : Nat) => Lib.run_convert_bytes_const (P := Try.prog) w 29 5 C n c Try.underlying29 Try.underlying5
  have tok1 : True := trivial
  go_enter Try.func4, Try.ntmps4
  go_wp2_with first
    | (go_at_call 6; refine (New_any 9 _).mono ?_; rintro e w1 ⟨d, rfl, hp, hb⟩; have HP1 := Lib.hid hp; have HB1 := Lib.hid hb; clear hp hb)
    | (go_at_call 12; have _t := tok1; refine (Append_any d w.heap.size sw0 _ nmA (some ⟨w1.heap.size, 0, none⟩) [120, 121] 2 _ (HP1.out.below (below_al (Below.refl _ _) _)) sw0_fit (by decide) (src_const [120, 121] 5 (2, 3) fun k hk => hk.2) (by decide) (by decide) (by decide)).mono ?_; rw [wk1]; rintro e w2 ⟨rfl, ha⟩; have HP2 := Lib.hid ha.disk; have HB2 : Hid (Below w.heap.size w w2) := Lib.hid ((below_al HB1.out _).trans (ha.toBelow (HP1.out.below (below_al (Below.refl _ _) _)))); clear ha tok1)
    | (go_at_call 13; refine (Sync_any d w.heap.size sw1 _ nmA _ HP2.out sw1_fit (by decide)).mono ?_; rw [wk2]; rintro e w3 ⟨rfl, ha⟩; have HP3 := Lib.hid ha.disk; have HB3 : Hid (Below w.heap.size w w3) := Lib.hid (HB2.out.trans (ha.toBelow HP2.out)); clear ha)
    | (go_at_call 12; refine (Append_any d w.heap.size sw2 _ nmA (some ⟨w3.heap.size, 0, none⟩) [122] 1 _ (HP3.out.below (below_al (Below.refl _ _) _)) sw2_fit (by decide) (src_const [122] 5 (1, 2) fun k hk => (HP3.out.lt hk).2) (by decide) (by decide) (by decide)).mono ?_; rw [wk3]; rintro e w4 ⟨rfl, ha⟩; have HP4 := Lib.hid ha.disk; have HB4 : Hid (Below w.heap.size w w4) := Lib.hid ((below_al HB3.out _).trans (ha.toBelow (HP3.out.below (below_al (Below.refl _ _) _)))); clear ha)
    | (go_at_call 14; refine (Rename_any d w.heap.size sw3 _ nmA nmB _ HP4.out sw3_fit (by decide) (by decide) (by decide)).mono ?_; rw [wk4]; rintro e w5 ⟨rfl, ha⟩; have HP5 := Lib.hid ha.disk; have HB5 : Hid (Below w.heap.size w w5) := Lib.hid (HB4.out.trans (ha.toBelow HP4.out)); clear ha)
    | (go_at_call 15; refine (Off_any d w.heap.size sw4 _ 0 _ HP5.out sw4_fit.rising sw4_fit.bytes).mono ?_; rw [wk5]; rintro e w6 ⟨rfl, ha⟩; have HP6 := Lib.hid ha.disk; have HB6 : Hid (Below w.heap.size w w6) := Lib.hid (HB5.out.trans (ha.toBelow HP5.out)); clear ha)
    | (go_at_call 16; refine (On_any d w.heap.size sw5 _ _ HP6.out).mono ?_; rintro e w7 ⟨rfl, ha⟩; have HP7 : Hid (PDisk w7 w.heap.size d sw6 _) := Lib.hid ha.disk; have HB7 : Hid (Below w.heap.size w w7) := Lib.hid (HB6.out.trans (ha.toBelow HP6.out)); have tok2 : True := trivial; clear ha)
    | (go_at_call 17; have _t := tok2; refine (Read_any d w.heap.size sw6 _ nmB _ HP7.out sw6_fit (by decide)).mono ?_; rw [wk6]; rintro e w8 ⟨⟨v, rfl, ho⟩, hb⟩; have HB8 := Lib.hid hb; have HO8 := Lib.hid ho; clear ho hb tok2)
    | (go_at_call 17; refine (Read_any d w.heap.size sw6 _ nmA _ (HP7.out.below HB8.out) sw6_fit (by decide)).mono ?_; rw [wk7]; rintro e w9 ⟨⟨v', rfl, _⟩, hb⟩; have HB9 := Lib.hid (below_next HB8.out hb); have hcv := conv_xy (HO8.out.below hb); clear hb)
  go_ret
  exact ⟨rfl, HB7.out.trans (HB9.out.mono HB7.out.size)⟩
end Go.Proofs.Ytfdcibghcncbmaa
