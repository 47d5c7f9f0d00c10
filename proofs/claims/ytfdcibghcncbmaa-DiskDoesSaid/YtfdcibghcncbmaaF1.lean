/- The statement's helpers: same, alike. -/
import Derived.Test.YtfdcibghcncbmaaE16
namespace Go.Proofs.Ytfdcibghcncbmaa
open Go.RowKit Go.Maps Go.Shelf

set_option maxRecDepth 100000 in
set_option maxHeartbeats 1000000 in
theorem same_yes (va vb : Value) (b1 b2 : Nat) (xs : Bs) (w : World) (ha : Own w b1 5 1 va xs.length (bv xs)) (hb : Own w b2 5 1 vb xs.length (bv xs)) (hl : xs.length ≤ 1073741824) :
    Calls Try.prog 10 #[va, vb] w fun e w' => e = .returned (.bool true) ∧ Below w.heap.size w w' := by
  obtain ⟨A, ca, rfl, _⟩ := ha.slice_
  obtain ⟨B, cb, rfl, _⟩ := hb.slice_
  have HA := Lib.hid ha
  have HB := Lib.hid hb
  clear ha hb
  go_enter Try.func10, Try.ntmps10
  go_wp2_with fail
  go_loopw [13, 5] (fun i_ _ wr => ∃ k : Nat, k ≤ xs.length ∧ i_ = .int .i64 k ∧ Below w.heap.size w wr) (fun i_ _ _ => xs.length - (intOf i_).toNat)
  case atStart => exact ⟨0, Nat.zero_le _, rfl, Below.refl _ _⟩
  case round =>
    obtain ⟨k, hk, rfl, hb⟩ := hrel
    have HBW := Lib.hid hb
    clear hb
    by_cases hlt : k < xs.length
    · obtain ⟨ga, ca', e1, _⟩ := HA.out.form (by omega)
      obtain ⟨gb, cb', e2, _⟩ := HB.out.form (by omega)
      injection e1 with e1 _ e3
      injection e2 with e2 _ e4
      subst e1; subst e2; subst e3; subst e4
      have hu : (bv xs)[k]? = some (.int .u8 (xs[k]'hlt).toNat) := by unfold bv; rw [List.getElem?_map, List.getElem?_eq_getElem hlt]; rfl
      have qa : wr.cell? ⟨ga, k, none⟩ = some (.int .u8 (xs[k]'hlt).toNat) := by
        obtain ⟨ad, h1, h2⟩ := (HA.out.below HBW.out).cells k _ hu
        injection h1 with h1
        rw [← h1, add_at] at h2
        exact h2
      have qb : wr.cell? ⟨gb, k, none⟩ = some (.int .u8 (xs[k]'hlt).toNat) := by
        obtain ⟨ad, h1, h2⟩ := (HB.out.below HBW.out).cells k _ hu
        injection h1 with h1
        rw [← h1, add_at] at h2
        exact h2
      have hki : (k : Int) < (xs.length : Int) := by omega
      clear hu
      go_wp2_with fail
      go_quiet (fail)
      go_wp2_with fail
      go_roundw
      case rel => exact ⟨k + 1, by omega, by go_num, below_drewN' HBW.out _⟩
      case measure => simp [intOf]; omega
    · have hk' : k = xs.length := by omega
      subst hk'
      go_wp2_with fail
      go_ret
      exact ⟨rfl, HBW.out⟩
end Go.Proofs.Ytfdcibghcncbmaa
