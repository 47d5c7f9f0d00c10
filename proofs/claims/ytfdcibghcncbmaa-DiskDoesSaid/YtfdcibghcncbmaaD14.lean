/- slices.Concat of two rows of bytes. -/
import Derived.Test.YtfdcibghcncbmaaD13
import Derived.Lib.AppendZeros
namespace Go.Proofs.Ytfdcibghcncbmaa
open Go.RowKit Go.Maps Go.Shelf

set_option maxHeartbeats 400000 in
theorem Grow_nil (n : Nat) (hn : n ≤ 1099511627776) (w : World) : Calls Try.prog 49 #[.slice none 0 0, .int .i64 n] w fun e w' => ∃ v, e = .returned v ∧ Own w' w.heap.size 5 1 v 0 [] ∧ Below w.heap.size w w' := by
  have h1 : ¬ ((n : Int) < 0) := by omega
  by_cases h0 : n = 0
  · subst h0
    go_enter Try.func49, Try.ntmps49
    go_wp2
    go_ret
    exact ⟨_, rfl, Own.none_ _ _ _ _ none, Below.refl _ _⟩
  · obtain ⟨i0, hi, hz⟩ := Option.map_eq_some_iff.1 infoB
    simp only [Prod.mk.injEq] at hz
    obtain ⟨hz0, hz1, hz2⟩ := hz
    have hr := fun ty => Lib.run_append_nil_zeros (P := Try.prog) w 29 3 ty 5 i0 (.int .u8 0) .i64 .i64 Try.underlying29 Try.underlying3 hi hz0 n (by omega) (by omega) (by omega) (by rw [hz2]; omega)
    have hcap := grownCap_ge w n 0 5
    have hmax := grownCap_le_maxLen w n 0 5 (by unfold maxLen; omega)
    obtain ⟨cap, hc⟩ : ∃ cap, cap = grownCap w n 0 5 := ⟨_, rfl⟩
    rw [← hc] at hr hcap hmax
    have HR := Lib.hid hr
    have hn0 : (0 : Int) < n := by omega
    have hc' : (0 : Int) ≤ (cap : Int) := by omega
    have HMX := Lib.hid hmax
    have H0 := Lib.hid h0
    clear hr hmax hc hi hz0 hz1 hz2 h0
    go_enter Try.func49, Try.ntmps49
    go_wp2_with (at_builtin; refine Lib.wpList_append_run _ rfl _ _ _ _ rfl _ _ rfl rfl _ _ (HR.out _) ?_)
    go_ret
    refine ⟨_, rfl, ⟨rfl, .inr ⟨w.heap.size, cap, Builtin.zeroCells (Value.int .u8 0).cells n ++ Builtin.zeroCells (Value.int .u8 0).cells (cap - n), rfl, by have := H0.out; omega, Nat.le_refl _, blk_new _ _, Nat.zero_le _, HMX.out, ?_, by simp⟩⟩, (Below.refl _ _).drew.alloc (Nat.le_refl _) _⟩
    rw [Array.size_append, size_zeroCells, size_zeroCells, show (Value.int .u8 0).cells.size = 1 from rfl]
    omega
set_option maxRecDepth 100000 in
set_option maxHeartbeats 1000000 in
theorem Concat_any (B : Nat) (A1 A2 : Option Addr) (c1 c2 : Nat) (xs ys : Bs) (w : World) (hb : w.heap[B]? = some (.cells #[.slice A1 xs.length c1, .slice A2 ys.length c2] 29 (0, 0)))
    (h1 : ∀ j u, (bv xs)[j]? = some u → ∃ ad, A1 = some ad ∧ w.cell? (ad.add j) = some u) (h2 : ∀ j u, (bv ys)[j]? = some u → ∃ ad, A2 = some ad ∧ w.cell? (ad.add j) = some u) (hl : xs.length + ys.length ≤ 1073741824) :
    Calls Try.prog 40 #[.slice (some ⟨B, 0, none⟩) 2 2] w fun e w' => ∃ v, e = .returned v ∧ Own w' w.heap.size 5 1 v (xs.length + ys.length) (bv (xs ++ ys)) ∧ Below w.heap.size w w' := by
  have q0 : w.cell? ⟨B, 0, none⟩ = some (.slice A1 xs.length c1) := blk_cell hb 0
  have q1 : w.cell? ⟨B, 1, none⟩ = some (.slice A2 ys.length c2) := blk_cell hb 1
  have H1 := Lib.hid h1
  have H2 := Lib.hid h2
  have HB := Lib.hid hb
  have hg := Grow_nil (xs.length + ys.length) (by omega) w
  rw [Int.natCast_add] at hg
  have HG := Lib.hid hg
  clear hg
  clear h1 h2 hb
  go_enter Try.func40, Try.ntmps40
  go_wp2_with fail
  refine wp_loop_rounds 3 ?_
  rw [rounds_succ]
  go_wp2_with fail
  rw [rounds_succ]
  go_wp2_with fail
  rw [rounds_succ]
  go_wp2_with fail
  refine HG.out.mono ?_
  rintro e w1 ⟨v, rfl, ho, hb1⟩
  obtain ⟨Av, cv, rfl, _⟩ := ho.slice_
  have HO := Lib.hid ho
  have HB1 := Lib.hid hb1
  have p0 := cell_below hb1 q0
  have p1 := cell_below hb1 q1
  have P1 := Lib.hid p1
  have HX : Hid (∀ j u, (bv xs)[j]? = some u → ∃ ad, A1 = some ad ∧ w1.cell? (ad.add j) = some u) := Lib.hid fun j u hu => by
    obtain ⟨ad, ha, hc⟩ := H1.out j u hu
    exact ⟨ad, ha, cell_below HB1.out hc⟩
  clear ho hb1 q0 q1
  go_wp2_with fail
  refine wp_loop_rounds 3 ?_
  rw [rounds_succ]
  go_wp2_with (at_builtin; refine wpList_append_any _ rfl _ _ 29 rfl w.heap.size 5 (.int .u8 0) 1 1 Try.underlying29 infoB rfl (by decide) (.slice Av 0 cv) 0 [] rfl HO.out A1 xs.length c1 (bv xs) rfl (by rw [bv_len]; omega) HX.out (bv_one _) (by omega) (by omega) HB1.out.size ?_; intro v' w2 ho2 hg2 hf2; simp only [Nat.zero_add, List.nil_append] at ho2; obtain ⟨A3, k3, rfl, _⟩ := ho2.slice_; have HB2 : Hid (Below w.heap.size w w2) := Lib.hid (HB1.out.grown hg2 HB1.out.size fun k e => (HO.out.lt e).1); have z1 : w2.cell? ⟨B, 1, none⟩ = some (.slice A2 ys.length c2) := (World.cell?_of_block (a := ⟨B, 1, none⟩) (HB2.out.block B (blk_lt HB.out))).trans (blk_cell HB.out 1); have HO2 := Lib.hid ho2; have HF2 := Lib.hid hf2; clear ho2 hg2 hf2)
  have HY : Hid (∀ j u, (bv ys)[j]? = some u → ∃ ad, A2 = some ad ∧ w2.cell? (ad.add j) = some u) := Lib.hid fun j u hu => by
    obtain ⟨ad, ha, hc⟩ := H2.out j u hu
    exact ⟨ad, ha, cell_below HB2.out hc⟩
  rw [rounds_succ]
  go_wp2_with (at_builtin; refine wpList_append_any _ rfl _ _ 29 rfl w.heap.size 5 (.int .u8 0) 1 1 Try.underlying29 infoB rfl (by decide) (.slice A3 xs.length k3) xs.length (bv xs) rfl HO2.out A2 ys.length c2 (bv ys) rfl (by rw [bv_len]; omega) HY.out (bv_one _) (by omega) (by omega) HB2.out.size ?_; intro v' w3 ho3 hg3 hf3; obtain ⟨A4, k4, rfl, _⟩ := ho3.slice_; have HB3 : Hid (Below w.heap.size w w3) := Lib.hid (HB2.out.grown hg3 HB2.out.size fun k e => (HO2.out.lt e).1); have HO3 := Lib.hid ho3; clear ho3 hg3 hf3)
  rw [rounds_succ]
  go_wp2_with fail
  go_ret
  exact ⟨_, rfl, by rw [bv_app]; exact HO3.out, HB3.out⟩
end Go.Proofs.Ytfdcibghcncbmaa
