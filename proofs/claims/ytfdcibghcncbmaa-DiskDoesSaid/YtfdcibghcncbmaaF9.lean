/- The script, opened off what is read. -/
import Derived.Test.YtfdcibghcncbmaaF8
import Derived.ProofKit
import Derived.SizedLaws
import Derived.Deep.Slices
import Derived.Deep.Fields
import Derived.ChangeSame
namespace Go.Proofs.Ytfdcibghcncbmaa
open Go.RowKit Go.ChangeShapes Go.WideShapes Go.Deep

theorem cells_op : Try.prog.cellsOf 31 = 6 := by kernel_rfl
theorem cells_u8 : Try.prog.cellsOf 5 = 1 := by kernel_rfl
theorem cells_i : Try.prog.cellsOf 3 = 1 := by kernel_rfl
theorem cells_s : Try.prog.cellsOf 9 = 1 := by kernel_rfl
theorem cells_b : Try.prog.cellsOf 29 = 1 := by kernel_rfl
theorem six_of {α : Type} {ys : List α} (h : ys.length = 6) : ∃ y0 y1 y2 y3 y4 y5, ys = [y0, y1, y2, y3, y4, y5] := by
  match ys, h with
  | [y0, y1, y2, y3, y4, y5], _ => exact ⟨y0, y1, y2, y3, y4, y5, rfl⟩
theorem bytes_op : Try.prog.bytesOf 31 = 80 := by kernel_rfl
theorem bytes_u8 : Try.prog.bytesOf 5 = 1 := by kernel_rfl
theorem weights_mem_all {H : Type} {P : Program} {e : TypeId} : ∀ {ds : List (DataW H)} {d : DataW H}, d ∈ ds → ∀ n ∈ d.weights P e, n ∈ DataW.weightsAll P e ds
  | x :: xs, d, hd, n, hn => by
    simp only [DataW.weightsAll, List.mem_append]
    rcases List.mem_cons.1 hd with rfl | hd
    · exact .inl hn
    · exact .inr (weights_mem_all hd n hn)
theorem wf_i64 {n : Int} (h : (Lit.int .i64 n).wf = true) : -9223372036854775808 ≤ n ∧ n ≤ 9223372036854775807 := by
  have h1 : IntKind.i64.min = -9223372036854775808 := rfl
  have h2 : IntKind.i64.max = 9223372036854775807 := rfl
  simp only [Lit.wf, Bool.and_eq_true, decide_eq_true_eq] at h
  omega
theorem wf_u8 {n : Int} (h : (Lit.int .u8 n).wf = true) : 0 ≤ n ∧ n ≤ 255 := by
  have h1 : IntKind.u8.min = 0 := rfl
  have h2 : IntKind.u8.max = 255 := rfl
  simp only [Lit.wf, Bool.and_eq_true, decide_eq_true_eq] at h
  omega
def u8s (zs : List Int) : Bs := zs.map fun z => UInt8.ofNat z.toNat
theorem u8_back {z : Int} (h : 0 ≤ z ∧ z ≤ 255) : ((UInt8.ofNat z.toNat).toNat : Int) = z := by
  rw [UInt8.toNat_ofNat']
  have : z.toNat % 2 ^ 8 = z.toNat := Nat.mod_eq_of_lt (by omega)
  omega
instance : Inhabited DOp := ⟨⟨0, ByteArray.empty, ByteArray.empty, 0, 0, []⟩⟩
section
variable {H : Type} {enc : TypeId × Value → H} {W : World}
/-- The bytes of one call. -/
theorem open_bytes {fuel : Nat} {v : Value} {x : DataW H × List MemPlace} (h : DataW.trod enc Try.prog W 0 (fun _ => true) true fuel 29 [v] = some x) :
    ∃ (b : Bs) (A : Option Addr) (c : Nat), v = .slice A b.length c ∧ (∀ j u, (bv b)[j]? = some u → ∃ ad, A = some ad ∧ W.cell? (ad.add j) = some u) ∧
      (b.length ≤ 0 ∨ ∃ n ∈ x.1.weights Try.prog 29, b.length ≤ n) := by
  rcases open_ints Try.underlying29 Try.underlying5 cells_u8 h with ⟨hcs, hx⟩ | ⟨a, len, cap, zs, hcs, _, hl, hm, hz, hx, hcell, hw⟩
  · simp at hcs
    subst hcs
    exact ⟨[], none, 0, rfl, fun j u hu => by simp [bv] at hu, .inl (Nat.le_refl _)⟩
  · simp at hcs
    subst hcs
    simp only [if_true] at hz
    refine ⟨u8s (zs.take len), some a, cap, ?_, fun j u hu => ⟨a, rfl, ?_⟩, .inr ⟨(zs.take len).length + (zs.drop len).length, ?_, ?_⟩⟩
    · unfold u8s; rw [List.length_map, List.length_take]; congr 1; omega
    · unfold bv u8s at hu
      rw [List.map_map, List.getElem?_map] at hu
      cases hj : (zs.take len)[j]? with
      | none => rw [hj] at hu; cases hu
      | some z =>
        rw [hj] at hu
        have hjl : j < zs.length := by have := (List.getElem?_eq_some_iff.1 hj).1; rw [List.length_take] at this; omega
        have hzj : zs[j]? = some z := by
          rw [List.getElem?_take] at hj
          split at hj
          · exact hj
          · cases hj
        have h1 := hcell j hjl
        rw [List.getD, hzj, Option.getD_some] at h1
        have h2 := u8_back (wf_u8 (hw z (List.mem_of_getElem? hzj)))
        simp only [Option.map_some, Function.comp_apply, Option.some.injEq] at hu
        rw [h1, ← hu, h2]
    · rw [hx]
      simp [DataW.weights, Try.underlying29, bytes_u8, lits]
    · unfold u8s; rw [List.length_map]; omega
set_option maxRecDepth 100000 in
theorem open_script {base : Nat} {v : Value} {d : DataW H} {p : List MemPlace} (hval : Value.okWide Try.prog W .any base 22 v) (h : DataW.Trod enc Try.prog W 0 (fun _ => true) true 22 v d p) (hsz : ∀ n ∈ d.weights Try.prog 22, n ≤ reachBytes) :
    ∃ os, Script W v os := by
  obtain ⟨A, len0, cap0, rfl⟩ := okWide_slice Try.underlying22 hval
  obtain ⟨fuel, hf⟩ := h
  rcases open_slice Try.underlying22 hf with ⟨hcs, hx⟩ | ⟨a, len, cap, m, fu, D, Pl, hcs, _, hl, hm, hmm, hx, hall⟩
  · simp [Value.cells] at hcs
    obtain ⟨rfl, rfl, rfl⟩ := hcs
    exact ⟨[], by simp, none, 0, rfl, fun i o ho => by simp at ho⟩
  · simp [Value.cells] at hcs
    obtain ⟨rfl, rfl, rfl⟩ := hcs
    simp only [if_true] at hmm
    subst hmm
    simp only [Prod.mk.injEq] at hx
    obtain ⟨hd, _⟩ := hx
    have hwt : ∀ i, i < len0 → ∀ n ∈ (D i).weights Try.prog 31, n ≤ reachBytes := fun i hi n hn => by
      refine hsz n ?_
      rw [hd]
      simp only [DataW.weights, Try.underlying22, List.mem_cons, List.mem_append]
      exact .inr (.inl (weights_mem_all (List.mem_map.2 ⟨i, List.mem_range.2 hi, rfl⟩) n hn))
    have hlen : len0 * 80 ≤ 140737488351232 := by
      have h1 := hsz ((len0 + (m - len0)) * 80) (by
        rw [hd]
        simp only [DataW.weights, Try.underlying22, bytes_op, List.length_map, List.length_range, List.mem_cons, true_or])
      unfold reachBytes at h1
      omega
    have each : ∀ i, i < len0 → ∃ q : DOp × Option Addr × Nat, OpAt W (a.add (i * 6)) q.1 q.2.1 q.2.2 := fun i hi => by
      obtain ⟨cs', hread, ht⟩ := hall i (by omega)
      rw [cells_op] at hread
      obtain ⟨ys, n, _, hy, _, hyl, hfield⟩ := DataW.trod_struct Try.underlying31 ht
      obtain ⟨_, hcl, hat⟩ := World.cells?_some hread
      match cs', hcl with
      | [v0, v1, v2, v3, v4, v5], _ =>
      have t0 : DataW.trod enc Try.prog W 0 (fun _ => true) true n 3 (List.take (Try.prog.cellsOf 3) (List.drop 0 [v0, v1, v2, v3, v4, v5])) = ys[0]? := hfield 0 _ rfl
      have t1 : DataW.trod enc Try.prog W 0 (fun _ => true) true n 9 (List.take (Try.prog.cellsOf 9) (List.drop 1 [v0, v1, v2, v3, v4, v5])) = ys[1]? := hfield 1 _ rfl
      have t2 : DataW.trod enc Try.prog W 0 (fun _ => true) true n 9 (List.take (Try.prog.cellsOf 9) (List.drop 2 [v0, v1, v2, v3, v4, v5])) = ys[2]? := hfield 2 _ rfl
      have t3 : DataW.trod enc Try.prog W 0 (fun _ => true) true n 3 (List.take (Try.prog.cellsOf 3) (List.drop 3 [v0, v1, v2, v3, v4, v5])) = ys[3]? := hfield 3 _ rfl
      have t4 : DataW.trod enc Try.prog W 0 (fun _ => true) true n 3 (List.take (Try.prog.cellsOf 3) (List.drop 4 [v0, v1, v2, v3, v4, v5])) = ys[4]? := hfield 4 _ rfl
      have t5 : DataW.trod enc Try.prog W 0 (fun _ => true) true n 29 (List.take (Try.prog.cellsOf 29) (List.drop 5 [v0, v1, v2, v3, v4, v5])) = ys[5]? := hfield 5 _ rfl
      simp only [cells_i, cells_s, cells_b, List.drop, List.take] at t0 t1 t2 t3 t4 t5
      have cell : ∀ j (hj : j < 6), W.cell? (a.add (i * 6 + j)) = ([v0, v1, v2, v3, v4, v5] : List Value)[j]? := fun j hj => by
        have := hat j hj
        rw [add_add] at this
        exact this
      have c0 := cell 0 (by decide)
      have c1 := cell 1 (by decide)
      have c2 := cell 2 (by decide)
      have c3 := cell 3 (by decide)
      have c4 := cell 4 (by decide)
      have c5 := cell 5 (by decide)
      obtain ⟨y0, y1, y2, y3, y4, y5, rfl⟩ := six_of hyl
      have hD : D i = .agg ([y0, y1, y2, y3, y4, y5].map (·.1)) := congrArg Prod.fst hy
      obtain ⟨kind, e0, _, _⟩ := DataW.trod_int Try.underlying3 t0
      obtain ⟨F, e1, _, w1⟩ := DataW.trod_string Try.underlying9 t1
      obtain ⟨G, e2, _, w2⟩ := DataW.trod_string Try.underlying9 t2
      obtain ⟨N, e3, _, w3⟩ := DataW.trod_int Try.underlying3 t3
      obtain ⟨K, e4, _, w4⟩ := DataW.trod_int Try.underlying3 t4
      obtain ⟨b, B, cb, e5, hb, hbl⟩ := open_bytes t5
      simp only [List.cons.injEq, and_true] at e0 e1 e2 e3 e4
      subst e0; subst e1; subst e2; subst e3; subst e4; subst e5
      refine ⟨(⟨kind, F, G, N, K, b⟩, B, cb), c0, ?_, ?_, ?_, ?_, ?_, hb, ⟨⟨w1, w2, wf_i64 w4⟩, wf_i64 w3, ?_⟩⟩
      · rw [← add_fld _ _ _ (by decide)]; exact c1
      · rw [← add_fld _ _ _ (by decide)]; exact c2
      · rw [← add_fld _ _ _ (by decide)]; exact c3
      · rw [← add_fld _ _ _ (by decide)]; exact c4
      · rw [← add_fld _ _ _ (by decide)]; exact c5
      · rcases hbl with hbl | ⟨n, hn, hbn⟩
        · show b.length ≤ _; omega
        · have := hwt i hi n (by
            rw [hD]
            simp only [DataW.weights, Try.underlying31]
            exact DataW.weights_mem_each (j := 5) (t := 29) rfl rfl n hn)
          unfold reachBytes at this
          show b.length ≤ _
          omega
    obtain ⟨q, hq⟩ := choose_lt each
    refine ⟨(List.range len0).map fun i => (q i).1, by rw [List.length_map, List.length_range]; omega, some a, m, by rw [List.length_map, List.length_range], fun i o ho => ?_⟩
    rw [List.getElem?_map] at ho
    cases hi : (List.range len0)[i]? with
    | none => rw [hi] at ho; cases ho
    | some i' =>
      rw [hi] at ho
      obtain ⟨hlt, he⟩ := List.getElem?_eq_some_iff.1 hi
      rw [List.getElem_range] at he
      subst he
      injection ho with ho
      subst ho
      exact ⟨a, _, _, rfl, hq i (by simpa using hlt)⟩
end
end Go.Proofs.Ytfdcibghcncbmaa
