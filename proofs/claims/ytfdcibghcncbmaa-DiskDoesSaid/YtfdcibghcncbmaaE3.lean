/- The document's disk: the place of a file. -/
import Derived.Test.YtfdcibghcncbmaaE2
namespace Go.Proofs.Ytfdcibghcncbmaa
open Go.RowKit Go.Maps Go.Shelf

theorem str_eq (a b : ByteArray) : (a.toList == b.toList) = neq a b := by
  rw [ByteArray.toList_eq, ByteArray.toList_eq, Bool.eq_iff_iff, neq_iff, beq_iff_eq]
  exact ⟨fun h => nmL_inj h, fun h => by rw [h]⟩
/-- A file's place; -1: none. -/
def atI (n : ByteArray) (fs : List DF) : Int := if fs.findIdx (fun f => neq f.name n) < fs.length then (fs.findIdx fun f => neq f.name n : Nat) else -1
theorem atI_hit {n : ByteArray} {fs : List DF} {k : Nat} {f : DF} (hk : fs[k]? = some f) (hf : f.name = n) (hno : ∀ j, j < k → ∀ x : DF, fs[j]? = some x → x.name ≠ n) : atI n fs = k := by
  obtain ⟨hlt, he⟩ := List.getElem?_eq_some_iff.1 hk
  have : fs.findIdx (fun f => neq f.name n) = k := by
    rw [List.findIdx_eq hlt]
    refine ⟨by rw [he]; exact (neq_iff _ _).2 hf, fun j hj => ?_⟩
    exact (neq_no _ _).2 (hno j hj _ (List.getElem?_eq_getElem (by omega)))
  unfold atI
  rw [this, if_pos hlt]
theorem atI_miss {n : ByteArray} {fs : List DF} (hno : ∀ (j : Nat) (x : DF), fs[j]? = some x → x.name ≠ n) : atI n fs = -1 := by
  have : fs.findIdx (fun f => neq f.name n) = fs.length := by
    rw [List.findIdx_eq_length]
    intro x hx
    obtain ⟨j, hj⟩ := List.getElem?_of_mem hx
    exact (neq_no _ _).2 (hno j x hj)
  unfold atI
  rw [this, if_neg (by omega)]
theorem atI_none {n : ByteArray} {fs : List DF} (h : findF n fs = none) : atI n fs = -1 := atI_miss fun j x hx => findF_none h x (List.mem_of_getElem? hx)
theorem atI_some {n : ByteArray} {fs : List DF} {f : DF} (hr : Rising fs) (h : findF n fs = some f) : ∃ k : Nat, atI n fs = k ∧ fs[k]? = some f := by
  obtain ⟨h1, h2⟩ := findF_some h
  obtain ⟨k, hk⟩ := List.getElem?_of_mem h1
  refine ⟨k, atI_hit hk h2 fun j hj x hx hn => ?_, hk⟩
  have := rising_mem hr (List.mem_of_getElem? hx) h1 (by rw [hn, h2])
  subst this
  have hp := List.pairwise_iff_getElem.1 hr j k (List.getElem?_eq_some_iff.1 hx).1 (List.getElem?_eq_some_iff.1 hk).1 hj
  rw [(List.getElem?_eq_some_iff.1 hx).2, (List.getElem?_eq_some_iff.1 hk).2, nlt_irrefl] at hp
  cases hp
set_option maxRecDepth 100000 in
set_option maxHeartbeats 1000000 in
theorem at_any (m base : Nat) (s : DS) (v : Value) (h : HV) (n : ByteArray) (w : World) (hq : RefQ w base m s v h) (hn : n.size ≤ maxLen) (hfew : s.fs.length ≤ 1073741824) :
    Calls Try.prog 42 #[.pointer (some ⟨m, 0, none⟩), .string n] w fun e w' => e = .returned (.int .i64 (atI n s.fs)) ∧ Below w.heap.size w w' := by
  obtain ⟨c0, _⟩ := hq.cells
  obtain ⟨A, cap, hv, _⟩ := hq.row.slice_
  have HQ := Lib.hid hq
  have HN := Lib.hid hn
  subst hv
  clear hq hn
  go_enter Try.func42, Try.ntmps42
  go_wp2_with fail
  go_loopw [12, 5, 6] (fun i _ _ wr => ∃ k : Nat, k ≤ s.fs.length ∧ i = .int .i64 k ∧ Hid (∀ j, j < k → ∀ x : DF, s.fs[j]? = some x → x.name ≠ n) ∧ Below w.heap.size w wr) (fun i _ _ _ => s.fs.length - (intOf i).toNat)
  case atStart => exact ⟨0, Nat.zero_le _, rfl, Lib.hid (fun j hj => by omega), Below.refl _ _⟩
  case round =>
    obtain ⟨k, hk, rfl, HNO, hb⟩ := hrel
    have HB := Lib.hid hb
    clear hb
    by_cases hlt : k < s.fs.length
    · have hf := List.getElem?_eq_getElem hlt
      have HF := Lib.hid hf
      obtain ⟨g, cap', A1, c1, A2, c2, e0, e1, e2, q0, q1, q2, fz, gl, hcap⟩ := (HQ.out.below HB.out).at_ k _ hf
      injection e0 with x1 _ x3
      subst x1; subst x3
      have hki : (k : Int) < (s.fs.length : Int) := by omega
      clear e1 e2 fz hf
      go_wp2_with fail
      · have he : (s.fs[k].name.toList == n.toList) = true := by assumption
        rw [str_eq, neq_iff] at he
        go_ret
        exact ⟨ret_int (atI_hit HF.out he HNO.out).symm, below_al HB.out _⟩
      · have he : (s.fs[k].name.toList == n.toList) = false := by assumption
        rw [str_eq, neq_no] at he
        go_roundw
        case rel => exact ⟨k + 1, by omega, by go_num, Lib.hid (fun j hj x hx => by
          rcases Nat.lt_or_ge j k with h1 | h1
          · exact HNO.out j h1 x hx
          · obtain rfl : j = k := by omega
            rw [HF.out] at hx
            injection hx with hx
            rw [← hx]; exact he), below_al HB.out _⟩
        case measure => simp [intOf]; omega
    · have hk' : k = s.fs.length := by omega
      subst hk'
      go_wp2_with fail
      go_ret
      exact ⟨ret_int (atI_miss fun j x hx => HNO.out j (List.getElem?_eq_some_iff.1 hx).1 x hx).symm, HB.out⟩
end Go.Proofs.Ytfdcibghcncbmaa
