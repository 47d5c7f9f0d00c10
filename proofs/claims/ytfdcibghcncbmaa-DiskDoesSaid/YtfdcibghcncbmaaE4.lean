/- The document's disk: Size, Names, Read. -/
import Derived.Test.YtfdcibghcncbmaaE3
namespace Go.Proofs.Ytfdcibghcncbmaa
open Go.RowKit Go.Maps Go.Shelf

theorem take_snoc' {α : Type} {xs : List α} {k : Nat} {x : α} (h : xs[k]? = some x) : xs.take (k + 1) = xs.take k ++ [x] := by
  obtain ⟨hlt, he⟩ := List.getElem?_eq_some_iff.1 h
  rw [List.take_succ_eq_append_getElem hlt, he]
theorem total_take_le (fs : List DF) (k : Nat) : total (fs.take k) ≤ total fs := by
  have := total_app (fs.take k) (fs.drop k)
  rw [List.take_append_drop] at this
  omega
set_option maxRecDepth 100000 in
set_option maxHeartbeats 1000000 in
theorem rsize_any (m base : Nat) (s : DS) (v : Value) (h : HV) (w : World) (hq : RefQ w base m s v h) (ht : total s.fs ≤ 1073741824) (hfew : s.fs.length ≤ 1073741824) :
    Calls Try.prog 43 #[.pointer (some ⟨m, 0, none⟩)] w fun e w' => e = .returned (.int .i64 (total s.fs)) ∧ Below w.heap.size w w' := by
  obtain ⟨c0, _⟩ := hq.cells
  obtain ⟨A, cap, hv, _⟩ := hq.row.slice_
  have HQ := Lib.hid hq
  have HT := Lib.hid ht
  subst hv
  clear hq ht
  go_enter Try.func43, Try.ntmps43
  go_wp2_with fail
  go_loopw [3, 5, 11] (fun n_ _ i wr => ∃ k : Nat, k ≤ s.fs.length ∧ i = .int .i64 k ∧ n_ = .int .i64 (total (s.fs.take k)) ∧ Below w.heap.size w wr) (fun _ _ i _ => s.fs.length - (intOf i).toNat)
  case atStart => exact ⟨0, Nat.zero_le _, rfl, rfl, Below.refl _ _⟩
  case round =>
    obtain ⟨k, hk, rfl, rfl, hb⟩ := hrel
    have HB := Lib.hid hb
    clear hb
    by_cases hlt : k < s.fs.length
    · obtain ⟨f, hf⟩ : ∃ f, s.fs[k]? = some f := ⟨_, List.getElem?_eq_getElem hlt⟩
      have HF := Lib.hid hf
      obtain ⟨g, cap', A1, c1, A2, c2, e0, e1, e2, q0, q1, q2, fz, gl, hcap⟩ := (HQ.out.below HB.out).at_ k _ hf
      injection e0 with x1 _ x3
      subst x1; subst x3
      have hki : (k : Int) < (s.fs.length : Int) := by omega
      have h1 := total_take_le s.fs k
      have h2 := total_take_le s.fs (k + 1)
      have h3 : total (s.fs.take (k + 1)) = total (s.fs.take k) + f.len := by rw [take_snoc' hf, total_app]; simp [total]
      have hT := HT.out
      have HE : Hid (((total (s.fs.take k) : Int) + (f.safe.length : Int)) + (f.wait.length : Int) = (total (s.fs.take (k + 1)) : Nat)) := by show _ = _; rw [h3]; unfold DF.len; simp; omega
      unfold DF.len at h3
      have hb1 : total (s.fs.take k) + f.safe.length + f.wait.length ≤ 1073741824 := by omega
      clear e1 e2 fz hf h1 h2 h3 hT
      go_wp2_with fail
      go_roundw
      case rel => exact ⟨k + 1, by omega, by go_num, by rw [HE.out], below_al HB.out _⟩
      case measure => simp [intOf]; omega
    · have hk' : k = s.fs.length := by omega
      subst hk'
      go_wp2_with fail
      go_ret
      exact ⟨ret_int (by rw [List.take_length]), HB.out⟩
theorem infoS : (Try.prog.info? 9).map (fun i => (i.zero, i.size, i.bytes)) = some (some (.string ⟨#[]⟩), 1, 16) := by kernel_rfl
theorem nmV_app (a b : List ByteArray) : nmV (a ++ b) = nmV a ++ nmV b := by simp [nmV]
theorem news_cells {w : World} {B t : Nat} {cs : List Value} (hb : w.heap[B]? = some (.cells cs.toArray t (0, 0))) : ∀ j u, cs[j]? = some u → ∃ ad, some (⟨B, 0, none⟩ : Addr) = some ad ∧ w.cell? (ad.add j) = some u := fun j u hu =>
  ⟨_, rfl, by rw [add_at, blk_cell hb]; simpa using hu⟩
/-- The names that have come. -/
def outN (s : DS) (k : Nat) : List ByteArray := if s.on then (s.fs.take k).map (·.name) else []
theorem outN_off {s : DS} (h : s.on = false) (k : Nat) : outN s k = [] := by unfold outN; rw [h]; rfl
theorem outN_next {s : DS} (h : s.on = true) {k : Nat} {f : DF} (hf : s.fs[k]? = some f) : outN s (k + 1) = outN s k ++ [f.name] := by unfold outN; rw [h]; simp only [if_true]; rw [take_snoc' hf, List.map_append]; rfl
theorem outN_end (s : DS) : outN s s.fs.length = s.names := by unfold outN DS.names; rw [List.take_length]
theorem outN_len (s : DS) (k : Nat) : (outN s k).length ≤ k := by unfold outN; split <;> simp; omega
set_option maxRecDepth 100000 in
set_option maxHeartbeats 1000000 in
theorem rnames_any (m base : Nat) (s : DS) (v : Value) (h : HV) (w : World) (hq : RefQ w base m s v h) (hfew : s.fs.length ≤ 1073741824) :
    Calls Try.prog 31 #[.pointer (some ⟨m, 0, none⟩)] w fun e w' => RetN w w' s.names e ∧ Below w.heap.size w w' := by
  obtain ⟨c0, _, c2, _⟩ := hq.cells
  obtain ⟨A, cap, hv, _⟩ := hq.row.slice_
  have HQ := Lib.hid hq
  subst hv
  clear hq
  go_enter Try.func31, Try.ntmps31
  go_wp2_with fail
  go_loopw [3, 5, 11] (fun o _ i wr => ∃ k : Nat, k ≤ s.fs.length ∧ i = .int .i64 k ∧ Hid (Own wr w.heap.size 9 1 o (outN s k).length (nmV (outN s k))) ∧ Below w.heap.size w wr) (fun _ _ i _ => s.fs.length - (intOf i).toNat)
  case atStart => exact ⟨0, Nat.zero_le _, rfl, Lib.hid (by have : outN s 0 = [] := by unfold outN; simp
                                                            rw [this]; exact Own.none_ _ _ _ _ none), Below.refl _ _⟩
  case round =>
    obtain ⟨k, hk, rfl, HO, hb⟩ := hrel
    have HB := Lib.hid hb
    clear hb c2
    have c2 := (HQ.out.below HB.out).cells.2.2.1
    by_cases hlt : k < s.fs.length
    · obtain ⟨f, hf⟩ : ∃ f, s.fs[k]? = some f := ⟨_, List.getElem?_eq_getElem hlt⟩
      have HF := Lib.hid hf
      obtain ⟨g, cap', A1, c1, A2, c2', e0, e1, e2, q0, q1, q2, fz, gl, hcap⟩ := (HQ.out.below HB.out).at_ k _ hf
      injection e0 with x1 _ x3
      subst x1; subst x3
      have hki : (k : Int) < (s.fs.length : Int) := by omega
      have hml := World.block_lt_of_cell? _ _ c2
      clear e1 e2 fz hf
      cases hon : s.on with
      | false =>
        rw [hon] at c2
        have HON := Lib.hid hon
        clear hon
        go_wp2_with fail
        go_roundw
        case rel => exact ⟨k + 1, by omega, by go_num, Lib.hid (by have := HO.out; rw [outN_off HON.out] at this ⊢; exact this.below (below_al (Below.refl _ _) _)), below_al HB.out _⟩
        case measure => simp [intOf]; omega
      | true =>
        rw [hon] at c2
        have HON := Lib.hid hon
        have hol := outN_len s k
        clear hon
        go_wp2_with (at_builtin; refine wpList_append_any _ rfl _ _ 52 rfl w.heap.size 9 (.string ⟨#[]⟩) 1 16 Try.underlying52 infoS rfl (by decide) u3 (outN s k).length (nmV (outN s k)) rfl (HO.out.below (below_al (below_al (Below.refl _ _) _) _)) (some ⟨wr.heap.size + 1, 0, none⟩) 1 1 [.string f.name] rfl rfl (news_cells (by have := blk_new (wr.alloc (.cells #[.string f.name, .slice A1 f.safe.length c1, .slice A2 f.wait.length c2'] 65)) (.cells #[.string f.name] 9 (0, 0)); rw [World.size_alloc] at this; exact this)) (fun u hu => by simp at hu; rw [hu]; rfl) (by omega) (by omega) (by have := HB.out.size; simp; omega) ?_; intro v' w1 ho1 hg1 hf1; have HO1 := Lib.hid ho1; have HB1 : Hid (Below w.heap.size w w1) := Lib.hid ((below_al (below_al HB.out _) _).grown hg1 (by have := HB.out.size; simp; omega) fun j e => (HO.out.lt e).1); clear ho1 hg1 hf1)
        go_roundw
        case rel => exact ⟨k + 1, by omega, by go_num, Lib.hid (by rw [outN_next HON.out HF.out, nmV_app, List.length_append]; exact HO1.out), HB1.out⟩
        case measure => simp [intOf]; omega
    · have hk' : k = s.fs.length := by omega
      subst hk'
      go_wp2_with fail
      go_ret
      refine ⟨⟨_, rfl, ?_⟩, HB.out⟩
      have := HO.out
      rw [outN_end] at this
      exact this
end Go.Proofs.Ytfdcibghcncbmaa
