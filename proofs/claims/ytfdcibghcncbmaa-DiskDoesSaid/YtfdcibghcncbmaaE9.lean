/- The document's disk: a file stored into its place; those that the power has taken. -/
import Derived.Test.YtfdcibghcncbmaaE8
import Derived.Test.YtfdcibghcncbmaaO2
namespace Go.Proofs.Ytfdcibghcncbmaa
open Go.RowKit Go.Maps Go.Shelf

theorem upd_set {fs : List DF} (hr : Rising fs) {i : Nat} {f f' : DF} (hf : fs[i]? = some f) (hn : f'.name = f.name) : updF f' fs = fs.set i f' := by
  unfold updF
  apply List.ext_getElem?
  intro j
  rw [List.getElem?_map, List.getElem?_set]
  obtain ⟨hlt, he⟩ := List.getElem?_eq_some_iff.1 hf
  by_cases hij : i = j
  · subst hij
    rw [hf, if_pos rfl, if_pos hlt]
    simp [hn]
  · rw [if_neg hij]
    cases hj : fs[j]? with
    | none => rfl
    | some y =>
      have hne : y.name ≠ f'.name := by
        intro e
        rw [hn] at e
        have h1 := rising_mem hr (List.mem_of_getElem? hj) (List.mem_of_getElem? hf) e
        subst h1
        obtain ⟨hlj, hej⟩ := List.getElem?_eq_some_iff.1 hj
        rcases Nat.lt_or_gt_of_ne hij with h | h
        · have := List.pairwise_iff_getElem.1 hr i j hlt hlj h
          rw [he, hej, nlt_irrefl] at this; cases this
        · have := List.pairwise_iff_getElem.1 hr j i hlj hlt h
          rw [he, hej, nlt_irrefl] at this; cases this
      show some (if neq y.name f'.name = true then f' else y) = some y
      rw [if_neg (by simpa using hne)]
/-- Three cells stored at a file's place: the row of the files with another one there. -/
theorem row_set (h : HV) (f' : DF) (u : Value × Value) : ∀ (fs : List DF) (i : Nat) (f : DF), fs[i]? = some f → (∀ j y, fs[j]? = some y → j ≠ i → y.name ≠ f'.name) →
    (((fs.flatMap (fC h)).set (i * 3) (.string f'.name)).set (i * 3 + 1) u.1).set (i * 3 + 2) u.2 = (fs.set i f').flatMap (fC (hPut h f'.name u)) := by
  intro fs
  induction fs with
  | nil => intro i f hf; simp at hf
  | cons y r ih =>
    intro i f hf hno
    cases i with
    | zero =>
      have hr : r.flatMap (fC (hPut h f'.name u)) = r.flatMap (fC h) := by
        have : ∀ z ∈ r, fC (hPut h f'.name u) z = fC h z := fun z hz => by
          obtain ⟨j, hj⟩ := List.getElem?_of_mem hz
          exact fC_other h u (hno (j + 1) z (by simpa using hj) (by omega))
        rw [List.flatMap_def, List.flatMap_def, List.map_congr_left this]
      rw [List.set_cons_zero, List.flatMap_cons, List.flatMap_cons, hr, fC_same]
      rfl
    | succ i =>
      have hy : fC (hPut h f'.name u) y = fC h y := fC_other h u (hno 0 y rfl (by omega))
      have := ih i f (by simpa using hf) fun j z hz hj => hno (j + 1) z (by simpa using hz) (by omega)
      rw [List.set_cons_succ, List.flatMap_cons, List.flatMap_cons, hy, ← this]
      have e0 : (i + 1) * 3 = (fC h y).length + i * 3 := by rw [fC_len]; omega
      have e1 : (i + 1) * 3 + 1 = (fC h y).length + (i * 3 + 1) := by rw [fC_len]; omega
      have e2 : (i + 1) * 3 + 2 = (fC h y).length + (i * 3 + 2) := by rw [fC_len]; omega
      rw [e1, e2, e0]
      rw [List.set_append_right _ _ (by omega), Nat.add_sub_cancel_left, List.set_append_right _ _ (by omega), Nat.add_sub_cancel_left, List.set_append_right _ _ (by omega), Nat.add_sub_cancel_left]
theorem RefQ.setFile {w : World} {base m : Nat} {s : DS} {g cap : Nat} {h : HV} (hq : RefQ w base m s (.slice (some ⟨g, 0, none⟩) s.fs.length cap) h) (hr : Rising s.fs) {i : Nat} {f f' : DF} (hf : s.fs[i]? = some f) (hn : f'.name = f.name) (u : Value × Value)
    (hb : BytesOf w base (fun _ => u) f') :
    RefQ (((w.setCell ⟨g, i * 3, none⟩ (.string f'.name)).setCell ⟨g, i * 3 + 1, none⟩ u.1).setCell ⟨g, i * 3 + 2, none⟩ u.2) base m { s with fs := updF f' s.fs } (.slice (some ⟨g, 0, none⟩) s.fs.length cap) (hPut h f'.name u) := by
  obtain ⟨hlt, he⟩ := List.getElem?_eq_some_iff.1 hf
  have hpos : 0 < s.fs.length := by omega
  have far : ∀ k, k ≠ g → (((w.setCell ⟨g, i * 3, none⟩ (.string f'.name)).setCell ⟨g, i * 3 + 1, none⟩ u.1).setCell ⟨g, i * 3 + 2, none⟩ u.2).heap[k]? = w.heap[k]? := fun k hk => by
    rw [Below.heap_setCell _ ⟨g, i * 3 + 2, none⟩ _ k hk, Below.heap_setCell _ ⟨g, i * 3 + 1, none⟩ _ k hk, Below.heap_setCell _ ⟨g, i * 3, none⟩ _ k hk]
  have hfp : fp (.slice (some ⟨g, 0, none⟩) s.fs.length cap) = some g := by
    obtain ⟨g', cap', e, h0, _⟩ := hq.row.form hpos
    injection e with e1 _ e3
    subst e3
    simp [fp]; omega
  have hgm : m ≠ g := fun e => typed_ne hq.row hq.blk (by decide) hfp e.symm
  have hsl : (updF f' s.fs).length = s.fs.length := upd_length _ _
  have hmem : ∀ y ∈ updF f' s.fs, (y = f') ∨ (y ∈ s.fs ∧ y.name ≠ f'.name) := by
    intro y hy
    obtain ⟨z, hz, rfl⟩ := List.mem_map.1 hy
    by_cases hz2 : neq z.name f'.name = true
    · rw [if_pos hz2]; exact .inl rfl
    · rw [if_neg hz2]; exact .inr ⟨hz, by simpa using hz2⟩
  have hff : f ∈ s.fs := List.mem_of_getElem? hf
  have tb : ∀ {uu : Value} {nn : Nat} {xs : List Value}, Own w base 5 1 uu nn xs → Own (((w.setCell ⟨g, i * 3, none⟩ (.string f'.name)).setCell ⟨g, i * 3 + 1, none⟩ u.1).setCell ⟨g, i * 3 + 2, none⟩ u.2) base 5 1 uu nn xs := fun ho =>
    ho.move fun k hk => far k fun e => typed_apart ho hq.row (by decide) hk (by rw [hfp, e])
  refine ⟨hq.lo, (far m hgm).trans hq.blk, ?_, fun y hy => ?_⟩
  · have h3 := ((hq.row.stored hpos (i * 3) (.string f'.name)).stored hpos (i * 3 + 1) u.1).stored hpos (i * 3 + 2) u.2
    rw [row_set h f' u s.fs i f hf (fun j y hy hj hyn => hj ?_)] at h3
    · rw [upd_set hr hf hn]
      simpa using h3
    · have h1 := rising_mem hr (List.mem_of_getElem? hy) hff (by rw [hyn, hn])
      subst h1
      obtain ⟨hlj, hej⟩ := List.getElem?_eq_some_iff.1 hy
      rcases Nat.lt_trichotomy j i with h | h | h
      · have := List.pairwise_iff_getElem.1 hr j i hlj hlt h
        rw [he, hej, nlt_irrefl] at this; cases this
      · exact h
      · have := List.pairwise_iff_getElem.1 hr i j hlt hlj h
        rw [he, hej, nlt_irrefl] at this; cases this
  · rcases hmem y hy with rfl | ⟨h1, h2⟩
    · exact ⟨by rw [hPut_same]; exact tb hb.safe, by rw [hPut_same]; exact tb hb.wait⟩
    · have := hq.bytes y h1
      exact ⟨by rw [hPut_other h u h2]; exact tb this.safe, by rw [hPut_other h u h2]; exact tb this.wait⟩
/-- The first i are off. -/
def offT (k : Int) (i : Nat) (fs : List DF) : List DF := (fs.take i).map (DF.off k) ++ fs.drop i
theorem offT_zero (k : Int) (fs : List DF) : offT k 0 fs = fs := by simp [offT]
theorem offT_len (k : Int) (i : Nat) (fs : List DF) : (offT k i fs).length = fs.length := by unfold offT; simp; omega
theorem offT_end (k : Int) (fs : List DF) : offT k fs.length fs = fs.map (DF.off k) := by unfold offT; simp
theorem offT_get {k : Int} {i : Nat} {fs : List DF} (hi : i < fs.length) : (offT k i fs)[i]? = fs[i]? := by
  unfold offT
  rw [List.getElem?_append_right (by simp; omega)]
  simp [Nat.min_eq_left (Nat.le_of_lt hi)]
theorem offT_name (k : Int) (i : Nat) (fs : List DF) : (offT k i fs).map (·.name) = fs.map (·.name) := by
  unfold offT
  rw [List.map_append, List.map_map]
  have : ((·.name) ∘ DF.off k) = fun f : DF => f.name := rfl
  rw [this, ← List.map_append, List.take_append_drop]
theorem rising_names {fs fs' : List DF} (h : fs'.map (·.name) = fs.map (·.name)) (hr : Rising fs) : Rising fs' := by
  have h1 : (fs.map (·.name)).Pairwise fun a b => nlt a b = true := by rw [List.pairwise_map]; exact hr
  rw [← h, List.pairwise_map] at h1
  exact h1
theorem offT_step {k : Int} {i : Nat} {fs : List DF} {f : DF} (hr : Rising fs) (hf : fs[i]? = some f) : updF (f.off k) (offT k i fs) = offT k (i + 1) fs := by
  have hlt := (List.getElem?_eq_some_iff.1 hf).1
  rw [upd_set (f' := f.off k) (rising_names (offT_name k i fs) hr) ((offT_get hlt).trans hf) rfl]
  unfold offT
  rw [List.set_append_right _ _ (by simp; omega), take_snoc' hf, List.map_append]
  have e : fs.drop i = f :: fs.drop (i + 1) := by
    rw [List.drop_eq_getElem_cons hlt, (List.getElem?_eq_some_iff.1 hf).2]
  rw [e]
  simp [Nat.min_eq_left (Nat.le_of_lt hlt)]
end Go.Proofs.Ytfdcibghcncbmaa
