/- The document's disk: put, drop. -/
import Derived.Test.YtfdcibghcncbmaaE5
namespace Go.Proofs.Ytfdcibghcncbmaa
open Go.RowKit Go.Maps Go.Shelf

/-- One round of 'put'. -/
def putStep (x : DF) (a : List DF × Bool) (f : DF) : List DF × Bool :=
  let a1 := if !a.2 && nlt x.name f.name then a.1 ++ [x] else a.1
  (if neq f.name x.name then a1 else a1 ++ [f], a.2 || nlt x.name f.name)
def putFold (x : DF) (fs : List DF) : List DF × Bool := fs.foldl (putStep x) ([], false)
def putEnd (x : DF) (a : List DF × Bool) : List DF := if a.2 then a.1 else a.1 ++ [x]
theorem put_all (x : DF) : ∀ (fs acc : List DF), (∀ f ∈ fs, nlt x.name f.name = true) → fs.foldl (putStep x) (acc, true) = (acc ++ fs, true) := by
  intro fs
  induction fs with
  | nil => intro acc _; simp
  | cons f r ih =>
    intro acc h
    have h1 := h f (List.mem_cons_self ..)
    rw [List.foldl_cons, show putStep x (acc, true) f = (acc ++ [f], true) by
      unfold putStep; rw [(neq_no _ _).2 (nlt_ne h1).symm]; simp, ih _ fun y hy => h y (List.mem_cons_of_mem _ hy)]
    simp
theorem put_fold (x : DF) : ∀ (fs acc : List DF), Rising fs → putEnd x (fs.foldl (putStep x) (acc, false)) = acc ++ putF x fs := by
  intro fs
  induction fs with
  | nil => intro acc _; rfl
  | cons f r ih =>
    intro acc h
    obtain ⟨h1, h2⟩ := List.pairwise_cons.1 h
    rw [List.foldl_cons]
    cases hx : nlt x.name f.name with
    | true =>
      have hall : ∀ y ∈ f :: r, nlt x.name y.name = true := fun y hy => by
        rcases List.mem_cons.1 hy with rfl | hy
        · exact hx
        · exact nlt_trans hx (h1 y hy)
      rw [show putStep x (acc, false) f = (acc ++ [x] ++ [f], true) by
        unfold putStep; rw [hx, (neq_no _ _).2 (nlt_ne hx).symm]; simp, put_all x r _ fun y hy => hall y (List.mem_cons_of_mem _ hy)]
      have e1 : (f :: r).filter (fun f => nlt f.name x.name) = [] := by
        rw [List.filter_eq_nil_iff]; intro y hy; rw [nlt_asymm (hall y hy)]; simp
      have e2 : (f :: r).filter (fun f => nlt x.name f.name) = f :: r := List.filter_eq_self.2 hall
      unfold putEnd putF
      rw [e1, e2]
      simp
    | false =>
      cases hf : nlt f.name x.name with
      | true =>
        rw [show putStep x (acc, false) f = (acc ++ [f], false) by
          unfold putStep; rw [hx, (neq_no _ _).2 (nlt_ne hf)]; simp, ih _ h2]
        unfold putF
        rw [List.filter_cons, List.filter_cons, hf, hx]
        simp
      | false =>
        have he := nlt_total hf hx
        rw [show putStep x (acc, false) f = (acc, false) by
          unfold putStep; rw [hx, (neq_iff _ _).2 he]; simp, ih _ h2]
        unfold putF
        rw [List.filter_cons, List.filter_cons, hf, hx]
        simp
theorem put_snoc {x : DF} {fs : List DF} {k : Nat} {f : DF} (hf : fs[k]? = some f) : putFold x (fs.take (k + 1)) = putStep x (putFold x (fs.take k)) f := by
  unfold putFold; rw [take_snoc' hf, List.foldl_append]; rfl
theorem put_of {x : DF} {fs : List DF} (h : Rising fs) : putEnd x (putFold x fs) = putF x fs := by
  have := put_fold x fs [] h
  simpa [putFold] using this
theorem put_len (x : DF) : ∀ (fs acc : List DF) (l : Bool), (fs.foldl (putStep x) (acc, l)).1.length ≤ acc.length + fs.length + (if l then 0 else 1) := by
  intro fs
  induction fs with
  | nil => intro acc l; simp
  | cons f r ih =>
    intro acc l
    rw [List.foldl_cons, List.length_cons]
    have h1 := ih (putStep x (acc, l) f).1 (putStep x (acc, l) f).2
    have h2 : (putStep x (acc, l) f).1.length + (if (putStep x (acc, l) f).2 then 0 else 1) ≤ acc.length + 1 + (if l then 0 else 1) := by
      unfold putStep
      cases l <;> cases nlt x.name f.name <;> cases neq f.name x.name <;> simp
    rw [show (putStep x (acc, l) f) = ((putStep x (acc, l) f).1, (putStep x (acc, l) f).2) from rfl]
    omega
theorem put_mem (x : DF) : ∀ (fs acc : List DF) (l : Bool) (y : DF), y ∈ (fs.foldl (putStep x) (acc, l)).1 → y ∈ acc ∨ y = x ∨ (y ∈ fs ∧ y.name ≠ x.name) := by
  intro fs
  induction fs with
  | nil => intro acc l y h; exact .inl h
  | cons f r ih =>
    intro acc l y h
    rw [List.foldl_cons, show (putStep x (acc, l) f) = ((putStep x (acc, l) f).1, (putStep x (acc, l) f).2) from rfl] at h
    rcases ih _ _ y h with h1 | h1 | ⟨h1, h2⟩
    · unfold putStep at h1
      have key : y ∈ acc ∨ y = x ∨ (y = f ∧ f.name ≠ x.name) := by
        have ha : ∀ c : Bool, y ∈ (if c = true then acc ++ [x] else acc) → y ∈ acc ∨ y = x := by
          intro c hc
          cases c
          · exact .inl hc
          · rcases List.mem_append.1 hc with hc | hc
            · exact .inl hc
            · exact .inr (by simpa using hc)
        cases hn : neq f.name x.name with
        | true =>
          rw [hn] at h1
          rcases ha _ h1 with h3 | h3
          · exact .inl h3
          · exact .inr (.inl h3)
        | false =>
          rw [hn] at h1
          have h1 : y ∈ (if (!l && nlt x.name f.name) = true then acc ++ [x] else acc) ++ [f] := h1
          rcases List.mem_append.1 h1 with h3 | h3
          · rcases ha _ h3 with h4 | h4
            · exact .inl h4
            · exact .inr (.inl h4)
          · exact .inr (.inr ⟨by simpa using h3, (neq_no _ _).1 hn⟩)
      rcases key with h3 | h3 | ⟨h3, h4⟩
      · exact .inl h3
      · exact .inr (.inl h3)
      · exact .inr (.inr ⟨by rw [h3]; exact List.mem_cons_self .., by rw [h3]; exact h4⟩)
    · exact .inr (.inl h1)
    · exact .inr (.inr ⟨List.mem_cons_of_mem _ h1, h2⟩)
/-- Where the bytes lie when x has come. -/
def hPut (h : HV) (n : ByteArray) (u : Value × Value) : HV := fun k => if neq k n then u else h k
theorem hPut_same (h : HV) (n : ByteArray) (u : Value × Value) : hPut h n u n = u := by unfold hPut; rw [neq_self]; rfl
theorem hPut_other (h : HV) {n k : ByteArray} (u : Value × Value) (hk : k ≠ n) : hPut h n u k = h k := by unfold hPut; rw [(neq_no _ _).2 hk]; rfl
theorem fC_other (h : HV) {n : ByteArray} (u : Value × Value) {f : DF} (hk : f.name ≠ n) : fC (hPut h n u) f = fC h f := by unfold fC; rw [hPut_other h u hk]
theorem fC_same (h : HV) {x : DF} (u : Value × Value) : fC (hPut h x.name u) x = [.string x.name, u.1, u.2] := by unfold fC; rw [hPut_same]
end Go.Proofs.Ytfdcibghcncbmaa
