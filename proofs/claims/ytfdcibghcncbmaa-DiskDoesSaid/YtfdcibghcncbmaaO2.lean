/- A region that draws its order, walked in a tree: where two operations that make memory come up together, both ways. -/
import Derived.Test.YtfdcibghcncbmaaO1
namespace Go.Proofs.Ytfdcibghcncbmaa
open Go.RowKit

/-- One order, or two where two come up. -/
inductive Tr where
  | nil
  | soft (i : Nat) (t : Tr)
  | one (i : Nat) (t : Tr)
  | two (i : Nat) (t1 : Tr) (j : Nat) (t2 : Tr)
def Tr.depth : Tr → Nat
  | nil => 0
  | soft _ t => t.depth + 1
  | one _ t => t.depth + 1
  | two _ t1 _ t2 => max t1.depth t2.depth + 1
section
variable {P : Program} {ops : Array Oper} {Q : Exit → Act → World → Prop} {S : World → Prop} {B : Nat → Bool}
def wpTree (P : Program) (ops : Array Oper) (Q : Exit → Act → World → Prop) (S : World → Prop) (B : Nat → Bool) : Tr → Act → World → Prop
  | .nil, a, w => Q .normal a w
  | .soft i t, a, w => ∃ o v, ops[i]? = some o ∧ (if B i = true then YieldsIf P ops S o v a ∧ S w else YieldsIf P ops (fun _ => True) o v a) ∧ wpTree P ops Q S B t (a.put o.dst v) w
  | .one i t, a, w => wpOp P ops Q i (fun a' w' => (B i = true → S w') ∧ wpTree P ops Q S B t a' w') a w
  | .two i t1 j t2, a, w => wpOp P ops Q i (fun a' w' => (B i = true → S w') ∧ wpTree P ops Q S B t1 a' w') a w ∧ wpOp P ops Q j (fun a' w' => (B j = true → S w') ∧ wpTree P ops Q S B t2 a' w') a w
def treeB (ops : Array Oper) (B : Nat → Bool) : Tr → Array Bool → Bool
  | .nil, listed => (Region.ready .any ops listed).isEmpty
  | .soft i t, listed => (Region.ready .any ops listed).contains i && Region.free .any ops listed i && (!B i || (List.range ops.size).all fun j => B j || j == i || listed.getD j true || Region.waitsFor .any ops j i) && treeB ops B t (listed.setIfInBounds i true)
  | .one i t, listed => decide (Region.ready .any ops listed = [i]) && treeB ops B t (listed.setIfInBounds i true)
  | .two i t1 j t2, listed => decide (Region.ready .any ops listed = [i, j]) && treeB ops B t1 (listed.setIfInBounds i true) && treeB ops B t2 (listed.setIfInBounds j true)
theorem wpAnyB_of_tree (hsel : Region.noSelect ops = true) (hQ : ∀ c (a : Act) (d : Option Tmp) (v : Value) w, Q (.panic c) (a.put d v) w → Q (.panic c) a w) :
    ∀ (t : Tr) (f : Nat) (listed : Array Bool) (a : Act) (w : World), t.depth ≤ f → treeB ops B t listed = true → wpTree P ops Q S B t a w → wpAnyB P ops Q S B f listed a w := by
  intro t
  induction t with
  | nil =>
    intro f listed a w _ hB h
    have hr : Region.ready .any ops listed = [] := by simpa [treeB] using hB
    cases f with
    | zero => exact ⟨hr, h⟩
    | succ f => exact ⟨fun _ => h, fun i hi => by rw [hr] at hi; cases hi⟩
  | soft i t ih =>
    intro f listed a w hf hB h
    cases f with
    | zero => simp [Tr.depth] at hf
    | succ f =>
      have hf' : t.depth ≤ f := by simpa [Tr.depth] using hf
      obtain ⟨o, v, ho, hy, h⟩ := h
      simp only [treeB, Bool.and_eq_true, Bool.or_eq_true, Bool.not_eq_true'] at hB
      obtain ⟨⟨⟨h1, h2⟩, h3⟩, h4⟩ := hB
      cases hBi : B i with
      | true =>
        rw [hBi, if_pos rfl] at hy
        have h3' : (List.range ops.size).all (fun j => B j || j == i || listed.getD j true || Region.waitsFor .any ops j i) = true := by
          rcases h3 with h3 | h3
          · rw [hBi] at h3; cases h3
          · exact h3
        refine wpAnyB_first (T := S) ho (Region.noSelect_spec hsel) (fun c a w => hQ c a _ _ w) (fun w h _ => h) f listed a w (fun j hj hne hun hw w' hs => ?_) (Region.free_spec ho h2) (by simpa using h1) hy.1 hy.2 (ih f _ _ _ hf' h4 h)
        have := List.all_eq_true.1 h3' j (List.mem_range.2 hj)
        exact hs (by simpa [hw, hne, hun] using this)
      | false =>
        rw [hBi, if_neg (by simp)] at hy
        exact wpAnyB_first (T := fun _ => True) ho (Region.noSelect_spec hsel) (fun c a w => hQ c a _ _ w) (fun w _ h => by rw [hBi] at h; cases h) f listed a w (fun _ _ _ _ _ _ _ => trivial) (Region.free_spec ho h2) (by simpa using h1) hy trivial (ih f _ _ _ hf' h4 h)
  | one i t ih =>
    intro f listed a w hf hB h
    cases f with
    | zero => simp [Tr.depth] at hf
    | succ f =>
      have hf' : t.depth ≤ f := by simpa [Tr.depth] using hf
      simp only [treeB, Bool.and_eq_true, decide_eq_true_eq] at hB
      refine ⟨fun h0 => (by rw [hB.1] at h0; cases h0), fun j hj => ?_⟩
      rw [hB.1] at hj
      obtain rfl : j = i := by simpa using hj
      exact wpOp_mono (fun a' w' h' => ⟨h'.1, ih f _ a' w' hf' hB.2 h'.2⟩) h
  | two i t1 j t2 ih1 ih2 =>
    intro f listed a w hf hB h
    cases f with
    | zero => simp [Tr.depth] at hf
    | succ f =>
      have hf' : max t1.depth t2.depth ≤ f := by simpa [Tr.depth] using hf
      simp only [treeB, Bool.and_eq_true, decide_eq_true_eq] at hB
      obtain ⟨⟨hr, h1⟩, h2⟩ := hB
      refine ⟨fun h0 => (by rw [hr] at h0; cases h0), fun k hk => ?_⟩
      rw [hr] at hk
      simp only [List.mem_cons, List.not_mem_nil, or_false] at hk
      rcases hk with rfl | rfl
      · exact wpOp_mono (fun a' w' h' => ⟨h'.1, ih1 f _ a' w' (by omega) h1 h'.2⟩) h.1
      · exact wpOp_mono (fun a' w' h' => ⟨h'.1, ih2 f _ a' w' (by omega) h2 h'.2⟩) h.2
theorem wp_region_tree {id : Nat} {a : Act} {w : World} (S : World → Prop) (t : Tr) (ts : List Nat) (hm : P.follows .mixedOrders = true)
    (hB : (Region.noSelect ops && decide (t.depth ≤ ops.size) && treeB ops (outB ts) t (Array.replicate ops.size false)) = true)
    (hQ : ∀ c (a : Act) (d : Option Tmp) (v : Value) w, Q (.panic c) (a.put d v) w → Q (.panic c) a w)
    (h : wpTree P ops Q S (outB ts) t a w.drew) : (Code.region id ops true).wp P Q a w := by
  simp only [Bool.and_eq_true, decide_eq_true_eq] at hB
  exact wp_region_any hm (wpAny_of_B _ _ _ _ (wpAnyB_of_tree hB.1.1 hQ t _ _ a _ hB.1.2 hB.2 h))
theorem wpTree_soft {i : Nat} {t : Tr} {a : Act} {w : World} {o : Oper} {v : Value} (ho : ops[i]? = some o) (hb : B i = true) (hw : Region.wanted o (yielded ops a.tmps) = true)
    (hv : ∀ w', S w' → (execOp a.eval o).run P w' = .ok (.value v) w') (hS : S w) (h : wpTree P ops Q S B t (a.put o.dst v) w) : wpTree P ops Q S B (.soft i t) a w :=
  ⟨o, v, ho, by rw [if_pos hb]; exact ⟨.inl ⟨hw, hv⟩, hS⟩, h⟩
theorem wpTree_free {i : Nat} {t : Tr} {a : Act} {w : World} {o : Oper} {v : Value} (ho : ops[i]? = some o) (hb : B i = false) (hw : Region.wanted o (yielded ops a.tmps) = true)
    (hv : ∀ w', (execOp a.eval o).run P w' = .ok (.value v) w') (h : wpTree P ops Q S B t (a.put o.dst v) w) : wpTree P ops Q S B (.soft i t) a w :=
  ⟨o, v, ho, by rw [if_neg (by simp [hb])]; exact .inl ⟨hw, fun w' _ => hv w'⟩, h⟩
theorem wpTree_off {i : Nat} {t : Tr} {a : Act} {w : World} {o : Oper} (ho : ops[i]? = some o) (hw : Region.wanted o (yielded ops a.tmps) = false)
    (hS : S w) (h : wpTree P ops Q S B t (a.put o.dst undef) w) : wpTree P ops Q S B (.soft i t) a w :=
  ⟨o, undef, ho, by split <;> first | exact ⟨.inr ⟨hw, rfl⟩, hS⟩ | exact .inr ⟨hw, rfl⟩, h⟩
theorem wpTree_hard {i : Nat} {t : Tr} {a : Act} {w : World} {o : Oper} (ho : ops[i]? = some o)
    (h : ∀ K' : Act → World → Prop, Shut (∀ a w, (B i = true → S w) → wpTree P ops Q S B t a w → K' a w) → if Region.wanted o (yielded ops a.tmps) = true then Oper.wp P o a w K' Q else K' (a.put o.dst undef) w) :
    wpTree P ops Q S B (.one i t) a w :=
  wpOp_step ho (fun K' hK => h K' (fun a w hS hW => hK a w ⟨hS, hW⟩))
theorem wpTree_fork {i j : Nat} {t1 t2 : Tr} {a : Act} {w : World} (h1 : wpTree P ops Q S B (.one i t1) a w) (h2 : wpTree P ops Q S B (.one j t2) a w) : wpTree P ops Q S B (.two i t1 j t2) a w := ⟨h1, h2⟩
theorem wpTree_done {a : Act} {w : World} (h : Q .normal a w) : wpTree P ops Q S B .nil a w := h
end
end Go.Proofs.Ytfdcibghcncbmaa
