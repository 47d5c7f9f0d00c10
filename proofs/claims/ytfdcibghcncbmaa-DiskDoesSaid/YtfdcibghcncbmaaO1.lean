/- A region that draws its order, walked once: the loads where they stand, the calls in their chain; behind the stores at its end nothing is asked. -/
import Derived.Test.YtfdcibghcncbmaaB0
import Derived.Deep.RegionHeld3
import Derived.StillTail
namespace Go.Proofs.Ytfdcibghcncbmaa
open Go.RowKit

section
variable {P : Program} {ops : Array Oper} {Q : Exit → Act → World → Prop} {S : World → Prop} {B : Nat → Bool}

/-- Whatever order is picked, and S holds behind every operation that B names. -/
def wpAnyB (P : Program) (ops : Array Oper) (Q : Exit → Act → World → Prop) (S : World → Prop) (B : Nat → Bool) : Nat → Array Bool → Act → World → Prop
  | 0, listed, a, w => Region.ready .any ops listed = [] ∧ Q .normal a w
  | f + 1, listed, a, w => (Region.ready .any ops listed = [] → Q .normal a w) ∧
      ∀ i ∈ Region.ready .any ops listed, wpOp P ops Q i (fun a' w' => (B i = true → S w') ∧ wpAnyB P ops Q S B f (listed.setIfInBounds i true) a' w') a w
theorem wpAny_of_B : ∀ (f : Nat) (listed : Array Bool) (a : Act) (w : World), wpAnyB P ops Q S B f listed a w → wpAny P .any ops Q f listed a w
  | 0, _, _, _, h => h
  | f + 1, _, _, _, h => ⟨h.1, fun i hi => wpOp_mono (fun a' w' h' => wpAny_of_B f _ a' w' h'.2) (h.2 i hi)⟩
theorem wpAnyB_first {T : World → Prop} {i : Nat} {oi : Oper} {v : Value} (hi : ops[i]? = some oi) (hsel : ∀ (j : Nat) (o : Oper) cs b, ops[j]? = some o → o.op ≠ .select cs b)
    (hQ : ∀ c a w, Q (.panic c) (a.put oi.dst v) w → Q (.panic c) a w) (hi2 : ∀ w, T w → B i = true → S w) :
    ∀ (f : Nat) (listed : Array Bool) (a : Act) (w : World), (∀ j, j < ops.size → j ≠ i → listed.getD j true = false → Region.waitsFor .any ops j i = false → ∀ w', (B j = true → S w') → T w') →
      (∀ j oj, ops[j]? = some oj → j ≠ i → listed.getD j true = false → (∀ e ∈ oj.after, Region.binds .any e = true → e.on ≠ i) → oi.apart ops oj = true) →
      i ∈ Region.ready .any ops listed → YieldsIf P ops T oi v a → T w →
      wpAnyB P ops Q S B f (listed.setIfInBounds i true) (a.put oi.dst v) w → wpAnyB P ops Q S B (f + 1) listed a w := by
  intro f
  induction f with
  | zero =>
    intro listed a w _ _ hr hy hS H
    refine ⟨fun h => (by rw [h] at hr; cases hr), fun j hj => ?_⟩
    by_cases hji : j = i
    · subst hji; exact hy.wpOp hi hS ⟨hi2 w hS, H⟩
    · have := ready_mono hj hji
      rw [H.1] at this
      cases this
  | succ f ih =>
    intro listed a w hT hfree hr hy hS H
    refine ⟨fun h => (by rw [h] at hr; cases hr), fun j hj => ?_⟩
    by_cases hji : j = i
    · subst hji; exact hy.wpOp hi hS ⟨hi2 w hS, H⟩
    · have h1 := H.2 j (ready_mono hj hji)
      obtain ⟨hjun, oj, hoj, hall⟩ := mem_ready.1 hj
      have hnot : ∀ e ∈ oj.after, Region.binds .any e = true → e.on ≠ i := fun e he hb heq => by
        have h1 := hall e he hb
        have h0 := (mem_ready.1 hr).1
        rw [heq, getD_both h0] at h1
        cases h1
      have hwj : Region.waitsFor .any ops j i = false := by
        cases hb : Region.waitsFor .any ops j i with
        | false => rfl
        | true =>
          exfalso
          obtain ⟨oj', hoj', e, he, hb', hon⟩ := Region.waitsFor_spec hb
          have : oj' = oj := Option.some.inj (hoj'.symm.trans hoj)
          subst this
          exact hnot e he hb' hon
      have h2 := wpOp_putIf hoj (hfree j oj hoj hji hjun hnot) (fun cs b => hsel i oi cs b hi) (fun cs b => hsel j oj cs b hoj) hQ hy h1
      have hfree' : ∀ k ok, ops[k]? = some ok → k ≠ i → (listed.setIfInBounds j true).getD k true = false →
          (∀ e ∈ ok.after, Region.binds .any e = true → e.on ≠ i) → oi.apart ops ok = true := fun k ok hk hki hun hno => by
        refine hfree k ok hk hki ?_ hno
        by_cases hjk : j = k
        · subst hjk; exact hjun
        · rw [getD_set_ne true hjk] at hun; exact hun
      have hT' : ∀ k, k < ops.size → k ≠ i → (listed.setIfInBounds j true).getD k true = false → Region.waitsFor .any ops k i = false → ∀ w', (B k = true → S w') → T w' := fun k hk hki hun => by
        refine hT k hk hki ?_
        by_cases hjk : j = k
        · subst hjk; exact hjun
        · rw [getD_set_ne true hjk] at hun; exact hun
      refine wpOp_mono (fun a' w' h3 => ⟨h3.2.1, ih (listed.setIfInBounds j true) a' w' hT' hfree' (ready_mono hr (Ne.symm hji)) h3.1 (hT j (Array.getElem?_eq_some_iff.1 hoj).1 hji hjun hwj w' h3.2.1) ?_⟩) h2
      rw [Array.setIfInBounds_comm _ _ hji]
      exact h3.2.2

/-- One order: those marked 'true' only read; the others come up alone. -/
def wpOrd (P : Program) (ops : Array Oper) (Q : Exit → Act → World → Prop) (S : World → Prop) (B : Nat → Bool) : List (Nat × Bool) → Act → World → Prop
  | [], a, w => Q .normal a w
  | (i, true) :: rest, a, w => ∃ o v, ops[i]? = some o ∧ (if B i = true then YieldsIf P ops S o v a ∧ S w else YieldsIf P ops (fun _ => True) o v a) ∧ wpOrd P ops Q S B rest (a.put o.dst v) w
  | (i, false) :: rest, a, w => wpOp P ops Q i (fun a' w' => (B i = true → S w') ∧ wpOrd P ops Q S B rest a' w') a w
def ordB (ops : Array Oper) (B : Nat → Bool) : List (Nat × Bool) → Array Bool → Bool
  | [], listed => (Region.ready .any ops listed).isEmpty
  | (i, true) :: rest, listed => (Region.ready .any ops listed).contains i && Region.free .any ops listed i && (!B i || (List.range ops.size).all fun j => B j || j == i || listed.getD j true || Region.waitsFor .any ops j i) && ordB ops B rest (listed.setIfInBounds i true)
  | (i, false) :: rest, listed => decide (Region.ready .any ops listed = [i]) && ordB ops B rest (listed.setIfInBounds i true)
theorem wpAnyB_of_ord (hsel : Region.noSelect ops = true) (hQ : ∀ c (a : Act) (d : Option Tmp) (v : Value) w, Q (.panic c) (a.put d v) w → Q (.panic c) a w) :
    ∀ (ord : List (Nat × Bool)) (f : Nat) (listed : Array Bool) (a : Act) (w : World), ord.length ≤ f → ordB ops B ord listed = true → wpOrd P ops Q S B ord a w → wpAnyB P ops Q S B f listed a w := by
  intro ord
  induction ord with
  | nil =>
    intro f listed a w _ hB h
    have hr : Region.ready .any ops listed = [] := by simpa [ordB] using hB
    cases f with
    | zero => exact ⟨hr, h⟩
    | succ f => exact ⟨fun _ => h, fun i hi => by rw [hr] at hi; cases hi⟩
  | cons x rest ih =>
    obtain ⟨i, b⟩ := x
    intro f listed a w hf hB h
    cases f with
    | zero => simp at hf
    | succ f =>
      have hf' : rest.length ≤ f := by simpa using hf
      cases b with
      | true =>
        obtain ⟨o, v, ho, hy, h⟩ := h
        simp only [ordB, Bool.and_eq_true, Bool.or_eq_true, Bool.not_eq_true'] at hB
        obtain ⟨⟨⟨h1, h2⟩, h3⟩, h4⟩ := hB
        cases hBi : B i with
        | true =>
          rw [hBi, if_pos rfl] at hy
          have h3' : (List.range ops.size).all (fun j => B j || j == i || listed.getD j true || Region.waitsFor .any ops j i) = true := by
            rcases h3 with h3 | h3
            · rw [hBi] at h3; cases h3
            · exact h3
          refine wpAnyB_first (T := S) ho (Region.noSelect_spec hsel) (fun c a w => hQ c a _ _ w) (fun w h _ => h) f listed a w (fun j hj hne hun hw w' hs => ?_) (Region.free_spec ho h2) (by simpa using h1) hy.1 hy.2 (ih f _ _ _ hf' h4 h)
          have := List.all_eq_true.1 h3' j (List.mem_range.2 hj)
          exact hs (by simpa [hw, hne, hun] using this)
        | false =>
          rw [hBi, if_neg (by simp)] at hy
          exact wpAnyB_first (T := fun _ => True) ho (Region.noSelect_spec hsel) (fun c a w => hQ c a _ _ w) (fun w _ h => by rw [hBi] at h; cases h) f listed a w (fun _ _ _ _ _ _ _ => trivial) (Region.free_spec ho h2) (by simpa using h1) hy trivial (ih f _ _ _ hf' h4 h)
      | false =>
        simp only [ordB, Bool.and_eq_true, decide_eq_true_eq] at hB
        refine ⟨fun h0 => (by rw [hB.1] at h0; cases h0), fun j hj => ?_⟩
        rw [hB.1] at hj
        obtain rfl : j = i := by simpa using hj
        exact wpOp_mono (fun a' w' h' => ⟨h'.1, ih f _ a' w' hf' hB.2 h'.2⟩) h
def outB (ts : List Nat) (j : Nat) : Bool := !ts.contains j
/-- 'ord': the order (true: it only reads); 'ts': those behind which S is not asked. -/
theorem wp_region_ord {id : Nat} {a : Act} {w : World} (S : World → Prop) (ord : List (Nat × Bool)) (ts : List Nat) (hm : P.follows .mixedOrders = true)
    (hB : (Region.noSelect ops && decide (ord.length ≤ ops.size) && ordB ops (outB ts) ord (Array.replicate ops.size false)) = true)
    (hQ : ∀ c (a : Act) (d : Option Tmp) (v : Value) w, Q (.panic c) (a.put d v) w → Q (.panic c) a w)
    (h : wpOrd P ops Q S (outB ts) ord a w.drew) : (Code.region id ops true).wp P Q a w := by
  simp only [Bool.and_eq_true, decide_eq_true_eq] at hB
  exact wp_region_any hm (wpAny_of_B _ _ _ _ (wpAnyB_of_ord hB.1.1 hQ ord _ _ a _ hB.1.2 hB.2 h))
/-- A reading operation: under S. -/
theorem wpOrd_soft {i : Nat} {rest : List (Nat × Bool)} {a : Act} {w : World} {o : Oper} {v : Value} (ho : ops[i]? = some o) (hb : B i = true) (hw : Region.wanted o (yielded ops a.tmps) = true)
    (hv : ∀ w', S w' → (execOp a.eval o).run P w' = .ok (.value v) w') (hS : S w) (h : wpOrd P ops Q S B rest (a.put o.dst v) w) : wpOrd P ops Q S B ((i, true) :: rest) a w :=
  ⟨o, v, ho, by rw [if_pos hb]; exact ⟨.inl ⟨hw, hv⟩, hS⟩, h⟩
/-- One that asks nothing of the world, in the region's end. -/
theorem wpOrd_free {i : Nat} {rest : List (Nat × Bool)} {a : Act} {w : World} {o : Oper} {v : Value} (ho : ops[i]? = some o) (hb : B i = false) (hw : Region.wanted o (yielded ops a.tmps) = true)
    (hv : ∀ w', (execOp a.eval o).run P w' = .ok (.value v) w') (h : wpOrd P ops Q S B rest (a.put o.dst v) w) : wpOrd P ops Q S B ((i, true) :: rest) a w :=
  ⟨o, v, ho, by rw [if_neg (by simp [hb])]; exact .inl ⟨hw, fun w' _ => hv w'⟩, h⟩
/-- One that is not wanted. -/
theorem wpOrd_off {i : Nat} {rest : List (Nat × Bool)} {a : Act} {w : World} {o : Oper} (ho : ops[i]? = some o) (hw : Region.wanted o (yielded ops a.tmps) = false)
    (hS : S w) (h : wpOrd P ops Q S B rest (a.put o.dst undef) w) : wpOrd P ops Q S B ((i, true) :: rest) a w :=
  ⟨o, undef, ho, by split <;> first | exact ⟨.inr ⟨hw, rfl⟩, hS⟩ | exact .inr ⟨hw, rfl⟩, h⟩
theorem wpOrd_hard {i : Nat} {rest : List (Nat × Bool)} {a : Act} {w : World} {o : Oper} (ho : ops[i]? = some o)
    (h : ∀ K' : Act → World → Prop, Shut (∀ a w, (B i = true → S w) → wpOrd P ops Q S B rest a w → K' a w) → if Region.wanted o (yielded ops a.tmps) = true then Oper.wp P o a w K' Q else K' (a.put o.dst undef) w) :
    wpOrd P ops Q S B ((i, false) :: rest) a w :=
  wpOp_step ho (fun K' hK => h K' (fun a w hS hW => hK a w ⟨hS, hW⟩))
theorem wpOrd_done {a : Act} {w : World} (h : Q .normal a w) : wpOrd P ops Q S B [] a w := h
end
end Go.Proofs.Ytfdcibghcncbmaa
