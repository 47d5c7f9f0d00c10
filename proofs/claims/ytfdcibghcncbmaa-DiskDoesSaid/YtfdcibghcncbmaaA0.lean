/- Memory: rows of the call's own (also empty ones without capacity, wherever they lie), append onto them, reading. -/
import Derived.Test.YtfdcibghcncbmaaRows
import Derived.WalkKit
import Derived.WalkSpells
import Derived.WalkLawsBesides
import Derived.Deep.QuietTactic
import Derived.BigQuiet
import Derived.Maps.AppendAt
import Derived.Lib.Hide
import Derived.ArgAppend
namespace Go.Proofs.Ytfdcibghcncbmaa
open Go.RowKit

def I64 (x : Int) : Prop := -9223372036854775808 ≤ x ∧ x ≤ 9223372036854775807

theorem cell_below {w w1 : World} (h : Below w.heap.size w w1) {a : Addr} {v : Value} (hc : w.cell? a = some v) : w1.cell? a = some v :=
  (h.cell (World.block_lt_of_cell? w a hc)).trans hc
theorem below_drewN' {B : Nat} {w W : World} (h : Below B w W) (n : Nat) : Below B w (W.drewN n) := ⟨h.os, h.tape, h.output, h.size, h.block⟩
/-- What follows turns only what came behind w1. -/
theorem below_then {B : Nat} {w w1 w2 : World} (h : Below B w w1) (hB : B ≤ w1.heap.size) (k : Below w1.heap.size w1 w2) : Below B w w2 := h.trans (k.mono hB)
theorem below_next {w w1 w2 : World} (h : Below w.heap.size w w1) (k : Below w1.heap.size w1 w2) : Below w.heap.size w w2 := below_then h h.size k
theorem below_al {w w1 : World} (h : Below w.heap.size w w1) (o : Obj) : Below w.heap.size w (w1.alloc o) := h.alloc h.size o
theorem grown_below {w w1 : World} (h : w.grownBy w1 none) : Below w.heap.size w w1 := ⟨h.os, h.tape, h.output, h.size, fun k hk => h.block k hk (by simp)⟩
theorem below_grown' {w w1 : World} (h : Below w.heap.size w w1) (row : Option Nat) : w.grownBy w1 row := ⟨h.os, h.tape, h.output, h.size, fun i hi _ => h.block i hi⟩
theorem bcell {W w1 : World} (hb : Below W.heap.size W w1) : (∀ b o, b < W.heap.size → w1.cell? ⟨b, o, none⟩ = W.cell? ⟨b, o, none⟩) ∧ (∀ b o, b < W.heap.size → w1.frozen? ⟨b, o, none⟩ = W.frozen? ⟨b, o, none⟩) :=
  ⟨fun b o h => hb.cell (p := ⟨b, o, none⟩) h, fun b o h => hb.frozen (p := ⟨b, o, none⟩) h⟩
theorem add_fld (ad : Addr) (m j : Nat) (hj : 0 < j) : ad.add (m + j) = ⟨(ad.add m).block, (ad.add m).off + j, none⟩ := by
  unfold Addr.add
  by_cases hm : m = 0
  · subst hm
    simp [Nat.ne_of_gt hj]
  · simp [hm, Nat.add_assoc]
theorem add_at (g j : Nat) : (⟨g, 0, none⟩ : Addr).add j = ⟨g, j, none⟩ := by unfold Addr.add; split <;> simp_all

/-! ### rows of the call's own -/
/-- The block that a slice may be written into: none if it has no capacity. -/
def fp : Value → Option Nat
  | .slice (some a) _ c => if c = 0 then none else some a.block
  | _ => none

/-- v: n elements of sz cells each (type e), whose cells are xs; its row begins a block of its own from base on, or it is empty and has no capacity. -/
def Own (w : World) (base e sz : Nat) (v : Value) (n : Nat) (xs : List Value) : Prop :=
  xs.length = n * sz ∧ ((n = 0 ∧ ∃ A, v = .slice A 0 0) ∨
    ∃ g cap cur, v = .slice (some ⟨g, 0, none⟩) n cap ∧ 0 < cap ∧ base ≤ g ∧ w.heap[g]? = some (.cells cur e (0, 0)) ∧ n ≤ cap ∧ cap ≤ maxLen ∧ cur.size = cap * sz ∧ cur.toList.take (n * sz) = xs)

theorem Own.none_ (w : World) (base e sz : Nat) (A : Option Addr) : Own w base e sz (.slice A 0 0) 0 [] := ⟨by simp, .inl ⟨rfl, A, rfl⟩⟩
theorem Own.of_row {w : World} {base e sz : Nat} {v : Value} {n : Nat} {xs : List Value} (h : w.ownsRow base e sz v n xs) : Own w base e sz v n xs := by
  refine ⟨h.1, ?_⟩
  rcases h.2 with ⟨rfl, rfl⟩ | ⟨g, cap, cur, rfl, h1, h2, h3, h4, h5, h6⟩
  · exact .inl ⟨rfl, none, rfl⟩
  · rcases Nat.eq_zero_or_pos cap with h0 | h0
    · subst h0
      exact .inl ⟨by omega, _, by rw [show n = 0 by omega]⟩
    · exact .inr ⟨g, cap, cur, rfl, h0, h1, h2, h3, h4, h5, h6⟩
theorem Own.row {w : World} {base e sz : Nat} {g n cap : Nat} {cur : Array Value} {xs : List Value} (hl : xs.length = n * sz) (h1 : base ≤ g) (h2 : w.heap[g]? = some (.cells cur e (0, 0))) (h3 : n ≤ cap) (h4 : cap ≤ maxLen)
    (h5 : cur.size = cap * sz) (h6 : cur.toList.take (n * sz) = xs) : w.ownsRow base e sz (.slice (some ⟨g, 0, none⟩) n cap) n xs := ⟨hl, .inr ⟨g, cap, cur, rfl, h1, h2, h3, h4, h5, h6⟩⟩
theorem Own.lower {w : World} {base base' e sz : Nat} {v : Value} {n : Nat} {xs : List Value} (h : Own w base e sz v n xs) (hb : base' ≤ base) : Own w base' e sz v n xs := by
  refine ⟨h.1, ?_⟩
  rcases h.2 with h' | ⟨g, cap, cur, rfl, h0, h1, h2⟩
  · exact .inl h'
  · exact .inr ⟨g, cap, cur, rfl, h0, by omega, h2⟩
theorem Own.move {w w1 : World} {base e sz : Nat} {v : Value} {n : Nat} {xs : List Value} (h : Own w base e sz v n xs) (hm : ∀ k, fp v = some k → w1.heap[k]? = w.heap[k]?) : Own w1 base e sz v n xs := by
  refine ⟨h.1, ?_⟩
  rcases h.2 with h' | ⟨g, cap, cur, rfl, h0, h1, h2, h3⟩
  · exact .inl h'
  · exact .inr ⟨g, cap, cur, rfl, h0, h1, (hm g (by simp [fp]; omega)).trans h2, h3⟩
theorem Own.lt {w : World} {base e sz : Nat} {v : Value} {n : Nat} {xs : List Value} (h : Own w base e sz v n xs) {k : Nat} (hk : fp v = some k) : base ≤ k ∧ k < w.heap.size := by
  rcases h.2 with ⟨_, A, rfl⟩ | ⟨g, cap, cur, rfl, h0, h1, h2, h3⟩
  · cases A <;> simp [fp] at hk
  · simp [fp] at hk
    obtain ⟨_, rfl⟩ := hk
    exact ⟨h1, (Array.getElem?_eq_some_iff.1 h2).1⟩
theorem Own.typed {w : World} {base e sz : Nat} {v : Value} {n : Nat} {xs : List Value} (h : Own w base e sz v n xs) {k : Nat} (hk : fp v = some k) : ∃ cur, w.heap[k]? = some (.cells cur e (0, 0)) := by
  rcases h.2 with ⟨_, A, rfl⟩ | ⟨g, cap, cur, rfl, h0, h1, h2, h3⟩
  · cases A <;> simp [fp] at hk
  · simp [fp] at hk
    obtain ⟨_, rfl⟩ := hk
    exact ⟨cur, h2⟩
theorem Own.below {w w1 : World} {base e sz : Nat} {v : Value} {n : Nat} {xs : List Value} (h : Own w base e sz v n xs) (hb : Below w.heap.size w w1) : Own w1 base e sz v n xs :=
  h.move fun k hk => hb.block k (h.lt hk).2
theorem Own.grown {w w1 : World} {base e sz : Nat} {v : Value} {n : Nat} {xs : List Value} {row : Option Nat} (h : Own w base e sz v n xs) (hg : w.grownBy w1 row) (hne : ∀ k, fp v = some k → row ≠ some k) : Own w1 base e sz v n xs :=
  h.move fun k hk => hg.block k (h.lt hk).2 (fun e => hne k hk e.symm)
theorem Own.slice_ {w : World} {base e sz : Nat} {v : Value} {n : Nat} {xs : List Value} (h : Own w base e sz v n xs) : ∃ A c, v = .slice A n c ∧ n ≤ c := by
  rcases h.2 with ⟨rfl, A, rfl⟩ | ⟨g, cap, cur, rfl, h0, h1, h2, h3, _⟩
  · exact ⟨A, 0, rfl, Nat.le_refl _⟩
  · exact ⟨_, cap, rfl, h3⟩
/-- An owned row of at least one element. -/
theorem Own.form {w : World} {base e sz : Nat} {v : Value} {n : Nat} {xs : List Value} (h : Own w base e sz v n xs) (hn : 0 < n) :
    ∃ g cap, v = .slice (some ⟨g, 0, none⟩) n cap ∧ 0 < cap ∧ base ≤ g ∧ n ≤ cap ∧ w.ownsRow base e sz (.slice (some ⟨g, 0, none⟩) n cap) n xs := by
  rcases h.2 with ⟨rfl, A, rfl⟩ | ⟨g, cap, cur, rfl, h0, h1, h2, h3, h4, h5, h6⟩
  · omega
  · exact ⟨g, cap, rfl, h0, h1, h3, Own.row h.1 h1 h2 h3 h4 h5 h6⟩
theorem Own.cells {w : World} {base e sz : Nat} {A : Option Addr} {c : Nat} {n : Nat} {xs : List Value} (h : Own w base e sz (.slice A n c) n xs) : ∀ j u, xs[j]? = some u → ∃ ad, A = some ad ∧ w.cell? (ad.add j) = some u := by
  intro j u hj
  rcases Nat.eq_zero_or_pos n with h0 | h0
  · subst h0
    have := h.1
    rw [Nat.zero_mul] at this
    rw [List.eq_nil_of_length_eq_zero this] at hj
    simp at hj
  · obtain ⟨g, cap, he, _, _, _, ho⟩ := h.form h0
    injection he with e1 e2 e3
    subst e1
    exact ⟨_, rfl, ho.cells rfl j u hj⟩
theorem Own.small {w : World} {base e sz : Nat} {v : Value} {n : Nat} {xs : List Value} (h : Own w base e sz v n xs) : n ≤ 9223372036854775807 := by
  rcases h.2 with ⟨rfl, _⟩ | ⟨g, cap, cur, rfl, h0, h1, h2, h3, h4, _⟩
  · omega
  · simp only [maxLen] at h4; omega
/-- A store into an owned row. -/
theorem Own.stored {w : World} {base e sz : Nat} {g n cap : Nat} {xs : List Value} (h : Own w base e sz (.slice (some ⟨g, 0, none⟩) n cap) n xs) (hn : 0 < n) (j : Nat) (u : Value) :
    Own (w.setCell ⟨g, j, none⟩ u) base e sz (.slice (some ⟨g, 0, none⟩) n cap) n (xs.set j u) := by
  obtain ⟨g', cap', he, _, _, _, ho⟩ := h.form hn
  injection he with e1 e2 e3
  injection e1 with e1
  injection e1 with e1
  subst e1; subst e3
  exact Own.of_row (ho.stored j u).1
theorem Own.frozen {w : World} {base e sz : Nat} {g n cap : Nat} {xs : List Value} (h : Own w base e sz (.slice (some ⟨g, 0, none⟩) n cap) n xs) (hn : 0 < n) (j : Nat) : w.frozen? ⟨g, j, none⟩ = false := by
  obtain ⟨g', cap', he, _, _, _, ho⟩ := h.form hn
  injection he with e1 e2 e3
  injection e1 with e1
  injection e1 with e1
  subst e1; subst e3
  exact ho.frozenAt j

/-! ### append -/
section
variable {P : Program}
theorem run_append_zero (w : World) (t ty e : TypeId) (i : TypeInfo) (ht : P.underlying t = some (.slice e)) (hi : P.info? e = some i) (A ao : Option Addr) (n c c' : Nat) (hn : n ≤ c) :
    (Builtin.append_ #[t, t] ty #[.slice A n c, .slice ao 0 c']).run P w = .ok (.slice A n c) w := by
  cases ao with
  | none => cases A <;> simp [Builtin.append_, run_underlying ht, sizeOf, typeInfo, hi, Builtin.lenOf, Builtin.firstCells, hn, storeCells]
  | some ad =>
    have hf := run_firstCells_some (P := P) w i.size 0 ad 0 c' [] (by simp) (by simp)
    cases A <;> simp [Builtin.append_, run_underlying ht, sizeOf, typeInfo, hi, Builtin.lenOf, hf, hn, storeCells]
/-- append onto a row of the call's own (or an empty slice without capacity), whatever comes behind. -/
theorem run_append_any (w : World) (base : Nat) (t ty e : TypeId) (z : Value) (size bytes : Nat) (ht : P.underlying t = some (.slice e)) (hinfo : (P.info? e).map (fun i => (i.zero, i.size, i.bytes)) = some (some z, size, bytes))
    (hz : z.cells.size = size) (hs0 : 0 < size) (v : Value) (n : Nat) (xs : List Value) (HO : Own w base e size v n xs)
    (ao : Option Addr) (m c : Nat) (news : List Value) (hl : news.length = m * size) (hnews : ∀ j u, news[j]? = some u → ∃ ad, ao = some ad ∧ w.cell? (ad.add j) = some u) (h1 : ∀ u ∈ news, u.oneCell' = true)
    (h63 : n + m ≤ 9223372036854775807) (hbytes : (n + m) * bytes ≤ 140737488355328) (hbase : base ≤ w.heap.size) :
    ∃ v' w', (Builtin.append_ #[t, t] ty #[v, .slice ao m c]).run P w = .ok v' w' ∧ Own w' base e size v' (n + m) (xs ++ news) ∧ w.grownBy w' (fp v) ∧ (fp v' = fp v ∨ ∃ g, fp v' = some g ∧ w.heap.size ≤ g) := by
  obtain ⟨i0, hi, hzz⟩ := Option.map_eq_some_iff.1 hinfo
  simp only [Prod.mk.injEq] at hzz
  obtain ⟨hz0, hz1, hz2⟩ := hzz
  have h63' : n + m ≤ maxLen := by simp only [maxLen]; omega
  rcases Nat.eq_zero_or_pos m with hm | hm
  · subst hm
    obtain rfl : news = [] := List.eq_nil_of_length_eq_zero (by simpa using hl)
    obtain ⟨A, c0, rfl, hc0⟩ := HO.slice_
    exact ⟨_, w, run_append_zero w t ty e i0 ht hi A ao n c0 c hc0, by simpa using HO, World.grownBy.refl _ _, .inl rfl⟩
  · have hnl : 0 < news.length := by rw [hl]; exact Nat.mul_pos hm hs0
    obtain ⟨ad, rfl, _⟩ := hnews 0 _ (List.getElem?_eq_getElem hnl)
    have hnews' : ∀ j u, news[j]? = some u → w.cell? (ad.add j) = some u := fun j u hj => by
      obtain ⟨ad', he, hc⟩ := hnews j u hj
      injection he with he
      rw [he]
      exact hc
    rcases HO.2 with ⟨rfl, A, rfl⟩ | ⟨g, cap, cur, rfl, h0, h2, h3, h4, h5, h6, h7⟩
    · obtain rfl : xs = [] := List.eq_nil_of_length_eq_zero (by simpa using HO.1)
      have hnone : fp (Value.slice A 0 0) = none := by cases A <;> simp [fp]
      cases A with
      | none =>
        obtain ⟨v', w', hr, ho, hg, _⟩ := run_append_own (P := P) w w.heap.size t ty e i0 z size bytes ht hi hz0 hz1 hz2 hz hs0 (.slice none 0 0) 0 [] (World.ownsRow_nil w _ e size) ad m c news hl hnews' h1 h63' hbytes (Nat.le_refl _)
        refine ⟨v', w', hr, (Own.of_row ho).lower hbase, hnone ▸ hg, ?_⟩
        cases hf : fp v' with
        | none => exact .inl hnone.symm
        | some k => exact .inr ⟨k, rfl, ((Own.of_row ho).lt hf).1⟩
      | some b =>
        obtain ⟨v', w', hr, ho, hg⟩ := run_append_arg_grows (P := P) w t ty e i0 z size bytes ht hi hz0 hz1 hz2 hz hs0 b 0 0 [] (by simp) (by simp) ad m c news hl hnews' (by omega) h63' hbytes
        refine ⟨v', w', hr, (Own.of_row ho).lower hbase, hnone ▸ hg, ?_⟩
        cases hf : fp v' with
        | none => exact .inl hnone.symm
        | some k => exact .inr ⟨k, rfl, ((Own.of_row ho).lt hf).1⟩
    · obtain ⟨v', w', hr, ho, hg, _, hat⟩ := run_append_own_at (P := P) w base t ty e i0 z size bytes ht hi hz0 hz1 hz2 hz hs0 _ n xs (Own.row HO.1 h2 h3 h4 h5 h6 h7) ad m c news hl hnews' h1 h63' hbytes hbase
      have hfv : fp (Value.slice (some ⟨g, 0, none⟩) n cap) = some g := by simp [fp]; omega
      refine ⟨v', w', hr, Own.of_row ho, by rw [hfv]; exact hg, ?_⟩
      rw [hfv]
      cases hf : fp v' with
      | none =>
        exfalso
        obtain ⟨g', cap', he, hc', _⟩ := (Own.of_row ho).form (by omega)
        rw [he] at hf
        simp [fp] at hf
        omega
      | some k =>
        have hob : v'.ownBlock = some k := by
          obtain ⟨g', cap', he, hc', _⟩ := (Own.of_row ho).form (by omega)
          rw [he] at hf ⊢
          simp [fp] at hf
          simp [Value.ownBlock, hf.2]
        rw [hob] at hat
        rcases hat with hat | hat
        · exact .inl hat
        · injection hat with hat
          exact .inr ⟨k, rfl, by omega⟩

theorem wpList_append_any (w : World) {ops : Array Oper} {rest : List Oper} {o : Oper} {a : Act} {Q : Exit → Act → World → Prop} (hgd : o.guard = none) (s x : Operand) (t : TypeId)
    (ho : o.op = .call { callee := .builtin .append, args := #[s, x], argTypes := #[t, t] }) (base : Nat) (e : TypeId) (z : Value) (size bytes : Nat) (ht : P.underlying t = some (.slice e))
    (hinfo : (P.info? e).map (fun i => (i.zero, i.size, i.bytes)) = some (some z, size, bytes)) (hz : z.cells.size = size) (hs0 : 0 < size)
    (v : Value) (n : Nat) (xs : List Value) (hs : a.eval s = v) (HO : Own w base e size v n xs)
    (ao : Option Addr) (m c : Nat) (news : List Value) (hx : a.eval x = .slice ao m c) (hl : news.length = m * size) (hnews : ∀ j u, news[j]? = some u → ∃ ad, ao = some ad ∧ w.cell? (ad.add j) = some u) (h1 : ∀ u ∈ news, u.oneCell' = true)
    (h63 : n + m ≤ 9223372036854775807) (hbytes : (n + m) * bytes ≤ 140737488355328) (hbase : base ≤ w.heap.size)
    (h : ∀ v' w', Own w' base e size v' (n + m) (xs ++ news) → w.grownBy w' (fp v) → (fp v' = fp v ∨ ∃ g, fp v' = some g ∧ w.heap.size ≤ g) → wpList P ops Q rest (a.put o.dst v') w') :
    wpList P ops Q (o :: rest) a w := by
  refine wpList_plain hgd fun K hK => ?_
  obtain ⟨v', w', hr, h2, h3, h4⟩ := run_append_any (P := P) w base t o.type e z size bytes ht hinfo hz hs0 v n xs HO ao m c news hl hnews h1 h63 hbytes hbase
  unfold Oper.wp execOp
  simp only [ho, resolve, invoke, builtin, Sem.run_bind, Sem.run_pure, Result.andThen_ok, List.map_toArray, List.map_cons, List.map_nil, hs, hx, hr]
  exact hK _ _ (h v' w' h2 h3 h4)
end
end Go.Proofs.Ytfdcibghcncbmaa
