/- The program's disk: the power goes. -/
import Derived.Test.YtfdcibghcncbmaaD5
import Derived.Test.YtfdcibghcncbmaaO1
namespace Go.Proofs.Ytfdcibghcncbmaa
open Go.RowKit Go.Maps Go.Shelf

theorem oper_append_any {P : Program} (w : World) {o : Oper} {a : Act} {K : Act → World → Prop} {Q : Exit → Act → World → Prop} (s x : Operand) (t : TypeId)
    (ho : o.op = .call { callee := .builtin .append, args := #[s, x], argTypes := #[t, t] }) (base : Nat) (e : TypeId) (z : Value) (size bytes : Nat) (ht : P.underlying t = some (.slice e))
    (hinfo : (P.info? e).map (fun i => (i.zero, i.size, i.bytes)) = some (some z, size, bytes)) (hz : z.cells.size = size) (hs0 : 0 < size)
    (v : Value) (n : Nat) (xs : List Value) (hs : a.eval s = v) (HO : Own w base e size v n xs)
    (ao : Option Addr) (m c : Nat) (news : List Value) (hx : a.eval x = .slice ao m c) (hl : news.length = m * size) (hnews : ∀ j u, news[j]? = some u → ∃ ad, ao = some ad ∧ w.cell? (ad.add j) = some u) (h1 : ∀ u ∈ news, u.oneCell' = true)
    (h63 : n + m ≤ 9223372036854775807) (hbytes : (n + m) * bytes ≤ 140737488355328) (hbase : base ≤ w.heap.size)
    (h : ∀ v' w', Own w' base e size v' (n + m) (xs ++ news) → w.grownBy w' (fp v) → (fp v' = fp v ∨ ∃ g, fp v' = some g ∧ w.heap.size ≤ g) → K (a.put o.dst v') w') :
    Oper.wp P o a w K Q := by
  obtain ⟨v', w', hr, h2, h3, h4⟩ := run_append_any (P := P) w base t o.type e z size bytes ht hinfo hz hs0 v n xs HO ao m c news hl hnews h1 h63 hbytes hbase
  unfold Oper.wp execOp
  simp only [ho, resolve, invoke, builtin, Sem.run_bind, Sem.run_pure, Result.andThen_ok, List.map_toArray, List.map_cons, List.map_nil, hs, hx, hr]
  exact h v' w' h2 h3 h4
theorem bytes_news {w : World} {base : Nat} {A : Option Addr} {c : Nat} {xs : Bs} (h : Own w base 5 1 (.slice A xs.length c) xs.length (bv xs)) : ∀ j u, (bv xs)[j]? = some u → ∃ ad, A = some ad ∧ w.cell? (ad.add j) = some u := h.cells
section
variable {w w1 : World} {base : Nat} {p : PF} {f : DF}
/-- The safe bytes grow, none wait. -/
theorem turn_safe (h : FileP w base p f) (hg : w.grownBy w1 (fp p.v1)) (nm : ByteArray) (v' : Value) (xs : Bs) (ho : Own w1 base 5 1 v' xs.length (bv xs)) (hf : fp v' = fp p.v1 ∨ ∃ g, fp v' = some g ∧ w.heap.size ≤ g) :
    FileP ((w1.setCell ⟨p.blk, 0, none⟩ v').setCell ⟨p.blk, 1, none⟩ (.slice none 0 0)) base ⟨p.blk, v', .slice none 0 0⟩ ⟨nm, xs, []⟩ ∧
      (∀ k, (PF.mk p.blk v' (.slice none 0 0)).has k → p.has k ∨ w.heap.size ≤ k) ∧
      (∀ k, k < w.heap.size → ¬ p.has k → ((w1.setCell ⟨p.blk, 0, none⟩ v').setCell ⟨p.blk, 1, none⟩ (.slice none 0 0)).heap[k]? = w.heap[k]?) := by
  have hb : w1.heap[p.blk]? = some (.cells #[p.v1, p.v2] 57 (0, 0)) := (hg.block _ (blk_lt h.blk) (fun e => h.blk_ne.1 e.symm)).trans h.blk
  have hne : ∀ k, fp v' = some k → k ≠ p.blk := by
    intro k hk e
    subst e
    obtain ⟨cur, hc⟩ := ho.typed hk
    rw [hb] at hc
    injection hc with hc
    injection hc with _ hc
    exact absurd hc (by decide)
  refine ⟨⟨h.lo, blk_set (blk_set hb 0 v') 1 _, ho.move fun k hk => ?_, by simpa [bv] using Own.none_ _ _ _ _ none, fun k _ => by simp [fp]⟩, ?_, ?_⟩
  · rw [Below.heap_setCell _ ⟨p.blk, 1, none⟩ _ k (hne k hk), Below.heap_setCell _ ⟨p.blk, 0, none⟩ _ k (hne k hk)]
  · rintro k (rfl | hk | hk)
    · exact .inl (.inl rfl)
    · rcases hf with hf | ⟨g, hf, hge⟩
      · rw [show fp (PF.mk p.blk v' (.slice none 0 0)).v1 = fp v' from rfl, hf] at hk; exact .inl (.inr (.inl hk))
      · rw [show fp (PF.mk p.blk v' (.slice none 0 0)).v1 = fp v' from rfl, hf] at hk; injection hk with hk; exact .inr (by omega)
    · simp [fp] at hk
  · intro k hk hn
    have e1 : k ≠ p.blk := fun e => hn (.inl e)
    rw [Below.heap_setCell _ ⟨p.blk, 1, none⟩ _ k e1, Below.heap_setCell _ ⟨p.blk, 0, none⟩ _ k e1]
    exact hg.block k hk fun e => hn (.inr (.inl e.symm))
end
theorem ranges_far {w : World} {mb r n cnt : Nat} {D : DataW Unit} {left : Lit → Bool} (h : w.ranges Try.prog 9 ptrR mb r n D left cnt) {b : Nat} {cs : Array Value} {t : TypeId} {m : Nat × Nat} (hb : w.heap[b]? = some (.cells cs t m)) : b ≠ mb ∧ b ≠ r := by
  obtain ⟨es, clock, since, seen, c0, h1, _, _, _, h2, _⟩ := h
  constructor
  · rintro rfl; rw [hb] at h1; cases h1
  · rintro rfl; rw [hb] at h2; cases h2
/-- Those that have come are off. -/
def offL (left : Lit → Bool) (k : Int) (fs : List DF) : List DF := fs.map fun f => if left (kL f.name) then f else f.off k
theorem offL_name (left : Lit → Bool) (k : Int) (f : DF) : (if left (kL f.name) then f else f.off k).name = f.name := by split <;> rfl
theorem offL_rising {left : Lit → Bool} {k : Int} {fs : List DF} (h : Rising fs) : Rising (offL left k fs) := rising_map _ (offL_name left k) h
theorem offL_start {D : DataW Unit} {fs : List DF} {g : ByteArray → PF} (h : MapIs D fs g) (hr : Rising fs) (k : Int) : offL (Maps.has D) k fs = fs := by
  unfold offL
  refine (List.map_congr_left (g := id) fun f hf => ?_).trans (List.map_id fs)
  rw [h.has, findF_mem hr hf]; rfl
theorem offL_end {left : Lit → Bool} (h : ∀ kl, left kl = false) (k : Int) (fs : List DF) : offL left k fs = fs.map (DF.off k) := by
  unfold offL
  refine List.map_congr_left fun f hf => ?_
  rw [h]; rfl
theorem offL_mem {left : Lit → Bool} {k : Int} {fs : List DF} {f : DF} (hf : f ∈ offL left k fs) (hl : left (kL f.name) = true) : f ∈ fs := by
  obtain ⟨x, hx, rfl⟩ := List.mem_map.1 hf
  rw [offL_name] at hl
  rw [if_pos hl]
  exact hx
theorem offL_step {left : Lit → Bool} {k : Int} {fs : List DF} (hr : Rising fs) {f : DF} (hf : f ∈ fs) (hl : left (kL f.name) = true) :
    updF (f.off k) (offL left k fs) = offL (fun z => left z && !z.sameKey (kL f.name)) k fs := by
  unfold updF offL
  rw [List.map_map]
  refine List.map_congr_left fun x hx => ?_
  show (if neq (if left (kL x.name) then x else x.off k).name f.name = true then f.off k else (if left (kL x.name) then x else x.off k)) = _
  rw [offL_name]
  simp only [sameK]
  cases hn : neq x.name f.name with
  | true =>
    have := rising_mem hr hx hf ((neq_iff _ _).1 hn)
    rw [this, hl]; rfl
  | false => simp
theorem off_len (k : Int) (f : DF) : (f.off k).len ≤ f.len := by
  unfold DF.off DF.len
  simp
  omega
end Go.Proofs.Ytfdcibghcncbmaa
