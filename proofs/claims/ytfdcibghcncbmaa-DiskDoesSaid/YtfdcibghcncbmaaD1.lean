/- The program's disk in memory, and what turns it. -/
import Derived.Test.YtfdcibghcncbmaaB0
import Derived.Test.YtfdcibghcncbmaaD0
import Derived.Maps.RangeWalk
import Derived.Maps.Ext
import Derived.Maps.OwnOps
import Derived.Maps.OwnSet
namespace Go.Proofs.Ytfdcibghcncbmaa
open Go.RowKit Go.Maps

/-- Blocks of L and new ones alone have turned. -/
structure Chg (L : Nat → Prop) (w w' : World) : Prop where
  os : w'.os = w.os
  tape : w'.tape = w.tape
  output : w'.output = w.output
  size : w.heap.size ≤ w'.heap.size
  block : ∀ k, k < w.heap.size → ¬ L k → w'.heap[k]? = w.heap[k]?
section
variable {L L' M : Nat → Prop} {a b c w w' : World}
theorem Chg.refl (L : Nat → Prop) (w : World) : Chg L w w := ⟨rfl, rfl, rfl, Nat.le_refl _, fun _ _ _ => rfl⟩
theorem Chg.mono (h : Chg L a b) (k : ∀ i, L i → L' i) : Chg L' a b := ⟨h.os, h.tape, h.output, h.size, fun i hi hn => h.block i hi fun hl => hn (k i hl)⟩
theorem Chg.next (h : Chg L a b) (k : Chg L' b c) (hl : ∀ i, L' i → L i ∨ a.heap.size ≤ i) : Chg L a c :=
  ⟨k.os.trans h.os, k.tape.trans h.tape, k.output.trans h.output, Nat.le_trans h.size k.size, fun i hi hn =>
    (k.block i (Nat.lt_of_lt_of_le hi h.size) fun hl' => by rcases hl i hl' with h1 | h1; exact hn h1; omega).trans (h.block i hi hn)⟩
theorem Chg.trans (h : Chg L a b) (k : Chg L b c) : Chg L a c := h.next k fun _ hi => .inl hi
theorem Chg.of_below (h : Below w.heap.size w w') : Chg L w w' := ⟨h.os, h.tape, h.output, h.size, fun i hi _ => h.block i hi⟩
theorem Chg.below (h : Chg L a b) (k : Below b.heap.size b c) : Chg L a c := h.trans (.of_below k)
theorem Chg.alloc (h : Chg L a w) (o : Obj) : Chg L a (w.alloc o) := h.below (below_al (Below.refl _ _) o)
theorem Chg.drew (h : Chg L a w) : Chg L a w.drew := ⟨h.os, h.tape, h.output, h.size, h.block⟩
theorem Chg.drewN (h : Chg L a w) (n : Nat) : Chg L a (w.drewN n) := ⟨h.os, h.tape, h.output, h.size, h.block⟩
theorem Chg.setCell (h : Chg L a w) {p : Addr} (hp : L p.block ∨ a.heap.size ≤ p.block) (u : Value) : Chg L a (w.setCell p u) :=
  ⟨h.os, h.tape, h.output, by simpa using h.size, fun i hi hn => (Below.heap_setCell w p u i (by rintro rfl; rcases hp with h1 | h1; exact hn h1; omega)).trans (h.block i hi hn)⟩
theorem Chg.grown {row : Option Nat} (h : Chg L a w) (hg : w.grownBy w' row) (hr : ∀ k, row = some k → L k ∨ a.heap.size ≤ k) : Chg L a w' :=
  ⟨hg.os.trans h.os, hg.tape.trans h.tape, hg.output.trans h.output, Nat.le_trans h.size hg.size, fun i hi hn =>
    (hg.block i (Nat.lt_of_lt_of_le hi h.size) (fun e => by rcases hr i e.symm with h1 | h1; exact hn h1; omega)).trans (h.block i hi hn)⟩
theorem Chg.toBelow {base : Nat} (h : Chg L w w') (hl : ∀ k, L k → base ≤ k) (hb : base ≤ w.heap.size) : Below base w w' :=
  ⟨h.os, h.tape, h.output, h.size, fun k hk => h.block k (by omega) fun hk' => by have := hl k hk'; omega⟩
end
/-- L and what is new. -/
def newL (L : Nat → Prop) (w w' : World) (k : Nat) : Prop := L k ∨ (w.heap.size ≤ k ∧ k < w'.heap.size)

def bv (xs : Bs) : List Value := xs.map fun b => Value.int .u8 b.toNat
theorem bv_len (xs : Bs) : (bv xs).length = xs.length := by simp [bv]
theorem bv_app (xs ys : Bs) : bv (xs ++ ys) = bv xs ++ bv ys := by simp [bv]
theorem bv_take (xs : Bs) (n : Nat) : bv (xs.take n) = (bv xs).take n := by simp [bv, List.map_take]
theorem bv_one (xs : Bs) : ∀ u ∈ bv xs, u.oneCell' = true := by
  intro u hu
  obtain ⟨b, _, rfl⟩ := List.mem_map.1 hu
  rfl
theorem infoB : (Try.prog.info? 5).map (fun i => (i.zero, i.size, i.bytes)) = some (some (.int .u8 0), 1, 1) := by kernel_rfl

/-- A row of bytes, shorter. -/
theorem Own.shorter {w : World} {base e : Nat} {A : Option Addr} {n c : Nat} {xs : List Value} (h : Own w base e 1 (.slice A n c) n xs) (k : Nat) (hk : k ≤ n) : Own w base e 1 (.slice A k c) k (xs.take k) := by
  refine ⟨by rw [List.length_take, h.1]; omega, ?_⟩
  rcases h.2 with ⟨h0, A', he⟩ | ⟨g, cap, cur, he, h0, h1, h2, h3, h4, h5, h6⟩
  · injection he with e1 _ e3
    subst e1; subst e3
    exact .inl ⟨by omega, _, by rw [show k = 0 by omega]⟩
  · injection he with e1 _ e3
    subst e1; subst e3
    refine .inr ⟨g, c, cur, rfl, h0, h1, h2, by omega, h4, h5, ?_⟩
    rw [← h6, List.take_take]
    congr 1
    omega
theorem fp_shorter (A : Option Addr) (n k c : Nat) : fp (.slice A n c) = fp (.slice A k c) := by cases A <;> rfl

/-! ### a file -/
structure PF where
  blk : Nat
  v1 : Value
  v2 : Value
def PF.has (p : PF) (k : Nat) : Prop := k = p.blk ∨ fp p.v1 = some k ∨ fp p.v2 = some k
structure FileP (w : World) (base : Nat) (p : PF) (f : DF) : Prop where
  lo : base ≤ p.blk
  blk : w.heap[p.blk]? = some (.cells #[p.v1, p.v2] 57 (0, 0))
  safe : Own w base 5 1 p.v1 f.safe.length (bv f.safe)
  wait : Own w base 5 1 p.v2 f.wait.length (bv f.wait)
  ne : ∀ k, fp p.v1 = some k → fp p.v2 ≠ some k
theorem FileP.lt {w : World} {base : Nat} {p : PF} {f : DF} (h : FileP w base p f) {k : Nat} (hk : p.has k) : base ≤ k ∧ k < w.heap.size := by
  rcases hk with rfl | hk | hk
  · exact ⟨h.lo, blk_lt h.blk⟩
  · exact h.safe.lt hk
  · exact h.wait.lt hk
theorem FileP.move {w w' : World} {base : Nat} {p : PF} {f : DF} (h : FileP w base p f) (hm : ∀ k, p.has k → w'.heap[k]? = w.heap[k]?) : FileP w' base p f :=
  ⟨h.lo, (hm _ (.inl rfl)).trans h.blk, h.safe.move fun k hk => hm k (.inr (.inl hk)), h.wait.move fun k hk => hm k (.inr (.inr hk)), h.ne⟩
theorem FileP.blk_ne {w : World} {base : Nat} {p : PF} {f : DF} (h : FileP w base p f) : fp p.v1 ≠ some p.blk ∧ fp p.v2 ≠ some p.blk := by
  constructor
  · intro e
    obtain ⟨cur, hc⟩ := h.safe.typed e
    rw [h.blk] at hc
    injection hc with hc
    injection hc with _ hc
    exact absurd hc (by decide)
  · intro e
    obtain ⟨cur, hc⟩ := h.wait.typed e
    rw [h.blk] at hc
    injection hc with hc
    injection hc with _ hc
    exact absurd hc (by decide)

/-! ### the table of files -/
/-- How a pointer to a file reads. -/
def ptrR : Value → Option (DataW Unit × List MemPlace)
  | .pointer none => some (.nil, [])
  | .pointer (some ⟨b, 0, none⟩) => some (.lit (.int .i64 b), [])
  | _ => none
theorem ptrR_inv {v : Value} {b : Nat} {ps : List MemPlace} (h : ptrR v = some (.lit (.int .i64 b), ps)) : v = .pointer (some ⟨b, 0, none⟩) := by
  unfold ptrR at h
  split at h
  · simp at h
  · simp at h
    obtain ⟨h, _⟩ := h
    have : b = _ := (Int.ofNat.inj h).symm
    rw [this]
  · cases h
theorem ptrR_nil {v : Value} {ps : List MemPlace} (h : ptrR v = some (.nil, ps)) : v = .pointer none := by
  unfold ptrR at h
  split at h
  · rfl
  · simp at h
  · cases h
def kL (n : ByteArray) : Lit := .string (nmL n)
theorem kL_inj {a b : ByteArray} (h : kL a = kL b) : a = b := nmL_inj (by injection h)
theorem strK : Keyed Try.prog 9 := string_keyed Try.underlying9
theorem kL_key (n : ByteArray) (h : n.size ≤ maxLen) : keyOf Try.prog 9 (.string n) = some (kL n) := WideMaps.keyOf_string_mk Try.underlying9 h
theorem kL_is (n : ByteArray) (h : n.size ≤ maxLen) : WideAt.IsKeyLit (kL n) := strK.key (kL_key n h)
structure MapIs (D : DataW Unit) (fs : List DF) (g : ByteArray → PF) : Prop where
  has : ∀ n, Maps.has D (kL n) = (findF n fs).isSome
  at_ : ∀ f ∈ fs, ∀ z, D.atKey (kL f.name) z = .lit (.int .i64 (g f.name).blk)
  size : Maps.size D = fs.length
theorem find_put (x : DF) (fs : List DF) (hr : Rising fs) (n : ByteArray) : findF n (putF x fs) = if n = x.name then some x else findF n fs := by
  split
  · rename_i h
    subst h
    exact findF_mem (rising_put hr x) (mem_put.2 (.inl rfl))
  · rename_i h
    cases hx : findF n fs with
    | some f =>
      obtain ⟨h1, h2⟩ := findF_some hx
      rw [← h2]
      exact findF_mem (rising_put hr x) (mem_put.2 (.inr ⟨h1, by rw [h2]; exact h⟩))
    | none =>
      cases hy : findF n (putF x fs) with
      | none => rfl
      | some f =>
        obtain ⟨h1, h2⟩ := findF_some hy
        rcases mem_put.1 h1 with rfl | ⟨h1, _⟩
        · exact absurd h2.symm h
        · exact absurd h2 (findF_none hx f h1)
theorem find_drop (m : ByteArray) (fs : List DF) (hr : Rising fs) (n : ByteArray) : findF n (dropF m fs) = if n = m then none else findF n fs := by
  split
  · rename_i h
    subst h
    cases hx : findF n (dropF n fs) with
    | none => rfl
    | some f => obtain ⟨h1, h2⟩ := findF_some hx; exact absurd h2 (mem_drop.1 h1).2
  · rename_i h
    cases hx : findF n fs with
    | some f =>
      obtain ⟨h1, h2⟩ := findF_some hx
      rw [← h2]
      exact findF_mem (rising_drop hr m) (mem_drop.2 ⟨h1, by rw [h2]; exact h⟩)
    | none =>
      cases hy : findF n (dropF m fs) with
      | none => rfl
      | some f => obtain ⟨h1, h2⟩ := findF_some hy; exact absurd h2 (findF_none hx f (mem_drop.1 h1).1)
theorem find_map (t : DF → DF) (ht : ∀ f, (t f).name = f.name) (fs : List DF) (n : ByteArray) : findF n (fs.map t) = (findF n fs).map t := by
  unfold findF
  rw [List.find?_map]
  congr 2
  funext f
  simp [ht]
theorem rising_map (t : DF → DF) (ht : ∀ f, (t f).name = f.name) {fs : List DF} (h : Rising fs) : Rising (fs.map t) := by
  unfold Rising
  rw [List.pairwise_map]
  exact h.imp fun {a b} hab => by rw [ht, ht]; exact hab
theorem MapIs.map {D : DataW Unit} {fs : List DF} {g g' : ByteArray → PF} (h : MapIs D fs g) (t : DF → DF) (ht : ∀ f, (t f).name = f.name) (hg : ∀ f ∈ fs, (g' f.name).blk = (g f.name).blk) : MapIs D (fs.map t) g' := by
  refine ⟨fun n => ?_, fun f hf z => ?_, ?_⟩
  · rw [h.has, find_map t ht]; cases findF n fs <;> rfl
  · obtain ⟨f0, h0, rfl⟩ := List.mem_map.1 hf
    rw [ht, h.at_ f0 h0, hg f0 h0]
  · rw [h.size, List.length_map]
theorem length_put (x : DF) (fs : List DF) (hr : Rising fs) : (putF x fs).length = if (findF x.name fs).isSome then fs.length else fs.length + 1 := by
  split
  · rename_i h; rw [put_some hr h, upd_length]
  · rename_i h; exact length_put_none (by simpa using h)
theorem length_drop {fs : List DF} (hr : Rising fs) (n : ByteArray) : (dropF n fs).length + (if (findF n fs).isSome then 1 else 0) = fs.length := by
  induction fs with
  | nil => rfl
  | cons f r ih =>
    obtain ⟨h1, h2⟩ := List.pairwise_cons.1 hr
    have := ih h2
    by_cases hf : f.name = n
    · have e : dropF n (f :: r) = r := by
        unfold dropF
        rw [List.filter_cons, (neq_iff _ _).2 hf]
        simp only [Bool.not_true, Bool.false_eq_true, if_false]
        refine List.filter_eq_self.2 fun b hb => ?_
        have := nlt_ne (h1 b hb)
        rw [hf] at this
        simp [Ne.symm this]
      have e2 : findF n (f :: r) = some f := by unfold findF; rw [List.find?_cons, (neq_iff _ _).2 hf]
      rw [e, e2]
      simp
    · have e : dropF n (f :: r) = f :: dropF n r := by unfold dropF; rw [List.filter_cons, (neq_no _ _).2 hf]; rfl
      have e2 : findF n (f :: r) = findF n r := by unfold findF; rw [List.find?_cons, (neq_no _ _).2 hf]
      rw [e, e2, List.length_cons, List.length_cons]
      omega
theorem MapIs.put {D : DataW Unit} {fs : List DF} {g : ByteArray → PF} (h : MapIs D fs g) (hr : Rising fs) (ht : Tidy D) (x : DF) (p : PF) (hn : x.name.size ≤ maxLen) :
    MapIs (D.put (kL x.name) (.lit (.int .i64 p.blk))) (putF x fs) (fun n => if neq n x.name then p else g n) := by
  refine ⟨fun n => ?_, fun f hf z => ?_, ?_⟩
  · rw [find_put x fs hr]
    split
    · rename_i e
      subst e
      exact has_put_same ht.isMap (kL_is _ hn) _
    · rename_i e
      rw [has_put_other (fun e' => e (kL_inj e')), h.has]
  · rcases mem_put.1 hf with rfl | ⟨h1, h2⟩
    · simp only [neq_self, if_true]
      exact atKey_put_same ht.isMap (kL_is _ hn) _ _
    · rw [(neq_no _ _).2 h2, if_neg (by simp), atKey_put_other (fun e' => h2 (kL_inj e')), h.at_ f h1]
  · rw [size_put ht, h.has, h.size, length_put x fs hr]
theorem MapIs.drop {D : DataW Unit} {fs : List DF} {g : ByteArray → PF} (h : MapIs D fs g) (hr : Rising fs) (ht : Tidy D) (n : ByteArray) : MapIs (D.del (kL n)) (dropF n fs) g := by
  refine ⟨fun m => ?_, fun f hf z => ?_, ?_⟩
  · rw [find_drop n fs hr]
    split
    · rename_i e
      subst e
      exact has_del_same
    · rename_i e
      rw [has_del_other (fun e' => e (kL_inj e')), h.has]
  · obtain ⟨h1, h2⟩ := mem_drop.1 hf
    rw [atKey_del_other (fun e' => h2 (kL_inj e')), h.at_ f h1]
  · have := size_del (k := kL n) ht
    have h2 := length_drop hr n
    rw [h.has, h.size] at this
    omega

/-! ### the disk -/
def diskC (s : DS) (mb : Nat) : Array Value := #[.map (some mb), .int .i64 s.room, .bool (!s.on), .int .i64 s.count, .int .i64 s.left, .int .i64 s.keep]
structure DiskQ (w : World) (base d : Nat) (s : DS) (mb : Nat) (g : ByteArray → PF) (D : DataW Unit) : Prop where
  lo : base ≤ d ∧ base ≤ mb ∧ d ≠ mb
  blk : w.heap[d]? = some (.cells (diskC s mb) 46 (0, 0))
  is : MapIs D s.fs g
  file : ∀ f ∈ s.fs, FileP w base (g f.name) f
  away : ∀ f ∈ s.fs, ∀ k, (g f.name).has k → k ≠ d ∧ k ≠ mb
  apart : ∀ f ∈ s.fs, ∀ f' ∈ s.fs, f.name ≠ f'.name → ∀ k, (g f.name).has k → ¬ (g f'.name).has k
def DP (s : DS) (d mb : Nat) (g : ByteArray → PF) (k : Nat) : Prop := k = d ∨ k = mb ∨ ∃ f ∈ s.fs, (g f.name).has k
def Owns (w : World) (mb : Nat) (D : DataW Unit) : Prop := w.ownsMap Try.prog 9 ptrR mb (Maps.size D) D
theorem Owns.of {w : World} {mb n : Nat} {D : DataW Unit} (h : w.ownsMap Try.prog 9 ptrR mb n D) : Owns w mb D := by
  obtain ⟨es, clock, hb, F, hs, rfl⟩ := h
  exact ⟨es, clock, hb, F, by simp [Maps.size, length_sorted], rfl⟩
section
variable {w w' : World} {base d mb : Nat} {s : DS} {g : ByteArray → PF} {D : DataW Unit}
theorem DiskQ.move (h : DiskQ w base d s mb g D) (hm : ∀ k, k = d ∨ (∃ f ∈ s.fs, (g f.name).has k) → w'.heap[k]? = w.heap[k]?) : DiskQ w' base d s mb g D :=
  ⟨h.lo, (hm d (.inl rfl)).trans h.blk, h.is, fun f hf => (h.file f hf).move fun k hk => hm k (.inr ⟨f, hf, hk⟩), h.away, h.apart⟩
theorem DiskQ.lt (h : DiskQ w base d s mb g D) (ho : Owns w mb D) {k : Nat} (hk : DP s d mb g k) : base ≤ k ∧ k < w.heap.size := by
  rcases hk with rfl | rfl | ⟨f, hf, hk⟩
  · exact ⟨h.lo.1, blk_lt h.blk⟩
  · exact ⟨h.lo.2.1, World.ownsMap.lt ho⟩
  · exact (h.file f hf).lt hk
/-- A store into the disk's own block. -/
theorem DiskQ.setD (h : DiskQ w base d s mb g D) (j : Nat) (u : Value) (s' : DS) (hf : s'.fs = s.fs) (hc : (diskC s mb).setIfInBounds j u = diskC s' mb) : DiskQ (w.setCell ⟨d, j, none⟩ u) base d s' mb g D := by
  refine ⟨h.lo, by rw [← hc]; exact blk_set h.blk j u, by rw [hf]; exact h.is, fun f hx => ?_, by rw [hf]; exact h.away, by rw [hf]; exact h.apart⟩
  rw [hf] at hx
  exact (h.file f hx).move fun k hk => Below.heap_setCell w ⟨d, j, none⟩ u k (h.away f hx k hk).1
theorem Owns.kept {row : Option Nat} (h : Owns w mb D) (hg : w.grownBy w' row) (hne : some mb ≠ row) : Owns w' mb D := World.ownsMap.kept h hg hne
theorem Owns.setCell (h : Owns w mb D) {p : Addr} (hp : mb ≠ p.block) (u : Value) : Owns (w.setCell p u) mb D := World.ownsMap.setCell h hp u
theorem Owns.move (h : Owns w mb D) (hm : w'.heap[mb]? = w.heap[mb]?) : Owns w' mb D := by
  obtain ⟨es, clock, hb, F, hs, hD⟩ := h
  exact ⟨es, clock, hm.trans hb, F, hs, hD⟩
/-- One file's blocks turn: it is another one of the same name. -/
theorem DiskQ.upd (h : DiskQ w base d s mb g D) (ho : Owns w mb D) (hr : Rising s.fs) (f f' : DF) (p' : PF) (hf : findF f'.name s.fs = some f) (hp : FileP w' base p' f') (hb : p'.blk = (g f'.name).blk)
    (hnew : ∀ k, p'.has k → (g f'.name).has k ∨ w.heap.size ≤ k) (hm : ∀ k, k < w.heap.size → ¬ (g f'.name).has k → w'.heap[k]? = w.heap[k]?) :
    DiskQ w' base d { s with fs := updF f' s.fs } mb (fun n => if neq n f'.name then p' else g n) D := by
  obtain ⟨hfm, hfn⟩ := findF_some hf
  have hd : ¬ (g f'.name).has d := fun hk => by rw [← hfn] at hk; exact (h.away f hfm d hk).1 rfl
  have hlt : ∀ x ∈ s.fs, ∀ k, (g x.name).has k → k < w.heap.size := fun x hx k hk => ((h.file x hx).lt hk).2
  have hmem : ∀ y ∈ updF f' s.fs, (y = f' ∧ neq y.name f'.name = true) ∨ (y ∈ s.fs ∧ neq y.name f'.name = false) := by
    intro y hy
    obtain ⟨x, hx, rfl⟩ := List.mem_map.1 hy
    by_cases he : neq x.name f'.name = true
    · rw [if_pos he]; exact .inl ⟨rfl, neq_self _⟩
    · rw [if_neg he]; exact .inr ⟨hx, by simpa using he⟩
  have hds : d < w.heap.size := blk_lt h.blk
  have hms : mb < w.heap.size := World.ownsMap.lt ho
  have hnm : ∀ y ∈ s.fs, neq y.name f'.name = false → ∀ k, (g y.name).has k → ¬ (g f'.name).has k := fun y hy e k hk hk' => by
    rw [← hfn] at hk'
    exact h.apart y hy f hfm (by rw [hfn]; exact (neq_no _ _).1 e) k hk hk'
  refine ⟨h.lo, (hm d hds hd).trans h.blk, ?_, ?_, ?_, ?_⟩
  · unfold updF
    refine h.is.map _ (fun x => ?_) (fun x _ => ?_)
    · split
      · rename_i e; exact ((neq_iff _ _).1 e).symm
      · rfl
    · show (if neq x.name f'.name then p' else g x.name).blk = _
      split
      · rename_i e; rw [hb, (neq_iff _ _).1 e]
      · rfl
  · intro y hy
    show FileP w' base (if neq y.name f'.name then p' else g y.name) y
    rcases hmem y hy with ⟨rfl, e⟩ | ⟨hy, e⟩
    · rw [if_pos e]; exact hp
    · rw [e, if_neg (by simp)]
      exact (h.file y hy).move fun k hk => hm k (hlt y hy k hk) (hnm y hy e k hk)
  · intro y hy k hk
    have hk : (if neq y.name f'.name then p' else g y.name).has k := hk
    rcases hmem y hy with ⟨rfl, e⟩ | ⟨hy, e⟩
    · rw [if_pos e] at hk
      rcases hnew k hk with h1 | h1
      · rw [← hfn] at h1; exact h.away f hfm k h1
      · exact ⟨by omega, by omega⟩
    · rw [e, if_neg (by simp)] at hk
      exact h.away y hy k hk
  · intro y hy z hz hyz k hk hk'
    have hk : (if neq y.name f'.name then p' else g y.name).has k := hk
    have hk' : (if neq z.name f'.name then p' else g z.name).has k := hk'
    rcases hmem y hy with ⟨ey, e⟩ | ⟨hy, e⟩ <;> rcases hmem z hz with ⟨ez, e'⟩ | ⟨hz, e'⟩
    · exact hyz (by rw [ey, ez])
    · rw [if_pos e] at hk
      rw [e', if_neg (by simp)] at hk'
      rcases hnew k hk with h1 | h1
      · exact hnm z hz e' k hk' h1
      · have := hlt z hz k hk'; omega
    · rw [if_pos e'] at hk'
      rw [e, if_neg (by simp)] at hk
      rcases hnew k hk' with h1 | h1
      · exact hnm y hy e k hk h1
      · have := hlt y hy k hk; omega
    · rw [e, if_neg (by simp)] at hk
      rw [e', if_neg (by simp)] at hk'
      exact h.apart y hy z hz hyz k hk hk'
/-- A file more, or another one in its place: the table has turned, and p' is its place. -/
theorem DiskQ.put (h : DiskQ w base d s mb g D) (ho : Owns w mb D) (hr : Rising s.fs) (x : DF) (p' : PF) (hn : x.name.size ≤ maxLen) (hp : FileP w' base p' x) (hm : ∀ k, k < w.heap.size → k ≠ mb → w'.heap[k]? = w.heap[k]?)
    (hnew : ∀ k, p'.has k → w.heap.size ≤ k ∨ (k ≠ d ∧ k ≠ mb ∧ ∀ y ∈ s.fs, ¬ (g y.name).has k)) :
    DiskQ w' base d { s with fs := putF x s.fs } mb (fun n => if neq n x.name then p' else g n) (D.put (kL x.name) (.lit (.int .i64 p'.blk))) := by
  have hlt : ∀ y ∈ s.fs, ∀ k, (g y.name).has k → k < w.heap.size := fun y hy k hk => ((h.file y hy).lt hk).2
  have hds : d < w.heap.size := blk_lt h.blk
  have hms : mb < w.heap.size := World.ownsMap.lt ho
  have hmem : ∀ y ∈ putF x s.fs, (y = x ∧ neq y.name x.name = true) ∨ (y ∈ s.fs ∧ neq y.name x.name = false) := by
    intro y hy
    rcases mem_put.1 hy with rfl | ⟨h1, h2⟩
    · exact .inl ⟨rfl, neq_self _⟩
    · exact .inr ⟨h1, by simpa using h2⟩
  have hfar : ∀ k, p'.has k → ∀ y ∈ s.fs, ¬ (g y.name).has k := fun k hk y hy hk' => by
    rcases hnew k hk with h1 | h1
    · have := hlt y hy k hk'; omega
    · exact h1.2.2 y hy hk'
  refine ⟨h.lo, (hm d hds h.lo.2.2).trans h.blk, h.is.put hr (World.ownsMap.tidy ho strK) x p' hn, ?_, ?_, ?_⟩
  · intro y hy
    show FileP w' base (if neq y.name x.name then p' else g y.name) y
    rcases hmem y hy with ⟨rfl, e⟩ | ⟨hy, e⟩
    · rw [if_pos e]; exact hp
    · rw [e, if_neg (by simp)]
      exact (h.file y hy).move fun k hk => hm k (hlt y hy k hk) (h.away y hy k hk).2
  · intro y hy k hk
    have hk : (if neq y.name x.name then p' else g y.name).has k := hk
    rcases hmem y hy with ⟨rfl, e⟩ | ⟨hy, e⟩
    · rw [if_pos e] at hk
      rcases hnew k hk with h1 | h1
      · exact ⟨by omega, by omega⟩
      · exact ⟨h1.1, h1.2.1⟩
    · rw [e, if_neg (by simp)] at hk
      exact h.away y hy k hk
  · intro y hy z hz hyz k hk hk'
    have hk : (if neq y.name x.name then p' else g y.name).has k := hk
    have hk' : (if neq z.name x.name then p' else g z.name).has k := hk'
    rcases hmem y hy with ⟨ey, e⟩ | ⟨hy, e⟩ <;> rcases hmem z hz with ⟨ez, e'⟩ | ⟨hz, e'⟩
    · exact hyz (by rw [ey, ez])
    · rw [if_pos e] at hk
      rw [e', if_neg (by simp)] at hk'
      exact hfar k hk z hz hk'
    · rw [if_pos e'] at hk'
      rw [e, if_neg (by simp)] at hk
      exact hfar k hk' y hy hk
    · rw [e, if_neg (by simp)] at hk
      rw [e', if_neg (by simp)] at hk'
      exact h.apart y hy z hz hyz k hk hk'
/-- A file less. -/
theorem DiskQ.drop (h : DiskQ w base d s mb g D) (ho : Owns w mb D) (hr : Rising s.fs) (n : ByteArray) (hm : ∀ k, k < w.heap.size → k ≠ mb → w'.heap[k]? = w.heap[k]?) :
    DiskQ w' base d { s with fs := dropF n s.fs } mb g (D.del (kL n)) := by
  have hlt : ∀ y ∈ s.fs, ∀ k, (g y.name).has k → k < w.heap.size := fun y hy k hk => ((h.file y hy).lt hk).2
  have hds : d < w.heap.size := blk_lt h.blk
  have hsub : ∀ y ∈ dropF n s.fs, y ∈ s.fs := fun y hy => (mem_drop.1 hy).1
  exact ⟨h.lo, (hm d hds h.lo.2.2).trans h.blk, h.is.drop hr (World.ownsMap.tidy ho strK) n, fun y hy => (h.file y (hsub y hy)).move fun k hk => hm k (hlt y (hsub y hy) k hk) (h.away y (hsub y hy) k hk).2,
    fun y hy => h.away y (hsub y hy), fun y hy z hz => h.apart y (hsub y hy) z (hsub z hz)⟩
end
end Go.Proofs.Ytfdcibghcncbmaa
