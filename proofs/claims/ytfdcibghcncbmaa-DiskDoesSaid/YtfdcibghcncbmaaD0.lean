/- The disk in plain words: files by rising names, what each call answers and leaves. -/
import Derived.Sort.Walk0
import Derived.Sort.KeysCollected
import Derived.WideShapes
import Derived.Laws.Strings
namespace Go.Proofs.Ytfdcibghcncbmaa

abbrev Bs := List UInt8
/-- A file: its name, its safe bytes, its waiting bytes. -/
structure DF where
  name : ByteArray
  safe : Bs
  wait : Bs
/-- A disk. -/
structure DS where
  fs : List DF
  room : Int
  on : Bool
  count : Int
  left : Int
  keep : Int

def nmL (n : ByteArray) : List UInt8 := n.data.toList
theorem nmL_inj {a b : ByteArray} (h : nmL a = nmL b) : a = b := WideShapes.bytes_inj h
def neq (a b : ByteArray) : Bool := decide (nmL a = nmL b)
@[simp] theorem neq_iff (a b : ByteArray) : neq a b = true ↔ a = b := by
  simp only [neq, decide_eq_true_eq]
  exact ⟨nmL_inj, fun h => h ▸ rfl⟩
@[simp] theorem neq_no (a b : ByteArray) : neq a b = false ↔ a ≠ b := by
  rw [← Bool.not_eq_true, Ne, neq_iff]
@[simp] theorem neq_self (a : ByteArray) : neq a a = true := (neq_iff a a).2 rfl
/-- One name stands ahead of another. -/
def nlt (a b : ByteArray) : Bool := decide (nmL a < nmL b)
theorem nlt_bytes (a b : ByteArray) : Op.bytesLess a.toList b.toList = nlt a b := by
  rw [bytesLess_eq, ByteArray.toList_eq, ByteArray.toList_eq]; rfl
theorem nlt_irrefl (a : ByteArray) : nlt a a = false := by simp [nlt, List.lt_irrefl]
theorem nlt_trans {a b c : ByteArray} (h : nlt a b = true) (k : nlt b c = true) : nlt a c = true := by
  simp only [nlt, decide_eq_true_eq] at *; exact List.lt_trans h k
theorem nlt_asymm {a b : ByteArray} (h : nlt a b = true) : nlt b a = false := by
  cases k : nlt b a with
  | false => rfl
  | true => have := nlt_trans h k; rw [nlt_irrefl] at this; cases this
theorem nlt_total {a b : ByteArray} (h : nlt a b = false) (k : nlt b a = false) : a = b := by
  simp only [nlt, decide_eq_false_iff_not, List.not_lt] at *
  exact nmL_inj (List.le_antisymm k h)
theorem nlt_ne {a b : ByteArray} (h : nlt a b = true) : a ≠ b := by
  rintro rfl; rw [nlt_irrefl] at h; cases h

def DF.len (f : DF) : Nat := f.safe.length + f.wait.length
def total (fs : List DF) : Nat := (fs.map DF.len).sum
/-- Rising names, none twice. -/
def Rising (fs : List DF) : Prop := fs.Pairwise fun a b => nlt a.name b.name = true
def findF (n : ByteArray) (fs : List DF) : Option DF := fs.find? fun f => neq f.name n
/-- A file more (or another one), by its name. -/
def putF (x : DF) (fs : List DF) : List DF := fs.filter (fun f => nlt f.name x.name) ++ x :: fs.filter (fun f => nlt x.name f.name)
/-- A file less. -/
def dropF (n : ByteArray) (fs : List DF) : List DF := fs.filter fun f => !neq f.name n
def updF (x : DF) (fs : List DF) : List DF := fs.map fun f => if neq f.name x.name then x else f

theorem rising_filter {fs : List DF} (h : Rising fs) (p : DF → Bool) : Rising (fs.filter p) := List.Pairwise.filter p h
theorem rising_drop {fs : List DF} (h : Rising fs) (n : ByteArray) : Rising (dropF n fs) := rising_filter h _
theorem rising_put {fs : List DF} (h : Rising fs) (x : DF) : Rising (putF x fs) := by
  unfold putF Rising
  rw [List.pairwise_append, List.pairwise_cons]
  refine ⟨rising_filter h _, ⟨fun a ha => (List.mem_filter.1 ha).2, rising_filter h _⟩, fun a ha b hb => ?_⟩
  have h1 := (List.mem_filter.1 ha).2
  rcases List.mem_cons.1 hb with rfl | hb
  · exact h1
  · exact nlt_trans h1 (List.mem_filter.1 hb).2
theorem findF_some {n : ByteArray} {fs : List DF} {f : DF} (h : findF n fs = some f) : f ∈ fs ∧ f.name = n := by
  unfold findF at h
  exact ⟨List.mem_of_find?_eq_some h, by simpa using List.find?_some h⟩
theorem findF_none {n : ByteArray} {fs : List DF} (h : findF n fs = none) : ∀ f ∈ fs, f.name ≠ n := by
  unfold findF at h
  rw [List.find?_eq_none] at h
  intro f hf he
  exact h f hf (by simp [he])
theorem rising_mem {fs : List DF} (h : Rising fs) {a b : DF} (ha : a ∈ fs) (hb : b ∈ fs) (hn : a.name = b.name) : a = b := by
  induction fs with
  | nil => cases ha
  | cons f r ih =>
    obtain ⟨h1, h2⟩ := List.pairwise_cons.1 h
    rcases List.mem_cons.1 ha with ea | ha' <;> rcases List.mem_cons.1 hb with eb | hb'
    · rw [ea, eb]
    · have := h1 _ hb'; rw [← ea, hn, nlt_irrefl] at this; cases this
    · have := h1 _ ha'; rw [← eb, hn, nlt_irrefl] at this; cases this
    · exact ih h2 ha' hb'
theorem findF_mem {fs : List DF} (h : Rising fs) {f : DF} (hf : f ∈ fs) : findF f.name fs = some f := by
  cases hx : findF f.name fs with
  | none => exact absurd rfl (findF_none hx f hf)
  | some g => obtain ⟨hg, he⟩ := findF_some hx; rw [rising_mem h hg hf he]
theorem mem_put {x y : DF} {fs : List DF} : y ∈ putF x fs ↔ y = x ∨ (y ∈ fs ∧ y.name ≠ x.name) := by
  unfold putF
  rw [List.mem_append, List.mem_cons, List.mem_filter, List.mem_filter]
  constructor
  · rintro (⟨h, h1⟩ | rfl | ⟨h, h1⟩)
    · exact .inr ⟨h, nlt_ne h1⟩
    · exact .inl rfl
    · exact .inr ⟨h, (nlt_ne h1).symm⟩
  · rintro (rfl | ⟨h, h1⟩)
    · exact .inr (.inl rfl)
    · cases a : nlt y.name x.name with
      | true => exact .inl ⟨h, rfl⟩
      | false =>
        cases b : nlt x.name y.name with
        | true => exact .inr (.inr ⟨h, rfl⟩)
        | false => exact absurd (nlt_total a b) h1
theorem mem_drop {n : ByteArray} {y : DF} {fs : List DF} : y ∈ dropF n fs ↔ y ∈ fs ∧ y.name ≠ n := by
  unfold dropF; rw [List.mem_filter]; simp
theorem total_cons (f : DF) (fs : List DF) : total (f :: fs) = f.len + total fs := by simp [total]
theorem total_app (a b : List DF) : total (a ++ b) = total a + total b := by simp [total]
theorem total_split (fs : List DF) (p : DF → Bool) : total fs = total (fs.filter p) + total (fs.filter fun f => !p f) := by
  induction fs with
  | nil => rfl
  | cons f r ih =>
    rw [total_cons, ih, List.filter_cons, List.filter_cons]
    cases p f <;> simp [total_cons] <;> omega
/-- With the old one away, and the new one there. -/
theorem total_put (x : DF) (fs : List DF) : total (putF x fs) = total (dropF x.name fs) + x.len := by
  have h := total_split (dropF x.name fs) fun f => nlt f.name x.name
  have e1 : (dropF x.name fs).filter (fun f => nlt f.name x.name) = fs.filter fun f => nlt f.name x.name := by
    unfold dropF; rw [List.filter_filter]
    refine List.filter_congr fun f _ => ?_
    cases hh : nlt f.name x.name with
    | false => rfl
    | true => have := nlt_ne hh; simp [this]
  have e2 : (dropF x.name fs).filter (fun f => !nlt f.name x.name) = fs.filter fun f => nlt x.name f.name := by
    unfold dropF; rw [List.filter_filter]
    refine List.filter_congr fun f _ => ?_
    cases hh : nlt x.name f.name with
    | true => have h1 := nlt_ne hh; rw [nlt_asymm hh]; simp [Ne.symm h1]
    | false =>
      cases hk : nlt f.name x.name with
      | true => rfl
      | false => have := nlt_total hk hh; simp [this]
  rw [e1, e2] at h
  rw [h]
  unfold putF
  rw [total_app, total_cons]
  omega
theorem total_drop_some {fs : List DF} (hr : Rising fs) {f : DF} (hf : f ∈ fs) : total (dropF f.name fs) + f.len = total fs := by
  induction fs with
  | nil => cases hf
  | cons g r ih =>
    obtain ⟨h1, h2⟩ := List.pairwise_cons.1 hr
    rcases List.mem_cons.1 hf with rfl | hf'
    · have : dropF f.name (f :: r) = r := by
        unfold dropF
        rw [List.filter_cons]
        simp only [neq_self, Bool.not_true, Bool.false_eq_true, if_false]
        refine List.filter_eq_self.2 fun b hb => ?_
        have := nlt_ne (h1 b hb)
        simp [Ne.symm this]
      rw [this, total_cons]; omega
    · have hne : g.name ≠ f.name := nlt_ne (h1 f hf')
      have : dropF f.name (g :: r) = g :: dropF f.name r := by
        unfold dropF; rw [List.filter_cons]; simp [hne]
      rw [this, total_cons, total_cons, ← ih h2 hf']; omega
theorem drop_none {n : ByteArray} {fs : List DF} (h : ∀ f ∈ fs, f.name ≠ n) : dropF n fs = fs := by
  unfold dropF
  exact List.filter_eq_self.2 fun b hb => by simp [h b hb]
theorem total_drop_le (n : ByteArray) (fs : List DF) : total (dropF n fs) ≤ total fs := by
  have := total_split fs fun f => !neq f.name n
  unfold dropF; omega
theorem len_le_total {fs : List DF} {f : DF} (h : f ∈ fs) : f.len ≤ total fs := by
  induction fs with
  | nil => cases h
  | cons g r ih =>
    rw [total_cons]
    rcases List.mem_cons.1 h with rfl | h
    · omega
    · have := ih h; omega
theorem length_put_none {x : DF} {fs : List DF} (h : findF x.name fs = none) : (putF x fs).length = fs.length + 1 := by
  have h1 := findF_none h
  have : ∀ l : List DF, (∀ f ∈ l, f.name ≠ x.name) → (l.filter fun f => nlt f.name x.name).length + (l.filter fun f => nlt x.name f.name).length = l.length := by
    intro l
    induction l with
    | nil => intro _; rfl
    | cons g r ih =>
      intro hl
      have := ih fun f hf => hl f (List.mem_cons_of_mem _ hf)
      have hg := hl g (List.mem_cons_self ..)
      cases a : nlt g.name x.name with
      | true =>
        have b := nlt_asymm a
        simp [List.filter_cons, a, b]; omega
      | false =>
        cases b : nlt x.name g.name with
        | true => simp [List.filter_cons, a, b]; omega
        | false => exact absurd (nlt_total a b) hg
  have := this fs h1
  unfold putF
  simp; omega
/-- A file that is there is put: it takes its own place. -/
theorem put_some {x : DF} {fs : List DF} (hr : Rising fs) (h : (findF x.name fs).isSome = true) : putF x fs = updF x fs := by
  induction fs with
  | nil => simp [findF] at h
  | cons g r ih =>
    obtain ⟨h1, h2⟩ := List.pairwise_cons.1 hr
    by_cases hg : g.name = x.name
    · have e1 : (g :: r).filter (fun f => nlt f.name x.name) = [] := by
        rw [List.filter_eq_nil_iff]
        intro f hf
        rcases List.mem_cons.1 hf with rfl | hf
        · rw [hg, nlt_irrefl]; simp
        · have := nlt_asymm (h1 f hf); rw [hg] at this; simp [this]
      have e2 : (g :: r).filter (fun f => nlt x.name f.name) = r := by
        rw [List.filter_cons, hg, nlt_irrefl]
        simp only [Bool.false_eq_true, if_false]
        exact List.filter_eq_self.2 fun b hb => by rw [← hg]; exact h1 b hb
      unfold putF updF
      rw [e1, e2, List.map_cons, hg]
      simp only [neq_self, if_true, List.nil_append]
      congr 1
      symm
      refine (List.map_congr_left (g := id) fun b hb => ?_).trans (List.map_id r)
      have := nlt_ne (h1 b hb)
      rw [hg] at this
      simp [Ne.symm this]
    · have hf : (findF x.name r).isSome = true := by
        unfold findF at h ⊢
        rw [List.find?_cons, (neq_no _ _).2 hg] at h
        exact h
      have hlt : nlt g.name x.name = true := by
        cases hx : findF x.name r with
        | none => rw [hx] at hf; cases hf
        | some y => obtain ⟨hy, he⟩ := findF_some hx; rw [← he]; exact h1 y hy
      have := ih h2 hf
      unfold putF updF at this ⊢
      rw [List.filter_cons, List.filter_cons, hlt, nlt_asymm hlt]
      simp only [if_true, Bool.false_eq_true, if_false, List.cons_append, List.map_cons]
      rw [this]
      simp [hg]
theorem upd_length (x : DF) (fs : List DF) : (updF x fs).length = fs.length := by simp [updF]

/-! ### the calls -/
def okName (n : ByteArray) : Bool := decide (1 ≤ n.size ∧ n.size ≤ 16)
def DF.off (k : Int) (f : DF) : DF := ⟨f.name, f.safe ++ f.wait.take k.toNat, []⟩
def DS.off (s : DS) (k : Int) : DS := if s.on then { s with fs := s.fs.map (DF.off k), on := false, left := 0 } else s
/-- A raw write is counted; whether the power goes in it. -/
def DS.raw (s : DS) : DS := { s with count := s.count + 1, left := if s.left = 0 then 0 else s.left - 1 }
def DS.goes (s : DS) : Bool := decide (s.left = 1)
/-- Behind a raw write: the power goes, or f is done. -/
def DS.fin (s : DS) (f : DS → DS) : DS × Int := if s.goes then (s.raw.off s.keep, 20) else (f s.raw, 0)
def DS.bad (s : DS) (n : ByteArray) : Int := if !okName n then 1 else if !s.on then 20 else 0
def DS.append (s : DS) (n : ByteArray) (b : Bs) : DS × Int :=
  if s.bad n ≠ 0 then (s, s.bad n) else
  let f := (findF n s.fs).getD ⟨n, [], []⟩
  if f.len + b.length > 1048576 then (s, 3) else
  if ((findF n s.fs).isNone = true ∧ 16 ≤ s.fs.length) ∨ s.room < (total s.fs + b.length : Nat) then (s, 22) else
  DS.fin { s with fs := putF ⟨n, f.safe, f.wait ++ b⟩ s.fs } id
/-- The call of a file that must be there. -/
def DS.with (s : DS) (n : ByteArray) (k : DF → DS × Int) : DS × Int :=
  if s.bad n ≠ 0 then (s, s.bad n) else
  match findF n s.fs with
  | none => (s, 21)
  | some f => k f
def DS.sync (s : DS) (n : ByteArray) : DS × Int := s.with n fun f => s.fin fun t => { t with fs := updF ⟨n, f.safe ++ f.wait, []⟩ t.fs }
def truncF (n : ByteArray) (k : Int) (f : DF) : DF := ⟨n, f.safe.take k.toNat, f.wait.take (k.toNat - f.safe.length)⟩
def DS.trunc (s : DS) (n : ByteArray) (k : Int) : DS × Int := s.with n fun f =>
  if k < 0 ∨ (f.len : Int) < k then (s, 3) else s.fin fun t => { t with fs := updF (truncF n k f) t.fs }
def DS.rename (s : DS) (n m : ByteArray) : DS × Int := if !okName n || !okName m then (s, 1) else
  s.with n fun f => s.fin fun t => { t with fs := putF ⟨m, f.safe, f.wait⟩ (dropF n t.fs) }
def DS.remove (s : DS) (n : ByteArray) : DS × Int := s.with n fun _ => s.fin fun t => { t with fs := dropF n t.fs }
def DS.read (s : DS) (n : ByteArray) : Bs × Int :=
  if s.bad n ≠ 0 then ([], s.bad n) else
  match findF n s.fs with
  | none => ([], 21)
  | some f => (f.safe ++ f.wait, 0)
def DS.names (s : DS) : List ByteArray := if s.on then s.fs.map (·.name) else []
def DS.arm (s : DS) (n k : Int) : DS := { s with left := max n 0, keep := k }
/-- A disk whose numbers fit: T bytes at most in all, N raw writes at most. -/
structure DS.ok (s : DS) (T N : Nat) : Prop where
  rising : Rising s.fs
  names : ∀ f ∈ s.fs, okName f.name = true
  few : s.fs.length ≤ 16
  bytes : total s.fs ≤ T
  count : 0 ≤ s.count ∧ s.count ≤ N
  left : 0 ≤ s.left ∧ s.left ≤ 9223372036854775807
  room : -9223372036854775808 ≤ s.room ∧ s.room ≤ 9223372036854775807
  keep : -9223372036854775808 ≤ s.keep ∧ s.keep ≤ 9223372036854775807
end Go.Proofs.Ytfdcibghcncbmaa
