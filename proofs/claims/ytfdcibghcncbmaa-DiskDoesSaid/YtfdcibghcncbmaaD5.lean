/- The program's disk: how many bytes all files have. -/
import Derived.Test.YtfdcibghcncbmaaD4
namespace Go.Proofs.Ytfdcibghcncbmaa
open Go.RowKit Go.Maps Go.Shelf

theorem sameK (a b : ByteArray) : (kL a).sameKey (kL b) = neq a b := by
  rw [Bool.eq_iff_iff, neq_iff]
  constructor
  · intro h; exact kL_inj (WideAt.sameKey_eq h)
  · rintro rfl; simp [kL, Lit.sameKey]
theorem wpList_next_disk (w : World) {ops : Array Oper} {rest : List Oper} {o : Oper} {a : Act} {Q : Exit → Act → World → Prop} (hg : o.guard = none) (it : Operand) (hop : o.op = Op.next it false)
    (fs : List DF) (g : ByteArray → PF) (mb r n : Nat) (D : DataW Unit) (left : Lit → Bool) (cnt : Nat) (hit : a.eval it = .pointer (some ⟨r, 0, none⟩)) (hq : MapIs D fs g) (h : w.ranges Try.prog 9 ptrR mb r n D left cnt)
    (hDone : cnt = 0 → (∀ kl, left kl = false) → wpList Try.prog ops Q rest (a.put o.dst (.tuple #[.bool false])) w)
    (hMore : ∀ (f : DF) (w' : World) (cnt' : Nat), f ∈ fs → left (kL f.name) = true → w'.ranges Try.prog 9 ptrR mb r n D (fun z => left z && !z.sameKey (kL f.name)) cnt' → cnt' < cnt →
      w.grownBy w' (some r) → w'.heap.size = w.heap.size → (Instr.entry (.pointer (some ⟨r, 0, none⟩))).run Try.prog w' = .ok (.tuple #[.string f.name, .pointer (some ⟨(g f.name).blk, 0, none⟩)]) w' →
      wpList Try.prog ops Q rest (a.put o.dst (.tuple #[.bool true, .string f.name, .pointer (some ⟨(g f.name).blk, 0, none⟩)])) w') :
    wpList Try.prog ops Q (o :: rest) a w := by
  refine wpList_next_ranges w hg it hop 9 strK ptrR (fun x : ByteArray => Value.string x) (fun v : Value => v) (fun key kl hkey => ?_) (fun v y hv => ⟨v, rfl⟩) mb r n D left cnt hit h hDone ?_
  · obtain ⟨x, hx, _⟩ := Maps.keyOf_str Try.underlying9 hkey
    exact ⟨_, hx⟩
  · intro x c kl y w' cnt' hkey hlk hv hat hrg hlt hgr hsz hen
    obtain ⟨x', hx, rfl, hxl⟩ := Maps.keyOf_str Try.underlying9 hkey
    have hxx : x' = nmL x := by
      have : Value.string x = encStr x' := hx
      simp only [encStr] at this
      injection this with this
      rw [this]; simp [nmL]
    subst hxx
    have hh := has_true_of_atKey hat
    have h2 := hq.has x
    rw [show kL x = Lit.string (nmL x) from rfl, hh] at h2
    obtain ⟨f, hf⟩ := Option.isSome_iff_exists.1 h2.symm
    obtain ⟨hfm, rfl⟩ := findF_some hf
    have h3 := hat .nil
    rw [show Lit.string (nmL f.name) = kL f.name from rfl, hq.at_ f hfm .nil] at h3
    obtain ⟨y1, y2⟩ := y
    have h3 : DataW.lit (.int .i64 (g f.name).blk) = y1 := h3
    subst h3
    obtain rfl := ptrR_inv hv
    exact hMore f w' cnt' hfm hlk hrg hlt hgr hsz hen

/-- How many bytes the files have that have come. -/
def doneLen (left : Lit → Bool) (fs : List DF) : Nat := total (fs.filter fun f => !left (kL f.name))
theorem doneLen_le (left : Lit → Bool) (fs : List DF) : doneLen left fs ≤ total fs := by
  have := total_split fs fun f => !left (kL f.name)
  unfold doneLen; omega
theorem doneLen_start {D : DataW Unit} {fs : List DF} {g : ByteArray → PF} (h : MapIs D fs g) (hr : Rising fs) : doneLen (Maps.has D) fs = 0 := by
  have : fs.filter (fun f => !Maps.has D (kL f.name)) = [] := by
    rw [List.filter_eq_nil_iff]
    intro f hf
    rw [h.has, findF_mem hr hf]
    simp
  unfold doneLen
  rw [this]; rfl
theorem doneLen_end {left : Lit → Bool} (h : ∀ kl, left kl = false) (fs : List DF) : doneLen left fs = total fs := by
  unfold doneLen
  congr 1
  exact List.filter_eq_self.2 fun f _ => by rw [h]; rfl
theorem doneLen_step {left : Lit → Bool} {fs : List DF} (hr : Rising fs) {f : DF} (hf : f ∈ fs) (hl : left (kL f.name) = true) : doneLen (fun z => left z && !z.sameKey (kL f.name)) fs = doneLen left fs + f.len := by
  unfold doneLen
  induction fs with
  | nil => cases hf
  | cons x r ih =>
    obtain ⟨h1, h2⟩ := List.pairwise_cons.1 hr
    rw [List.filter_cons, List.filter_cons]
    simp only [sameK]
    rcases List.mem_cons.1 hf with rfl | hf'
    · have e : r.filter (fun f_1 => !(left (kL f_1.name) && !neq f_1.name f.name)) = r.filter fun f => !left (kL f.name) := by
        refine List.filter_congr fun y hy => ?_
        have := (nlt_ne (h1 y hy)).symm
        rw [(neq_no _ _).2 this]; simp
      rw [e, hl, neq_self]
      simp [total_cons]; omega
    · have hne : neq x.name f.name = false := (neq_no _ _).2 (nlt_ne (h1 f hf'))
      have := ih h2 hf'
      simp only [sameK, Bool.not_and, Bool.not_not] at this
      rw [hne]
      simp only [Bool.not_and, Bool.not_not, Bool.or_false]
      cases left (kL x.name) <;> simp [total_cons, this] <;> omega
theorem fileCells {w : World} {base : Nat} {p : PF} {f : DF} (h : FileP w base p f) : ∃ A1 c1 A2 c2, p.v1 = .slice A1 f.safe.length c1 ∧ p.v2 = .slice A2 f.wait.length c2 ∧ w.cell? ⟨p.blk, 0, none⟩ = some (.slice A1 f.safe.length c1) ∧ w.cell? ⟨p.blk, 1, none⟩ = some (.slice A2 f.wait.length c2) := by
  obtain ⟨A1, c1, e1, _⟩ := h.safe.slice_
  obtain ⟨A2, c2, e2, _⟩ := h.wait.slice_
  exact ⟨A1, c1, A2, c2, e1, e2, (blk_cell h.blk 0).trans (by rw [e1]; rfl), (blk_cell h.blk 1).trans (by rw [e2]; rfl)⟩
set_option maxHeartbeats 1000000 in
theorem size_any (d base mb : Nat) (s : DS) (g : ByteArray → PF) (D : DataW Unit) (w : World) (hq : DiskQ w base d s mb g D) (ho : Owns w mb D) (hr : Rising s.fs) (ht : total s.fs ≤ 1073741824) :
    Calls Try.prog 35 #[.pointer (some ⟨d, 0, none⟩)] w fun e w' => e = .returned (.int .i64 (total s.fs)) ∧ Below w.heap.size w w' := by
  obtain ⟨c0, _⟩ := cells_of hq
  have HQ := Lib.hid hq
  have HR := Lib.hid hr
  have HT := Lib.hid ht
  clear hq hr ht
  go_enter Try.func35, Try.ntmps35
  go_wp2_with (at_range; refine wpList_range_own _ rfl _ 44 rfl 9 55 strK Try.underlying44 ptrR mb (Maps.size D) D rfl ho ?_; intro w0 hrg0 hg0 hs0)
  go_frame
  have HG0 := Lib.hid hg0
  have HO := Lib.hid ho
  clear hs0 ho hg0 c0
  go_loopw [3] (fun n_ wr => ∃ left cnt, wr.ranges Try.prog 9 ptrR mb w.heap.size (Maps.size D) D left cnt ∧ n_ = .int .i64 (doneLen left s.fs) ∧ Below w.heap.size w wr) (fun _ wr => wr.rangeLeft mb w.heap.size)
  case atStart => exact ⟨_, _, hrg0, by rw [doneLen_start HQ.out.is HR.out]; rfl, grown_below HG0.out⟩
  case round =>
    obtain ⟨left, cnt, hrg, rfl, hb⟩ := hrel
    have HB := Lib.hid hb
    have HRG := Lib.hid hrg
    clear hrg0 hb hrg
    go_wp2_with (at_next; refine wpList_next_disk _ rfl _ rfl s.fs g mb w.heap.size (Maps.size D) D left cnt rfl HQ.out.is HRG.out ?_ ?_)
    · intro _ hl0
      go_wp2_with fail
      go_ret
      exact ⟨ret_int (by rw [doneLen_end hl0]), HB.out⟩
    · intro f w1 cnt1 hfm hlk hrg1 hlt hg1 hs1 hen
      have hB1 : Below w.heap.size w w1 := HB.out.grown hg1 HB.out.size fun k e => by cases e; exact Nat.le_refl _
      obtain ⟨A1, k1, A2, k2, _, _, q1, q2⟩ := fileCells (HQ.out.file f hfm)
      have q1' := cell_below hB1 q1
      have q2' := cell_below hB1 q2
      have HB1 := Lib.hid hB1
      have hdl := doneLen_le left s.fs
      have hst := doneLen_step HR.out hfm hlk
      have hdl2 := doneLen_le (fun z => left z && !z.sameKey (kL f.name)) s.fs
      have hT := HT.out
      unfold DF.len at hst
      have w1' : IntKind.i64.wrap ((f.safe.length : Int) + (f.wait.length : Int)) = (f.safe.length : Int) + (f.wait.length : Int) := IntWalk.i64_in _ (by omega)
      have w2' : IntKind.i64.wrap ((doneLen left s.fs : Int) + ((f.safe.length : Int) + (f.wait.length : Int))) = (doneLen left s.fs : Int) + ((f.safe.length : Int) + (f.wait.length : Int)) := IntWalk.i64_in _ (by omega)
      have HST : Hid ((doneLen left s.fs : Int) + ((f.safe.length : Int) + (f.wait.length : Int)) = (doneLen (fun z => left z && !z.sameKey (kL f.name)) s.fs : Nat)) := by show _ = _; rw [hst]; simp
      have HRG1 := Lib.hid hrg1
      have HLT := Lib.hid hlt
      have HFM := Lib.hid hfm
      have HLK := Lib.hid hlk
      clear hst hdl hdl2 hT hrg1 hlt hfm hlk hB1 q1 q2 hg1 hs1
      go_wp2_with fail
      go_quiet (fail)
      go_wp2_with fail
      go_roundw
      case rel => exact ⟨fun z => left z && !z.sameKey (kL f.name), cnt1, HRG1.out, (by rw [HST.out]), below_drewN' HB1.out _⟩
      case measure =>
        have e1 := World.ranges.left_eq HRG1.out
        have e2 := World.ranges.left_eq HRG.out
        have := HLT.out
        show World.rangeLeft w1 mb w.heap.size < _
        omega
end Go.Proofs.Ytfdcibghcncbmaa
