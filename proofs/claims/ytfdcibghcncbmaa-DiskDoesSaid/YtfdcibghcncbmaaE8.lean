/- The document's disk: drop. -/
import Derived.Test.YtfdcibghcncbmaaE7
namespace Go.Proofs.Ytfdcibghcncbmaa
open Go.RowKit Go.Maps Go.Shelf

theorem drop_snoc_yes {n : ByteArray} {fs : List DF} {k : Nat} {f : DF} (hf : fs[k]? = some f) (hn : f.name ≠ n) : dropF n (fs.take (k + 1)) = dropF n (fs.take k) ++ [f] := by
  unfold dropF; rw [take_snoc' hf, List.filter_append]; simp [hn]
theorem drop_snoc_no {n : ByteArray} {fs : List DF} {k : Nat} {f : DF} (hf : fs[k]? = some f) (hn : f.name = n) : dropF n (fs.take (k + 1)) = dropF n (fs.take k) := by
  unfold dropF; rw [take_snoc' hf, List.filter_append]; simp [hn]
theorem dropF_len (n : ByteArray) (fs : List DF) (k : Nat) : (dropF n (fs.take k)).length ≤ k := by
  have := List.length_filter_le (fun f => !neq f.name n) (fs.take k)
  have h2 := List.length_take_le k fs
  unfold dropF; omega
theorem row_app {w1 : World} {base : Nat} {xs : List DF} {hh : HV} {o' : Value} (f : DF) (ho : Own w1 base 65 3 o' (xs.length + 1) (xs.flatMap (fC hh) ++ fC hh f)) :
    Own w1 base 65 3 o' (xs ++ [f]).length ((xs ++ [f]).flatMap (fC hh)) := by
  rw [List.length_append, List.flatMap_append]
  simpa using ho
theorem drop_done {w wr : World} {base m : Nat} {s : DS} {v : Value} {h : HV} {L : Nat → Prop} {n : ByteArray} {o : Value} (hk : KRef w base m s v h L) (hb : Below w.heap.size w wr)
    (ho : Own wr w.heap.size 65 3 o (dropF n s.fs).length ((dropF n s.fs).flatMap (fC h))) : KRef (wr.setCell ⟨m, 0, none⟩ o) base m { s with fs := dropF n s.fs } o h (newL L w (wr.setCell ⟨m, 0, none⟩ o)) ∧ Chg (fun k => k = m) w (wr.setCell ⟨m, 0, none⟩ o) := by
  have hq1 := hk.q.below hb
  have hbase : base ≤ w.heap.size := by have := hk.lo m hk.has; omega
  have hlo : ∀ k, L k → base ≤ k ∧ k < w.heap.size := hk.lo
  have hset := hq1.setRow o (dropF n s.fs) h (ho.lower hbase) fun f hf => hq1.bytes f (mem_drop.1 hf).1
  have hm : m < w.heap.size := (hk.lo m hk.has).2
  refine ⟨⟨hset, fun k hk' => ?_, fun k hk' => ?_⟩, Chg.setCell (L := fun k => k = m) (p := ⟨m, 0, none⟩) (Chg.of_below hb) (.inl rfl) _⟩
  · rcases hk' with rfl | hk' | ⟨f, hf, hk'⟩
    · exact .inl hk.has
    · have := ho.lt hk'
      exact .inr ⟨by omega, by simpa using this.2⟩
    · exact .inl (hk.l k (.inr (.inr ⟨f, (mem_drop.1 hf).1, hk'⟩)))
  · have := hb.size
    rcases hk' with hk' | hk'
    · have := hlo k hk'; simp; omega
    · have h2 : k < wr.heap.size := by simpa using hk'.2
      simp; omega
set_option maxRecDepth 100000 in
set_option maxHeartbeats 2000000 in
theorem drop_k (m base : Nat) (s : DS) (v : Value) (h : HV) (L : Nat → Prop) (n : ByteArray) (w : World) (hk : KRef w base m s v h L) (hfew : s.fs.length ≤ 1048576) (hn : n.size ≤ maxLen) :
    Calls Try.prog 46 #[.pointer (some ⟨m, 0, none⟩), .string n] w fun e w' => e = .returned (.tuple #[]) ∧ ∃ v', KRef w' base m { s with fs := dropF n s.fs } v' h (newL L w w') ∧ Chg (fun k => k = m) w w' := by
  obtain ⟨c0, _⟩ := hk.q.cells
  obtain ⟨A, cap, hv, _⟩ := hk.q.row.slice_
  have HK := Lib.hid hk
  have hml := blk_lt hk.q.blk
  subst hv
  clear hk
  go_enter Try.func46, Try.ntmps46
  go_wp2_with fail
  go_loopw [4, 6, 12] (fun o _ i wr => ∃ k : Nat, k ≤ s.fs.length ∧ i = .int .i64 k ∧ Hid (Own wr w.heap.size 65 3 o (dropF n (s.fs.take k)).length ((dropF n (s.fs.take k)).flatMap (fC h))) ∧ Below w.heap.size w wr) (fun _ _ i _ => s.fs.length - (intOf i).toNat)
  case atStart => exact ⟨0, Nat.zero_le _, rfl, Lib.hid (Own.none_ _ _ _ _ none), Below.refl _ _⟩
  case round =>
    obtain ⟨k, hki0, rfl, HOUT, hB0⟩ := hrel
    obtain ⟨acc, HACC⟩ : ∃ acc, Hid (dropF n (s.fs.take k) = acc) := ⟨_, rfl⟩
    rw [HACC.out] at HOUT
    obtain ⟨Ao, co, hu4, _⟩ := HOUT.out.slice_
    have hpl : acc.length ≤ k := by have := dropF_len n s.fs k; rw [HACC.out] at this; exact this
    have HB0 := Lib.hid hB0
    have hws : w.heap.size ≤ wr.heap.size := hB0.size
    subst hu4
    clear hB0
    by_cases hlt : k < s.fs.length
    · obtain ⟨f, hf⟩ : ∃ f, s.fs[k]? = some f := ⟨_, List.getElem?_eq_getElem hlt⟩
      have HF := Lib.hid hf
      obtain ⟨g, cap', A1, c1, A2, c2, e0, e1, e2, q0, q1, q2, fz, gl, hcap⟩ := (HK.out.q.below HB0.out).at_ k _ hf
      injection e0 with x1 _ x3
      subst x1; subst x3
      have hki : (k : Int) < (s.fs.length : Int) := by omega
      have HFC : Hid (fC h f = [.string f.name, .slice A1 f.safe.length c1, .slice A2 f.wait.length c2]) := Lib.hid (by unfold fC; rw [e1, e2])
      clear e1 e2 fz hf
      cases hne : neq f.name n with
      | true =>
        have t2 : (f.name.toList == n.toList) = true := by rw [str_eq]; exact hne
        have HST := Lib.hid (drop_snoc_no HF.out ((neq_iff _ _).1 hne))
        clear hne
        go_wp2_with fail
        go_roundw
        case rel => exact ⟨k + 1, by omega, by go_num, Lib.hid (by rw [HST.out, HACC.out]; exact HOUT.out.below (below_al (Below.refl _ _) _)), below_al HB0.out _⟩
        case measure => simp [intOf]; omega
      | false =>
        have t2 : (f.name.toList == n.toList) = false := by rw [str_eq]; exact hne
        have HST := Lib.hid (drop_snoc_yes HF.out ((neq_no _ _).1 hne))
        clear hne
        go_wp2_with (at_builtin; refine wpList_append_any _ rfl _ _ 47 rfl w.heap.size 65 (.agg #[.string ⟨#[]⟩, .slice none 0 0, .slice none 0 0]) 3 64 Try.underlying47 infoF rfl (by decide) (.slice Ao acc.length co) acc.length (acc.flatMap (fC h)) rfl (HOUT.out.below (below_al (below_al (Below.refl _ _) _) _)) (some ⟨wr.heap.size + 1, 0, none⟩) 1 1 [.string f.name, .slice A1 f.safe.length c1, .slice A2 f.wait.length c2] rfl rfl (news_cells (by have := blk_new (wr.alloc (.cells #[.string f.name, .slice A1 f.safe.length c1, .slice A2 f.wait.length c2] 65)) (.cells #[.string f.name, .slice A1 f.safe.length c1, .slice A2 f.wait.length c2] 65 (0, 0)); simp only [World.size_alloc] at this; exact this)) (fun u hu => by simp at hu; rcases hu with rfl | rfl | rfl <;> rfl) (by omega) (by omega) (by simp; omega) ?_; intro v' w1 ho1 hg1 hf1; have HO1 := Lib.hid ho1; have HB1 : Hid (Below w.heap.size w w1) := Lib.hid ((below_al (below_al HB0.out _) _).grown hg1 (by simp; omega) (fun j e => (HOUT.out.lt e).1)); clear ho1 hg1 hf1)
        go_roundw
        case rel => exact ⟨k + 1, by omega, by go_num, Lib.hid (by rw [HST.out, HACC.out]; refine row_app f ?_; rw [HFC.out]; exact HO1.out), HB1.out⟩
        case measure => simp [intOf]; omega
    · have hk' : k = s.fs.length := by omega
      subst hk'
      rw [List.take_length] at HACC
      have y0 := (HK.out.q.below HB0.out).cells.1
      have yf := blk_frozen (HK.out.q.below HB0.out).blk 0
      have yl := blk_lt (HK.out.q.below HB0.out).blk
      go_wp2_with fail
      go_end0
      refine ⟨rfl, _, drop_done HK.out HB0.out ?_⟩
      rw [HACC.out]
      exact HOUT.out
end Go.Proofs.Ytfdcibghcncbmaa
