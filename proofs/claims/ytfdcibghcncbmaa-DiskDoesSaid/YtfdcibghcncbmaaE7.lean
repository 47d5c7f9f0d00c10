/- The document's disk: put's walk. -/
import Derived.Test.YtfdcibghcncbmaaE6
namespace Go.Proofs.Ytfdcibghcncbmaa
open Go.RowKit Go.Maps Go.Shelf

/-- The parameter's box. -/
def boxF (w : World) (x : DF) (v1 v2 : Value) : World := w.alloc (.cells #[.string x.name, v1, v2] 65)
/-- The loop's relation. -/
structure PutR (w wr : World) (s : DS) (h : HV) (x : DF) (v1 v2 : Value) (k : Nat) (o l : Value) : Prop where
  out : Own wr (w.heap.size + 1) 65 3 o (putFold x (s.fs.take k)).1.length ((putFold x (s.fs.take k)).1.flatMap (fC (hPut h x.name (v1, v2))))
  laid : l = .bool (putFold x (s.fs.take k)).2
  below : Below (w.heap.size + 1) (boxF w x v1 v2) wr
theorem putFold_len (x : DF) (fs : List DF) (k : Nat) : (putFold x (fs.take k)).1.length ≤ k + 1 := by
  have := put_len x (fs.take k) [] false
  unfold putFold
  simp at this
  omega
/-- Whatever value a slice of files is, an element more. -/
theorem putR_app {w w1 : World} {xs : List DF} {hh : HV} {o' : Value} (f : DF) (ho : Own w1 (w.heap.size + 1) 65 3 o' (xs.length + 1) (xs.flatMap (fC hh) ++ fC hh f)) :
    Own w1 (w.heap.size + 1) 65 3 o' (xs ++ [f]).length ((xs ++ [f]).flatMap (fC hh)) := by
  rw [List.length_append, List.flatMap_append]
  simpa using ho
theorem fC_one (h : HV) (f : DF) {A1 A2 : Option Addr} {n1 n2 c1 c2 : Nat} (e1 : (h f.name).1 = .slice A1 n1 c1) (e2 : (h f.name).2 = .slice A2 n2 c2) : ∀ u ∈ fC h f, u.oneCell' = true := by
  intro u hu
  unfold fC at hu
  rw [e1, e2] at hu
  simp at hu
  rcases hu with rfl | rfl | rfl <;> rfl
theorem put_done {w wr : World} {base m : Nat} {s : DS} {v : Value} {h : HV} {L : Nat → Prop} {x : DF} {u : Value × Value} {o : Value} (hk : KRef w base m s v h L) (hx : BytesOf w base (fun _ => u) x) (hxL : ∀ k, fp u.1 = some k ∨ fp u.2 = some k → L k) (hb : Below w.heap.size w wr)
    (ho : Own wr (w.heap.size + 1) 65 3 o (putF x s.fs).length ((putF x s.fs).flatMap (fC (hPut h x.name u)))) : RAfter w (wr.setCell ⟨m, 0, none⟩ o) base m { s with fs := putF x s.fs } L := by
  have hq1 := hk.q.below hb
  have hbase : base ≤ w.heap.size := by have := hk.lo m hk.has; omega
  have hlo : ∀ k, L k → base ≤ k ∧ k < w.heap.size := hk.lo
  have hbytes : ∀ f ∈ putF x s.fs, BytesOf wr base (hPut h x.name u) f := by
    intro f hf
    rcases mem_put.1 hf with rfl | ⟨h1, h2⟩
    · have := hx.below hb
      exact ⟨by rw [hPut_same]; exact this.safe, by rw [hPut_same]; exact this.wait⟩
    · have := hq1.bytes f h1
      exact ⟨by rw [hPut_other h u h2]; exact this.safe, by rw [hPut_other h u h2]; exact this.wait⟩
  have hset := hq1.setRow o (putF x s.fs) (hPut h x.name u) (ho.lower (by omega)) hbytes
  have hm : m < w.heap.size := (hk.lo m hk.has).2
  refine ⟨⟨⟨o, hPut h x.name u, hset, fun k hk' => ?_, fun k hk' => ?_⟩⟩, (Chg.of_below hb).setCell (.inl hk.has) _⟩
  · rcases hk' with rfl | hk' | ⟨f, hf, hk'⟩
    · exact .inl hk.has
    · have := ho.lt hk'
      exact .inr ⟨by omega, by simpa using this.2⟩
    · rcases mem_put.1 hf with rfl | ⟨h1, h2⟩
      · rw [hPut_same] at hk'
        exact .inl (hxL k hk')
      · rw [hPut_other h u h2] at hk'
        exact .inl (hk.l k (.inr (.inr ⟨f, h1, hk'⟩)))
  · have := hb.size
    rcases hk' with hk' | hk'
    · have := hlo k hk'; simp; omega
    · have h2 : k < wr.heap.size := by simpa using hk'.2
      simp; omega
set_option maxRecDepth 100000 in
set_option maxHeartbeats 4000000 in
theorem put_k (m base : Nat) (s : DS) (v : Value) (h : HV) (L : Nat → Prop) (x : DF) (X1 X2 : Option Addr) (xc1 xc2 : Nat) (w : World) (hk : KRef w base m s v h L) (hs : Rising s.fs) (hfew : s.fs.length ≤ 1048576)
    (hx : BytesOf w base (fun _ => (.slice X1 x.safe.length xc1, .slice X2 x.wait.length xc2)) x) (hxL : ∀ k, fp (.slice X1 x.safe.length xc1) = some k ∨ fp (.slice X2 x.wait.length xc2) = some k → L k) (hn : x.name.size ≤ maxLen) :
    Calls Try.prog 44 #[.pointer (some ⟨m, 0, none⟩), .agg #[.string x.name, .slice X1 x.safe.length xc1, .slice X2 x.wait.length xc2]] w fun e w' => e = .returned (.tuple #[]) ∧ RAfter w w' base m { s with fs := putF x s.fs } L := by
  obtain ⟨c0, _⟩ := hk.q.cells
  obtain ⟨A, cap, hv, _⟩ := hk.q.row.slice_
  have HK := Lib.hid hk
  have HSR := Lib.hid hs
  have HX := Lib.hid hx
  have HXL := Lib.hid hxL
  have hml := blk_lt hk.q.blk
  obtain ⟨hh, HH⟩ : ∃ hh : HV, Hid (hPut h x.name (.slice X1 x.safe.length xc1, .slice X2 x.wait.length xc2) = hh) := ⟨_, rfl⟩
  subst hv
  clear hk hs hx hxL
  go_enter Try.func44, Try.ntmps44
  go_wp2_with fail
  go_loopw [4, 5, 7, 13] (fun o l _ i wr => ∃ k : Nat, k ≤ s.fs.length ∧ i = .int .i64 k ∧ Hid (PutR w wr s h x (.slice X1 x.safe.length xc1) (.slice X2 x.wait.length xc2) k o l)) (fun _ _ _ i _ => s.fs.length - (intOf i).toNat)
  case atStart => exact ⟨0, Nat.zero_le _, rfl, Lib.hid ⟨Own.none_ _ _ _ _ none, rfl, Below.refl _ _⟩⟩
  case round =>
    obtain ⟨k, hki0, rfl, HP⟩ := hrel
    obtain ⟨acc, l, HACC⟩ : ∃ acc l, Hid (putFold x (s.fs.take k) = (acc, l)) := ⟨_, _, rfl⟩
    have hl : u5 = .bool l := by rw [HP.out.laid, HACC.out]
    have hout := HP.out.out
    rw [HACC.out, HH.out] at hout
    have hout : Own wr (w.heap.size + 1) 65 3 u4 acc.length (acc.flatMap (fC hh)) := hout
    have HOUT := Lib.hid hout
    obtain ⟨Ao, co, hu4, _⟩ := hout.slice_
    have hpl : acc.length ≤ k + 1 := by have := putFold_len x s.fs k; rw [HACC.out] at this; exact this
    have hB0 : Below w.heap.size w wr := (below_al (Below.refl _ w) _).trans (HP.out.below.mono (by omega))
    have HB0 := Lib.hid hB0
    have HBB := Lib.hid HP.out.below
    have hbx : wr.heap[w.heap.size]? = some (.cells #[.string x.name, .slice X1 x.safe.length xc1, .slice X2 x.wait.length xc2] 65 (0, 0)) := (HP.out.below.block _ (by omega)).trans (blk_new w _)
    have bx0 : wr.cell? ⟨w.heap.size, 0, none⟩ = some (.string x.name) := blk_cell hbx 0
    have bx1 : wr.cell? ⟨w.heap.size, 1, none⟩ = some (.slice X1 x.safe.length xc1) := blk_cell hbx 1
    have bx2 : wr.cell? ⟨w.heap.size, 2, none⟩ = some (.slice X2 x.wait.length xc2) := blk_cell hbx 2
    have hbl := blk_lt hbx
    have hws : w.heap.size ≤ wr.heap.size := hB0.size
    have HBX := Lib.hid hbx
    subst hl
    subst hu4
    clear hB0 hbx hout
    by_cases hlt : k < s.fs.length
    · obtain ⟨f, hf⟩ : ∃ f, s.fs[k]? = some f := ⟨_, List.getElem?_eq_getElem hlt⟩
      have HF := Lib.hid hf
      obtain ⟨g, cap', A1, c1, A2, c2, e0, e1, e2, q0, q1, q2, fz, gl, hcap⟩ := (HK.out.q.below HB0.out).at_ k _ hf
      injection e0 with x1 _ x3
      subst x1; subst x3
      have hki : (k : Int) < (s.fs.length : Int) := by omega
      have HSN := Lib.hid (put_snoc (x := x) hf)
      have HFC : Hid (f.name ≠ x.name → fC hh f = [.string f.name, .slice A1 f.safe.length c1, .slice A2 f.wait.length c2]) := Lib.hid fun hne => by
        rw [← HH.out, fC_other h _ hne]
        unfold fC
        rw [e1, e2]
      have HFX : Hid (fC hh x = [.string x.name, .slice X1 x.safe.length xc1, .slice X2 x.wait.length xc2]) := Lib.hid (by rw [← HH.out, fC_same])
      clear e1 e2 fz hf
      cases hnl : nlt x.name f.name with
      | true =>
        have hne : f.name ≠ x.name := (nlt_ne hnl).symm
        have t1 : Op.bytesLess x.name.toList f.name.toList = true := by rw [nlt_bytes]; exact hnl
        have t2 : (f.name.toList == x.name.toList) = false := by rw [str_eq]; exact (neq_no _ _).2 hne
        have HNE := Lib.hid hne
        have HNL := Lib.hid hnl
        clear hne hnl
        cases l with
        | true =>
          have HST : Hid (putFold x (s.fs.take (k + 1)) = (acc ++ [f], true)) := Lib.hid (by
            rw [HSN.out, HACC.out]; unfold putStep; rw [HNL.out, (neq_no _ _).2 HNE.out]; simp)
          go_wp2_with (at_builtin; refine wpList_append_any _ rfl _ _ 47 rfl (w.heap.size + 1) 65 (.agg #[.string ⟨#[]⟩, .slice none 0 0, .slice none 0 0]) 3 64 Try.underlying47 infoF rfl (by decide) (.slice Ao acc.length co) acc.length (acc.flatMap (fC hh)) rfl (HOUT.out.below (below_al (below_al (Below.refl _ _) _) _)) (some ⟨wr.heap.size + 1, 0, none⟩) 1 1 [.string f.name, .slice A1 f.safe.length c1, .slice A2 f.wait.length c2] rfl rfl (news_cells (by have := blk_new (wr.alloc (.cells #[.string f.name, .slice A1 f.safe.length c1, .slice A2 f.wait.length c2] 65)) (.cells #[.string f.name, .slice A1 f.safe.length c1, .slice A2 f.wait.length c2] 65 (0, 0)); simp only [World.size_alloc] at this; exact this)) (fun u hu => by simp at hu; rcases hu with rfl | rfl | rfl <;> rfl) (by omega) (by omega) (by simp; omega) ?_; intro v' w1 ho1 hg1 hf1; have HO1 := Lib.hid ho1; have HG1 : Hid (Below (w.heap.size + 1) (boxF w x (.slice X1 x.safe.length xc1) (.slice X2 x.wait.length xc2)) w1) := Lib.hid (((HBB.out.alloc (by omega) _).alloc (by simp; omega) _).grown hg1 (by simp; omega) (fun j e => (HOUT.out.lt e).1)); clear ho1 hg1 hf1)
          go_roundw
          case rel => exact ⟨k + 1, by omega, by go_num, Lib.hid ⟨by rw [HST.out, HH.out]; refine putR_app f ?_; rw [HFC.out HNE.out]; exact HO1.out, by rw [HST.out], HG1.out⟩⟩
          case measure => simp [intOf]; omega
        | false =>
          have HST : Hid (putFold x (s.fs.take (k + 1)) = ((acc ++ [x]) ++ [f], true)) := Lib.hid (by
            rw [HSN.out, HACC.out]; unfold putStep; rw [HNL.out, (neq_no _ _).2 HNE.out]; simp)
          have tok1 : True := trivial
          go_wp2_with first
            | (at_builtin; have _t := tok1; refine wpList_append_any _ rfl _ _ 47 rfl (w.heap.size + 1) 65 (.agg #[.string ⟨#[]⟩, .slice none 0 0, .slice none 0 0]) 3 64 Try.underlying47 infoF rfl (by decide) (.slice Ao acc.length co) acc.length (acc.flatMap (fC hh)) rfl (HOUT.out.below (below_al (below_al (Below.refl _ _) _) _)) (some ⟨wr.heap.size + 1, 0, none⟩) 1 1 [.string x.name, .slice X1 x.safe.length xc1, .slice X2 x.wait.length xc2] rfl rfl (news_cells (by have := blk_new (wr.alloc (.cells #[.string f.name, .slice A1 f.safe.length c1, .slice A2 f.wait.length c2] 65)) (.cells #[.string x.name, .slice X1 x.safe.length xc1, .slice X2 x.wait.length xc2] 65 (0, 0)); simp only [World.size_alloc] at this; exact this)) (fun u hu => by simp at hu; rcases hu with rfl | rfl | rfl <;> rfl) (by omega) (by omega) (by simp; omega) ?_; intro v' w1 ho1 hg1 hf1; obtain ⟨Ap, cp, rfl, _⟩ := ho1.slice_; have HO1 := Lib.hid ho1; have HG1 : Hid (Below (w.heap.size + 1) (boxF w x (.slice X1 x.safe.length xc1) (.slice X2 x.wait.length xc2)) w1) := Lib.hid (((HBB.out.alloc (by omega) _).alloc (by simp; omega) _).grown hg1 (by simp; omega) (fun j e => (HOUT.out.lt e).1)); have hws1 : wr.heap.size + 2 ≤ w1.heap.size := (by have := hg1.size; simp at this; omega); have hne0 : ∀ j, fp (.slice Ao acc.length co) = some j → j ≠ wr.heap.size := (fun j e e2 => by have := (HOUT.out.lt e).2; omega); have hb0 : w1.heap[wr.heap.size]? = some (.cells #[.string f.name, .slice A1 f.safe.length c1, .slice A2 f.wait.length c2] 65 (0, 0)) := (hg1.block _ (by simp <;> omega) (fun e => hne0 _ e.symm rfl)).trans (blk_alloc (blk_new wr _) _); have r0 : w1.cell? ⟨wr.heap.size, 0, none⟩ = some (.string f.name) := blk_cell hb0 0; have r1 : w1.cell? ⟨wr.heap.size, 1, none⟩ = some (.slice A1 f.safe.length c1) := blk_cell hb0 1; have r2 : w1.cell? ⟨wr.heap.size, 2, none⟩ = some (.slice A2 f.wait.length c2) := blk_cell hb0 2; have z0 : w1.cell? ⟨w.heap.size, 0, none⟩ = some (.string x.name) := blk_cell ((HG1.out.block _ (by omega)).trans (blk_new w _)) 0; clear ho1 hg1 hf1 hb0 hne0 tok1)
            | (at_builtin; refine wpList_append_any _ rfl _ _ 47 rfl (w.heap.size + 1) 65 (.agg #[.string ⟨#[]⟩, .slice none 0 0, .slice none 0 0]) 3 64 Try.underlying47 infoF rfl (by decide) (.slice Ap (acc.length + 1) cp) (acc.length + 1) (acc.flatMap (fC hh) ++ [.string x.name, .slice X1 x.safe.length xc1, .slice X2 x.wait.length xc2]) rfl (HO1.out.below (below_al (Below.refl _ _) _)) (some ⟨w1.heap.size, 0, none⟩) 1 1 [.string f.name, .slice A1 f.safe.length c1, .slice A2 f.wait.length c2] rfl rfl (news_cells (blk_new w1 _)) (fun u hu => by simp at hu; rcases hu with rfl | rfl | rfl <;> rfl) (by omega) (by omega) (by simp; omega) ?_; intro v' w2 ho2 hg2 hf2; have HO2 := Lib.hid ho2; have HG2 : Hid (Below (w.heap.size + 1) (boxF w x (.slice X1 x.safe.length xc1) (.slice X2 x.wait.length xc2)) w2) := Lib.hid ((HG1.out.alloc (by omega) _).grown hg2 (by simp; omega) (fun j e => (HO1.out.lt e).1)); clear ho2 hg2 hf2)
          go_roundw
          case rel => exact ⟨k + 1, by omega, by go_num, Lib.hid ⟨by
            rw [HST.out, HH.out]
            refine putR_app f ?_
            rw [HFC.out HNE.out, List.length_append, List.flatMap_append]
            have := HO2.out
            simpa [HFX.out] using this, by rw [HST.out], HG2.out⟩⟩
          case measure => simp [intOf]; omega
      | false =>
        have t1 : Op.bytesLess x.name.toList f.name.toList = false := by rw [nlt_bytes]; exact hnl
        cases hne : neq f.name x.name with
        | true =>
          have t2 : (f.name.toList == x.name.toList) = true := by rw [str_eq]; exact hne
          have HST : Hid (putFold x (s.fs.take (k + 1)) = (acc, l)) := Lib.hid (by
            rw [HSN.out, HACC.out]; unfold putStep; rw [hnl, hne]; simp)
          clear hnl hne
          cases l <;> (
            go_wp2_with fail
            go_roundw
            case rel => exact ⟨k + 1, by omega, by go_num, Lib.hid ⟨by rw [HST.out, HH.out]; exact HOUT.out.below (below_al (Below.refl _ _) _), by rw [HST.out], HBB.out.alloc (by omega) _⟩⟩
            case measure => simp [intOf]; omega)
        | false =>
          have t2 : (f.name.toList == x.name.toList) = false := by rw [str_eq]; exact hne
          have HNE : Hid (f.name ≠ x.name) := Lib.hid ((neq_no _ _).1 hne)
          have HST : Hid (putFold x (s.fs.take (k + 1)) = (acc ++ [f], l)) := Lib.hid (by
            rw [HSN.out, HACC.out]; unfold putStep; rw [hnl, hne]; simp)
          clear hnl hne
          cases l with
          | true =>
            go_wp2_with (at_builtin; refine wpList_append_any _ rfl _ _ 47 rfl (w.heap.size + 1) 65 (.agg #[.string ⟨#[]⟩, .slice none 0 0, .slice none 0 0]) 3 64 Try.underlying47 infoF rfl (by decide) (.slice Ao acc.length co) acc.length (acc.flatMap (fC hh)) rfl (HOUT.out.below (below_al (below_al (Below.refl _ _) _) _)) (some ⟨wr.heap.size + 1, 0, none⟩) 1 1 [.string f.name, .slice A1 f.safe.length c1, .slice A2 f.wait.length c2] rfl rfl (news_cells (by have := blk_new (wr.alloc (.cells #[.string f.name, .slice A1 f.safe.length c1, .slice A2 f.wait.length c2] 65)) (.cells #[.string f.name, .slice A1 f.safe.length c1, .slice A2 f.wait.length c2] 65 (0, 0)); simp only [World.size_alloc] at this; exact this)) (fun u hu => by simp at hu; rcases hu with rfl | rfl | rfl <;> rfl) (by omega) (by omega) (by simp; omega) ?_; intro v' w1 ho1 hg1 hf1; have HO1 := Lib.hid ho1; have HG1 : Hid (Below (w.heap.size + 1) (boxF w x (.slice X1 x.safe.length xc1) (.slice X2 x.wait.length xc2)) w1) := Lib.hid (((HBB.out.alloc (by omega) _).alloc (by simp; omega) _).grown hg1 (by simp; omega) (fun j e => (HOUT.out.lt e).1)); clear ho1 hg1 hf1)
            go_roundw
            case rel => exact ⟨k + 1, by omega, by go_num, Lib.hid ⟨by rw [HST.out, HH.out]; refine putR_app f ?_; rw [HFC.out HNE.out]; exact HO1.out, by rw [HST.out], HG1.out⟩⟩
            case measure => simp [intOf]; omega
          | false =>
            go_wp2_with (at_builtin; refine wpList_append_any _ rfl _ _ 47 rfl (w.heap.size + 1) 65 (.agg #[.string ⟨#[]⟩, .slice none 0 0, .slice none 0 0]) 3 64 Try.underlying47 infoF rfl (by decide) (.slice Ao acc.length co) acc.length (acc.flatMap (fC hh)) rfl (HOUT.out.below (below_al (below_al (Below.refl _ _) _) _)) (some ⟨wr.heap.size + 1, 0, none⟩) 1 1 [.string f.name, .slice A1 f.safe.length c1, .slice A2 f.wait.length c2] rfl rfl (news_cells (by have := blk_new (wr.alloc (.cells #[.string f.name, .slice A1 f.safe.length c1, .slice A2 f.wait.length c2] 65)) (.cells #[.string f.name, .slice A1 f.safe.length c1, .slice A2 f.wait.length c2] 65 (0, 0)); simp only [World.size_alloc] at this; exact this)) (fun u hu => by simp at hu; rcases hu with rfl | rfl | rfl <;> rfl) (by omega) (by omega) (by simp; omega) ?_; intro v' w1 ho1 hg1 hf1; have HO1 := Lib.hid ho1; have HG1 : Hid (Below (w.heap.size + 1) (boxF w x (.slice X1 x.safe.length xc1) (.slice X2 x.wait.length xc2)) w1) := Lib.hid (((HBB.out.alloc (by omega) _).alloc (by simp; omega) _).grown hg1 (by simp; omega) (fun j e => (HOUT.out.lt e).1)); clear ho1 hg1 hf1)
            go_roundw
            case rel => exact ⟨k + 1, by omega, by go_num, Lib.hid ⟨by rw [HST.out, HH.out]; refine putR_app f ?_; rw [HFC.out HNE.out]; exact HO1.out, by rw [HST.out], HG1.out⟩⟩
            case measure => simp [intOf]; omega
    · have hk' : k = s.fs.length := by omega
      subst hk'
      rw [List.take_length] at HACC
      have y0 := (HK.out.q.below HB0.out).cells.1
      have yf := blk_frozen (HK.out.q.below HB0.out).blk 0
      have yl := blk_lt (HK.out.q.below HB0.out).blk
      cases l with
      | true =>
        have HEQ : Hid (acc = putF x s.fs) := Lib.hid (by have := put_of (x := x) HSR.out; rw [HACC.out] at this; exact this)
        go_wp2_with fail
        go_end0
        refine ⟨rfl, ?_⟩
        refine put_done HK.out (u := (.slice X1 x.safe.length xc1, .slice X2 x.wait.length xc2)) HX.out HXL.out HB0.out ?_
        rw [HH.out, ← HEQ.out]
        exact HOUT.out
      | false =>
        have HEQ : Hid (acc ++ [x] = putF x s.fs) := Lib.hid (by have := put_of (x := x) HSR.out; rw [HACC.out] at this; exact this)
        have HFX : Hid (fC hh x = [.string x.name, .slice X1 x.safe.length xc1, .slice X2 x.wait.length xc2]) := Lib.hid (by rw [← HH.out, fC_same])
        go_wp2_with (at_builtin; refine wpList_append_any _ rfl _ _ 47 rfl (w.heap.size + 1) 65 (.agg #[.string ⟨#[]⟩, .slice none 0 0, .slice none 0 0]) 3 64 Try.underlying47 infoF rfl (by decide) (.slice Ao acc.length co) acc.length (acc.flatMap (fC hh)) rfl (HOUT.out.below (below_al (Below.refl _ _) _)) (some ⟨wr.heap.size, 0, none⟩) 1 1 [.string x.name, .slice X1 x.safe.length xc1, .slice X2 x.wait.length xc2] rfl rfl (news_cells (blk_new wr _)) (fun u hu => by simp at hu; rcases hu with rfl | rfl | rfl <;> rfl) (by omega) (by omega) (by simp; omega) ?_; intro v' w1 ho1 hg1 hf1; obtain ⟨Ap, cp, rfl, _⟩ := ho1.slice_; have HO1 := Lib.hid ho1; have HB1 : Hid (Below w.heap.size w w1) := Lib.hid ((below_al HB0.out _).grown hg1 (by simp; omega) (fun j e => by have := (HOUT.out.lt e).1; omega)); have z0 := (HK.out.q.below HB1.out).cells.1; have zf := blk_frozen (HK.out.q.below HB1.out).blk 0; have zl := blk_lt (HK.out.q.below HB1.out).blk; clear ho1 hg1 hf1)
        go_end0
        refine ⟨rfl, ?_⟩
        refine put_done HK.out (u := (.slice X1 x.safe.length xc1, .slice X2 x.wait.length xc2)) HX.out HXL.out HB1.out ?_
        rw [HH.out, ← HEQ.out, List.length_append, List.flatMap_append]
        have := HO1.out
        simpa [HFX.out] using this
end Go.Proofs.Ytfdcibghcncbmaa
