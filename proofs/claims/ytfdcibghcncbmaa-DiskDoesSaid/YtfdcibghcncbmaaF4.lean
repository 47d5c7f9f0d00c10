/- The statement's helpers: a call of the document's disk. -/
import Derived.Test.YtfdcibghcncbmaaF3
namespace Go.Proofs.Ytfdcibghcncbmaa
open Go.RowKit Go.Maps Go.Shelf

set_option maxHeartbeats 1000000 in
theorem says_0 (m base : Nat) (s : DS) (L : Nat → Prop) (o : DOp) (A : Option Addr) (c : Nat) (w : World) (h : RDisk w base m s L) (hs : s.okS) (ho : o.ok) (hsrc : Src w L A o.b) (hT : total s.fs + o.b.length ≤ 1073741824) (hk : o.kind = 0) :
    Calls Try.prog 9 #[.pointer (some ⟨m, 0, none⟩), .agg #[.int .i64 o.kind, .string o.f, .string o.g, .int .i64 o.n, .int .i64 o.k, .slice A o.b.length c]] w fun e w' => RetB w w' (s.step o).2.2 (s.step o).2.1 e ∧ RAfter w w' base m (s.step o).1 L := by
  have HP := Lib.hid h
  have HP1 : Hid (RDisk (w.alloc (.cells #[.int .i64 o.kind, .string o.f, .string o.g, .int .i64 o.n, .int .i64 o.k, .slice A o.b.length c] 31)) base m s L) := Lib.hid (h.below (below_al (Below.refl _ _) _))
  have HS := Lib.hid hs
  have HO := Lib.hid ho
  have HT := Lib.hid hT
  have HB1 : Hid (Src (w.alloc (.cells #[.int .i64 o.kind, .string o.f, .string o.g, .int .i64 o.n, .int .i64 o.k, .slice A o.b.length c] 31)) L A o.b) := Lib.hid (hsrc.chg (M := L) (.of_below (below_al (Below.refl _ _) _)) fun _ => id)
  have t0 : (o.kind == 0) = true := by simp; omega
  have HST : Hid (s.step o = ((s.append o.f o.b).1, ([], (s.append o.f o.b).2))) := Lib.hid (by unfold DS.step; rw [if_pos hk])
  clear h hs ho hsrc hT hk
  go_enter Try.func9, Try.ntmps9
  go_wp2_with (go_at_call 22; refine (RAppend_any m base s L o.f A o.b c _ HP1.out HS.out.fit HO.out.f HB1.out HT.out HS.out.room).mono ?_; rintro e w2 ⟨rfl, ha⟩; have HA := Lib.hid ha; clear ha)
  go_ret2
  rw [HST.out]
  exact ⟨RetB.none_, RAfter.then HP.out (below_al (Below.refl _ _) _) HA.out⟩
set_option maxHeartbeats 1000000 in
theorem says_1 (m base : Nat) (s : DS) (L : Nat → Prop) (o : DOp) (A : Option Addr) (c : Nat) (w : World) (h : RDisk w base m s L) (hs : s.okS) (ho : o.ok) (hsrc : Src w L A o.b) (hT : total s.fs + o.b.length ≤ 1073741824) (hk : o.kind = 1) :
    Calls Try.prog 9 #[.pointer (some ⟨m, 0, none⟩), .agg #[.int .i64 o.kind, .string o.f, .string o.g, .int .i64 o.n, .int .i64 o.k, .slice A o.b.length c]] w fun e w' => RetB w w' (s.step o).2.2 (s.step o).2.1 e ∧ RAfter w w' base m (s.step o).1 L := by
  have HP := Lib.hid h
  have HP1 : Hid (RDisk (w.alloc (.cells #[.int .i64 o.kind, .string o.f, .string o.g, .int .i64 o.n, .int .i64 o.k, .slice A o.b.length c] 31)) base m s L) := Lib.hid (h.below (below_al (Below.refl _ _) _))
  have HS := Lib.hid hs
  have HO := Lib.hid ho
  have HT := Lib.hid hT
  have HB1 : Hid (Src (w.alloc (.cells #[.int .i64 o.kind, .string o.f, .string o.g, .int .i64 o.n, .int .i64 o.k, .slice A o.b.length c] 31)) L A o.b) := Lib.hid (hsrc.chg (M := L) (.of_below (below_al (Below.refl _ _) _)) fun _ => id)
  have t0 : (o.kind == 0) = false := by simp; omega
  have t1 : (o.kind == 1) = true := by simp; omega
  have HST : Hid (s.step o = ((s.sync o.f).1, ([], (s.sync o.f).2))) := Lib.hid (by unfold DS.step; rw [if_neg (by omega), if_pos hk])
  clear h hs ho hsrc hT hk
  go_enter Try.func9, Try.ntmps9
  go_wp2_with (go_at_call 23; refine (RSync_any m base s L o.f _ HP1.out HS.out.fit HO.out.f).mono ?_; rintro e w2 ⟨rfl, ha⟩; have HA := Lib.hid ha; clear ha)
  go_ret2
  rw [HST.out]
  exact ⟨RetB.none_, RAfter.then HP.out (below_al (Below.refl _ _) _) HA.out⟩
set_option maxHeartbeats 1000000 in
theorem says_2 (m base : Nat) (s : DS) (L : Nat → Prop) (o : DOp) (A : Option Addr) (c : Nat) (w : World) (h : RDisk w base m s L) (hs : s.okS) (ho : o.ok) (hsrc : Src w L A o.b) (hT : total s.fs + o.b.length ≤ 1073741824) (hk : o.kind = 2) :
    Calls Try.prog 9 #[.pointer (some ⟨m, 0, none⟩), .agg #[.int .i64 o.kind, .string o.f, .string o.g, .int .i64 o.n, .int .i64 o.k, .slice A o.b.length c]] w fun e w' => RetB w w' (s.step o).2.2 (s.step o).2.1 e ∧ RAfter w w' base m (s.step o).1 L := by
  have HP := Lib.hid h
  have HP1 : Hid (RDisk (w.alloc (.cells #[.int .i64 o.kind, .string o.f, .string o.g, .int .i64 o.n, .int .i64 o.k, .slice A o.b.length c] 31)) base m s L) := Lib.hid (h.below (below_al (Below.refl _ _) _))
  have HS := Lib.hid hs
  have HO := Lib.hid ho
  have HT := Lib.hid hT
  have HB1 : Hid (Src (w.alloc (.cells #[.int .i64 o.kind, .string o.f, .string o.g, .int .i64 o.n, .int .i64 o.k, .slice A o.b.length c] 31)) L A o.b) := Lib.hid (hsrc.chg (M := L) (.of_below (below_al (Below.refl _ _) _)) fun _ => id)
  have t0 : (o.kind == 0) = false := by simp; omega
  have t1 : (o.kind == 1) = false := by simp; omega
  have t2 : (o.kind == 2) = true := by simp; omega
  have HST : Hid (s.step o = ((s.trunc o.f o.n).1, ([], (s.trunc o.f o.n).2))) := Lib.hid (by unfold DS.step; rw [if_neg (by omega), if_neg (by omega), if_pos hk])
  clear h hs ho hsrc hT hk
  go_enter Try.func9, Try.ntmps9
  go_wp2_with (go_at_call 24; refine (RTruncate_any m base s L o.f o.n _ HP1.out HS.out.fit HO.out.f).mono ?_; rintro e w2 ⟨rfl, ha⟩; have HA := Lib.hid ha; clear ha)
  go_ret2
  rw [HST.out]
  exact ⟨RetB.none_, RAfter.then HP.out (below_al (Below.refl _ _) _) HA.out⟩
set_option maxHeartbeats 1000000 in
theorem says_3 (m base : Nat) (s : DS) (L : Nat → Prop) (o : DOp) (A : Option Addr) (c : Nat) (w : World) (h : RDisk w base m s L) (hs : s.okS) (ho : o.ok) (hsrc : Src w L A o.b) (hT : total s.fs + o.b.length ≤ 1073741824) (hk : o.kind = 3) :
    Calls Try.prog 9 #[.pointer (some ⟨m, 0, none⟩), .agg #[.int .i64 o.kind, .string o.f, .string o.g, .int .i64 o.n, .int .i64 o.k, .slice A o.b.length c]] w fun e w' => RetB w w' (s.step o).2.2 (s.step o).2.1 e ∧ RAfter w w' base m (s.step o).1 L := by
  have HP := Lib.hid h
  have HP1 : Hid (RDisk (w.alloc (.cells #[.int .i64 o.kind, .string o.f, .string o.g, .int .i64 o.n, .int .i64 o.k, .slice A o.b.length c] 31)) base m s L) := Lib.hid (h.below (below_al (Below.refl _ _) _))
  have HS := Lib.hid hs
  have HO := Lib.hid ho
  have HT := Lib.hid hT
  have HB1 : Hid (Src (w.alloc (.cells #[.int .i64 o.kind, .string o.f, .string o.g, .int .i64 o.n, .int .i64 o.k, .slice A o.b.length c] 31)) L A o.b) := Lib.hid (hsrc.chg (M := L) (.of_below (below_al (Below.refl _ _) _)) fun _ => id)
  have t0 : (o.kind == 0) = false := by simp; omega
  have t1 : (o.kind == 1) = false := by simp; omega
  have t2 : (o.kind == 2) = false := by simp; omega
  have t3 : (o.kind == 3) = true := by simp; omega
  have HST : Hid (s.step o = ((s.rename o.f o.g).1, ([], (s.rename o.f o.g).2))) := Lib.hid (by unfold DS.step; rw [if_neg (by omega), if_neg (by omega), if_neg (by omega), if_pos hk])
  clear h hs ho hsrc hT hk
  go_enter Try.func9, Try.ntmps9
  go_wp2_with (go_at_call 25; refine (RRename_any m base s L o.f o.g _ HP1.out HS.out.fit HO.out.f HO.out.g).mono ?_; rintro e w2 ⟨rfl, ha⟩; have HA := Lib.hid ha; clear ha)
  go_ret2
  rw [HST.out]
  exact ⟨RetB.none_, RAfter.then HP.out (below_al (Below.refl _ _) _) HA.out⟩
set_option maxHeartbeats 1000000 in
theorem says_4 (m base : Nat) (s : DS) (L : Nat → Prop) (o : DOp) (A : Option Addr) (c : Nat) (w : World) (h : RDisk w base m s L) (hs : s.okS) (ho : o.ok) (hsrc : Src w L A o.b) (hT : total s.fs + o.b.length ≤ 1073741824) (hk : o.kind = 4) :
    Calls Try.prog 9 #[.pointer (some ⟨m, 0, none⟩), .agg #[.int .i64 o.kind, .string o.f, .string o.g, .int .i64 o.n, .int .i64 o.k, .slice A o.b.length c]] w fun e w' => RetB w w' (s.step o).2.2 (s.step o).2.1 e ∧ RAfter w w' base m (s.step o).1 L := by
  have HP := Lib.hid h
  have HP1 : Hid (RDisk (w.alloc (.cells #[.int .i64 o.kind, .string o.f, .string o.g, .int .i64 o.n, .int .i64 o.k, .slice A o.b.length c] 31)) base m s L) := Lib.hid (h.below (below_al (Below.refl _ _) _))
  have HS := Lib.hid hs
  have HO := Lib.hid ho
  have HT := Lib.hid hT
  have HB1 : Hid (Src (w.alloc (.cells #[.int .i64 o.kind, .string o.f, .string o.g, .int .i64 o.n, .int .i64 o.k, .slice A o.b.length c] 31)) L A o.b) := Lib.hid (hsrc.chg (M := L) (.of_below (below_al (Below.refl _ _) _)) fun _ => id)
  have t0 : (o.kind == 0) = false := by simp; omega
  have t1 : (o.kind == 1) = false := by simp; omega
  have t2 : (o.kind == 2) = false := by simp; omega
  have t3 : (o.kind == 3) = false := by simp; omega
  have t4 : (o.kind == 4) = true := by simp; omega
  have HST : Hid (s.step o = ((s.remove o.f).1, ([], (s.remove o.f).2))) := Lib.hid (by unfold DS.step; rw [if_neg (by omega), if_neg (by omega), if_neg (by omega), if_neg (by omega), if_pos hk])
  clear h hs ho hsrc hT hk
  go_enter Try.func9, Try.ntmps9
  go_wp2_with (go_at_call 26; refine (RRemove_any m base s L o.f _ HP1.out HS.out.fit HO.out.f).mono ?_; rintro e w2 ⟨rfl, ha⟩; have HA := Lib.hid ha; clear ha)
  go_ret2
  rw [HST.out]
  exact ⟨RetB.none_, RAfter.then HP.out (below_al (Below.refl _ _) _) HA.out⟩
set_option maxHeartbeats 1000000 in
theorem says_5 (m base : Nat) (s : DS) (L : Nat → Prop) (o : DOp) (A : Option Addr) (c : Nat) (w : World) (h : RDisk w base m s L) (hs : s.okS) (ho : o.ok) (hsrc : Src w L A o.b) (hT : total s.fs + o.b.length ≤ 1073741824) (hk : o.kind = 5) :
    Calls Try.prog 9 #[.pointer (some ⟨m, 0, none⟩), .agg #[.int .i64 o.kind, .string o.f, .string o.g, .int .i64 o.n, .int .i64 o.k, .slice A o.b.length c]] w fun e w' => RetB w w' (s.step o).2.2 (s.step o).2.1 e ∧ RAfter w w' base m (s.step o).1 L := by
  have HP := Lib.hid h
  have HP1 : Hid (RDisk (w.alloc (.cells #[.int .i64 o.kind, .string o.f, .string o.g, .int .i64 o.n, .int .i64 o.k, .slice A o.b.length c] 31)) base m s L) := Lib.hid (h.below (below_al (Below.refl _ _) _))
  have HS := Lib.hid hs
  have HO := Lib.hid ho
  have HT := Lib.hid hT
  have HB1 : Hid (Src (w.alloc (.cells #[.int .i64 o.kind, .string o.f, .string o.g, .int .i64 o.n, .int .i64 o.k, .slice A o.b.length c] 31)) L A o.b) := Lib.hid (hsrc.chg (M := L) (.of_below (below_al (Below.refl _ _) _)) fun _ => id)
  have t0 : (o.kind == 0) = false := by simp; omega
  have t1 : (o.kind == 1) = false := by simp; omega
  have t2 : (o.kind == 2) = false := by simp; omega
  have t3 : (o.kind == 3) = false := by simp; omega
  have t4 : (o.kind == 4) = false := by simp; omega
  have t5 : (o.kind == 5) = true := by simp; omega
  have HST : Hid (s.step o = (s, s.read o.f)) := Lib.hid (by unfold DS.step; rw [if_neg (by omega), if_neg (by omega), if_neg (by omega), if_neg (by omega), if_neg (by omega), if_pos hk])
  clear h hs ho hsrc hT hk
  go_enter Try.func9, Try.ntmps9
  go_wp2_with (go_at_call 27; refine (rread_any m base s L o.f _ HP1.out HS.out.fit.fit HO.out.f (by have := HS.out.fit.few; omega)).mono ?_; rintro e w2 ⟨⟨v, rfl, hov⟩, hb⟩; have HB2 := Lib.hid hb; have HOV := Lib.hid hov; clear hb hov)
  go_ret2
  rw [HST.out]
  exact ⟨⟨v, rfl, HOV.out.lower (by simp)⟩, RAfter.then HP.out (below_al (Below.refl _ _) _) ((RAfter.same HP1.out).below HB2.out)⟩
set_option maxHeartbeats 1000000 in
theorem says_6 (m base : Nat) (s : DS) (L : Nat → Prop) (o : DOp) (A : Option Addr) (c : Nat) (w : World) (h : RDisk w base m s L) (hs : s.okS) (ho : o.ok) (hsrc : Src w L A o.b) (hT : total s.fs + o.b.length ≤ 1073741824) (hk : o.kind = 6) :
    Calls Try.prog 9 #[.pointer (some ⟨m, 0, none⟩), .agg #[.int .i64 o.kind, .string o.f, .string o.g, .int .i64 o.n, .int .i64 o.k, .slice A o.b.length c]] w fun e w' => RetB w w' (s.step o).2.2 (s.step o).2.1 e ∧ RAfter w w' base m (s.step o).1 L := by
  have HP := Lib.hid h
  have HP1 : Hid (RDisk (w.alloc (.cells #[.int .i64 o.kind, .string o.f, .string o.g, .int .i64 o.n, .int .i64 o.k, .slice A o.b.length c] 31)) base m s L) := Lib.hid (h.below (below_al (Below.refl _ _) _))
  have HS := Lib.hid hs
  have HO := Lib.hid ho
  have HT := Lib.hid hT
  have HB1 : Hid (Src (w.alloc (.cells #[.int .i64 o.kind, .string o.f, .string o.g, .int .i64 o.n, .int .i64 o.k, .slice A o.b.length c] 31)) L A o.b) := Lib.hid (hsrc.chg (M := L) (.of_below (below_al (Below.refl _ _) _)) fun _ => id)
  have t0 : (o.kind == 0) = false := by simp; omega
  have t1 : (o.kind == 1) = false := by simp; omega
  have t2 : (o.kind == 2) = false := by simp; omega
  have t3 : (o.kind == 3) = false := by simp; omega
  have t4 : (o.kind == 4) = false := by simp; omega
  have t5 : (o.kind == 5) = false := by simp; omega
  have t6 : (o.kind == 6) = true := by simp; omega
  have HST : Hid (s.step o = ({ s with room := o.n }, ([], 0))) := Lib.hid (by unfold DS.step; rw [if_neg (by omega), if_neg (by omega), if_neg (by omega), if_neg (by omega), if_neg (by omega), if_neg (by omega), if_pos hk])
  obtain ⟨_, _, y1, y2, _, _, _, yf, yl⟩ := HP1.out.cells
  have yf1 := yf 1
  clear yf
  clear h hs ho hsrc hT hk
  go_enter Try.func9, Try.ntmps9
  go_wp2
  go_ret2
  rw [HST.out]
  exact ⟨RetB.none_, RAfter.then HP.out (below_al (Below.refl _ _) _) (RAfter.mk' HP1.out (HP1.out.setD 1 _ { s with room := o.n } rfl fun _ => rfl) ((Chg.refl _ _).setCell (.inl HP1.out.has) _))⟩
set_option maxHeartbeats 1000000 in
theorem says_7 (m base : Nat) (s : DS) (L : Nat → Prop) (o : DOp) (A : Option Addr) (c : Nat) (w : World) (h : RDisk w base m s L) (hs : s.okS) (ho : o.ok) (hsrc : Src w L A o.b) (hT : total s.fs + o.b.length ≤ 1073741824) (hk : o.kind = 7) :
    Calls Try.prog 9 #[.pointer (some ⟨m, 0, none⟩), .agg #[.int .i64 o.kind, .string o.f, .string o.g, .int .i64 o.n, .int .i64 o.k, .slice A o.b.length c]] w fun e w' => RetB w w' (s.step o).2.2 (s.step o).2.1 e ∧ RAfter w w' base m (s.step o).1 L := by
  have HP := Lib.hid h
  have HP1 : Hid (RDisk (w.alloc (.cells #[.int .i64 o.kind, .string o.f, .string o.g, .int .i64 o.n, .int .i64 o.k, .slice A o.b.length c] 31)) base m s L) := Lib.hid (h.below (below_al (Below.refl _ _) _))
  have HS := Lib.hid hs
  have HO := Lib.hid ho
  have HT := Lib.hid hT
  have HB1 : Hid (Src (w.alloc (.cells #[.int .i64 o.kind, .string o.f, .string o.g, .int .i64 o.n, .int .i64 o.k, .slice A o.b.length c] 31)) L A o.b) := Lib.hid (hsrc.chg (M := L) (.of_below (below_al (Below.refl _ _) _)) fun _ => id)
  have t0 : (o.kind == 0) = false := by simp; omega
  have t1 : (o.kind == 1) = false := by simp; omega
  have t2 : (o.kind == 2) = false := by simp; omega
  have t3 : (o.kind == 3) = false := by simp; omega
  have t4 : (o.kind == 4) = false := by simp; omega
  have t5 : (o.kind == 5) = false := by simp; omega
  have t6 : (o.kind == 6) = false := by simp; omega
  have t7 : (o.kind == 7) = true := by simp; omega
  have HST : Hid (s.step o = (s.arm o.n o.k, ([], 0))) := Lib.hid (by unfold DS.step; rw [if_neg (by omega), if_neg (by omega), if_neg (by omega), if_neg (by omega), if_neg (by omega), if_neg (by omega), if_neg (by omega), if_pos hk])
  clear h hs ho hsrc hT hk
  go_enter Try.func9, Try.ntmps9
  go_wp2_with (go_at_call 28; refine (RArm_any m base s L o.n o.k _ HP1.out).mono ?_; rintro e w2 ⟨rfl, ha⟩; have HA := Lib.hid ha; clear ha)
  go_ret2
  rw [HST.out]
  exact ⟨RetB.none_, RAfter.then HP.out (below_al (Below.refl _ _) _) HA.out⟩
set_option maxHeartbeats 1000000 in
theorem says_8 (m base : Nat) (s : DS) (L : Nat → Prop) (o : DOp) (A : Option Addr) (c : Nat) (w : World) (h : RDisk w base m s L) (hs : s.okS) (ho : o.ok) (hsrc : Src w L A o.b) (hT : total s.fs + o.b.length ≤ 1073741824) (hk : o.kind = 8) :
    Calls Try.prog 9 #[.pointer (some ⟨m, 0, none⟩), .agg #[.int .i64 o.kind, .string o.f, .string o.g, .int .i64 o.n, .int .i64 o.k, .slice A o.b.length c]] w fun e w' => RetB w w' (s.step o).2.2 (s.step o).2.1 e ∧ RAfter w w' base m (s.step o).1 L := by
  have HP := Lib.hid h
  have HP1 : Hid (RDisk (w.alloc (.cells #[.int .i64 o.kind, .string o.f, .string o.g, .int .i64 o.n, .int .i64 o.k, .slice A o.b.length c] 31)) base m s L) := Lib.hid (h.below (below_al (Below.refl _ _) _))
  have HS := Lib.hid hs
  have HO := Lib.hid ho
  have HT := Lib.hid hT
  have HB1 : Hid (Src (w.alloc (.cells #[.int .i64 o.kind, .string o.f, .string o.g, .int .i64 o.n, .int .i64 o.k, .slice A o.b.length c] 31)) L A o.b) := Lib.hid (hsrc.chg (M := L) (.of_below (below_al (Below.refl _ _) _)) fun _ => id)
  have t0 : (o.kind == 0) = false := by simp; omega
  have t1 : (o.kind == 1) = false := by simp; omega
  have t2 : (o.kind == 2) = false := by simp; omega
  have t3 : (o.kind == 3) = false := by simp; omega
  have t4 : (o.kind == 4) = false := by simp; omega
  have t5 : (o.kind == 5) = false := by simp; omega
  have t6 : (o.kind == 6) = false := by simp; omega
  have t7 : (o.kind == 7) = false := by simp; omega
  have t8 : (o.kind == 8) = true := by simp; omega
  have HST : Hid (s.step o = (s.off o.k, ([], 0))) := Lib.hid (by unfold DS.step; rw [if_neg (by omega), if_neg (by omega), if_neg (by omega), if_neg (by omega), if_neg (by omega), if_neg (by omega), if_neg (by omega), if_neg (by omega), if_pos hk])
  clear h hs ho hsrc hT hk
  go_enter Try.func9, Try.ntmps9
  go_wp2_with (go_at_call 29; refine (ROff_any m base s L o.k _ HP1.out HS.out.fit.fit.rising HS.out.fit.fit.bytes HS.out.fit.few HO.out.k).mono ?_; rintro e w2 ⟨rfl, ha⟩; have HA := Lib.hid ha; clear ha)
  go_ret2
  rw [HST.out]
  exact ⟨RetB.none_, RAfter.then HP.out (below_al (Below.refl _ _) _) HA.out⟩
set_option maxHeartbeats 1000000 in
theorem says_9 (m base : Nat) (s : DS) (L : Nat → Prop) (o : DOp) (A : Option Addr) (c : Nat) (w : World) (h : RDisk w base m s L) (hs : s.okS) (ho : o.ok) (hsrc : Src w L A o.b) (hT : total s.fs + o.b.length ≤ 1073741824) (hk : o.kind = 9) :
    Calls Try.prog 9 #[.pointer (some ⟨m, 0, none⟩), .agg #[.int .i64 o.kind, .string o.f, .string o.g, .int .i64 o.n, .int .i64 o.k, .slice A o.b.length c]] w fun e w' => RetB w w' (s.step o).2.2 (s.step o).2.1 e ∧ RAfter w w' base m (s.step o).1 L := by
  have HP := Lib.hid h
  have HP1 : Hid (RDisk (w.alloc (.cells #[.int .i64 o.kind, .string o.f, .string o.g, .int .i64 o.n, .int .i64 o.k, .slice A o.b.length c] 31)) base m s L) := Lib.hid (h.below (below_al (Below.refl _ _) _))
  have HS := Lib.hid hs
  have HO := Lib.hid ho
  have HT := Lib.hid hT
  have HB1 : Hid (Src (w.alloc (.cells #[.int .i64 o.kind, .string o.f, .string o.g, .int .i64 o.n, .int .i64 o.k, .slice A o.b.length c] 31)) L A o.b) := Lib.hid (hsrc.chg (M := L) (.of_below (below_al (Below.refl _ _) _)) fun _ => id)
  have t0 : (o.kind == 0) = false := by simp; omega
  have t1 : (o.kind == 1) = false := by simp; omega
  have t2 : (o.kind == 2) = false := by simp; omega
  have t3 : (o.kind == 3) = false := by simp; omega
  have t4 : (o.kind == 4) = false := by simp; omega
  have t5 : (o.kind == 5) = false := by simp; omega
  have t6 : (o.kind == 6) = false := by simp; omega
  have t7 : (o.kind == 7) = false := by simp; omega
  have t8 : (o.kind == 8) = false := by simp; omega
  have t9 : (o.kind == 9) = true := by simp; omega
  have HST : Hid (s.step o = ({ s with on := true }, ([], 0))) := Lib.hid (by unfold DS.step; rw [if_neg (by omega), if_neg (by omega), if_neg (by omega), if_neg (by omega), if_neg (by omega), if_neg (by omega), if_neg (by omega), if_neg (by omega), if_neg (by omega), if_pos hk])
  obtain ⟨_, _, y1, y2, _, _, _, yf, yl⟩ := HP1.out.cells
  have yf1 := yf 2
  clear yf
  clear h hs ho hsrc hT hk
  go_enter Try.func9, Try.ntmps9
  go_wp2
  go_ret2
  rw [HST.out]
  exact ⟨RetB.none_, RAfter.then HP.out (below_al (Below.refl _ _) _) (RAfter.mk' HP1.out (HP1.out.setD 2 _ { s with on := true } rfl fun _ => rfl) ((Chg.refl _ _).setCell (.inl HP1.out.has) _))⟩
set_option maxHeartbeats 1000000 in
theorem says_10 (m base : Nat) (s : DS) (L : Nat → Prop) (o : DOp) (A : Option Addr) (c : Nat) (w : World) (h : RDisk w base m s L) (hs : s.okS) (ho : o.ok) (hsrc : Src w L A o.b) (hT : total s.fs + o.b.length ≤ 1073741824) (hk : ¬ (0 ≤ o.kind ∧ o.kind ≤ 9)) :
    Calls Try.prog 9 #[.pointer (some ⟨m, 0, none⟩), .agg #[.int .i64 o.kind, .string o.f, .string o.g, .int .i64 o.n, .int .i64 o.k, .slice A o.b.length c]] w fun e w' => RetB w w' (s.step o).2.2 (s.step o).2.1 e ∧ RAfter w w' base m (s.step o).1 L := by
  have HP := Lib.hid h
  have HP1 : Hid (RDisk (w.alloc (.cells #[.int .i64 o.kind, .string o.f, .string o.g, .int .i64 o.n, .int .i64 o.k, .slice A o.b.length c] 31)) base m s L) := Lib.hid (h.below (below_al (Below.refl _ _) _))
  have HS := Lib.hid hs
  have HO := Lib.hid ho
  have HT := Lib.hid hT
  have HB1 : Hid (Src (w.alloc (.cells #[.int .i64 o.kind, .string o.f, .string o.g, .int .i64 o.n, .int .i64 o.k, .slice A o.b.length c] 31)) L A o.b) := Lib.hid (hsrc.chg (M := L) (.of_below (below_al (Below.refl _ _) _)) fun _ => id)
  have t0 : (o.kind == 0) = false := by simp; omega
  have t1 : (o.kind == 1) = false := by simp; omega
  have t2 : (o.kind == 2) = false := by simp; omega
  have t3 : (o.kind == 3) = false := by simp; omega
  have t4 : (o.kind == 4) = false := by simp; omega
  have t5 : (o.kind == 5) = false := by simp; omega
  have t6 : (o.kind == 6) = false := by simp; omega
  have t7 : (o.kind == 7) = false := by simp; omega
  have t8 : (o.kind == 8) = false := by simp; omega
  have t9 : (o.kind == 9) = false := by simp; omega
  have HST : Hid (s.step o = (s, ([], 0))) := Lib.hid (by unfold DS.step; rw [if_neg (by omega), if_neg (by omega), if_neg (by omega), if_neg (by omega), if_neg (by omega), if_neg (by omega), if_neg (by omega), if_neg (by omega), if_neg (by omega), if_neg (by omega)])
  clear h hs ho hsrc hT hk
  go_enter Try.func9, Try.ntmps9
  go_wp2
  go_ret2
  rw [HST.out]
  exact ⟨RetB.none_, RAfter.then HP.out (below_al (Below.refl _ _) _) (RAfter.same HP1.out)⟩
theorem says_any (m base : Nat) (s : DS) (L : Nat → Prop) (o : DOp) (A : Option Addr) (c : Nat) (w : World) (h : RDisk w base m s L) (hs : s.okS) (ho : o.ok) (hsrc : Src w L A o.b) (hT : total s.fs + o.b.length ≤ 1073741824) :
    Calls Try.prog 9 #[.pointer (some ⟨m, 0, none⟩), .agg #[.int .i64 o.kind, .string o.f, .string o.g, .int .i64 o.n, .int .i64 o.k, .slice A o.b.length c]] w fun e w' => RetB w w' (s.step o).2.2 (s.step o).2.1 e ∧ RAfter w w' base m (s.step o).1 L := by
  by_cases h0 : o.kind = 0
  · exact says_0 m base s L o A c w h hs ho hsrc hT h0
  by_cases h1 : o.kind = 1
  · exact says_1 m base s L o A c w h hs ho hsrc hT h1
  by_cases h2 : o.kind = 2
  · exact says_2 m base s L o A c w h hs ho hsrc hT h2
  by_cases h3 : o.kind = 3
  · exact says_3 m base s L o A c w h hs ho hsrc hT h3
  by_cases h4 : o.kind = 4
  · exact says_4 m base s L o A c w h hs ho hsrc hT h4
  by_cases h5 : o.kind = 5
  · exact says_5 m base s L o A c w h hs ho hsrc hT h5
  by_cases h6 : o.kind = 6
  · exact says_6 m base s L o A c w h hs ho hsrc hT h6
  by_cases h7 : o.kind = 7
  · exact says_7 m base s L o A c w h hs ho hsrc hT h7
  by_cases h8 : o.kind = 8
  · exact says_8 m base s L o A c w h hs ho hsrc hT h8
  by_cases h9 : o.kind = 9
  · exact says_9 m base s L o A c w h hs ho hsrc hT h9
  exact says_10 m base s L o A c w h hs ho hsrc hT (by omega)
end Go.Proofs.Ytfdcibghcncbmaa
