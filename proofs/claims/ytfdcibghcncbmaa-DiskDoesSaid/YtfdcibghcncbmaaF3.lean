/- The statement's helpers: a call of the program's disk. -/
import Derived.Test.YtfdcibghcncbmaaF2
namespace Go.Proofs.Ytfdcibghcncbmaa
open Go.RowKit Go.Maps Go.Shelf

/-- One call. -/
structure DOp where
  kind : Int
  f : ByteArray
  g : ByteArray
  n : Int
  k : Int
  b : Bs
def DS.step (s : DS) (o : DOp) : DS × (Bs × Int) :=
  if o.kind = 0 then ((s.append o.f o.b).1, ([], (s.append o.f o.b).2)) else
  if o.kind = 1 then ((s.sync o.f).1, ([], (s.sync o.f).2)) else
  if o.kind = 2 then ((s.trunc o.f o.n).1, ([], (s.trunc o.f o.n).2)) else
  if o.kind = 3 then ((s.rename o.f o.g).1, ([], (s.rename o.f o.g).2)) else
  if o.kind = 4 then ((s.remove o.f).1, ([], (s.remove o.f).2)) else
  if o.kind = 5 then (s, s.read o.f) else
  if o.kind = 6 then ({ s with room := o.n }, ([], 0)) else
  if o.kind = 7 then (s.arm o.n o.k, ([], 0)) else
  if o.kind = 8 then (s.off o.k, ([], 0)) else
  if o.kind = 9 then ({ s with on := true }, ([], 0)) else (s, ([], 0))
structure DOp.ok (o : DOp) : Prop where
  f : o.f.size ≤ maxLen
  g : o.g.size ≤ maxLen
  k : -9223372036854775808 ≤ o.k ∧ o.k ≤ 9223372036854775807
/-- What is known of a disk on its way. -/
structure DS.okS (s : DS) : Prop where
  fit : s.fitR
  names : ∀ f ∈ s.fs, okName f.name = true
  room : -9223372036854775808 ≤ s.room ∧ s.room ≤ 9223372036854775807
theorem After.alloc_then {w w2 : World} {base d : Nat} {s s2 : DS} {L : Nat → Prop} (h : PDisk w base d s L) (o : Obj) (k : After (w.alloc o) w2 base d s2 L) : After w w2 base d s2 L :=
  After.then (s1 := s) (.of_below (below_al (Below.refl _ _) o)) (fun k hk => h.lt hk) h.base_le k
theorem RetB.none_ {w w' : World} {code : Int} : RetB w w' code [] (.returned (.tuple #[.slice none 0 0, .int .i64 code])) := ⟨_, rfl, Own.none_ _ _ _ _ none⟩
set_option maxHeartbeats 1000000 in
theorem does_0 (d base : Nat) (s : DS) (L : Nat → Prop) (o : DOp) (A : Option Addr) (c : Nat) (w : World) (h : PDisk w base d s L) (hs : s.okS) (ho : o.ok) (hsrc : Src w L A o.b) (hT : total s.fs + o.b.length ≤ 1073741824) (hk : o.kind = 0) :
    Calls Try.prog 8 #[.pointer (some ⟨d, 0, none⟩), .agg #[.int .i64 o.kind, .string o.f, .string o.g, .int .i64 o.n, .int .i64 o.k, .slice A o.b.length c]] w fun e w' => RetB w w' (s.step o).2.2 (s.step o).2.1 e ∧ After w w' base d (s.step o).1 L := by
  have HP := Lib.hid h
  have HP1 : Hid (PDisk (w.alloc (.cells #[.int .i64 o.kind, .string o.f, .string o.g, .int .i64 o.n, .int .i64 o.k, .slice A o.b.length c] 31)) base d s L) := Lib.hid (h.below (below_al (Below.refl _ _) _))
  have HS := Lib.hid hs
  have HO := Lib.hid ho
  have HT := Lib.hid hT
  have HB1 : Hid (Src (w.alloc (.cells #[.int .i64 o.kind, .string o.f, .string o.g, .int .i64 o.n, .int .i64 o.k, .slice A o.b.length c] 31)) L A o.b) := Lib.hid (hsrc.chg (M := L) (.of_below (below_al (Below.refl _ _) _)) fun _ => id)
  have t0 : (o.kind == 0) = true := by simp; omega
  have HST : Hid (s.step o = ((s.append o.f o.b).1, ([], (s.append o.f o.b).2))) := Lib.hid (by unfold DS.step; rw [if_pos hk])
  clear h hs ho hsrc hT hk
  go_enter Try.func8, Try.ntmps8
  go_wp2_with (go_at_call 12; refine (Append_any d base s L o.f A o.b c _ HP1.out HS.out.fit.fit HO.out.f HB1.out HS.out.room HT.out (by have := HS.out.fit.few; omega)).mono ?_; rintro e w2 ⟨rfl, ha⟩; have HA := Lib.hid ha; clear ha)
  go_ret2
  rw [HST.out]
  exact ⟨RetB.none_, After.alloc_then HP.out _ HA.out⟩
set_option maxHeartbeats 1000000 in
theorem does_1 (d base : Nat) (s : DS) (L : Nat → Prop) (o : DOp) (A : Option Addr) (c : Nat) (w : World) (h : PDisk w base d s L) (hs : s.okS) (ho : o.ok) (hsrc : Src w L A o.b) (hT : total s.fs + o.b.length ≤ 1073741824) (hk : o.kind = 1) :
    Calls Try.prog 8 #[.pointer (some ⟨d, 0, none⟩), .agg #[.int .i64 o.kind, .string o.f, .string o.g, .int .i64 o.n, .int .i64 o.k, .slice A o.b.length c]] w fun e w' => RetB w w' (s.step o).2.2 (s.step o).2.1 e ∧ After w w' base d (s.step o).1 L := by
  have HP := Lib.hid h
  have HP1 : Hid (PDisk (w.alloc (.cells #[.int .i64 o.kind, .string o.f, .string o.g, .int .i64 o.n, .int .i64 o.k, .slice A o.b.length c] 31)) base d s L) := Lib.hid (h.below (below_al (Below.refl _ _) _))
  have HS := Lib.hid hs
  have HO := Lib.hid ho
  have HT := Lib.hid hT
  have HB1 : Hid (Src (w.alloc (.cells #[.int .i64 o.kind, .string o.f, .string o.g, .int .i64 o.n, .int .i64 o.k, .slice A o.b.length c] 31)) L A o.b) := Lib.hid (hsrc.chg (M := L) (.of_below (below_al (Below.refl _ _) _)) fun _ => id)
  have t0 : (o.kind == 0) = false := by simp; omega
  have t1 : (o.kind == 1) = true := by simp; omega
  have HST : Hid (s.step o = ((s.sync o.f).1, ([], (s.sync o.f).2))) := Lib.hid (by unfold DS.step; rw [if_neg (by omega), if_pos hk])
  clear h hs ho hsrc hT hk
  go_enter Try.func8, Try.ntmps8
  go_wp2_with (go_at_call 13; refine (Sync_any d base s L o.f _ HP1.out HS.out.fit.fit HO.out.f).mono ?_; rintro e w2 ⟨rfl, ha⟩; have HA := Lib.hid ha; clear ha)
  go_ret2
  rw [HST.out]
  exact ⟨RetB.none_, After.alloc_then HP.out _ HA.out⟩
set_option maxHeartbeats 1000000 in
theorem does_2 (d base : Nat) (s : DS) (L : Nat → Prop) (o : DOp) (A : Option Addr) (c : Nat) (w : World) (h : PDisk w base d s L) (hs : s.okS) (ho : o.ok) (hsrc : Src w L A o.b) (hT : total s.fs + o.b.length ≤ 1073741824) (hk : o.kind = 2) :
    Calls Try.prog 8 #[.pointer (some ⟨d, 0, none⟩), .agg #[.int .i64 o.kind, .string o.f, .string o.g, .int .i64 o.n, .int .i64 o.k, .slice A o.b.length c]] w fun e w' => RetB w w' (s.step o).2.2 (s.step o).2.1 e ∧ After w w' base d (s.step o).1 L := by
  have HP := Lib.hid h
  have HP1 : Hid (PDisk (w.alloc (.cells #[.int .i64 o.kind, .string o.f, .string o.g, .int .i64 o.n, .int .i64 o.k, .slice A o.b.length c] 31)) base d s L) := Lib.hid (h.below (below_al (Below.refl _ _) _))
  have HS := Lib.hid hs
  have HO := Lib.hid ho
  have HT := Lib.hid hT
  have HB1 : Hid (Src (w.alloc (.cells #[.int .i64 o.kind, .string o.f, .string o.g, .int .i64 o.n, .int .i64 o.k, .slice A o.b.length c] 31)) L A o.b) := Lib.hid (hsrc.chg (M := L) (.of_below (below_al (Below.refl _ _) _)) fun _ => id)
  have t0 : (o.kind == 0) = false := by simp; omega
  have t1 : (o.kind == 1) = false := by simp; omega
  have t2 : (o.kind == 2) = true := by simp; omega
  have HST : Hid (s.step o = ((s.trunc o.f o.n).1, ([], (s.trunc o.f o.n).2))) := Lib.hid (by unfold DS.step; rw [if_neg (by omega), if_neg (by omega), if_pos hk])
  clear h hs ho hsrc hT hk
  go_enter Try.func8, Try.ntmps8
  go_wp2_with (go_at_call 18; refine (Truncate_any d base s L o.f o.n _ HP1.out HS.out.fit.fit HO.out.f).mono ?_; rintro e w2 ⟨rfl, ha⟩; have HA := Lib.hid ha; clear ha)
  go_ret2
  rw [HST.out]
  exact ⟨RetB.none_, After.alloc_then HP.out _ HA.out⟩
set_option maxHeartbeats 1000000 in
theorem does_3 (d base : Nat) (s : DS) (L : Nat → Prop) (o : DOp) (A : Option Addr) (c : Nat) (w : World) (h : PDisk w base d s L) (hs : s.okS) (ho : o.ok) (hsrc : Src w L A o.b) (hT : total s.fs + o.b.length ≤ 1073741824) (hk : o.kind = 3) :
    Calls Try.prog 8 #[.pointer (some ⟨d, 0, none⟩), .agg #[.int .i64 o.kind, .string o.f, .string o.g, .int .i64 o.n, .int .i64 o.k, .slice A o.b.length c]] w fun e w' => RetB w w' (s.step o).2.2 (s.step o).2.1 e ∧ After w w' base d (s.step o).1 L := by
  have HP := Lib.hid h
  have HP1 : Hid (PDisk (w.alloc (.cells #[.int .i64 o.kind, .string o.f, .string o.g, .int .i64 o.n, .int .i64 o.k, .slice A o.b.length c] 31)) base d s L) := Lib.hid (h.below (below_al (Below.refl _ _) _))
  have HS := Lib.hid hs
  have HO := Lib.hid ho
  have HT := Lib.hid hT
  have HB1 : Hid (Src (w.alloc (.cells #[.int .i64 o.kind, .string o.f, .string o.g, .int .i64 o.n, .int .i64 o.k, .slice A o.b.length c] 31)) L A o.b) := Lib.hid (hsrc.chg (M := L) (.of_below (below_al (Below.refl _ _) _)) fun _ => id)
  have t0 : (o.kind == 0) = false := by simp; omega
  have t1 : (o.kind == 1) = false := by simp; omega
  have t2 : (o.kind == 2) = false := by simp; omega
  have t3 : (o.kind == 3) = true := by simp; omega
  have HST : Hid (s.step o = ((s.rename o.f o.g).1, ([], (s.rename o.f o.g).2))) := Lib.hid (by unfold DS.step; rw [if_neg (by omega), if_neg (by omega), if_neg (by omega), if_pos hk])
  clear h hs ho hsrc hT hk
  go_enter Try.func8, Try.ntmps8
  go_wp2_with (go_at_call 14; refine (Rename_any d base s L o.f o.g _ HP1.out HS.out.fit.fit HO.out.f HO.out.g (by have := HS.out.fit.few; omega)).mono ?_; rintro e w2 ⟨rfl, ha⟩; have HA := Lib.hid ha; clear ha)
  go_ret2
  rw [HST.out]
  exact ⟨RetB.none_, After.alloc_then HP.out _ HA.out⟩
set_option maxHeartbeats 1000000 in
theorem does_4 (d base : Nat) (s : DS) (L : Nat → Prop) (o : DOp) (A : Option Addr) (c : Nat) (w : World) (h : PDisk w base d s L) (hs : s.okS) (ho : o.ok) (hsrc : Src w L A o.b) (hT : total s.fs + o.b.length ≤ 1073741824) (hk : o.kind = 4) :
    Calls Try.prog 8 #[.pointer (some ⟨d, 0, none⟩), .agg #[.int .i64 o.kind, .string o.f, .string o.g, .int .i64 o.n, .int .i64 o.k, .slice A o.b.length c]] w fun e w' => RetB w w' (s.step o).2.2 (s.step o).2.1 e ∧ After w w' base d (s.step o).1 L := by
  have HP := Lib.hid h
  have HP1 : Hid (PDisk (w.alloc (.cells #[.int .i64 o.kind, .string o.f, .string o.g, .int .i64 o.n, .int .i64 o.k, .slice A o.b.length c] 31)) base d s L) := Lib.hid (h.below (below_al (Below.refl _ _) _))
  have HS := Lib.hid hs
  have HO := Lib.hid ho
  have HT := Lib.hid hT
  have HB1 : Hid (Src (w.alloc (.cells #[.int .i64 o.kind, .string o.f, .string o.g, .int .i64 o.n, .int .i64 o.k, .slice A o.b.length c] 31)) L A o.b) := Lib.hid (hsrc.chg (M := L) (.of_below (below_al (Below.refl _ _) _)) fun _ => id)
  have t0 : (o.kind == 0) = false := by simp; omega
  have t1 : (o.kind == 1) = false := by simp; omega
  have t2 : (o.kind == 2) = false := by simp; omega
  have t3 : (o.kind == 3) = false := by simp; omega
  have t4 : (o.kind == 4) = true := by simp; omega
  have HST : Hid (s.step o = ((s.remove o.f).1, ([], (s.remove o.f).2))) := Lib.hid (by unfold DS.step; rw [if_neg (by omega), if_neg (by omega), if_neg (by omega), if_neg (by omega), if_pos hk])
  clear h hs ho hsrc hT hk
  go_enter Try.func8, Try.ntmps8
  go_wp2_with (go_at_call 19; refine (Remove_any d base s L o.f _ HP1.out HS.out.fit.fit HO.out.f).mono ?_; rintro e w2 ⟨rfl, ha⟩; have HA := Lib.hid ha; clear ha)
  go_ret2
  rw [HST.out]
  exact ⟨RetB.none_, After.alloc_then HP.out _ HA.out⟩
set_option maxHeartbeats 1000000 in
theorem does_5 (d base : Nat) (s : DS) (L : Nat → Prop) (o : DOp) (A : Option Addr) (c : Nat) (w : World) (h : PDisk w base d s L) (hs : s.okS) (ho : o.ok) (hsrc : Src w L A o.b) (hT : total s.fs + o.b.length ≤ 1073741824) (hk : o.kind = 5) :
    Calls Try.prog 8 #[.pointer (some ⟨d, 0, none⟩), .agg #[.int .i64 o.kind, .string o.f, .string o.g, .int .i64 o.n, .int .i64 o.k, .slice A o.b.length c]] w fun e w' => RetB w w' (s.step o).2.2 (s.step o).2.1 e ∧ After w w' base d (s.step o).1 L := by
  have HP := Lib.hid h
  have HP1 : Hid (PDisk (w.alloc (.cells #[.int .i64 o.kind, .string o.f, .string o.g, .int .i64 o.n, .int .i64 o.k, .slice A o.b.length c] 31)) base d s L) := Lib.hid (h.below (below_al (Below.refl _ _) _))
  have HS := Lib.hid hs
  have HO := Lib.hid ho
  have HT := Lib.hid hT
  have HB1 : Hid (Src (w.alloc (.cells #[.int .i64 o.kind, .string o.f, .string o.g, .int .i64 o.n, .int .i64 o.k, .slice A o.b.length c] 31)) L A o.b) := Lib.hid (hsrc.chg (M := L) (.of_below (below_al (Below.refl _ _) _)) fun _ => id)
  have t0 : (o.kind == 0) = false := by simp; omega
  have t1 : (o.kind == 1) = false := by simp; omega
  have t2 : (o.kind == 2) = false := by simp; omega
  have t3 : (o.kind == 3) = false := by simp; omega
  have t4 : (o.kind == 4) = false := by simp; omega
  have t5 : (o.kind == 5) = true := by simp; omega
  have HST : Hid (s.step o = (s, s.read o.f)) := Lib.hid (by unfold DS.step; rw [if_neg (by omega), if_neg (by omega), if_neg (by omega), if_neg (by omega), if_neg (by omega), if_pos hk])
  clear h hs ho hsrc hT hk
  go_enter Try.func8, Try.ntmps8
  go_wp2_with (go_at_call 17; refine (Read_any d base s L o.f _ HP1.out HS.out.fit.fit HO.out.f).mono ?_; rintro e w2 ⟨⟨v, rfl, hov⟩, hb⟩; have HB2 := Lib.hid hb; have HOV := Lib.hid hov; clear hb hov)
  go_ret2
  rw [HST.out]
  exact ⟨⟨v, rfl, HOV.out.lower (by simp)⟩, After.alloc_then HP.out _ ((After.same HP1.out).below HB2.out)⟩
set_option maxHeartbeats 1000000 in
theorem does_6 (d base : Nat) (s : DS) (L : Nat → Prop) (o : DOp) (A : Option Addr) (c : Nat) (w : World) (h : PDisk w base d s L) (hs : s.okS) (ho : o.ok) (hsrc : Src w L A o.b) (hT : total s.fs + o.b.length ≤ 1073741824) (hk : o.kind = 6) :
    Calls Try.prog 8 #[.pointer (some ⟨d, 0, none⟩), .agg #[.int .i64 o.kind, .string o.f, .string o.g, .int .i64 o.n, .int .i64 o.k, .slice A o.b.length c]] w fun e w' => RetB w w' (s.step o).2.2 (s.step o).2.1 e ∧ After w w' base d (s.step o).1 L := by
  have HP := Lib.hid h
  have HP1 : Hid (PDisk (w.alloc (.cells #[.int .i64 o.kind, .string o.f, .string o.g, .int .i64 o.n, .int .i64 o.k, .slice A o.b.length c] 31)) base d s L) := Lib.hid (h.below (below_al (Below.refl _ _) _))
  have HS := Lib.hid hs
  have HO := Lib.hid ho
  have HT := Lib.hid hT
  have HB1 : Hid (Src (w.alloc (.cells #[.int .i64 o.kind, .string o.f, .string o.g, .int .i64 o.n, .int .i64 o.k, .slice A o.b.length c] 31)) L A o.b) := Lib.hid (hsrc.chg (M := L) (.of_below (below_al (Below.refl _ _) _)) fun _ => id)
  have t0 : (o.kind == 0) = false := by simp; omega
  have t1 : (o.kind == 1) = false := by simp; omega
  have t2 : (o.kind == 2) = false := by simp; omega
  have t3 : (o.kind == 3) = false := by simp; omega
  have t4 : (o.kind == 4) = false := by simp; omega
  have t5 : (o.kind == 5) = false := by simp; omega
  have t6 : (o.kind == 6) = true := by simp; omega
  have HST : Hid (s.step o = ({ s with room := o.n }, ([], 0))) := Lib.hid (by unfold DS.step; rw [if_neg (by omega), if_neg (by omega), if_neg (by omega), if_neg (by omega), if_neg (by omega), if_neg (by omega), if_pos hk])
  clear h hs ho hsrc hT hk
  go_enter Try.func8, Try.ntmps8
  go_wp2_with (go_at_call 20; refine (Room_any d base s L o.n _ HP1.out).mono ?_; rintro e w2 ⟨rfl, ha⟩; have HA := Lib.hid ha; clear ha)
  go_ret2
  rw [HST.out]
  exact ⟨RetB.none_, After.alloc_then HP.out _ HA.out⟩
set_option maxHeartbeats 1000000 in
theorem does_7 (d base : Nat) (s : DS) (L : Nat → Prop) (o : DOp) (A : Option Addr) (c : Nat) (w : World) (h : PDisk w base d s L) (hs : s.okS) (ho : o.ok) (hsrc : Src w L A o.b) (hT : total s.fs + o.b.length ≤ 1073741824) (hk : o.kind = 7) :
    Calls Try.prog 8 #[.pointer (some ⟨d, 0, none⟩), .agg #[.int .i64 o.kind, .string o.f, .string o.g, .int .i64 o.n, .int .i64 o.k, .slice A o.b.length c]] w fun e w' => RetB w w' (s.step o).2.2 (s.step o).2.1 e ∧ After w w' base d (s.step o).1 L := by
  have HP := Lib.hid h
  have HP1 : Hid (PDisk (w.alloc (.cells #[.int .i64 o.kind, .string o.f, .string o.g, .int .i64 o.n, .int .i64 o.k, .slice A o.b.length c] 31)) base d s L) := Lib.hid (h.below (below_al (Below.refl _ _) _))
  have HS := Lib.hid hs
  have HO := Lib.hid ho
  have HT := Lib.hid hT
  have HB1 : Hid (Src (w.alloc (.cells #[.int .i64 o.kind, .string o.f, .string o.g, .int .i64 o.n, .int .i64 o.k, .slice A o.b.length c] 31)) L A o.b) := Lib.hid (hsrc.chg (M := L) (.of_below (below_al (Below.refl _ _) _)) fun _ => id)
  have t0 : (o.kind == 0) = false := by simp; omega
  have t1 : (o.kind == 1) = false := by simp; omega
  have t2 : (o.kind == 2) = false := by simp; omega
  have t3 : (o.kind == 3) = false := by simp; omega
  have t4 : (o.kind == 4) = false := by simp; omega
  have t5 : (o.kind == 5) = false := by simp; omega
  have t6 : (o.kind == 6) = false := by simp; omega
  have t7 : (o.kind == 7) = true := by simp; omega
  have HST : Hid (s.step o = (s.arm o.n o.k, ([], 0))) := Lib.hid (by unfold DS.step; rw [if_neg (by omega), if_neg (by omega), if_neg (by omega), if_neg (by omega), if_neg (by omega), if_neg (by omega), if_neg (by omega), if_pos hk])
  clear h hs ho hsrc hT hk
  go_enter Try.func8, Try.ntmps8
  go_wp2_with (go_at_call 21; refine (Arm_any d base s L o.n o.k _ HP1.out).mono ?_; rintro e w2 ⟨rfl, ha⟩; have HA := Lib.hid ha; clear ha)
  go_ret2
  rw [HST.out]
  exact ⟨RetB.none_, After.alloc_then HP.out _ HA.out⟩
set_option maxHeartbeats 1000000 in
theorem does_8 (d base : Nat) (s : DS) (L : Nat → Prop) (o : DOp) (A : Option Addr) (c : Nat) (w : World) (h : PDisk w base d s L) (hs : s.okS) (ho : o.ok) (hsrc : Src w L A o.b) (hT : total s.fs + o.b.length ≤ 1073741824) (hk : o.kind = 8) :
    Calls Try.prog 8 #[.pointer (some ⟨d, 0, none⟩), .agg #[.int .i64 o.kind, .string o.f, .string o.g, .int .i64 o.n, .int .i64 o.k, .slice A o.b.length c]] w fun e w' => RetB w w' (s.step o).2.2 (s.step o).2.1 e ∧ After w w' base d (s.step o).1 L := by
  have HP := Lib.hid h
  have HP1 : Hid (PDisk (w.alloc (.cells #[.int .i64 o.kind, .string o.f, .string o.g, .int .i64 o.n, .int .i64 o.k, .slice A o.b.length c] 31)) base d s L) := Lib.hid (h.below (below_al (Below.refl _ _) _))
  have HS := Lib.hid hs
  have HO := Lib.hid ho
  have HT := Lib.hid hT
  have HB1 : Hid (Src (w.alloc (.cells #[.int .i64 o.kind, .string o.f, .string o.g, .int .i64 o.n, .int .i64 o.k, .slice A o.b.length c] 31)) L A o.b) := Lib.hid (hsrc.chg (M := L) (.of_below (below_al (Below.refl _ _) _)) fun _ => id)
  have t0 : (o.kind == 0) = false := by simp; omega
  have t1 : (o.kind == 1) = false := by simp; omega
  have t2 : (o.kind == 2) = false := by simp; omega
  have t3 : (o.kind == 3) = false := by simp; omega
  have t4 : (o.kind == 4) = false := by simp; omega
  have t5 : (o.kind == 5) = false := by simp; omega
  have t6 : (o.kind == 6) = false := by simp; omega
  have t7 : (o.kind == 7) = false := by simp; omega
  have t8 : (o.kind == 8) = true := by simp; omega
  have HST : Hid (s.step o = (s.off o.k, ([], 0))) := Lib.hid (by unfold DS.step; rw [if_neg (by omega), if_neg (by omega), if_neg (by omega), if_neg (by omega), if_neg (by omega), if_neg (by omega), if_neg (by omega), if_neg (by omega), if_pos hk])
  clear h hs ho hsrc hT hk
  go_enter Try.func8, Try.ntmps8
  go_wp2_with (go_at_call 15; refine (Off_any d base s L o.k _ HP1.out HS.out.fit.fit.rising HS.out.fit.fit.bytes).mono ?_; rintro e w2 ⟨rfl, ha⟩; have HA := Lib.hid ha; clear ha)
  go_ret2
  rw [HST.out]
  exact ⟨RetB.none_, After.alloc_then HP.out _ HA.out⟩
set_option maxHeartbeats 1000000 in
theorem does_9 (d base : Nat) (s : DS) (L : Nat → Prop) (o : DOp) (A : Option Addr) (c : Nat) (w : World) (h : PDisk w base d s L) (hs : s.okS) (ho : o.ok) (hsrc : Src w L A o.b) (hT : total s.fs + o.b.length ≤ 1073741824) (hk : o.kind = 9) :
    Calls Try.prog 8 #[.pointer (some ⟨d, 0, none⟩), .agg #[.int .i64 o.kind, .string o.f, .string o.g, .int .i64 o.n, .int .i64 o.k, .slice A o.b.length c]] w fun e w' => RetB w w' (s.step o).2.2 (s.step o).2.1 e ∧ After w w' base d (s.step o).1 L := by
  have HP := Lib.hid h
  have HP1 : Hid (PDisk (w.alloc (.cells #[.int .i64 o.kind, .string o.f, .string o.g, .int .i64 o.n, .int .i64 o.k, .slice A o.b.length c] 31)) base d s L) := Lib.hid (h.below (below_al (Below.refl _ _) _))
  have HS := Lib.hid hs
  have HO := Lib.hid ho
  have HT := Lib.hid hT
  have HB1 : Hid (Src (w.alloc (.cells #[.int .i64 o.kind, .string o.f, .string o.g, .int .i64 o.n, .int .i64 o.k, .slice A o.b.length c] 31)) L A o.b) := Lib.hid (hsrc.chg (M := L) (.of_below (below_al (Below.refl _ _) _)) fun _ => id)
  have t0 : (o.kind == 0) = false := by simp; omega
  have t1 : (o.kind == 1) = false := by simp; omega
  have t2 : (o.kind == 2) = false := by simp; omega
  have t3 : (o.kind == 3) = false := by simp; omega
  have t4 : (o.kind == 4) = false := by simp; omega
  have t5 : (o.kind == 5) = false := by simp; omega
  have t6 : (o.kind == 6) = false := by simp; omega
  have t7 : (o.kind == 7) = false := by simp; omega
  have t8 : (o.kind == 8) = false := by simp; omega
  have t9 : (o.kind == 9) = true := by simp; omega
  have HST : Hid (s.step o = ({ s with on := true }, ([], 0))) := Lib.hid (by unfold DS.step; rw [if_neg (by omega), if_neg (by omega), if_neg (by omega), if_neg (by omega), if_neg (by omega), if_neg (by omega), if_neg (by omega), if_neg (by omega), if_neg (by omega), if_pos hk])
  clear h hs ho hsrc hT hk
  go_enter Try.func8, Try.ntmps8
  go_wp2_with (go_at_call 16; refine (On_any d base s L _ HP1.out).mono ?_; rintro e w2 ⟨rfl, ha⟩; have HA := Lib.hid ha; clear ha)
  go_ret2
  rw [HST.out]
  exact ⟨RetB.none_, After.alloc_then HP.out _ HA.out⟩
set_option maxHeartbeats 1000000 in
theorem does_10 (d base : Nat) (s : DS) (L : Nat → Prop) (o : DOp) (A : Option Addr) (c : Nat) (w : World) (h : PDisk w base d s L) (hs : s.okS) (ho : o.ok) (hsrc : Src w L A o.b) (hT : total s.fs + o.b.length ≤ 1073741824) (hk : ¬ (0 ≤ o.kind ∧ o.kind ≤ 9)) :
    Calls Try.prog 8 #[.pointer (some ⟨d, 0, none⟩), .agg #[.int .i64 o.kind, .string o.f, .string o.g, .int .i64 o.n, .int .i64 o.k, .slice A o.b.length c]] w fun e w' => RetB w w' (s.step o).2.2 (s.step o).2.1 e ∧ After w w' base d (s.step o).1 L := by
  have HP := Lib.hid h
  have HP1 : Hid (PDisk (w.alloc (.cells #[.int .i64 o.kind, .string o.f, .string o.g, .int .i64 o.n, .int .i64 o.k, .slice A o.b.length c] 31)) base d s L) := Lib.hid (h.below (below_al (Below.refl _ _) _))
  have HS := Lib.hid hs
  have HO := Lib.hid ho
  have HT := Lib.hid hT
  have HB1 : Hid (Src (w.alloc (.cells #[.int .i64 o.kind, .string o.f, .string o.g, .int .i64 o.n, .int .i64 o.k, .slice A o.b.length c] 31)) L A o.b) := Lib.hid (hsrc.chg (M := L) (.of_below (below_al (Below.refl _ _) _)) fun _ => id)
  have t0 : (o.kind == 0) = false := by simp; omega
  have t1 : (o.kind == 1) = false := by simp; omega
  have t2 : (o.kind == 2) = false := by simp; omega
  have t3 : (o.kind == 3) = false := by simp; omega
  have t4 : (o.kind == 4) = false := by simp; omega
  have t5 : (o.kind == 5) = false := by simp; omega
  have t6 : (o.kind == 6) = false := by simp; omega
  have t7 : (o.kind == 7) = false := by simp; omega
  have t8 : (o.kind == 8) = false := by simp; omega
  have t9 : (o.kind == 9) = false := by simp; omega
  have HST : Hid (s.step o = (s, ([], 0))) := Lib.hid (by unfold DS.step; rw [if_neg (by omega), if_neg (by omega), if_neg (by omega), if_neg (by omega), if_neg (by omega), if_neg (by omega), if_neg (by omega), if_neg (by omega), if_neg (by omega), if_neg (by omega)])
  clear h hs ho hsrc hT hk
  go_enter Try.func8, Try.ntmps8
  go_wp2
  go_ret2
  rw [HST.out]
  exact ⟨RetB.none_, After.alloc_then HP.out _ (After.same HP1.out)⟩
theorem does_any (d base : Nat) (s : DS) (L : Nat → Prop) (o : DOp) (A : Option Addr) (c : Nat) (w : World) (h : PDisk w base d s L) (hs : s.okS) (ho : o.ok) (hsrc : Src w L A o.b) (hT : total s.fs + o.b.length ≤ 1073741824) :
    Calls Try.prog 8 #[.pointer (some ⟨d, 0, none⟩), .agg #[.int .i64 o.kind, .string o.f, .string o.g, .int .i64 o.n, .int .i64 o.k, .slice A o.b.length c]] w fun e w' => RetB w w' (s.step o).2.2 (s.step o).2.1 e ∧ After w w' base d (s.step o).1 L := by
  by_cases h0 : o.kind = 0
  · exact does_0 d base s L o A c w h hs ho hsrc hT h0
  by_cases h1 : o.kind = 1
  · exact does_1 d base s L o A c w h hs ho hsrc hT h1
  by_cases h2 : o.kind = 2
  · exact does_2 d base s L o A c w h hs ho hsrc hT h2
  by_cases h3 : o.kind = 3
  · exact does_3 d base s L o A c w h hs ho hsrc hT h3
  by_cases h4 : o.kind = 4
  · exact does_4 d base s L o A c w h hs ho hsrc hT h4
  by_cases h5 : o.kind = 5
  · exact does_5 d base s L o A c w h hs ho hsrc hT h5
  by_cases h6 : o.kind = 6
  · exact does_6 d base s L o A c w h hs ho hsrc hT h6
  by_cases h7 : o.kind = 7
  · exact does_7 d base s L o A c w h hs ho hsrc hT h7
  by_cases h8 : o.kind = 8
  · exact does_8 d base s L o A c w h hs ho hsrc hT h8
  by_cases h9 : o.kind = 9
  · exact does_9 d base s L o A c w h hs ho hsrc hT h9
  exact does_10 d base s L o A c w h hs ho hsrc hT (by omega)
end Go.Proofs.Ytfdcibghcncbmaa
