/- The program's disk: bytes that come in; a file more. -/
import Derived.Test.YtfdcibghcncbmaaD9
namespace Go.Proofs.Ytfdcibghcncbmaa
open Go.RowKit Go.Maps Go.Shelf

/-- Bytes that came in; none of them lies in L. -/
def Src (w : World) (L : Nat → Prop) (A : Option Addr) (b : Bs) : Prop :=
  (∀ j u, (bv b)[j]? = some u → ∃ ad, A = some ad ∧ w.cell? (ad.add j) = some u) ∧ (∀ ad, A = some ad → 0 < b.length → ¬ L ad.block)
theorem add_block (ad : Addr) (j : Nat) : (ad.add j).block = ad.block := by unfold Addr.add; split <;> rfl
theorem Src.chg {w w' : World} {L M : Nat → Prop} {A : Option Addr} {b : Bs} (h : Src w L A b) (hc : Chg M w w') (hm : ∀ k, M k → L k) : Src w' L A b := by
  refine ⟨fun j u hu => ?_, h.2⟩
  obtain ⟨ad, ha, hcell⟩ := h.1 j u hu
  refine ⟨ad, ha, ?_⟩
  have hlt := World.block_lt_of_cell? w _ hcell
  have hb : 0 < b.length := by
    have := (List.getElem?_eq_some_iff.1 hu).1
    rw [bv_len] at this; omega
  have := hc.block (ad.add j).block hlt (by rw [add_block]; exact fun hk => h.2 ad ha hb (hm _ hk))
  rw [World.cell?_of_block this]
  exact hcell
theorem Src.mono {w : World} {L M : Nat → Prop} {A : Option Addr} {b : Bs} (h : Src w L A b) (hm : ∀ k, k < w.heap.size → M k → L k) : Src w M A b := by
  refine ⟨h.1, fun ad ha hb hk => h.2 ad ha hb (hm _ ?_ hk)⟩
  obtain ⟨ad', ha', hcell⟩ := h.1 0 _ (List.getElem?_eq_getElem (by rw [bv_len]; exact hb))
  rw [ha] at ha'
  injection ha' with ha'
  subst ha'
  have := World.block_lt_of_cell? w _ hcell
  rw [add_block] at this
  exact this
section
variable {w w1 w' : World} {base d mb : Nat} {s : DS} {g : ByteArray → PF} {D : DataW Unit} {L : Nat → Prop} {p : PF} {f : DF}
/-- Bytes more wait. -/
theorem turn_wait (h : FileP w base p f) (hg : w.grownBy w1 (fp p.v2)) (nm : ByteArray) (v' : Value) (xs : Bs) (ho : Own w1 base 5 1 v' xs.length (bv xs)) (hf : fp v' = fp p.v2 ∨ ∃ g, fp v' = some g ∧ w.heap.size ≤ g) :
    FileP (w1.setCell ⟨p.blk, 1, none⟩ v') base ⟨p.blk, p.v1, v'⟩ ⟨nm, f.safe, xs⟩ ∧
      (∀ k, (PF.mk p.blk p.v1 v').has k → p.has k ∨ w.heap.size ≤ k) ∧
      (∀ k, k < w.heap.size → ¬ p.has k → (w1.setCell ⟨p.blk, 1, none⟩ v').heap[k]? = w.heap[k]?) := by
  have hb : w1.heap[p.blk]? = some (.cells #[p.v1, p.v2] 57 (0, 0)) := (hg.block _ (blk_lt h.blk) (fun e => h.blk_ne.2 e.symm)).trans h.blk
  have hne : ∀ k, fp v' = some k → k ≠ p.blk := by
    intro k hk e
    subst e
    obtain ⟨cur, hc⟩ := ho.typed hk
    rw [hb] at hc
    injection hc with hc
    injection hc with _ hc
    exact absurd hc (by decide)
  refine ⟨⟨h.lo, blk_set hb 1 v', h.safe.move fun k hk => ?_, ho.move fun k hk => ?_, fun k hk => ?_⟩, ?_, ?_⟩
  · rw [Below.heap_setCell _ ⟨p.blk, 1, none⟩ _ k (fun e => h.blk_ne.1 (by rw [hk, e]))]
    exact hg.block k (h.safe.lt hk).2 fun e => h.ne k hk e.symm
  · rw [Below.heap_setCell _ ⟨p.blk, 1, none⟩ _ k (hne k hk)]
  · show fp v' ≠ some k
    have hk : fp p.v1 = some k := hk
    rcases hf with hf | ⟨g, hf, hge⟩
    · rw [hf]; exact h.ne k hk
    · rw [hf]; intro e; injection e with e; have := (h.safe.lt hk).2; omega
  · rintro k (rfl | hk | hk)
    · exact .inl (.inl rfl)
    · exact .inl (.inr (.inl hk))
    · have hk : fp v' = some k := hk
      rcases hf with hf | ⟨g, hf, hge⟩
      · rw [hf] at hk; exact .inl (.inr (.inr hk))
      · rw [hf] at hk; injection hk with hk; exact .inr (by omega)
  · intro k hk hn
    rw [Below.heap_setCell _ ⟨p.blk, 1, none⟩ _ k (fun e => hn (.inl e))]
    exact hg.block k hk fun e => hn (.inr (.inr e.symm))
/-- A file more, or another one in its place. -/
theorem KDisk.put (h : KDisk w base d s mb g D L) (hr : Rising s.fs) (x : DF) (p' : PF) (hn : x.name.size ≤ maxLen) (hp : FileP w' base p' x) (hm : ∀ k, k < w.heap.size → k ≠ mb → w'.heap[k]? = w.heap[k]?)
    (hnew : ∀ k, p'.has k → w.heap.size ≤ k ∨ (L k ∧ k ≠ d ∧ k ≠ mb ∧ ∀ y ∈ s.fs, ¬ (g y.name).has k)) (ho : Owns w' mb (D.put (kL x.name) (.lit (.int .i64 p'.blk)))) (hs : w.heap.size ≤ w'.heap.size) :
    KDisk w' base d { s with fs := putF x s.fs } mb (fun n => if neq n x.name then p' else g n) (D.put (kL x.name) (.lit (.int .i64 p'.blk))) (newL L w w') := by
  refine ⟨h.q.put h.o hr x p' hn hp hm fun k hk => (hnew k hk).imp id fun h1 => h1.2, ho, fun k hk => ?_, fun k hk => ?_⟩
  · rcases hk with rfl | rfl | ⟨y, hy, hk⟩
    · exact .inl h.has
    · exact .inl (h.l _ (.inr (.inl rfl)))
    · have hk : (if neq y.name x.name = true then p' else g y.name).has k := hk
      rcases mem_put.1 hy with rfl | ⟨h1, h2⟩
      · rw [if_pos (neq_self _)] at hk
        rcases hnew k hk with h1 | h1
        · exact .inr ⟨h1, (hp.lt hk).2⟩
        · exact .inl h1.1
      · rw [if_neg (by simpa using h2)] at hk
        exact .inl (h.l k (.inr (.inr ⟨y, h1, hk⟩)))
  · have hb := h.lo d h.has
    rcases hk with hk | hk
    · have := h.lo k hk; omega
    · omega
/-- A file less. -/
theorem KDisk.drop (h : KDisk w base d s mb g D L) (hr : Rising s.fs) (n : ByteArray) (hm : ∀ k, k < w.heap.size → k ≠ mb → w'.heap[k]? = w.heap[k]?) (ho : Owns w' mb (D.del (kL n))) (hs : w.heap.size ≤ w'.heap.size) :
    KDisk w' base d { s with fs := dropF n s.fs } mb g (D.del (kL n)) L := by
  refine ⟨h.q.drop h.o hr n hm, ho, fun k hk => h.l k ?_, fun k hk => ?_⟩
  · rcases hk with rfl | rfl | ⟨y, hy, hk⟩
    · exact .inl rfl
    · exact .inr (.inl rfl)
    · exact .inr (.inr ⟨y, (mem_drop.1 hy).1, hk⟩)
  · have := h.lo k hk; omega
theorem After.of_put {s1 : DS} {g1 : ByteArray → PF} {D1 : DataW Unit} (h : KDisk w' base d s1 mb g1 D1 (newL L w w')) (hc : Chg L w w') : After w w' base d s1 L := ⟨h.p, hc⟩
end
theorem upd_put (x y : DF) (fs : List DF) (h : y.name = x.name) : updF x (putF y fs) = putF x fs := by
  unfold updF putF
  rw [List.map_append, List.map_cons, if_pos ((neq_iff _ _).2 h), h]
  congr 1
  · refine (List.map_congr_left (g := id) fun f hf => ?_).trans (List.map_id _)
    have := nlt_ne (List.mem_filter.1 hf).2
    rw [if_neg (by simpa using this)]; rfl
  · congr 1
    refine (List.map_congr_left (g := id) fun f hf => ?_).trans (List.map_id _)
    have := nlt_ne (List.mem_filter.1 hf).2
    rw [if_neg (by simpa using Ne.symm this)]; rfl
theorem total_upd {x f : DF} {fs : List DF} (hr : Rising fs) (hf : findF x.name fs = some f) : total (updF x fs) + f.len = total fs + x.len := by
  obtain ⟨h1, h2⟩ := findF_some hf
  rw [← put_some hr (by rw [hf]; rfl), total_put, ← h2]
  have := total_drop_some hr h1
  omega
theorem total_add {x : DF} {fs : List DF} (hf : findF x.name fs = none) : total (putF x fs) = total fs + x.len := by
  rw [total_put, drop_none (findF_none hf)]
theorem raw_any (d base : Nat) (s : DS) (L : Nat → Prop) (w : World) (h : PDisk w base d s L) (hc : 0 ≤ s.count ∧ s.count ≤ 1073741824) (hl : 0 ≤ s.left ∧ s.left ≤ 9223372036854775807) :
    Calls Try.prog 36 #[.pointer (some ⟨d, 0, none⟩)] w fun e w' => e = .returned (.bool s.goes) ∧ After w w' base d s.raw L := by
  obtain ⟨mb, g, D, hk⟩ := h.k
  exact (raw_k d base mb s g D L w hk hc hl).mono fun e w' ⟨h1, h2, h3⟩ => ⟨h1, After.of_k h h2 h3⟩
end Go.Proofs.Ytfdcibghcncbmaa
