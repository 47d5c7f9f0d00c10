/- The program's disk: Names. -/
import Derived.Test.YtfdcibghcncbmaaD15
import Derived.Test.YtfdcibghcncbmaaIter
namespace Go.Proofs.Ytfdcibghcncbmaa
open Go.RowKit Go.Maps Go.Shelf Go.Sort

/-- Names as cells. -/
def nmV (ns : List ByteArray) : List Value := ns.map Value.string
theorem rising_sorted {fs : List DF} (h : Rising fs) : ((fs.map fun f => nmL f.name).mergeSort fun x y => decide (x ≤ y)) = fs.map fun f => nmL f.name := by
  refine List.mergeSort_of_pairwise ?_
  rw [List.pairwise_map]
  refine h.imp fun {a b} hab => ?_
  simp only [nlt, decide_eq_true_eq] at hab
  simp only [decide_eq_true_eq]
  exact List.le_of_lt hab
theorem names_perm {D : DataW Unit} {fs : List DF} {g : ByteArray → PF} {w : World} {mb n : Nat} (hown : w.ownsMap Try.prog 9 ptrR mb n D) (h : MapIs D fs g) (hr : Rising fs) : (fs.map fun f => nmL f.name).Perm (strKeys D) := by
  obtain ⟨es, rfl, hp⟩ := World.ownsMap.tidy hown strK
  obtain ⟨es', he, hk⟩ := World.ownsMap.keysOf hown
  cases he
  refine perm_strKeys hp (fun p hp' => ?_) ?_ fun x => ?_
  · obtain ⟨v, hv⟩ := hk p hp'
    obtain ⟨x, _, hx, _⟩ := Maps.keyOf_str Try.underlying9 hv
    exact ⟨x, hx⟩
  · unfold List.Nodup
    rw [List.pairwise_map]
    exact hr.imp fun {a b} hab e => nlt_ne hab (nmL_inj e)
  · have hx := h.has ⟨x.toArray⟩
    have hk' : kL ⟨x.toArray⟩ = .string x := by simp [kL, nmL]
    rw [hk'] at hx
    rw [hx, List.mem_map]
    constructor
    · rintro ⟨f, hf, rfl⟩
      have : (⟨(nmL f.name).toArray⟩ : ByteArray) = f.name := nmL_inj (by simp [nmL])
      rw [this, findF_mem hr hf]; rfl
    · intro hs
      obtain ⟨f, hf⟩ := Option.isSome_iff_exists.1 hs
      obtain ⟨h1, h2⟩ := findF_some hf
      exact ⟨f, h1, by rw [h2]; simp [nmL]⟩
theorem encStr_nm (n : ByteArray) : encStr (nmL n) = .string n := by
  have : (⟨(nmL n).toArray⟩ : ByteArray) = n := nmL_inj (by simp [nmL])
  unfold encStr; rw [this]
/-- Names are answered, a row of the call's own. -/
def RetN (w w' : World) (ns : List ByteArray) (e : Ending) : Prop := ∃ v, e = .returned v ∧ Own w' w.heap.size 9 1 v ns.length (nmV ns)
theorem nmV_len (ns : List ByteArray) : (nmV ns).length = ns.length := by simp [nmV]
set_option maxHeartbeats 1000000 in
theorem Names_any (d base : Nat) (s : DS) (L : Nat → Prop) (w : World) (h : PDisk w base d s L) (hr : Rising s.fs) (hfew : s.fs.length ≤ 1073741824) :
    Calls Try.prog 30 #[.pointer (some ⟨d, 0, none⟩)] w fun e w' => RetN w w' s.names e ∧ Below w.heap.size w w' := by
  obtain ⟨mb, g, D, hk⟩ := h.k
  obtain ⟨c0, _, c2, _⟩ := cells_of hk.q
  cases hon : s.on with
  | false =>
    have HN : Hid (s.names = []) := Lib.hid (by unfold DS.names; rw [hon]; rfl)
    rw [hon] at c2
    simp only [Bool.not_false] at c2
    clear hk h hon hr
    go_enter Try.func30, Try.ntmps30
    go_wp2
    go_ret
    rw [HN.out]
    exact ⟨⟨_, rfl, Own.none_ _ _ _ _ none⟩, Below.refl _ _⟩
  | true =>
    have HN : Hid (s.names = s.fs.map (·.name)) := Lib.hid (by unfold DS.names; rw [hon]; rfl)
    have hown : w.ownsMap Try.prog 9 ptrR mb (Maps.size D) D := hk.o
    have HP := Lib.hid (names_perm hown hk.q.is hr)
    have HSO := Lib.hid (rising_sorted hr)
    have hsz := hk.q.is.size
    have hmax : Maps.size D ≤ maxLen := by rw [hsz]; unfold maxLen; omega
    have hbytes : Maps.size D * 16 ≤ 140737488355328 := by rw [hsz]; omega
    have HC := Lib.hid (Try.slices_Sorted_keys_47_48 mb (Maps.size D) D ptrR w hown hmax hbytes)
    rw [hon] at c2
    simp only [Bool.not_true] at c2
    clear hk h hon hr hown hmax hbytes hsz
    refine (callsIn_wide (n := 6)).1 ?_
    have hfK : Fence.wide.fn 48 := trivial
    have hfS : Fence.wide.fn 47 := trivial
    refine callsIn_of_wp Try.func30 rfl trivial ?_ rfl
    simp only [Try.ntmps30, List.size_toArray, List.length_cons, List.length_nil, Nat.reduceAdd, Nat.reduceSub, Array.replicate_succ, Array.replicate_zero, List.push_toArray, List.append_toArray, List.nil_append, List.cons_append]
    gi_wp2_with (first
      | (gi_at_call 48; refine (Try.maps_Keys_48 _ _).mono ?_; rintro e w' ⟨rfl, rfl⟩)
      | (gi_at_call 47; refine HC.out.mono ?_; rintro e w' ⟨v, ss, rfl, hS, hrow, hnil, hb⟩; have HS := Lib.hid hS; have HR := Lib.hid hrow; have HB := Lib.hid hb; clear hS hrow hnil hb))
    go_ret
    have hperm := HS.out.trans HP.out.symm
    have hms := mergeSort_of_perm hperm
    have hlen : ss.length = s.fs.length := by rw [hperm.length_eq, List.length_map]
    have ho := Own.of_row HR.out
    rw [show (ss.mergeSort fun x y => decide (x ≤ y)) = _ from hms.trans HSO.out, hlen, List.map_map] at ho
    refine ⟨⟨v, rfl, ?_⟩, below_next (below_al (Below.refl _ _) _) HB.out⟩
    rw [HN.out, List.length_map]
    have e : (s.fs.map (encStr ∘ fun f => nmL f.name)) = nmV (s.fs.map (·.name)) := by
      unfold nmV
      rw [List.map_map]
      refine List.map_congr_left fun f _ => ?_
      exact encStr_nm f.name
    rw [e] at ho
    exact ho.lower (by simp)
end Go.Proofs.Ytfdcibghcncbmaa
