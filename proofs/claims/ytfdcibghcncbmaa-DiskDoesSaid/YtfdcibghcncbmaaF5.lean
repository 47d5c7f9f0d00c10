/- What a script of calls keeps of a disk's numbers. -/
import Derived.Test.YtfdcibghcncbmaaF4
namespace Go.Proofs.Ytfdcibghcncbmaa
open Go.RowKit

structure DS.okB (s : DS) (T N : Nat) : Prop where
  rising : Rising s.fs
  names : ∀ f ∈ s.fs, okName f.name = true
  few : s.fs.length ≤ 16
  bytes : total s.fs ≤ T
  count : 0 ≤ s.count ∧ s.count ≤ N
  left : 0 ≤ s.left ∧ s.left ≤ 9223372036854775807
  room : -9223372036854775808 ≤ s.room ∧ s.room ≤ 9223372036854775807
  keep : -9223372036854775808 ≤ s.keep ∧ s.keep ≤ 9223372036854775807
section
variable {s : DS} {T N : Nat}
theorem DS.okB.mono (h : s.okB T N) {T' N' : Nat} (ht : T ≤ T') (hn : N ≤ N') : s.okB T' N' :=
  ⟨h.rising, h.names, h.few, by have := h.bytes; omega, by have := h.count; omega, h.left, h.room, h.keep⟩
theorem DS.okB.okS (h : s.okB T N) (ht : T ≤ 1073741824) (hn : N ≤ 1073741824) : s.okS :=
  ⟨⟨⟨h.rising, by have := h.bytes; omega, by have := h.count; omega, h.left⟩, by have := h.few; omega, h.keep⟩, h.names, h.room⟩
theorem DS.okB.fs (h : s.okB T N) {fs : List DF} {T' : Nat} (hr : Rising fs) (hn : ∀ f ∈ fs, okName f.name = true) (hf : fs.length ≤ 16) (ht : total fs ≤ T') : DS.okB { s with fs := fs } T' N :=
  ⟨hr, hn, hf, ht, h.count, h.left, h.room, h.keep⟩
theorem DS.okB.raw (h : s.okB T N) : s.raw.okB T (N + 1) :=
  ⟨h.rising, h.names, h.few, h.bytes, by have := h.count; show 0 ≤ s.count + 1 ∧ s.count + 1 ≤ ((N + 1 : Nat) : Int); omega, by
    have := h.left
    show 0 ≤ (if s.left = 0 then 0 else s.left - 1) ∧ (if s.left = 0 then 0 else s.left - 1) ≤ 9223372036854775807
    split <;> omega, h.room, h.keep⟩
theorem total_off (k : Int) (fs : List DF) : total (fs.map (DF.off k)) ≤ total fs := by
  induction fs with
  | nil => exact Nat.le_refl _
  | cons f r ih =>
    rw [List.map_cons, total_cons, total_cons]
    have := off_len k f
    omega
theorem DS.okB.off (h : s.okB T N) (k : Int) : (s.off k).okB T N := by
  unfold DS.off
  split
  · refine ⟨rising_map (DF.off k) (fun _ => rfl) h.rising, fun f hf => ?_, by rw [List.length_map]; exact h.few, Nat.le_trans (total_off k s.fs) h.bytes, h.count, by simp, h.room, h.keep⟩
    obtain ⟨g, hg, rfl⟩ := List.mem_map.1 hf
    exact h.names g hg
  · exact h
theorem DS.okB.fin (h : s.okB T N) {g : DS → DS} (hg : (g s.raw).okB T (N + 1)) : (s.fin g).1.okB T (N + 1) := by
  unfold DS.fin
  split
  · exact h.raw.off _
  · exact hg
theorem ok_of_bad {n : ByteArray} (h : s.bad n = 0) : okName n = true := by
  unfold DS.bad at h
  cases ho : okName n with
  | true => rfl
  | false => rw [ho] at h; simp at h
theorem mem_upd {x y : DF} {fs : List DF} (h : y ∈ updF x fs) : y = x ∨ y ∈ fs := by
  obtain ⟨z, hz, rfl⟩ := List.mem_map.1 h
  split
  · exact .inl rfl
  · exact .inr hz
theorem rising_upd (x : DF) {fs : List DF} (h : Rising fs) : Rising (updF x fs) := rising_map _ (fun f => by split; rename_i e; exact ((neq_iff _ _).1 e).symm; rfl) h
theorem DS.okB.upd (h : s.okB T N) {x f : DF} (hf : findF x.name s.fs = some f) (hx : okName x.name = true) (hl : x.len ≤ f.len) : DS.okB { s with fs := updF x s.fs } T N := by
  refine h.fs (rising_upd x h.rising) (fun y hy => ?_) (by rw [upd_length]; exact h.few) ?_
  · rcases mem_upd hy with rfl | hy
    · exact hx
    · exact h.names y hy
  · have := total_upd h.rising hf
    have := h.bytes
    omega
theorem DS.okB.with (h : s.okB T N) (n : ByteArray) {k : DF → DS × Int} (hk : ∀ f, okName n = true → findF n s.fs = some f → (k f).1.okB T (N + 1)) : (s.with n k).1.okB T (N + 1) := by
  unfold DS.with
  split
  · exact h.mono (Nat.le_refl _) (by omega)
  · rename_i hb
    have hb : s.bad n = 0 := by simpa using hb
    split
    · exact h.mono (Nat.le_refl _) (by omega)
    · rename_i f hf
      exact hk f (ok_of_bad hb) hf
theorem DS.okB.append (h : s.okB T N) (n : ByteArray) (b : Bs) : (s.append n b).1.okB (T + b.length) (N + 1) := by
  unfold DS.append
  split
  · exact h.mono (by omega) (by omega)
  · rename_i hb
    have hb : s.bad n = 0 := by simpa using hb
    simp only []
    split
    · exact h.mono (by omega) (by omega)
    · split
      · exact h.mono (by omega) (by omega)
      · rename_i hfull
        have hrp := rising_put h.rising ⟨n, ((findF n s.fs).getD ⟨n, [], []⟩).safe, ((findF n s.fs).getD ⟨n, [], []⟩).wait ++ b⟩
        have hall : DS.okB { s with fs := putF ⟨n, ((findF n s.fs).getD ⟨n, [], []⟩).safe, ((findF n s.fs).getD ⟨n, [], []⟩).wait ++ b⟩ s.fs } (T + b.length) N := by
          refine h.fs hrp (fun y hy => ?_) ?_ ?_
          · rcases mem_put.1 hy with rfl | ⟨h1, _⟩
            · exact ok_of_bad hb
            · exact h.names y h1
          · rw [length_put _ _ h.rising]
            have := h.few
            cases hx : findF n s.fs with
            | none =>
              simp only [hx] at hfull ⊢
              simp at hfull ⊢
              omega
            | some f => simp [hx]; omega
          · have hbt := h.bytes
            rw [total_put]
            cases hx : findF n s.fs with
            | none =>
              have := total_drop_le n s.fs
              simp only [Option.getD_none, DF.len, List.nil_append, List.length_nil]
              omega
            | some f =>
              obtain ⟨h1, h2⟩ := findF_some hx
              have := total_drop_some h.rising h1
              rw [h2] at this
              unfold DF.len at this
              simp only [Option.getD_some, DF.len, List.length_append]
              omega
        exact hall.fin (g := id) hall.raw
theorem DS.okB.rename (h : s.okB T N) (n m : ByteArray) : (s.rename n m).1.okB T (N + 1) := by
  cases h1 : okName n with
  | false => unfold DS.rename; rw [h1]; exact h.mono (Nat.le_refl _) (by omega)
  | true =>
    cases h2 : okName m with
    | false => unfold DS.rename; rw [h1, h2]; exact h.mono (Nat.le_refl _) (by omega)
    | true =>
      rw [rename_eq s n m h1 h2]
      refine h.with n fun f _ hf => h.fin ?_
      obtain ⟨hm, hn⟩ := findF_some hf
      have hrd := rising_drop h.rising n
      refine h.raw.fs (rising_put hrd _) (fun y hy => ?_) ?_ ?_
      · rcases mem_put.1 hy with rfl | ⟨h3, _⟩
        · exact h2
        · exact h.names y (mem_drop.1 h3).1
      · show (putF _ (dropF n s.fs)).length ≤ 16
        have hl := length_drop h.rising n
        rw [hf] at hl
        rw [length_put _ _ hrd]
        have := h.few
        simp at hl
        split <;> omega
      · show total (putF _ (dropF n s.fs)) ≤ T
        rw [total_put]
        have h3 := total_drop_le m (dropF n s.fs)
        have h4 := total_drop_some h.rising hm
        rw [hn] at h4
        have := h.bytes
        unfold DF.len at h4 ⊢
        simp only
        omega
theorem DS.okB.step (h : s.okB T N) (o : DOp) (hn : -9223372036854775808 ≤ o.n ∧ o.n ≤ 9223372036854775807) (hk : -9223372036854775808 ≤ o.k ∧ o.k ≤ 9223372036854775807) : (s.step o).1.okB (T + o.b.length) (N + 1) := by
  have hT : T ≤ T + o.b.length := by omega
  have hN : N ≤ N + 1 := by omega
  unfold DS.step
  split
  · exact h.append o.f o.b
  split
  · refine DS.okB.mono (h.with o.f fun f hx hf => h.fin ?_) hT (Nat.le_refl _)
    exact h.raw.upd (x := ⟨o.f, f.safe ++ f.wait, []⟩) hf hx (by unfold DF.len; simp)
  split
  · refine DS.okB.mono (h.with o.f fun f hx hf => ?_) hT (Nat.le_refl _)
    split
    · exact h.mono (Nat.le_refl _) hN
    · refine h.fin ?_
      exact h.raw.upd (x := truncF o.f o.n f) hf hx (by unfold truncF DF.len; simp; omega)
  split
  · exact (h.rename o.f o.g).mono hT (Nat.le_refl _)
  split
  · refine DS.okB.mono (h.with o.f fun f hx hf => h.fin ?_) hT (Nat.le_refl _)
    refine h.raw.fs (rising_drop h.rising _) (fun y hy => h.names y (mem_drop.1 hy).1) (Nat.le_trans (List.length_filter_le _ _) h.few) (Nat.le_trans (total_drop_le _ _) h.bytes)
  split
  · exact h.mono hT hN
  split
  · exact ⟨h.rising, h.names, h.few, Nat.le_trans h.bytes hT, by have := h.count; simp; omega, h.left, hn, h.keep⟩
  split
  · exact ⟨h.rising, h.names, h.few, Nat.le_trans h.bytes hT, by have := h.count; simp [DS.arm]; omega, by show 0 ≤ max o.n 0 ∧ max o.n 0 ≤ 9223372036854775807; omega, h.room, hk⟩
  split
  · exact (h.off o.k).mono hT hN
  split
  · exact ⟨h.rising, h.names, h.few, Nat.le_trans h.bytes hT, by have := h.count; simp; omega, h.left, h.room, h.keep⟩
  · exact h.mono hT hN
end
theorem newS_ok (room : Int) (hr : -9223372036854775808 ≤ room ∧ room ≤ 9223372036854775807) : (newS room).okB 0 0 :=
  ⟨List.Pairwise.nil, fun f hf => by (cases hf), by simp [newS], by simp [newS, total], by simp [newS], by simp [newS], hr, by simp [newS]⟩
end Go.Proofs.Ytfdcibghcncbmaa
