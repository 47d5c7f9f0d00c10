/- The program's disk: New, the look-up of a file. -/
import Derived.Test.YtfdcibghcncbmaaD3
namespace Go.Proofs.Ytfdcibghcncbmaa
open Go.RowKit Go.Maps Go.Shelf

theorem zeroF (w : World) : (zeroValue 55).run Try.prog w = .ok (.pointer none) w := by kernel_rfl
section
variable {w : World} {base d mb : Nat} {s : DS} {g : ByteArray → PF} {D : DataW Unit}
theorem look_some (hq : DiskQ w base d s mb g D) (ho : Owns w mb D) {n : ByteArray} {f : DF} (hn : n.size ≤ maxLen) (hf : findF n s.fs = some f) :
    (Instr.lookup 44 (.map (some mb)) (.string n) false).run Try.prog w = .ok (.pointer (some ⟨(g n).blk, 0, none⟩)) w := by
  obtain ⟨h1, h2⟩ := findF_some hf
  obtain ⟨v, ps, hrun, hv⟩ := World.ownsMap.lookup (zd := .nil) (zp := []) ho strK Try.underlying44 (zeroF w) rfl (kL_key n hn)
  have := hq.is.at_ f h1 .nil
  rw [h2] at this
  rw [this] at hv
  rw [hrun, ptrR_inv hv]
theorem look_none (hq : DiskQ w base d s mb g D) (ho : Owns w mb D) {n : ByteArray} (hn : n.size ≤ maxLen) (hf : findF n s.fs = none) :
    (Instr.lookup 44 (.map (some mb)) (.string n) false).run Try.prog w = .ok (.pointer none) w := by
  obtain ⟨v, ps, hrun, hv⟩ := World.ownsMap.lookup (zd := .nil) (zp := []) ho strK Try.underlying44 (zeroF w) rfl (kL_key n hn)
  have := hq.is.has n
  rw [hf] at this
  rw [atKey_of_not_has this] at hv
  rw [hrun, ptrR_nil hv]
end
def ptrV (b : Nat) : Value := .pointer (some ⟨b, 0, none⟩)
/-- What 'there' answers. -/
def thereV (s : DS) (g : ByteArray → PF) (n : ByteArray) : Value × Int := if s.bad n ≠ 0 then (.pointer none, s.bad n) else match findF n s.fs with | none => (.pointer none, 21) | some _ => (ptrV (g n).blk, 0)
set_option maxHeartbeats 400000 in
theorem there_any (d base mb : Nat) (s : DS) (g : ByteArray → PF) (D : DataW Unit) (n : ByteArray) (w : World) (hq : DiskQ w base d s mb g D) (ho : Owns w mb D) (hn : n.size ≤ maxLen) :
    Calls Try.prog 38 #[.pointer (some ⟨d, 0, none⟩), .string n] w fun e w' => e = .returned (.tuple #[(thereV s g n).1, .int .i64 (thereV s g n).2]) ∧ w = w' := by
  obtain ⟨c0, _, c2, _⟩ := cells_of hq
  have HR := Lib.hid (ready_any d s n w hn c2)
  clear c2
  by_cases hb : s.bad n = 0
  · cases hx : findF n s.fs with
    | none =>
      have hl := look_none hq ho hn hx
      have HT : Hid (thereV s g n = (.pointer none, 21)) := by simp [thereV, hb, hx, Hid]
      have HB := Lib.hid hb
      clear hq ho hx hb hn
      go_enter Try.func38, Try.ntmps38
      go_wp2_with (go_at_call 34; refine HR.out.mono ?_; rw [HB.out]; rintro e w' ⟨rfl, rfl⟩)
      go_ret2
      rw [HT.out]
      exact ⟨rfl, rfl⟩
    | some f =>
      have hl := look_some hq ho hn hx
      have HT : Hid (thereV s g n = (.pointer (some ⟨(g n).blk, 0, none⟩), 0)) := by simp [thereV, hb, hx, Hid, ptrV]
      have HB := Lib.hid hb
      clear hq ho hx hb hn
      go_enter Try.func38, Try.ntmps38
      go_wp2_with (go_at_call 34; refine HR.out.mono ?_; rw [HB.out]; rintro e w' ⟨rfl, rfl⟩)
      go_ret2
      rw [HT.out]
      exact ⟨rfl, rfl⟩
  · have HT : Hid (thereV s g n = (.pointer none, s.bad n)) := by simp [thereV, hb, Hid]
    have hd : (s.bad n != 0) = true := by simp [hb]
    clear hq ho hb hn
    go_enter Try.func38, Try.ntmps38
    go_wp2_with (go_at_call 34; refine HR.out.mono ?_; rintro e w' ⟨rfl, rfl⟩)
    go_ret2
    rw [HT.out]
    exact ⟨rfl, rfl⟩
def newS (room : Int) : DS := ⟨[], room, true, 0, 0, 0⟩
set_option maxHeartbeats 400000 in
theorem New_any (room : Int) (w : World) :
    Calls Try.prog 6 #[.int .i64 room] w fun e w' => ∃ d, e = .returned (.pointer (some ⟨d, 0, none⟩)) ∧ PDisk w' w.heap.size d (newS room) (fun k => w.heap.size ≤ k ∧ k < w'.heap.size) ∧ Below w.heap.size w w' := by
  have hmm := @run_makeMap Try.prog
  go_enter Try.func6, Try.ntmps6
  go_wp2
  go_ret
  refine ⟨w.heap.size + 1, rfl, ⟨⟨w.heap.size, fun _ => ⟨0, undef, undef⟩, .map [], ⟨by omega, ?_, ⟨fun n => rfl, fun f hf => (by cases hf), rfl⟩, fun f hf => (by cases hf), fun f hf => (by cases hf), fun f hf => (by cases hf)⟩, ?_, ?_, ?_⟩⟩, below_al (below_al (Below.refl _ _) _) _⟩
  · have := blk_new (w.alloc (.map #[] 0)) (.cells (diskC (newS room) w.heap.size) 46 (0, 0))
    rw [World.size_alloc] at this
    exact this
  · exact Owns.of ((World.ownsMap_made w Try.prog 9 ptrR).alloc _)
  · rintro k (rfl | rfl | ⟨f, hf, _⟩)
    · simp
    · simp; omega
    · cases hf
  · intro k hk
    omega
end Go.Proofs.Ytfdcibghcncbmaa
