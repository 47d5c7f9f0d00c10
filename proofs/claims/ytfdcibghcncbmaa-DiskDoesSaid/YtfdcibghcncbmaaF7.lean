/- A script of calls, as it lies; long. -/
import Derived.Test.YtfdcibghcncbmaaF6
namespace Go.Proofs.Ytfdcibghcncbmaa
open Go.RowKit Go.Maps Go.Shelf

structure DOp.ok2 (o : DOp) : Prop where
  ok : o.ok
  n : -9223372036854775808 ≤ o.n ∧ o.n ≤ 9223372036854775807
  b : o.b.length ≤ 140737488355328
def DOp.val (o : DOp) (A : Option Addr) (c : Nat) : Value := .agg #[.int .i64 o.kind, .string o.f, .string o.g, .int .i64 o.n, .int .i64 o.k, .slice A o.b.length c]
/-- One call, as it lies. -/
structure OpAt (w : World) (p : Addr) (o : DOp) (A : Option Addr) (c : Nat) : Prop where
  c0 : w.cell? p = some (.int .i64 o.kind)
  c1 : w.cell? ⟨p.block, p.off + 1, none⟩ = some (.string o.f)
  c2 : w.cell? ⟨p.block, p.off + 2, none⟩ = some (.string o.g)
  c3 : w.cell? ⟨p.block, p.off + 3, none⟩ = some (.int .i64 o.n)
  c4 : w.cell? ⟨p.block, p.off + 4, none⟩ = some (.int .i64 o.k)
  c5 : w.cell? ⟨p.block, p.off + 5, none⟩ = some (.slice A o.b.length c)
  bytes : ∀ j u, (bv o.b)[j]? = some u → ∃ ad, A = some ad ∧ w.cell? (ad.add j) = some u
  ok : o.ok2
theorem OpAt.below {w w' : World} {p : Addr} {o : DOp} {A : Option Addr} {c : Nat} (h : OpAt w p o A c) (hb : Below w.heap.size w w') : OpAt w' p o A c :=
  ⟨cell_below hb h.c0, cell_below hb h.c1, cell_below hb h.c2, cell_below hb h.c3, cell_below hb h.c4, cell_below hb h.c5, fun j u hu => by
    obtain ⟨ad, ha, hc⟩ := h.bytes j u hu
    exact ⟨ad, ha, cell_below hb hc⟩, h.ok⟩
/-- Bytes that lay there ahead of all of L. -/
theorem OpAt.src {w : World} {p : Addr} {o : DOp} {A : Option Addr} {c : Nat} (h : OpAt w p o A c) {L : Nat → Prop} (hl : ∀ k, L k → w.heap.size ≤ k) : Src w L A o.b := by
  refine ⟨h.bytes, fun ad ha hb hk => ?_⟩
  obtain ⟨ad', ha', hc⟩ := h.bytes 0 _ (List.getElem?_eq_getElem (by rw [bv_len]; exact hb))
  rw [ha] at ha'
  injection ha' with ha'
  subst ha'
  have h1 := World.block_lt_of_cell? w _ hc
  rw [add_block] at h1
  have := hl _ hk
  omega
/-- A script, as it lies. -/
structure Script (w : World) (v : Value) (os : List DOp) : Prop where
  few : os.length ≤ 140737488355328
  form : ∃ A c, v = .slice A os.length c ∧ ∀ i o, os[i]? = some o → ∃ ad B cb, A = some ad ∧ OpAt w (ad.add (i * 6)) o B cb
theorem Script.below {w w' : World} {v : Value} {os : List DOp} (h : Script w v os) (hb : Below w.heap.size w w') : Script w' v os := by
  obtain ⟨A, c, rfl, hk⟩ := h.form
  refine ⟨h.few, A, c, rfl, fun i o ho => ?_⟩
  obtain ⟨ad, B, cb, ha, hop⟩ := hk i o ho
  exact ⟨ad, B, cb, ha, hop.below hb⟩
def costs : List DOp → Nat
  | [] => 0
  | o :: r => (o.b.length + 64) + costs r
theorem costs_app (a b : List DOp) : costs (a ++ b) = costs a + costs b := by
  induction a with
  | nil => simp [costs]
  | cons o r ih => simp [costs, ih]; omega
theorem costs_snoc {os : List DOp} {k : Nat} {o : DOp} (h : os[k]? = some o) : costs (os.take (k + 1)) = costs (os.take k) + (o.b.length + 64) := by
  rw [take_snoc' h, costs_app]; simp [costs]
theorem costs_take_le (os : List DOp) (k : Nat) : costs (os.take k) ≤ costs os := by
  have := costs_app (os.take k) (os.drop k)
  rw [List.take_append_drop] at this
  omega
theorem costs_len (os : List DOp) : 64 * os.length ≤ costs os := by
  induction os with
  | nil => simp [costs]
  | cons o r ih => simp [costs]; omega
set_option maxRecDepth 100000 in
set_option maxHeartbeats 1000000 in
theorem long_any (os : List DOp) (v : Value) (w : World) (hs : Script w v os) :
    Calls Try.prog 5 #[v] w fun e w' => e = .returned (.bool (decide (4194304 < costs os))) ∧ Below w.heap.size w w' := by
  have HS := Lib.hid hs
  obtain ⟨A, cap, hv, _⟩ := hs.form
  have hfew : os.length ≤ 140737488355328 := hs.few
  subst hv
  clear hs
  go_enter Try.func5, Try.ntmps5
  go_wp2_with fail
  go_loopw [8, 3, 5] (fun i_ n_ _ wr => ∃ k : Nat, k ≤ os.length ∧ i_ = .int .i64 k ∧ n_ = .int .i64 (costs (os.take k)) ∧ costs (os.take k) ≤ 4194304 ∧ Below w.heap.size w wr) (fun i_ _ _ _ => os.length - (intOf i_).toNat)
  case atStart => exact ⟨0, Nat.zero_le _, rfl, rfl, by simp [costs], Below.refl _ _⟩
  case round =>
    obtain ⟨k, hk, rfl, rfl, hcost, hb⟩ := hrel
    have HB := Lib.hid hb
    clear hb
    by_cases hlt : k < os.length
    · obtain ⟨o, ho⟩ : ∃ o, os[k]? = some o := ⟨_, List.getElem?_eq_getElem hlt⟩
      obtain ⟨A', cap', e0, hat⟩ := (HS.out.below HB.out).form
      injection e0 with x1 _ x3
      subst x1; subst x3
      obtain ⟨ad, B, cb, rfl, ⟨c0, c1, c2, c3, c4, c5, _, hok⟩⟩ := hat k o ho
      have hbl : o.b.length ≤ 140737488355328 := hok.b
      have hki : (k : Int) < (os.length : Int) := by omega
      have HE : Hid (((costs (os.take k) : Int) + ((o.b.length : Int) + 64)) = (costs (os.take (k + 1)) : Nat)) := Lib.hid (by rw [costs_snoc ho]; simp)
      have HN := Lib.hid (costs_snoc ho)
      have HT := Lib.hid (costs_take_le os (k + 1))
      clear hat hok ho
      by_cases hgt : 4194304 < costs (os.take k) + (o.b.length + 64)
      · have hgi : (4194304 : Int) < (costs (os.take k) : Int) + ((o.b.length : Int) + 64) := by omega
        go_wp2_with fail
        go_ret
        refine ⟨?_, below_al HB.out _⟩
        have h1 := HN.out
        have h2 := HT.out
        rw [decide_eq_true (show 4194304 < costs os by omega)]
        rfl
      · have hgi : ¬ (4194304 : Int) < (costs (os.take k) : Int) + ((o.b.length : Int) + 64) := by omega
        go_wp2_with fail
        go_roundw
        case rel =>
          have h1 := HN.out
          exact ⟨k + 1, by omega, by go_num, by rw [HE.out], by omega, below_al HB.out _⟩
        case measure => simp [intOf]; omega
    · have hk' : k = os.length := by omega
      subst hk'
      go_wp2_with fail
      go_ret
      rw [List.take_length] at hcost
      refine ⟨?_, HB.out⟩
      rw [decide_eq_false (show ¬ 4194304 < costs os by omega)]
      rfl
end Go.Proofs.Ytfdcibghcncbmaa
