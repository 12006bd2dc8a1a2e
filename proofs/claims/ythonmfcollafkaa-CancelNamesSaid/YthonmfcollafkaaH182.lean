import Derived.Test.YthonmfcollafkaaHDel
/- slices.Index, slices.Contains over ints; the closure that asks it. -/
namespace Go.Proofs.Ythonmfcollafkaa.P
open Go.RowKit Go.Proofs.YthonmfcollafkaaW.PrintWords Go.Proofs.YthonmfcollafkaaW.PrintLast Go.Proofs.YthonmfcollafkaaW.PrintMore
set_option linter.unusedVariables false
set_option linter.unusedSimpArgs false
set_option maxHeartbeats 2000000 in
set_option maxRecDepth 100000 in
theorem index182 (A0 : Option Addr) (c0 : Nat) (l0 : List Int) (id : Int) (w : World) (hr0 : Kd.C (Kd.int .i64) w A0 l0.length l0) (hc0 : l0.length ≤ c0) (hlen : l0.length ≤ 1000000000) :
    Calls Try.prog 182 #[.slice A0 l0.length c0, .int .i64 id] w fun e w' => e = .returned (.int .i64 (idxI (fun y => y == id) l0)) ∧ Below w.heap.size w w' := by
  have hm : l0.length ≤ 9223372036854775807 := hr0.2.1
  have HR := Aside0.mk hr0
  clear hr0
  go_enter Try.func182, Try.ntmps182
  go_wp2
  go_loopw [8] (fun v8 w' => w' = w ∧ ∃ i : Nat, v8 = .int .i64 i ∧ i ≤ l0.length ∧ Aside0 (∀ j, (hj : j < l0.length) → j < i → (l0[j] == id) = false)) (fun v8 _ => l0.length - (intOf v8).toNat)
  case atStart => exact ⟨rfl, 0, rfl, Nat.zero_le _, ⟨fun j hj h => absurd h (Nat.not_lt_zero _)⟩⟩
  case round =>
    obtain ⟨rfl, i, rfl, hi, HP⟩ := hrel
    by_cases hlt : i < l0.length
    · have h1 : 0 ≤ ((i : Nat) : Int) := by omega
      have h2 : ((i : Nat) : Int) < (l0.length : Int) := by omega
      obtain ⟨ad, e, hx0⟩ := Kd.at_int HR.out _ h1 h2
      cases e
      have hrd : rd l0 (i : Int) = l0[i] := by unfold rd; simp [List.getD_eq_getElem?_getD, hlt]
      rw [hrd] at hx0
      simp only [Int.toNat_natCast] at hx0
      cases hq : (l0[i] == id) with
      | true =>
        have hq2 : (id == l0[i]) = true := by rw [beq_iff_eq] at hq ⊢; exact hq.symm
        go_wp2
        go_ret
        refine ⟨?_, Below.refl _ _⟩
        have hf : idxI (fun y => y == id) l0 = (i : Int) := idxI_at _ l0 i hlt hq (fun j hj h => HP.out j hj h)
        rw [hf]
        rfl
      | false =>
        have hq2 : (id == l0[i]) = false := by rw [beq_eq_false_iff_ne] at hq ⊢; exact fun h => hq h.symm
        have HQ := Aside0.mk hq
        go_wp2
        go_roundw
        case rel => exact ⟨trivial, i + 1, by go_num, by omega, ⟨fun j hj h => by
          by_cases e : j = i
          · subst e; exact HQ.out
          · exact HP.out j hj (by omega)⟩⟩
        case measure => simp [intOf]; omega
    · go_wp2
      go_ret
      refine ⟨?_, Below.refl _ _⟩
      have hf : idxI (fun y => y == id) l0 = -1 := idxI_none _ l0 (fun j hj => HP.out j hj (by omega))
      rw [hf]
      rfl
theorem contains167 (A0 : Option Addr) (c0 : Nat) (l0 : List Int) (id : Int) (w : World) (hr0 : Kd.C (Kd.int .i64) w A0 l0.length l0) (hc0 : l0.length ≤ c0) (hlen : l0.length ≤ 1000000000) :
    Calls Try.prog 167 #[.slice A0 l0.length c0, .int .i64 id] w fun e w' => e = .returned (.bool (decide (0 ≤ idxI (fun y => y == id) l0))) ∧ Below w.heap.size w w' := by
  have HI := Aside0.mk (index182 A0 c0 l0 id w hr0 hc0 hlen)
  clear hr0
  go_enter Try.func167, Try.ntmps167
  go_wp2_with (go_at_call 182; refine HI.out.mono ?_; rintro e w1 ⟨rfl, hb⟩)
  go_ret
  exact ⟨rfl, hb⟩
set_option maxHeartbeats 1000000 in
theorem clo166 (x : S129) (A0 : Option Addr) (c0 : Nat) (l0 : List Int) (bq : Nat) (w : World) (hq : w.heap[bq]? = some (.cells #[.slice A0 l0.length c0] 51 (0, 0))) (hr0 : Kd.C (Kd.int .i64) w A0 l0.length l0) (hc0 : l0.length ≤ c0) (hlen : l0.length ≤ 1000000000) :
    Calls Try.prog 166 #[.agg #[.int .i64 x.f0, .string x.f1, .int .u8 x.f2.f0, .int .i64 x.f2.f1, .string x.f2.f2], .pointer (some ⟨bq, 0, none⟩)] w fun e w' => e = .returned (.bool (decide (0 ≤ idxI (fun y => y == x.f0) l0))) ∧ Below w.heap.size w w' := by
  have hu := Try.underlying129
  have hc := cell_old hq
  have hlt := blk_lt hq
  have HR := Aside0.mk hr0
  clear hq hr0
  go_enter Try.func166, Try.ntmps166
  go_wp2_with (go_at_call 167; refine (contains167 A0 c0 l0 x.f0 _ (Kd.C_alloc HR.out _) hc0 hlen).mono ?_; rintro e w1 ⟨rfl, hb⟩)
  go_ret
  exact ⟨rfl, below_step ((Below.refl _ _).alloc (Nat.le_refl _) _) hb⟩
end Go.Proofs.Ythonmfcollafkaa.P
