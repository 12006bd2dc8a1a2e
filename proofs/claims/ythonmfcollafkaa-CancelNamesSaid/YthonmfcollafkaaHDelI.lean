import Derived.Test.YthonmfcollafkaaH110
import Derived.Test.YthonmfcollafkaaHBelow
/- slices.IndexFunc over ints, and DeleteFunc where none goes. -/
namespace Go.Proofs.Ythonmfcollafkaa.P
open Go.RowKit Go.Proofs.YthonmfcollafkaaW.PrintWords Go.Proofs.YthonmfcollafkaaW.PrintLast Go.Proofs.YthonmfcollafkaaW.PrintMore
set_option linter.unusedVariables false
set_option linter.unusedSimpArgs false
set_option maxHeartbeats 2000000 in
set_option maxRecDepth 100000 in
/-- slices.IndexFunc: function 121, with the closure 110. -/
theorem index_121_110 (A0 : Option Addr) (c0 : Nat) (l0 : List Int) (bq : Nat) (p : Int → Bool) (w : World) (hr0 : Kd.C (Kd.int .i64) w A0 l0.length l0) (hc0 : l0.length ≤ c0) (hlen : l0.length ≤ 1000000000) (hp : ∀ W (x : Int), x ∈ l0 → Below w.heap.size w W → Calls Try.prog 110 #[.int .i64 x, .pointer (some ⟨bq, 0, none⟩)] W fun e W' => e = .returned (.bool (p x)) ∧ Below W.heap.size W W') :
    Calls Try.prog 121 #[.slice A0 l0.length c0, .func (.func 110) #[] #[.pointer (some ⟨bq, 0, none⟩)]] w fun e w' => e = .returned (.int .i64 (idxI p l0)) ∧ Below w.heap.size w w' := by
  have hm : l0.length ≤ 9223372036854775807 := hr0.2.1
  have HR := Aside0.mk hr0
  have HP0 := Aside0.mk hp
  clear hr0 hp
  go_enter Try.func121, Try.ntmps121
  go_wp2
  go_loopw [8] (fun v8 w' => ∃ i : Nat, v8 = .int .i64 i ∧ i ≤ l0.length ∧ Aside0 (∀ j, (hj : j < l0.length) → j < i → p l0[j] = false) ∧ Aside0 (Below w.heap.size w w')) (fun v8 _ => l0.length - (intOf v8).toNat)
  case atStart => exact ⟨0, rfl, Nat.zero_le _, ⟨fun j hj h => absurd h (Nat.not_lt_zero _)⟩, ⟨Below.refl _ _⟩⟩
  case round =>
    obtain ⟨i, rfl, hi, HP, HB⟩ := hrel
    by_cases hlt : i < l0.length
    · have h1 : 0 ≤ ((i : Nat) : Int) := by omega
      have h2 : ((i : Nat) : Int) < (l0.length : Int) := by omega
      obtain ⟨ad, e, hx0⟩ := Kd.at_int HR.out _ h1 h2
      cases e
      replace hx0 := (HB.out.cell (World.block_lt_of_cell? w _ hx0)).trans hx0
      simp only [Int.toNat_natCast] at hx0
      have hrd : rd l0 (i : Int) = l0[i] := by unfold rd; simp [List.getD_eq_getElem?_getD, hlt]
      rw [hrd] at hx0
      clear hrd
      cases hq : p l0[i] with
      | true =>
        have HQ := Aside0.mk hq
        clear hq
        go_wp2_with (go_at_call 110; refine (HP0.out _ l0[i] (List.getElem_mem hlt) HB.out).mono ?_; rintro e w1 ⟨rfl, hb⟩; replace HB := Aside0.mk (below_step HB.out hb); clear hb; rw [HQ.out])
        go_ret
        refine ⟨?_, HB.out⟩
        have hf : idxI p l0 = (i : Int) := idxI_at _ l0 i hlt HQ.out (fun j hj h => HP.out j hj h)
        rw [hf]
        rfl
      | false =>
        have HQ := Aside0.mk hq
        clear hq
        go_wp2_with (go_at_call 110; refine (HP0.out _ l0[i] (List.getElem_mem hlt) HB.out).mono ?_; rintro e w1 ⟨rfl, hb⟩; replace HB := Aside0.mk (below_step HB.out hb); clear hb; rw [HQ.out])
        go_roundw
        case rel => exact ⟨i + 1, by go_num, by omega, ⟨fun j hj h => by
          by_cases e : j = i
          · subst e; exact HQ.out
          · exact HP.out j hj (by omega)⟩, ⟨HB.out⟩⟩
        case measure => simp [intOf]; omega
    · go_wp2
      go_ret
      refine ⟨?_, HB.out⟩
      have hf : idxI p l0 = -1 := idxI_none _ l0 (fun j hj => HP.out j hj (by omega))
      rw [hf]
      rfl
set_option maxHeartbeats 2000000 in
set_option maxRecDepth 100000 in
/-- slices.DeleteFunc: function 109, with the closure 110, where none goes. -/
theorem del_109_none (A : Option Addr) (c : Nat) (l : List Int) (bq : Nat) (id : Int) (w : World) (hC : kI.C w A l.length l) (hc : l.length ≤ c) (hlen : l.length ≤ 1000000000) (hq : w.heap[bq]? = some (.cells #[.int .i64 id] 3 (0, 0))) (hne : ∀ x ∈ l, x ≠ id) :
    Calls Try.prog 109 #[.slice A l.length c, .func (.func 110) #[] #[.pointer (some ⟨bq, 0, none⟩)]] w fun e w' => e = .returned (.slice A l.length c) ∧ Below w.heap.size w w' := by
  have HI := Aside0.mk (index_121_110 A c l bq (fun x => x == id) w hC hc hlen (fun W x hx hb => clo110 x id bq W (blk_below hq hb)))
  have hn := idxI_none (fun x => x == id) l (fun j hj => by simpa using hne _ (List.getElem_mem hj))
  rw [hn] at HI
  clear hn hC hq
  go_enter Try.func109, Try.ntmps109
  go_wp2_with (go_at_call 121; refine HI.out.mono ?_; rintro e w1 ⟨rfl, hb⟩)
  go_ret
  exact ⟨rfl, hb⟩
end Go.Proofs.Ythonmfcollafkaa.P
