import Derived.Test.YthonmfcollafkaaPx0
import Derived.IntWalk
import Derived.Outline
import Derived.WalkSpells
/- Places in rows: slices.IndexFunc (by hand: it calls a closure). -/
namespace Go.Proofs.Ythonmfcollafkaa.P
open Go.RowKit Go.Proofs.YthonmfcollafkaaW.PrintWords Go.Proofs.YthonmfcollafkaaW.PrintLast Go.Proofs.YthonmfcollafkaaW.PrintMore
set_option linter.unusedVariables false
set_option linter.unusedSimpArgs false

def idxI {α : Type} (p : α → Bool) (l : List α) : Int := if l.findIdx p < l.length then (l.findIdx p : Int) else -1
theorem idxI_at {α : Type} (p : α → Bool) (l : List α) (i : Nat) (hi : i < l.length) (h : p l[i] = true) (h' : ∀ j, (hj : j < l.length) → j < i → p l[j] = false) : idxI p l = (i : Int) := by
  have := (List.findIdx_eq hi).2 ⟨h, fun j hj => h' j (by omega) hj⟩
  unfold idxI
  rw [this, if_pos hi]
theorem idxI_none {α : Type} (p : α → Bool) (l : List α) (h : ∀ j, (hj : j < l.length) → p l[j] = false) : idxI p l = -1 := by
  have : l.findIdx p = l.length := List.findIdx_eq_length.2 (fun x hx => by
    obtain ⟨j, hj, rfl⟩ := List.getElem_of_mem hx
    exact h j hj)
  unfold idxI
  rw [this, if_neg (Nat.lt_irrefl _)]
theorem cell_old {w : World} {b : Nat} {v : Value} {t : TypeId} (h : w.heap[b]? = some (.cells #[v] t (0, 0))) : w.cell? ⟨b, 0, none⟩ = some v := (blk_cell h 0).trans rfl

set_option maxHeartbeats 1000000 in
theorem clo124 (x : S43) (id : Int) (bq : Nat) (w : World) (hq : w.heap[bq]? = some (.cells #[.int .i64 id] 3 (0, 0))) :
    Calls Try.prog 124 #[.agg #[.int .i64 x.f0, .int .i64 x.f1, .int .u8 x.f2, .string x.f3, .int .i64 x.f4, .int .i64 x.f5, .int .u8 x.f6, .string x.f7], .pointer (some ⟨bq, 0, none⟩)] w fun e w' => e = .returned (.bool (x.f0 == id)) ∧ Below w.heap.size w w' := by
  have hu := Try.underlying43
  have hc := cell_old hq
  have hlt := blk_lt hq
  clear hq
  go_enter Try.func124, Try.ntmps124
  go_wp2
  go_ret
  exact ⟨rfl, (Below.refl _ _).alloc (Nat.le_refl _) _⟩
set_option maxHeartbeats 2000000 in
set_option maxRecDepth 100000 in
/-- slices.IndexFunc: function 123, with the closure 124. -/
theorem index_123_124 (A0 : Option Addr) (c0 : Nat) (l0 : List S43) (bq : Nat) (p : S43 → Bool) (w : World) (hr0 : Kd.C k43 w A0 l0.length l0) (hc0 : l0.length ≤ c0) (hlen : l0.length ≤ 1000000000) (hp : ∀ W (x : S43), x ∈ l0 → Below w.heap.size w W → Calls Try.prog 124 #[.agg #[.int .i64 x.f0, .int .i64 x.f1, .int .u8 x.f2, .string x.f3, .int .i64 x.f4, .int .i64 x.f5, .int .u8 x.f6, .string x.f7], .pointer (some ⟨bq, 0, none⟩)] W fun e W' => e = .returned (.bool (p x)) ∧ Below W.heap.size W W') :
    Calls Try.prog 123 #[.slice A0 l0.length c0, .func (.func 124) #[] #[.pointer (some ⟨bq, 0, none⟩)]] w fun e w' => e = .returned (.int .i64 (idxI p l0)) ∧ Below w.heap.size w w' := by
  have hu := Try.underlying43
  have hm : l0.length ≤ 9223372036854775807 := hr0.2.1
  have HR := Aside0.mk hr0
  have HP0 := Aside0.mk hp
  clear hr0 hp
  go_enter Try.func123, Try.ntmps123
  go_wp2
  go_loopw [8] (fun v8 w' => ∃ i : Nat, v8 = .int .i64 i ∧ i ≤ l0.length ∧ Aside0 (∀ j, (hj : j < l0.length) → j < i → p l0[j] = false) ∧ Aside0 (Below w.heap.size w w')) (fun v8 _ => l0.length - (intOf v8).toNat)
  case atStart => exact ⟨0, rfl, Nat.zero_le _, ⟨fun j hj h => absurd h (Nat.not_lt_zero _)⟩, ⟨Below.refl _ _⟩⟩
  case round =>
    obtain ⟨i, rfl, hi, HP, HB⟩ := hrel
    by_cases hlt : i < l0.length
    · have h1 : 0 ≤ ((i : Nat) : Int) := by omega
      have h2 : ((i : Nat) : Int) < (l0.length : Int) := by omega
      obtain ⟨ad, e, hx0, hx1, hx2, hx3, hx4, hx5, hx6, hx7⟩ := at_T43 HR.out _ h1 h2
      cases e
      replace hx0 := (HB.out.cell (World.block_lt_of_cell? w _ hx0)).trans hx0
      replace hx1 := (HB.out.cell (World.block_lt_of_cell? w _ hx1)).trans hx1
      replace hx2 := (HB.out.cell (World.block_lt_of_cell? w _ hx2)).trans hx2
      replace hx3 := (HB.out.cell (World.block_lt_of_cell? w _ hx3)).trans hx3
      replace hx4 := (HB.out.cell (World.block_lt_of_cell? w _ hx4)).trans hx4
      replace hx5 := (HB.out.cell (World.block_lt_of_cell? w _ hx5)).trans hx5
      replace hx6 := (HB.out.cell (World.block_lt_of_cell? w _ hx6)).trans hx6
      replace hx7 := (HB.out.cell (World.block_lt_of_cell? w _ hx7)).trans hx7
      simp only [Int.toNat_natCast] at hx0 hx1 hx2 hx3 hx4 hx5 hx6 hx7
      have hrd : rd_T43 l0 (i : Int) = l0[i] := by unfold rd_T43; simp [List.getD_eq_getElem?_getD, hlt]
      rw [hrd] at hx0 hx1 hx2 hx3 hx4 hx5 hx6 hx7
      clear hrd
      cases hq : p l0[i] with
      | true =>
        have HQ := Aside0.mk hq
        clear hq
        go_wp2_with (go_at_call 124; refine (HP0.out _ l0[i] (List.getElem_mem hlt) HB.out).mono ?_; rintro e w1 ⟨rfl, hb⟩; replace HB := Aside0.mk (below_step HB.out hb); clear hb; rw [HQ.out])
        go_ret
        refine ⟨?_, HB.out⟩
        have hf : idxI p l0 = (i : Int) := idxI_at _ l0 i hlt HQ.out (fun j hj h => HP.out j hj h)
        rw [hf]
        rfl
      | false =>
        have HQ := Aside0.mk hq
        clear hq
        go_wp2_with (go_at_call 124; refine (HP0.out _ l0[i] (List.getElem_mem hlt) HB.out).mono ?_; rintro e w1 ⟨rfl, hb⟩; replace HB := Aside0.mk (below_step HB.out hb); clear hb; rw [HQ.out])
        go_roundw
        case rel => exact ⟨i + 1, by go_num, by omega, ⟨fun j hj h => by
          by_cases e : j = i
          · subst e; exact HQ.out
          · exact HP.out j hj (by omega)⟩, ⟨HB.out⟩⟩
        case measure => simp [intOf]; omega
    · go_wp2
      go_ret
      refine ⟨?_, HB.out⟩
      have hf : idxI p l0 = -1 := idxI_none _ l0 (fun j hj => HP.out j hj (by omega))
      rw [hf]
      rfl

/-- arena.place: function 64 (by hand: it makes a closure). -/
def arena_place.f (a0_0 : Int) (a0_1 : Int) (l0_2 : List (S34)) (l0_3 : List (S43)) (l0_4 : List (S129)) (l0_5 : List (S132)) (a1 : Int) : Option (Int) := if l0_3.length ≤ 1000000000 then some (idxI (fun x : S43 => x.f0 == a1) l0_3) else none
theorem blk_new2 (w : World) (o o' : Obj) : ((w.alloc o).alloc o').heap[w.heap.size + 1]? = some o' := by
  have := blk_new (w.alloc o) o'
  rwa [World.size_alloc] at this
set_option maxHeartbeats 2000000 in
set_option maxRecDepth 100000 in
theorem arena_place.calls (a0_0 : Int) (a0_1 : Int) (A0_2 : Option Addr) (c0_2 : Nat) (l0_2 : List (S34)) (A0_3 : Option Addr) (c0_3 : Nat) (l0_3 : List (S43)) (A0_4 : Option Addr) (c0_4 : Nat) (l0_4 : List (S129)) (A0_5 : Option Addr) (c0_5 : Nat) (l0_5 : List (S132)) (a1 : Int) (r : Int) (w : World) (hr0_2 : Kd.C k34 w A0_2 l0_2.length l0_2) (hc0_2 : l0_2.length ≤ c0_2) (hr0_3 : Kd.C k43 w A0_3 l0_3.length l0_3) (hc0_3 : l0_3.length ≤ c0_3) (hr0_4 : Kd.C k129 w A0_4 l0_4.length l0_4) (hc0_4 : l0_4.length ≤ c0_4) (hr0_5 : Kd.C k132 w A0_5 l0_5.length l0_5) (hc0_5 : l0_5.length ≤ c0_5) (h : arena_place.f a0_0 a0_1 l0_2 l0_3 l0_4 l0_5 a1 = some r) :
    Calls Try.prog 64 #[.agg #[.int .i64 a0_0, .int .i64 a0_1, .slice A0_2 l0_2.length c0_2, .slice A0_3 l0_3.length c0_3, .slice A0_4 l0_4.length c0_4, .slice A0_5 l0_5.length c0_5], .int .i64 a1] w fun e w' => e = .returned (.int .i64 r) ∧ Below w.heap.size w w' := by
  unfold arena_place.f at h
  by_cases hl : l0_3.length ≤ 1000000000
  case neg => rw [if_neg hl] at h; cases h
  rw [if_pos hl] at h
  obtain rfl := Option.some.inj h
  have hu := Try.underlying27
  have HR := Aside0.mk hr0_3
  clear hr0_2 hr0_3 hr0_4 hr0_5 h
  go_enter Try.func64, Try.ntmps64
  go_wp2_with (go_at_call 123; refine (index_123_124 A0_3 c0_3 l0_3 (w.heap.size + 1) (fun x => x.f0 == a1) _ (Kd.C_alloc (Kd.C_alloc HR.out _) _) hc0_3 hl (fun W x _ hb => clo124 x a1 _ W (blk_below (blk_new2 w _ _) hb))).mono ?_; rintro e w1 ⟨rfl, hb⟩)
  go_ret
  exact ⟨rfl, below_step (below_alloc (below_alloc (Below.refl _ _) _) _) hb⟩
end Go.Proofs.Ythonmfcollafkaa.P
