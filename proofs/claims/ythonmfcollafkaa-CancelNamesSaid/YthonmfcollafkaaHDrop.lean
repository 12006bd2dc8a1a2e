import Derived.Test.YthonmfcollafkaaHDel
import Derived.Test.YthonmfcollafkaaHClone
import Derived.Test.YthonmfcollafkaaHWo
import Derived.Test.YthonmfcollafkaaH182
/- vars.Drop. -/
namespace Go.Proofs.Ythonmfcollafkaa.P
open Go.RowKit Go.Proofs.YthonmfcollafkaaW.PrintWords Go.Proofs.YthonmfcollafkaaW.PrintLast Go.Proofs.YthonmfcollafkaaW.PrintMore
open Go.Maps
set_option linter.unusedVariables false
set_option linter.unusedSimpArgs false
theorem drop_facts {w w1 : World} {o0 o1 o2 : Obj} {v : Value} {xs : List S129} (ho : Kd.R k129 129 w1 (((w.alloc o0).alloc o1).alloc o2).heap.size (fun _ => True) v xs) (hb : Below (((w.alloc o0).alloc o1).alloc o2).heap.size (((w.alloc o0).alloc o1).alloc o2) w1) :
    Aside0 (Kd.R k129 129 w1 (w.heap.size + 3) (fun _ => True) v xs) ∧ Aside0 (w1.heap[w.heap.size + 1]? = some o1) ∧ Aside0 (w.heap.size + 3 ≤ w1.heap.size ∧ Below w.heap.size w w1) ∧ Aside0 (w1.heap[w.heap.size]? = some o0) ∧ Aside0 (w1.heap[w.heap.size + 2]? = some o2) := by
  have hs : (((w.alloc o0).alloc o1).alloc o2).heap.size = w.heap.size + 3 := by simp [World.size_alloc]
  have hB := below_alloc (below_alloc (below_alloc (Below.refl w.heap.size w) o0) o1) o2
  have h2 := blk_new ((w.alloc o0).alloc o1) o2
  have h1 := blk_alloc (blk_new2 w o0 o1) o2
  have h0 := blk_alloc (blk_alloc (blk_new w o0) o1) o2
  have e2 : ((w.alloc o0).alloc o1).heap.size = w.heap.size + 2 := by simp [World.size_alloc]
  rw [e2] at h2
  have hsz := hb.size
  rw [hs] at ho hsz
  exact ⟨⟨ho⟩, ⟨blk_below h1 hb⟩, ⟨hsz, below_step hB hb⟩, ⟨blk_below h0 hb⟩, ⟨blk_below h2 hb⟩⟩
set_option maxHeartbeats 2000000 in
set_option maxRecDepth 100000 in
theorem drop_calls (a0 a1 : Int) (A2 : Option Addr) (n2 c2 : Nat) (A3 : Option Addr) (n3 c3 : Nat) (A4 : Option Addr) (n4 c4 : Nat) (A5 : Option Addr) (c5 : Nat) (l5 : List S129) (A6 : Option Addr) (c6 : Nat) (l6 : List Int) (w : World) (hr : Kd.C k129 w A5 l5.length l5) (hc : l5.length ≤ c5) (hl : l5.length ≤ 1000000000) (hm : Kd.C (Kd.int .i64) w A6 l6.length l6) (hm2 : l6.length ≤ c6) (hm3 : l6.length ≤ 1000000000) :
    Calls Try.prog 142 #[.agg #[.int .i64 a0, .int .i64 a1, .slice A2 n2 c2, .slice A3 n3 c3, .slice A5 l5.length c5, .slice A4 n4 c4], .slice A6 l6.length c6] w fun e w' => ∃ v', e = .returned (.agg #[.int .i64 a0, .int .i64 a1, .slice A2 n2 c2, .slice A3 n3 c3, v', .slice A4 n4 c4]) ∧ Kd.R k129 129 w' w.heap.size (fun _ => True) v' (l5.filter fun x => !decide (0 ≤ idxI (fun y => y == x.f0) l6)) ∧ Below w.heap.size w w' := by
  have hu := Try.underlying27
  have HR := Aside0.mk hr
  have HM := Aside0.mk hm
  have HC := Aside0.mk (show slices_Clone_Cell.f l5 = some l5 by unfold slices_Clone_Cell.f; rw [if_pos hl])
  clear hr hm
  go_enter Try.func142, Try.ntmps142
  go_wp2_with (first | (go_at_call 165; refine (slices_Clone_Cell.calls A5 c5 l5 l5 _ (Kd.C_alloc (Kd.C_alloc (Kd.C_alloc HR.out _) _) _) hc HC.out).mono ?_; rintro e w1 ⟨v1, rfl, ho, hb⟩; obtain ⟨HO, HQ, HB1, H0, H4⟩ := drop_facts ho hb) | (go_at_call 164; refine (del_164_166 v1 l5 (w.heap.size + 1) (fun x => decide (0 ≤ idxI (fun y => y == x.f0) l6)) (w.heap.size + 3) w1 HO.out hl HB1.out.1 (fun W x hxm hL => clo166 x A6 c6 l6 _ W (left_blk HO.out HQ.out (by omega) hL) (Kd.C_below HM.out ((HB1.out.2).trans (hL.to (by have := HB1.out.1; omega) (fun b hb => by have := Kd.R_base HO.out b hb; omega)))) hm2 hm3)).mono ?_; rintro e w2 ⟨v2, rfl, ho2, hL2⟩; have k0 := left_blk HO.out H0.out (by omega) hL2; have k4 := left_blk HO.out H4.out (by omega) hL2; have HO2 := Aside0.mk ho2; have HL2 := Aside0.mk hL2; clear ho2 hL2; obtain ⟨A9, c9, rfl⟩ := Kd.R_slice HO2.out; have i0 := blk_cell k0 0; have i1 := blk_cell k0 1; have i2 := blk_cell k0 2; have i3 := blk_cell k0 3; have i4 := blk_cell k0 4; have i5 := blk_cell k0 5; have j0 := blk_cell k4 0; have j1 := blk_cell k4 1; have j2 := blk_cell k4 2; have j3 := blk_cell k4 3; have j4 := blk_cell k4 4; have j5 := blk_cell k4 5; have f5 := blk_frozen k0 4; have f0 := blk_frozen k4 0; have f1 := blk_frozen k4 1; have f2 := blk_frozen k4 2; have f3 := blk_frozen k4 3; have f4 := blk_frozen k4 4; have f6 := blk_frozen k4 5; simp only [List.getElem?_toArray, List.getElem?_cons_zero, List.getElem?_cons_succ] at i0 i1 i2 i3 i4 i5 j0 j1 j2 j3 j4 j5))
  refine bodyPost_ret (results_cell_row rfl _ _ (w.heap.size + 1 + 1) 27 #[.int .i64 a0, .int .i64 a1, .slice A2 n2 c2, .slice A3 n3 c3, .slice A9 (List.filter (fun x => !decide (0 ≤ idxI (fun y => y == x.f0) l6)) l5).length c9, .slice A4 n4 c4] (0, 0) _ rfl (by refine blk_put (cs := #[.int .i64 a0, .int .i64 a1, .slice A2 n2 c2, .slice A3 n3 c3, .slice A9 (List.filter (fun x => !decide (0 ≤ idxI (fun y => y == x.f0) l6)) l5).length c9, .slice none 0 0]) ?_ 5 _ rfl; refine blk_put (cs := #[.int .i64 a0, .int .i64 a1, .slice A2 n2 c2, .slice A3 n3 c3, .slice none 0 0, .slice none 0 0]) ?_ 4 _ rfl; refine blk_put (cs := #[.int .i64 a0, .int .i64 a1, .slice A2 n2 c2, .slice none 0 0, .slice none 0 0, .slice none 0 0]) ?_ 3 _ rfl; refine blk_put (cs := #[.int .i64 a0, .int .i64 a1, .slice none 0 0, .slice none 0 0, .slice none 0 0, .slice none 0 0]) ?_ 2 _ rfl; refine blk_put (cs := #[.int .i64 a0, .int .i64 0, .slice none 0 0, .slice none 0 0, .slice none 0 0, .slice none 0 0]) ?_ 1 _ rfl; refine blk_put (cs := #[.int .i64 0, .int .i64 0, .slice none 0 0, .slice none 0 0, .slice none 0 0, .slice none 0 0]) ?_ 0 _ rfl; refine blk_far ?_ (by show w.heap.size + 1 + 1 ≠ w.heap.size; omega) _; exact k4) Try.underlying27 rfl (by kernel_rfl)) rfl ?_
  exact ⟨_, rfl, Kd.R_mono (Kd.R_lower (Kd.R_far (Kd.R_far (Kd.R_far (Kd.R_far (Kd.R_far (Kd.R_far (Kd.R_far (Kd.R_bound HO2.out) (fun k hk => by have := hk.2.1; simp; omega) _) (fun k hk => by have := hk.2.1; simp; omega) _) (fun k hk => by have := hk.2.1; simp; omega) _) (fun k hk => by have := hk.2.1; simp; omega) _) (fun k hk => by have := hk.2.1; simp; omega) _) (fun k hk => by have := hk.2.1; simp; omega) _) (fun k hk => by have := hk.2.1; simp; omega) _) (by omega)) (fun _ _ => trivial), (below_set (below_set (below_set (below_set (below_set (below_set (below_set ((HB1.out.2).trans (HL2.out.to (by have := HB1.out.1; omega) (fun b hb => by have := Kd.R_base HO.out b hb; omega))) (by omega)) (by omega)) (by omega)) (by omega)) (by omega)) (by omega)) (by omega))⟩
end Go.Proofs.Ythonmfcollafkaa.P
