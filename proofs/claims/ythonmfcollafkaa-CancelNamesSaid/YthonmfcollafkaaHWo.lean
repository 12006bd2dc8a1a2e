import Derived.Test.YthonmfcollafkaaHDel
import Derived.Test.YthonmfcollafkaaHClone
import Derived.Test.YthonmfcollafkaaHMap
/- cancel.unwatched. -/
namespace Go.Proofs.Ythonmfcollafkaa.P
open Go.RowKit Go.Proofs.YthonmfcollafkaaW.PrintWords Go.Proofs.YthonmfcollafkaaW.PrintLast Go.Proofs.YthonmfcollafkaaW.PrintMore
open Go.Maps
set_option linter.unusedVariables false
set_option linter.unusedSimpArgs false
theorem grown_below {w W : World} (h : Below w.heap.size w W) : w.grownBy W none := ⟨h.os, h.tape, h.output, h.size, fun k hk _ => h.block k hk⟩
theorem left_grown {v : Value} {w W : World} (h : Left v w W) : w.grownBy W v.ownBlock := ⟨h.os, h.tape, h.output, h.size, fun k hk hne => h.block k hk hne⟩
theorem left_blk {α : Type} {d : Kd α} {e : Nat} {w W : World} {base g : Nat} {v : Value} {xs : List α} {o : Obj} (hr : d.R e w base (fun _ => True) v xs) (hq : w.heap[g]? = some o) (hg : g < base) (hL : Left v w W) : W.heap[g]? = some o := by
  rw [hL.block g (blk_lt hq) (fun h => absurd (Kd.R_base hr g h.symm) (by omega))]; exact hq
theorem left_map {α : Type} {d : Kd α} {e : Nat} {w W : World} {mb n m0 : Nat} {v : Value} {xs : List α} {D : DataW Unit} (hr : d.R e w (m0 + 3) (fun _ => True) v xs) (hm : w.ownsMap Try.prog 3 (plainElem Try.prog 3) mb n D) (hg : mb < m0) (hL : Left v w W) : W.ownsMap Try.prog 3 (plainElem Try.prog 3) mb n D :=
  hm.kept (left_grown hL) (fun h => absurd (Kd.R_base hr mb h.symm) (by omega))
theorem unw_facts {w w1 : World} {o0 o1 o2 : Obj} {mb n : Nat} {D : DataW Unit} {v : Value} {xs : List S132} (hm : w.ownsMap Try.prog 3 (plainElem Try.prog 3) mb n D) (ho : Kd.R k132 132 w1 (((w.alloc o0).alloc o1).alloc o2).heap.size (fun _ => True) v xs) (hb : Below (((w.alloc o0).alloc o1).alloc o2).heap.size (((w.alloc o0).alloc o1).alloc o2) w1) :
    Aside0 (Kd.R k132 132 w1 (w.heap.size + 3) (fun _ => True) v xs) ∧ Aside0 (w1.heap[w.heap.size + 1]? = some o1) ∧ Aside0 (w1.ownsMap Try.prog 3 (plainElem Try.prog 3) mb n D) ∧ Aside0 (w.heap.size + 3 ≤ w1.heap.size ∧ Below w.heap.size w w1) ∧ Aside0 (w1.heap[w.heap.size]? = some o0) ∧ Aside0 (w1.heap[w.heap.size + 2]? = some o2) := by
  have hs : (((w.alloc o0).alloc o1).alloc o2).heap.size = w.heap.size + 3 := by simp [World.size_alloc]
  have hB := below_alloc (below_alloc (below_alloc (Below.refl w.heap.size w) o0) o1) o2
  have h2 := blk_new ((w.alloc o0).alloc o1) o2
  have h1 := blk_alloc (blk_new2 w o0 o1) o2
  have h0 := blk_alloc (blk_alloc (blk_new w o0) o1) o2
  have e2 : ((w.alloc o0).alloc o1).heap.size = w.heap.size + 2 := by simp [World.size_alloc]
  rw [e2] at h2
  have hsz := hb.size
  rw [hs] at ho hsz
  exact ⟨⟨ho⟩, ⟨blk_below h1 hb⟩, ⟨((hm.alloc o0).alloc o1 |>.alloc o2).kept (grown_below hb) (by simp)⟩, ⟨hsz, below_step hB hb⟩, ⟨blk_below h0 hb⟩, ⟨blk_below h2 hb⟩⟩
set_option maxHeartbeats 2000000 in
set_option maxRecDepth 100000 in
theorem unwatched_calls (a0 a1 : Int) (A2 : Option Addr) (n2 c2 : Nat) (A3 : Option Addr) (n3 c3 : Nat) (A4 : Option Addr) (n4 c4 : Nat) (A5 : Option Addr) (c5 : Nat) (l5 : List S132) (D : DataW Unit) (mb n : Nat) (w : World) (hr : Kd.C k132 w A5 l5.length l5) (hc : l5.length ≤ c5) (hl : l5.length ≤ 1000000000) (hm : w.ownsMap Try.prog 3 (plainElem Try.prog 3) mb n D) (hmb : mb < w.heap.size) (hx : ∀ x ∈ l5, (Lit.int .i64 x.f1).wf = true) :
    Calls Try.prog 111 #[.agg #[.int .i64 a0, .int .i64 a1, .slice A2 n2 c2, .slice A3 n3 c3, .slice A4 n4 c4, .slice A5 l5.length c5], .map (some mb)] w fun e w' => ∃ v', e = .returned (.agg #[.int .i64 a0, .int .i64 a1, .slice A2 n2 c2, .slice A3 n3 c3, .slice A4 n4 c4, v']) ∧ Kd.R k132 132 w' w.heap.size (fun _ => True) v' (l5.filter fun x => !decide (0 < cntOf D x.f1)) ∧ Below w.heap.size w w' := by
  have hu := Try.underlying27
  have HR := Aside0.mk hr
  have HM := Aside0.mk hm
  have HX := Aside0.mk hx
  have HC := Aside0.mk (show slices_Clone_Watch.f l5 = some l5 by unfold slices_Clone_Watch.f; rw [if_pos hl])
  clear hr hm hx
  go_enter Try.func111, Try.ntmps111
  go_wp2_with (first | (go_at_call 150; refine (slices_Clone_Watch.calls A5 c5 l5 l5 _ (Kd.C_alloc (Kd.C_alloc (Kd.C_alloc HR.out _) _) _) hc HC.out).mono ?_; rintro e w1 ⟨v1, rfl, ho, hb⟩; obtain ⟨HO, HQ, HM1, HB1, H0, H4⟩ := unw_facts HM.out ho hb) | (go_at_call 149; refine (del_149_151 v1 l5 (w.heap.size + 1) (fun x => decide (0 < cntOf D x.f1)) (w.heap.size + 3) w1 HO.out hl HB1.out.1 (fun W x hxm hL => clo151 x D _ mb n W (left_blk HO.out HQ.out (by omega) hL) (left_map HO.out HM1.out hmb hL) (HX.out x hxm))).mono ?_; rintro e w2 ⟨v2, rfl, ho2, hL2⟩; have k0 := left_blk HO.out H0.out (by omega) hL2; have k4 := left_blk HO.out H4.out (by omega) hL2; have HO2 := Aside0.mk ho2; have HL2 := Aside0.mk hL2; clear ho2 hL2; obtain ⟨A9, c9, rfl⟩ := Kd.R_slice HO2.out; have i0 := blk_cell k0 0; have i1 := blk_cell k0 1; have i2 := blk_cell k0 2; have i3 := blk_cell k0 3; have i4 := blk_cell k0 4; have i5 := blk_cell k0 5; have j0 := blk_cell k4 0; have j1 := blk_cell k4 1; have j2 := blk_cell k4 2; have j3 := blk_cell k4 3; have j4 := blk_cell k4 4; have j5 := blk_cell k4 5; have f5 := blk_frozen k0 5; have f0 := blk_frozen k4 0; have f1 := blk_frozen k4 1; have f2 := blk_frozen k4 2; have f3 := blk_frozen k4 3; have f4 := blk_frozen k4 4; have f6 := blk_frozen k4 5; simp only [List.getElem?_toArray, List.getElem?_cons_zero, List.getElem?_cons_succ] at i0 i1 i2 i3 i4 i5 j0 j1 j2 j3 j4 j5))
  refine bodyPost_ret (results_cell_row rfl _ _ (w.heap.size + 1 + 1) 27 #[.int .i64 a0, .int .i64 a1, .slice A2 n2 c2, .slice A3 n3 c3, .slice A4 n4 c4, .slice A9 (List.filter (fun x => !decide (0 < cntOf D x.f1)) l5).length c9] (0, 0) _ rfl (by refine blk_put (cs := #[.int .i64 a0, .int .i64 a1, .slice A2 n2 c2, .slice A3 n3 c3, .slice A4 n4 c4, .slice none 0 0]) ?_ 5 _ rfl; refine blk_put (cs := #[.int .i64 a0, .int .i64 a1, .slice A2 n2 c2, .slice A3 n3 c3, .slice none 0 0, .slice none 0 0]) ?_ 4 _ rfl; refine blk_put (cs := #[.int .i64 a0, .int .i64 a1, .slice A2 n2 c2, .slice none 0 0, .slice none 0 0, .slice none 0 0]) ?_ 3 _ rfl; refine blk_put (cs := #[.int .i64 a0, .int .i64 a1, .slice none 0 0, .slice none 0 0, .slice none 0 0, .slice none 0 0]) ?_ 2 _ rfl; refine blk_put (cs := #[.int .i64 a0, .int .i64 0, .slice none 0 0, .slice none 0 0, .slice none 0 0, .slice none 0 0]) ?_ 1 _ rfl; refine blk_put (cs := #[.int .i64 0, .int .i64 0, .slice none 0 0, .slice none 0 0, .slice none 0 0, .slice none 0 0]) ?_ 0 _ rfl; refine blk_far ?_ (by show w.heap.size + 1 + 1 ≠ w.heap.size; omega) _; exact k4) Try.underlying27 rfl (by kernel_rfl)) rfl ?_
  exact ⟨_, rfl, Kd.R_mono (Kd.R_lower (Kd.R_far (Kd.R_far (Kd.R_far (Kd.R_far (Kd.R_far (Kd.R_far (Kd.R_far (Kd.R_bound HO2.out) (fun k hk => by have := hk.2.1; simp; omega) _) (fun k hk => by have := hk.2.1; simp; omega) _) (fun k hk => by have := hk.2.1; simp; omega) _) (fun k hk => by have := hk.2.1; simp; omega) _) (fun k hk => by have := hk.2.1; simp; omega) _) (fun k hk => by have := hk.2.1; simp; omega) _) (fun k hk => by have := hk.2.1; simp; omega) _) (by omega)) (fun _ _ => trivial), (below_set (below_set (below_set (below_set (below_set (below_set (below_set ((HB1.out.2).trans (HL2.out.to (by have := HB1.out.1; omega) (fun b hb => by have := Kd.R_base HO.out b hb; omega))) (by omega)) (by omega)) (by omega)) (by omega)) (by omega)) (by omega)) (by omega))⟩
end Go.Proofs.Ythonmfcollafkaa.P
