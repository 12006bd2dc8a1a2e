import Derived.Test.YthonmfcollafkaaKCancelRow1
import Derived.Test.YthonmfcollafkaaKCancelRow0
import Derived.Deep.RegionHeld3
import Derived.Test.YthonmfcollafkaaWWords
import Derived.Test.YthonmfcollafkaaWKept
import Derived.ProofKit
/- cancel.Clear, cancel.Break. -/
namespace Go.Proofs.Ythonmfcollafkaa.P
open Go.RowKit Go.Proofs.YthonmfcollafkaaW.PrintWords Go.Proofs.YthonmfcollafkaaW.PrintLast Go.Proofs.YthonmfcollafkaaW.PrintMore
open Go.Maps
set_option linter.unusedVariables false
set_option linter.unusedSimpArgs false
theorem three_facts (w : World) (o0 o1 o2 : Obj) : (((w.alloc o0).alloc o1).alloc o2).heap[w.heap.size]? = some o0 ∧ (((w.alloc o0).alloc o1).alloc o2).heap[w.heap.size + 1]? = some o1 ∧ (((w.alloc o0).alloc o1).alloc o2).heap[w.heap.size + 2]? = some o2 ∧ Below w.heap.size w (((w.alloc o0).alloc o1).alloc o2) := by
  have h2 := blk_new ((w.alloc o0).alloc o1) o2
  have h1 := blk_alloc (blk_new (w.alloc o0) o1) o2
  have h0 := blk_alloc (blk_alloc (blk_new w o0) o1) o2
  simp only [World.size_alloc] at h1 h2
  exact ⟨h0, h1, h2, below_alloc (below_alloc (below_alloc (Below.refl _ _) _) _) _⟩
theorem below_ids {its : List S43} {id : Int} {x0 : S43} {l : List Int} (hf : findI its id = some x0) (hm : ∀ x, x ∈ l ↔ Desc its id x ∧ x ≠ id) : ∀ x, x ∈ l ↔ Below' its id x := by
  intro x
  have ht : There its id := by rw [findI_there, hf]; rfl
  rw [hm]
  exact ⟨fun h => ⟨ht, h.1, h.2⟩, fun h => ⟨h.2.1, h.2.2⟩⟩
theorem clear_not (s : Stt) (a : Int) (h : ¬ There s.items a) : clearS s a = s := cut_none _ _ _ (fun _ k => h k.1) (fun _ k => h k.1)
set_option maxHeartbeats 4000000 in
set_option maxRecDepth 100000 in
theorem clear_there {w : World} {s : Stt} {A2 A3 A4 A5 : Option Addr} {c2 c3 c4 c5 : Nat} (h2 : Kd.C k34 w A2 s.defs.length s.defs) (k2 : s.defs.length ≤ c2) (h3 : Kd.C k43 w A3 s.items.length s.items) (k3 : s.items.length ≤ c3) (h4 : Kd.C k129 w A4 s.cells.length s.cells) (k4 : s.cells.length ≤ c4) (h5 : Kd.C k132 w A5 s.wats.length s.wats) (k5 : s.wats.length ≤ c5) (hF : Fit s) (id : Int) (hid : (Lit.int .i64 id).wf = true) (x : S43) (hfi : findI s.items id = some x) :
    Calls Try.prog 54 #[.agg #[.int .i64 s.clk, .int .i64 s.nxt, .slice A2 s.defs.length c2, .slice A3 s.items.length c3, .slice A4 s.cells.length c4, .slice A5 s.wats.length c5], .int .i64 id] w fun e w' => ∃ v3 v4 v5, e = .returned (.agg #[.int .i64 s.clk, .int .i64 s.nxt, .slice A2 s.defs.length c2, v3, v4, v5]) ∧ Kd.R k43 43 w' w.heap.size (fun _ => True) v3 (clearS s id).items ∧ Kd.R k129 129 w' w.heap.size (fun _ => True) v4 (clearS s id).cells ∧ Kd.R k132 132 w' w.heap.size (fun _ => True) v5 (clearS s id).wats ∧ Below w.heap.size w w' := by
  have hu := Try.underlying27
  have HS := Aside0.mk (show St w (.agg #[.int .i64 s.clk, .int .i64 s.nxt, .slice A2 s.defs.length c2, .slice A3 s.items.length c3, .slice A4 s.cells.length c4, .slice A5 s.wats.length c5]) s from ⟨A2, c2, A3, c3, A4, c4, A5, c5, rfl, h2, k2, h3, k3, h4, k4, h5, k5⟩)
  have H2 := Aside0.mk h2; have H3 := Aside0.mk h3; have H4 := Aside0.mk h4; have H5 := Aside0.mk h5
  clear h2 h3 h4 h5
  obtain ⟨k0, k1, kr, kb⟩ := three_facts w (.cells #[.int .i64 s.clk, .int .i64 s.nxt, .slice A2 s.defs.length c2, .slice A3 s.items.length c3, .slice A4 s.cells.length c4, .slice A5 s.wats.length c5] 27 (0, 0)) (.cells #[.int .i64 id] 3 (0, 0)) (.cells #[.int .i64 0, .int .i64 0, .slice none 0 0, .slice none 0 0, .slice none 0 0, .slice none 0 0] 27 (0, 0))
  have L0 := Aside0.mk k0; have L1 := Aside0.mk k1; have LR := Aside0.mk kr; have LB := Aside0.mk kb
  clear k0 k1 kr kb
  have HN := Aside0.mk hfi
  clear hfi
  go_enter Try.func54, Try.ntmps54
  go_wp2_with (go_at_call 16; refine (find_calls (HS.out.below LB.out) hF id).mono ?_; rintro e w1 ⟨rfl, hb⟩; rw [HN.out]; have K0 := Aside0.mk (blk_below L0.out hb); have K1 := Aside0.mk (blk_below L1.out hb); have KR := Aside0.mk (blk_below LR.out hb); have HB := Aside0.mk (below_step LB.out hb); clear hb; have hl0 := blk_lt K0.out; have hl1 := blk_lt K1.out; have hlr := blk_lt KR.out; have i0 := blk_cell K0.out 0; have i1 := blk_cell K0.out 1; have i2 := blk_cell K0.out 2; have i3 := blk_cell K0.out 3; have i4 := blk_cell K0.out 4; have i5 := blk_cell K0.out 5; simp only [List.getElem?_toArray, List.getElem?_cons_zero, List.getElem?_cons_succ] at i0 i1 i2 i3 i4 i5; have j0 := blk_cell KR.out 0; have f0 := blk_frozen KR.out 0; have j1 := blk_cell KR.out 1; have f1 := blk_frozen KR.out 1; have j2 := blk_cell KR.out 2; have f2 := blk_frozen KR.out 2; have j3 := blk_cell KR.out 3; have f3 := blk_frozen KR.out 3; have j4 := blk_cell KR.out 4; have f4 := blk_frozen KR.out 4; have j5 := blk_cell KR.out 5; have f5 := blk_frozen KR.out 5; simp only [List.getElem?_toArray, List.getElem?_cons_zero, List.getElem?_cons_succ] at j0 j1 j2 j3 j4 j5; have iq := cell_old K1.out; unfold agg43; simp only [Option.getD_some, Option.isSome_some])
  generalize hX : w1.alloc _ = X
  have X0 := Aside0.mk (show X.heap[w.heap.size]? = some (.cells #[.int .i64 s.clk, .int .i64 s.nxt, .slice A2 s.defs.length c2, .slice A3 s.items.length c3, .slice A4 s.cells.length c4, .slice A5 s.wats.length c5] 27 (0, 0)) by rw [← hX]; exact blk_alloc K0.out _)
  have X1 := Aside0.mk (show X.heap[w.heap.size + 1]? = some (.cells #[.int .i64 id] 3 (0, 0)) by rw [← hX]; exact blk_alloc K1.out _)
  have XR := Aside0.mk (show X.heap[w.heap.size + 2]? = some (.cells #[.int .i64 0, .int .i64 0, .slice none 0 0, .slice none 0 0, .slice none 0 0, .slice none 0 0] 27 (0, 0)) by rw [← hX]; exact blk_alloc KR.out _)
  have XB := Aside0.mk (show Below w.heap.size w X by rw [← hX]; exact below_alloc HB.out _)
  clear hX L0 L1 LR LB K0 K1 KR HB hl0 hl1 hlr i0 i1 i2 i3 i4 i5 iq j0 j1 j2 j3 j4 j5 f0 f1 f2 f3 f4 f5
  have i0 := blk_cell X0.out 0; have i1 := blk_cell X0.out 1; have i2 := blk_cell X0.out 2; have i3 := blk_cell X0.out 3; have i4 := blk_cell X0.out 4; have i5 := blk_cell X0.out 5; simp only [List.getElem?_toArray, List.getElem?_cons_zero, List.getElem?_cons_succ] at i0 i1 i2 i3 i4 i5
  have iq := cell_old X1.out
  have hd1 : ¬ (w.heap.size = w.heap.size + 1 + 1) := by omega
  have hd2 : ¬ (w.heap.size + 1 + 1 = w.heap.size) := by omega
  go_region_held3 (fun w' => w'.cell? ⟨w.heap.size, 0, none⟩ = some (.int .i64 s.clk) ∧ w'.cell? ⟨w.heap.size, 1, none⟩ = some (.int .i64 s.nxt) ∧ w'.cell? ⟨w.heap.size, 2, none⟩ = some (.slice A2 s.defs.length c2) ∧ w'.cell? ⟨w.heap.size, 3, none⟩ = some (.slice A3 s.items.length c3) ∧ w'.cell? ⟨w.heap.size, 4, none⟩ = some (.slice A4 s.cells.length c4) ∧ w'.cell? ⟨w.heap.size, 5, none⟩ = some (.slice A5 s.wats.length c5) ∧ w'.cell? ⟨w.heap.size + 1, 0, none⟩ = some (.int .i64 id)) (go_keep) (first | (go_at_call 48; refine Calls.mono (below_calls (s := s) (HS.out.below (below_drew XB.out)) hF id hid) ?_; rintro e w2 ⟨vB, l, rfl, hol, hml, hll, hbl⟩; have HBL := Aside0.mk (below_step (below_drew (Below.refl X.heap.size X)) hbl); have Y0 := Aside0.mk (blk_below X0.out HBL.out); have Y1 := Aside0.mk (blk_below X1.out HBL.out); have YR := Aside0.mk (blk_below XR.out HBL.out); have YB := Aside0.mk (below_then XB.out XB.out.size HBL.out); have HOL := Aside0.mk hol; have HWF : Aside0 (∀ x ∈ l, (Lit.int .i64 x).wf = true) := ⟨fun x hx => desc_wf hF ((hml x).1 hx).1⟩; have HNE : Aside0 (∀ x ∈ l, x ≠ id) := ⟨fun x hx => ((hml x).1 hx).2⟩; have HML := Aside0.mk (below_ids HN.out hml); clear hol hml hbl; obtain ⟨AB, cB, rfl, hcB, hCB⟩ := Kd.R_reads HOL.out; have HCB := Aside0.mk hCB; clear hCB; have m0 := blk_cell Y0.out 0; have m1 := blk_cell Y0.out 1; have m2 := blk_cell Y0.out 2; have m3 := blk_cell Y0.out 3; have m4 := blk_cell Y0.out 4; have m5 := blk_cell Y0.out 5; simp only [List.getElem?_toArray, List.getElem?_cons_zero, List.getElem?_cons_succ] at m0 m1 m2 m3 m4 m5; have mq := cell_old Y1.out) | (go_at_call 109; refine (del_109_none AB cB l (w.heap.size + 1) id w2 HCB.out hcB (by omega) Y1.out HNE.out).mono ?_; rintro e w3 ⟨rfl, hb3⟩; have Z0 := Aside0.mk (blk_below Y0.out hb3); have Z1 := Aside0.mk (blk_below Y1.out hb3); have ZR := Aside0.mk (blk_below YR.out hb3); have ZB := Aside0.mk (below_then YB.out YB.out.size hb3); have ZC := Aside0.mk (Kd.C_below HCB.out hb3); clear hb3 i0 i1 i2 i3 i4 i5 iq m0 m1 m2 m3 m4 m5 mq; have n0 := blk_cell Z0.out 0; have n1 := blk_cell Z0.out 1; have n2 := blk_cell Z0.out 2; have n3 := blk_cell Z0.out 3; have n4 := blk_cell Z0.out 4; have n5 := blk_cell Z0.out 5; simp only [List.getElem?_toArray, List.getElem?_cons_zero, List.getElem?_cons_succ] at n0 n1 n2 n3 n4 n5; have nq := cell_old Z1.out) | (go_at_call 106; refine (without_n s hF A2 c2 A3 c3 A4 c4 A5 c5 AB l.length cB l w3 rfl (Kd.C_below H2.out ZB.out) k2 (Kd.C_below H3.out ZB.out) k3 (Kd.C_below H4.out ZB.out) k4 (Kd.C_below H5.out ZB.out) k5 ZC.out hcB (by omega) HWF.out (Below' s.items id) HML.out).mono ?_; rintro e w4 ⟨v3, v4, v5, rfl, ho3, ho4, ho5, hb4⟩; have HO3 := Aside0.mk ho3; have HO4 := Aside0.mk ho4; have HO5 := Aside0.mk ho5; have U0 := Aside0.mk (blk_below Z0.out hb4); have U1 := Aside0.mk (blk_below Z1.out hb4); have UR := Aside0.mk (blk_below ZR.out hb4); have UB := Aside0.mk (below_then ZB.out ZB.out.size hb4); have HZ := Aside0.mk (blk_lt ZR.out); clear ho3 ho4 ho5 hb4 n0 n1 n2 n3 n4 n5 nq; obtain ⟨A7, c7, rfl⟩ := Kd.R_slice HO3.out; obtain ⟨A8, c8, rfl⟩ := Kd.R_slice HO4.out; obtain ⟨A9, c9, rfl⟩ := Kd.R_slice HO5.out; have q0 := blk_cell U0.out 0; have q1 := blk_cell U0.out 1; have q2 := blk_cell U0.out 2; have q3 := blk_cell U0.out 3; have q4 := blk_cell U0.out 4; have q5 := blk_cell U0.out 5; simp only [List.getElem?_toArray, List.getElem?_cons_zero, List.getElem?_cons_succ] at q0 q1 q2 q3 q4 q5; have qq := cell_old U1.out; have j0 := blk_cell UR.out 0; have f0 := blk_frozen UR.out 0; have j1 := blk_cell UR.out 1; have f1 := blk_frozen UR.out 1; have j2 := blk_cell UR.out 2; have f2 := blk_frozen UR.out 2; have j3 := blk_cell UR.out 3; have f3 := blk_frozen UR.out 3; have j4 := blk_cell UR.out 4; have f4 := blk_frozen UR.out 4; have j5 := blk_cell UR.out 5; have f5 := blk_frozen UR.out 5; simp only [List.getElem?_toArray, List.getElem?_cons_zero, List.getElem?_cons_succ] at j0 j1 j2 j3 j4 j5))
  all_goals
    go_wp2
    refine bodyPost_ret (results_cell_row rfl _ _ (w.heap.size + 2) 27 _ (0, 0) _ rfl (blk_six UR.out) Try.underlying27 rfl (by kernel_rfl)) rfl ?_
    exact ⟨_, _, _, rfl, Kd.R_mono (Kd.R_lower (R_six' HO3.out HZ.out) ZB.out.size) (fun _ _ => trivial), Kd.R_mono (Kd.R_lower (R_six' HO4.out HZ.out) ZB.out.size) (fun _ _ => trivial), Kd.R_mono (Kd.R_lower (R_six' HO5.out HZ.out) ZB.out.size) (fun _ _ => trivial), below_six UB.out (by omega)⟩
set_option maxHeartbeats 4000000 in
set_option maxRecDepth 100000 in
theorem clear_calls {w : World} {v : Value} {s : Stt} (hS : St w v s) (hF : Fit s) (id : Int) (hid : (Lit.int .i64 id).wf = true) : Calls Try.prog 54 #[v, .int .i64 id] w fun e w' => ∃ v', e = .returned v' ∧ St w' v' (clearS s id) ∧ Below w.heap.size w w' := by
  have hu := Try.underlying27
  have HS := Aside0.mk hS
  obtain ⟨A2, c2, A3, c3, A4, c4, A5, c5, rfl, h2, k2, h3, k3, h4, k4, h5, k5⟩ := hS
  have H2 := Aside0.mk h2; have H3 := Aside0.mk h3; have H4 := Aside0.mk h4; have H5 := Aside0.mk h5
  clear h2 h3 h4 h5
  obtain ⟨k0, k1, kr, kb⟩ := three_facts w (.cells #[.int .i64 s.clk, .int .i64 s.nxt, .slice A2 s.defs.length c2, .slice A3 s.items.length c3, .slice A4 s.cells.length c4, .slice A5 s.wats.length c5] 27 (0, 0)) (.cells #[.int .i64 id] 3 (0, 0)) (.cells #[.int .i64 0, .int .i64 0, .slice none 0 0, .slice none 0 0, .slice none 0 0, .slice none 0 0] 27 (0, 0))
  have L0 := Aside0.mk k0; have L1 := Aside0.mk k1; have LR := Aside0.mk kr; have LB := Aside0.mk kb
  clear k0 k1 kr kb
  cases hfi : findI s.items id with
  | none =>
    have HN := Aside0.mk hfi
    clear hfi
    go_enter Try.func54, Try.ntmps54
    go_wp2_with (go_at_call 16; refine (find_calls (HS.out.below LB.out) hF id).mono ?_; rintro e w1 ⟨rfl, hb⟩; rw [HN.out]; have K0 := Aside0.mk (blk_below L0.out hb); have K1 := Aside0.mk (blk_below L1.out hb); have KR := Aside0.mk (blk_below LR.out hb); have HB := Aside0.mk (below_step LB.out hb); clear hb; have hl0 := blk_lt K0.out; have hl1 := blk_lt K1.out; have hlr := blk_lt KR.out; have i0 := blk_cell K0.out 0; have i1 := blk_cell K0.out 1; have i2 := blk_cell K0.out 2; have i3 := blk_cell K0.out 3; have i4 := blk_cell K0.out 4; have i5 := blk_cell K0.out 5; simp only [List.getElem?_toArray, List.getElem?_cons_zero, List.getElem?_cons_succ] at i0 i1 i2 i3 i4 i5; have j0 := blk_cell KR.out 0; have f0 := blk_frozen KR.out 0; have j1 := blk_cell KR.out 1; have f1 := blk_frozen KR.out 1; have j2 := blk_cell KR.out 2; have f2 := blk_frozen KR.out 2; have j3 := blk_cell KR.out 3; have f3 := blk_frozen KR.out 3; have j4 := blk_cell KR.out 4; have f4 := blk_frozen KR.out 4; have j5 := blk_cell KR.out 5; have f5 := blk_frozen KR.out 5; simp only [List.getElem?_toArray, List.getElem?_cons_zero, List.getElem?_cons_succ] at j0 j1 j2 j3 j4 j5; have iq := cell_old K1.out; unfold agg43; simp only [Option.getD_none, Option.isSome_none, z43'])
    refine bodyPost_ret (results_cell_row rfl _ _ (w.heap.size + 2) 27 _ (0, 0) _ rfl (blk_alloc (blk_six KR.out) _) Try.underlying27 rfl (by kernel_rfl)) rfl ?_
    have hnt : ¬ There s.items id := fun h => by rw [findI_there, HN.out] at h; cases h
    exact ⟨_, rfl, by rw [clear_not _ _ hnt]; exact HS.out.below (below_alloc (below_six HB.out (by omega)) _), below_alloc (below_six HB.out (by omega)) _⟩
  | some x =>
    refine (clear_there H2.out k2 H3.out k3 H4.out k4 H5.out k5 hF id hid x hfi).mono ?_
    rintro e w' ⟨v3, v4, v5, rfl, r3, r4, r5, hb⟩
    exact ⟨_, rfl, st_of (s := clearS s id) (Kd.C_below H2.out hb) k2 r3 r4 r5, hb⟩
theorem map_ne {w2 : World} {g : Nat} {o : Obj} (h : w2.heap[g]? = some o) : some g ≠ some w2.heap.size := fun e => by injection e with e; have := blk_lt h; omega
theorem map_below {w2 w3 : World} {o : Obj} (hg : (w2.alloc o).grownBy w3 (some w2.heap.size)) : Below w2.heap.size w2 w3 :=
  pw_below_grown (below_alloc (Below.refl _ _) _) _ (by simp [World.size_alloc]) hg (fun k hk => by injection hk with hk; omega)
theorem break_not (s : Stt) (a : Int) (h : ¬ There s.items a) : breakS s a = s := if_neg h
theorem break_eq {s : Stt} {id : Int} (h : There s.items id) : breakS s id = { clearS s id with wats := (clearS s id).wats.filter fun x => !decide (0 < cntOf ((.map [] : DataW Unit).put (.int .i64 id) (.lit (.int .i64 1))) x.f1) } := by
  unfold breakS
  rw [if_pos h]
  unfold cut
  simp only [Stt.mk.injEq, true_and]
  refine ⟨List.filter_eq_self.2 (fun x _ => by simp), List.filter_eq_self.2 (fun x _ => by simp), ?_⟩
  apply List.filter_congr
  intro x _
  rw [cntOf_put isMap_empty, cntOf_none]
  by_cases e : x.f1 = id <;> simp [e]
theorem break_st {w : World} {s : Stt} {id : Int} {A2 : Option Addr} {c2 b3 b4 b5 : Nat} {k3 k4 k5 : Nat → Prop} {v3 v4 v5 : Value} (ht : There s.items id) (h2 : Kd.C k34 w A2 s.defs.length s.defs) (hc2 : s.defs.length ≤ c2) (h3 : Kd.R k43 43 w b3 k3 v3 (clearS s id).items) (h4 : Kd.R k129 129 w b4 k4 v4 (clearS s id).cells) (h5 : Kd.R k132 132 w b5 k5 v5 ((clearS s id).wats.filter fun x => !decide (0 < cntOf ((.map [] : DataW Unit).put (.int .i64 id) (.lit (.int .i64 1))) x.f1))) : St w (.agg #[.int .i64 s.clk, .int .i64 s.nxt, .slice A2 s.defs.length c2, v3, v4, v5]) (breakS s id) := by
  rw [break_eq ht]
  exact st_of (s := { clearS s id with wats := _ }) h2 hc2 h3 h4 h5
set_option maxHeartbeats 4000000 in
set_option maxRecDepth 100000 in
theorem break_calls {w : World} {v : Value} {s : Stt} (hS : St w v s) (hF : Fit s) (id : Int) (hid : (Lit.int .i64 id).wf = true) : Calls Try.prog 56 #[v, .int .i64 id] w fun e w' => ∃ v', e = .returned v' ∧ St w' v' (breakS s id) ∧ Below w.heap.size w w' := by
  have hu := Try.underlying27
  have HS := Aside0.mk hS
  obtain ⟨A2, c2, A3, c3, A4, c4, A5, c5, rfl, h2, k2, h3, k3, h4, k4, h5, k5⟩ := hS
  have H2 := Aside0.mk h2; have H3 := Aside0.mk h3; have H4 := Aside0.mk h4; have H5 := Aside0.mk h5
  clear h2 h3 h4 h5
  cases hfi : findI s.items id with
  | none =>
    have HN := Aside0.mk hfi
    clear hfi
    go_enter Try.func56, Try.ntmps56
    go_wp2_with (go_at_call 16; refine (find_calls (HS.out.below (below_alloc (below_alloc (Below.refl _ _) _) _)) hF id).mono ?_; rintro e w1 ⟨rfl, hb⟩; rw [HN.out]; have k0 := blk_below (blk_alloc (blk_new w _) _) hb; have k1 := blk_below (blk_new2 w _ _) hb; have HB := Aside0.mk (below_step (below_alloc (below_alloc (Below.refl _ _) _) _) hb); clear hb; have K0 := Aside0.mk k0; have K1 := Aside0.mk k1; clear k0 k1; have hl0 := blk_lt K0.out; have hl1 := blk_lt K1.out; have i0 := blk_cell K0.out 0; have i1 := blk_cell K0.out 1; have i2 := blk_cell K0.out 2; have i3 := blk_cell K0.out 3; have i4 := blk_cell K0.out 4; have i5 := blk_cell K0.out 5; simp only [List.getElem?_toArray, List.getElem?_cons_zero, List.getElem?_cons_succ] at i0 i1 i2 i3 i4 i5; have j0 := blk_cell K1.out 0; have j1 := blk_cell K1.out 1; have j2 := blk_cell K1.out 2; have j3 := blk_cell K1.out 3; have j4 := blk_cell K1.out 4; have j5 := blk_cell K1.out 5; have f0 := blk_frozen K1.out 0; have f1 := blk_frozen K1.out 1; have f2 := blk_frozen K1.out 2; have f3 := blk_frozen K1.out 3; have f4 := blk_frozen K1.out 4; have f5 := blk_frozen K1.out 5; simp only [List.getElem?_toArray, List.getElem?_cons_zero, List.getElem?_cons_succ] at j0 j1 j2 j3 j4 j5; unfold agg43; simp only [Option.getD_none, Option.isSome_none, z43'])
    refine bodyPost_ret (results_cell_row rfl _ _ (w.heap.size + 1) 27 _ (0, 0) _ rfl (blk_alloc (blk_six K1.out) _) Try.underlying27 rfl (by kernel_rfl)) rfl ?_
    have hnt : ¬ There s.items id := fun h => by rw [findI_there, HN.out] at h; cases h
    exact ⟨_, rfl, by rw [break_not _ _ hnt]; exact HS.out.below (below_alloc (below_six HB.out (by omega)) _), below_alloc (below_six HB.out (by omega)) _⟩
  | some x =>
    have HN := Aside0.mk hfi
    clear hfi
    have hkey := keyOf_int_mk Try.underlying3 hid
    have hmm := @run_makeMap Try.prog
    have HC := Aside0.mk (hF.cut (Below' s.items id) (Below' s.items id))
    have HL5 : Aside0 ((clearS s id).wats.length ≤ 1000000000) := ⟨by have := HC.out.wats; unfold clearS; omega⟩
    go_enter Try.func56, Try.ntmps56
    go_wp2_with (first | (go_at_call 16; refine (find_calls (HS.out.below (below_alloc (below_alloc (Below.refl _ _) _) _)) hF id).mono ?_; rintro e w1 ⟨rfl, hb⟩; rw [HN.out]; have k0 := blk_below (blk_alloc (blk_new w _) _) hb; have k1 := blk_below (blk_new2 w _ _) hb; have HB := Aside0.mk (below_step (below_alloc (below_alloc (Below.refl _ _) _) _) hb); clear hb; have K0 := Aside0.mk k0; have K1 := Aside0.mk k1; clear k0 k1; have hl0 := blk_lt K0.out; have hl1 := blk_lt K1.out; have i0 := blk_cell K0.out 0; have i1 := blk_cell K0.out 1; have i2 := blk_cell K0.out 2; have i3 := blk_cell K0.out 3; have i4 := blk_cell K0.out 4; have i5 := blk_cell K0.out 5; simp only [List.getElem?_toArray, List.getElem?_cons_zero, List.getElem?_cons_succ] at i0 i1 i2 i3 i4 i5; have j0 := blk_cell K1.out 0; have j1 := blk_cell K1.out 1; have j2 := blk_cell K1.out 2; have j3 := blk_cell K1.out 3; have j4 := blk_cell K1.out 4; have j5 := blk_cell K1.out 5; have f0 := blk_frozen K1.out 0; have f1 := blk_frozen K1.out 1; have f2 := blk_frozen K1.out 2; have f3 := blk_frozen K1.out 3; have f4 := blk_frozen K1.out 4; have f5 := blk_frozen K1.out 5; simp only [List.getElem?_toArray, List.getElem?_cons_zero, List.getElem?_cons_succ] at j0 j1 j2 j3 j4 j5; unfold agg43; simp only [Option.getD_some, Option.isSome_some]) | (go_at_call 54; refine Calls.mono (clear_there (Kd.C_below H2.out (below_alloc HB.out _)) k2 (Kd.C_below H3.out (below_alloc HB.out _)) k3 (Kd.C_below H4.out (below_alloc HB.out _)) k4 (Kd.C_below H5.out (below_alloc HB.out _)) k5 hF id hid x HN.out) ?_; rintro e w2 ⟨v3, v4, v5, rfl, r3, r4, r5, hbc⟩; clear i0 i1 i2 i3 i4 i5 j0 j1 j2 j3 j4 j5 f0 f1 f2 f3 f4 f5; have Y1 := Aside0.mk (blk_below (blk_alloc K1.out _) hbc); have YB := Aside0.mk (below_step (below_alloc HB.out _) hbc); have HZ1 := Aside0.mk (blk_lt K1.out); have R3 := Aside0.mk (Kd.R_lower r3 (size_al (Nat.le_refl w1.heap.size))); have R4 := Aside0.mk (Kd.R_lower r4 (size_al (Nat.le_refl w1.heap.size))); have R5 := Aside0.mk (Kd.R_lower r5 (size_al (Nat.le_refl w1.heap.size))); clear r3 r4 r5 hbc; obtain ⟨B3, d3, rfl, e3, g3⟩ := Kd.R_reads R3.out; obtain ⟨B4, d4, rfl, e4, g4⟩ := Kd.R_reads R4.out; obtain ⟨B5, d5, rfl, e5, g5⟩ := Kd.R_reads R5.out; have G5 := Aside0.mk g5; clear g3 g4 g5) | ((with_reducible refine gate_ (Op.insert 135 (.tmp 19) (.tmp 20) (.const (.int .i64 1))) rfl ?_); refine wpList_insert_own _ rfl _ _ _ 135 rfl 3 3 keyed3 Try.underlying135 (plainElem Try.prog 3) w2.heap.size 0 (.map [] : DataW Unit) rfl (World.ownsMap_made (H := Unit) w2 Try.prog 3 (plainElem Try.prog 3)) (by unfold maxLen; omega) _ _ _ rfl rfl hkey _ [] (plainElem_int Try.underlying3 (by decide)) ?_; intro w3 hown3 hgrow3; have Z1 := Aside0.mk (blk_grown (blk_alloc Y1.out _) hgrow3 (map_ne Y1.out)); have ZG := Aside0.mk (map_below hgrow3); have HM := Aside0.mk hown3; clear hown3 hgrow3) | (go_at_call 111; refine (unwatched_calls s.clk s.nxt A2 s.defs.length c2 B3 (clearS s id).items.length d3 B4 (clearS s id).cells.length d4 B5 d5 (clearS s id).wats _ w2.heap.size 1 w3 (Kd.C_below G5.out ZG.out) e5 HL5.out HM.out HM.out.lt HC.out.on).mono ?_; rintro e w4 ⟨v5, rfl, ho5, hb4⟩; have HO5 := Aside0.mk ho5; have U1 := Aside0.mk (blk_below Z1.out hb4); have WG := Aside0.mk (below_step ZG.out hb4); have UB := Aside0.mk (below_step YB.out WG.out); have HZ := Aside0.mk (blk_lt Z1.out); clear ho5 hb4; obtain ⟨A9, c9, rfl⟩ := Kd.R_slice HO5.out; have j0 := blk_cell U1.out 0; have f0 := blk_frozen U1.out 0; have j1 := blk_cell U1.out 1; have f1 := blk_frozen U1.out 1; have j2 := blk_cell U1.out 2; have f2 := blk_frozen U1.out 2; have j3 := blk_cell U1.out 3; have f3 := blk_frozen U1.out 3; have j4 := blk_cell U1.out 4; have f4 := blk_frozen U1.out 4; have j5 := blk_cell U1.out 5; have f5 := blk_frozen U1.out 5; simp only [List.getElem?_toArray, List.getElem?_cons_zero, List.getElem?_cons_succ] at j0 j1 j2 j3 j4 j5))
    refine bodyPost_ret (results_cell_row rfl _ _ (w.heap.size + 1) 27 _ (0, 0) _ rfl (blk_six U1.out) Try.underlying27 rfl (by kernel_rfl)) rfl ?_
    have ht : There s.items id := by rw [findI_there, HN.out]; rfl
    exact ⟨_, rfl, break_st ht (Kd.C_below H2.out (below_six UB.out (by omega))) k2 (R_six' (Kd.R_below R3.out WG.out) HZ1.out) (R_six' (Kd.R_below R4.out WG.out) HZ1.out) (R_six' HO5.out HZ.out), below_six UB.out (by omega)⟩
end Go.Proofs.Ythonmfcollafkaa.P
/- callboardref18.Same of a state and itself; how large a state is. -/
namespace Go.Proofs.Ythonmfcollafkaa.P
open Go.RowKit Go.Proofs.YthonmfcollafkaaW.PrintWords Go.Proofs.YthonmfcollafkaaW.PrintLast Go.Proofs.YthonmfcollafkaaW.PrintMore
set_option linter.unusedVariables false
set_option linter.unusedSimpArgs false
section
variable (s : Stt) (h2 : s.defs.length ≤ 9223372036854775807) (h3 : s.items.length ≤ 9223372036854775807) (h4 : s.cells.length ≤ 9223372036854775807) (h5 : s.wats.length ≤ 9223372036854775807)
include h5 in
theorem s18_l3 : ∀ (d i k : Nat), d + i = s.wats.length → d < k → callboardref18_Same.l3 k (i : Int) s.clk s.nxt s.defs s.items s.cells s.wats s.clk s.nxt s.defs s.items s.cells s.wats = some true := by
  intro d
  induction d with
  | zero =>
    intro i k h hk
    obtain ⟨k, rfl⟩ : ∃ m, k = m + 1 := ⟨k - 1, by omega⟩
    rw [callboardref18_Same.l3, if_neg (by omega)]
  | succ d ih =>
    intro i k h hk
    obtain ⟨k, rfl⟩ : ∃ m, k = m + 1 := ⟨k - 1, by omega⟩
    rw [callboardref18_Same.l3, if_pos (by omega), if_pos (by omega), if_pos (by omega), wrap_len (by omega) h5, ih (i + 1) k (by omega) (by omega)]
    simp
include h4 h5 in
theorem s18_l2 : ∀ (d i k : Nat), d + i = s.cells.length → d + s.wats.length + 1 < k → callboardref18_Same.l2 k (i : Int) s.clk s.nxt s.defs s.items s.cells s.wats s.clk s.nxt s.defs s.items s.cells s.wats = some true := by
  intro d
  induction d with
  | zero =>
    intro i k h hk
    obtain ⟨k, rfl⟩ : ∃ m, k = m + 1 := ⟨k - 1, by omega⟩
    rw [callboardref18_Same.l2, if_neg (by omega)]
    exact s18_l3 s h5 s.wats.length 0 k (by omega) (by omega)
  | succ d ih =>
    intro i k h hk
    obtain ⟨k, rfl⟩ : ∃ m, k = m + 1 := ⟨k - 1, by omega⟩
    rw [callboardref18_Same.l2, if_pos (by omega), if_pos (by omega), if_pos (by omega), wrap_len (by omega) h4, ih (i + 1) k (by omega) (by omega)]
    simp
include h3 h4 h5 in
theorem s18_l1 : ∀ (d i k : Nat), d + i = s.items.length → d + s.cells.length + s.wats.length + 2 < k → callboardref18_Same.l1 k (i : Int) s.clk s.nxt s.defs s.items s.cells s.wats s.clk s.nxt s.defs s.items s.cells s.wats = some true := by
  intro d
  induction d with
  | zero =>
    intro i k h hk
    obtain ⟨k, rfl⟩ : ∃ m, k = m + 1 := ⟨k - 1, by omega⟩
    rw [callboardref18_Same.l1, if_neg (by omega)]
    exact s18_l2 s h4 h5 s.cells.length 0 k (by omega) (by omega)
  | succ d ih =>
    intro i k h hk
    obtain ⟨k, rfl⟩ : ∃ m, k = m + 1 := ⟨k - 1, by omega⟩
    rw [callboardref18_Same.l1, if_pos (by omega), if_pos (by omega), if_pos (by omega), wrap_len (by omega) h3, ih (i + 1) k (by omega) (by omega)]
    simp
include h2 h3 h4 h5 in
theorem s18_l0 : ∀ (d i k : Nat), d + i = s.defs.length → d + s.items.length + s.cells.length + s.wats.length + 3 < k → callboardref18_Same.l0 k (i : Int) s.clk s.nxt s.defs s.items s.cells s.wats s.clk s.nxt s.defs s.items s.cells s.wats = some true := by
  intro d
  induction d with
  | zero =>
    intro i k h hk
    obtain ⟨k, rfl⟩ : ∃ m, k = m + 1 := ⟨k - 1, by omega⟩
    rw [callboardref18_Same.l0, if_neg (by omega)]
    exact s18_l1 s h3 h4 h5 s.items.length 0 k (by omega) (by omega)
  | succ d ih =>
    intro i k h hk
    obtain ⟨k, rfl⟩ : ∃ m, k = m + 1 := ⟨k - 1, by omega⟩
    rw [callboardref18_Same.l0, if_pos (by omega), if_pos (by omega), if_pos (by omega), wrap_len (by omega) h2]
    unfold callboardref14_Same.f
    rw [if_pos ⟨rfl, rfl, rfl, rfl⟩, Option.bind_some, if_pos rfl, ih (i + 1) k (by omega) (by omega)]
include h2 h3 h4 h5 in
theorem s18_f : ∃ k, callboardref18_Same.f k s.clk s.nxt s.defs s.items s.cells s.wats s.clk s.nxt s.defs s.items s.cells s.wats = some true := by
  refine ⟨s.defs.length + s.items.length + s.cells.length + s.wats.length + 10, ?_⟩
  unfold callboardref18_Same.f
  rw [if_pos rfl, if_pos rfl, if_pos rfl, if_pos rfl, if_pos rfl]
  rw [show s.defs.length + s.items.length + s.cells.length + s.wats.length + 10 = (s.defs.length + s.items.length + s.cells.length + s.wats.length + 9) + 1 from rfl, callboardref18_Same.j0, if_neg (by simp)]
  exact s18_l0 s h2 h3 h4 h5 s.defs.length 0 _ (by omega) (by omega)
end
/-- callboardref18.Same of two states that are one as data. -/
theorem same_calls {w : World} {v v2 : Value} {s : Stt} (hS : St w v s) (hS2 : St w v2 s) : Calls Try.prog 46 #[v, v2] w fun e w' => e = .returned (.bool true) ∧ Below w.heap.size w w' := by
  obtain ⟨A2, c2, A3, c3, A4, c4, A5, c5, rfl, h2, k2, h3, k3, h4, k4, h5, k5⟩ := hS
  obtain ⟨B2, d2, B3, d3, B4, d4, B5, d5, rfl, g2, m2, g3, m3, g4, m4, g5, m5⟩ := hS2
  obtain ⟨k, hk⟩ := s18_f s h2.2.1 h3.2.1 h4.2.1 h5.2.1
  exact callboardref18_Same.calls k s.clk s.nxt A2 c2 s.defs A3 c3 s.items A4 c4 s.cells A5 c5 s.wats s.clk s.nxt B2 d2 s.defs B3 d3 s.items B4 d4 s.cells B5 d5 s.wats true w h2 k2 h3 k3 h4 k4 h5 k5 g2 m2 g3 m3 g4 m4 g5 m5 hk ⟨rfl⟩
/-- Is a state more than a statement goes through? -/
def largeB (s : Stt) : Bool := decide (170 < s.items.length) || (decide (300 < s.cells.length) || (decide (300 < s.wats.length) || decide (12 < s.defs.length)))
theorem large_f (s : Stt) : callboardlaw21_large.f s.clk s.nxt s.defs s.items s.cells s.wats = some (largeB s) := by
  unfold callboardlaw21_large.f largeB
  by_cases a : 170 < s.items.length
  · rw [if_pos (by omega)]; simp [a]
  · rw [if_neg (by omega)]
    by_cases b : 300 < s.cells.length
    · rw [if_pos (by omega)]; simp [b]
    · rw [if_neg (by omega)]
      by_cases c : 300 < s.wats.length
      · rw [if_pos (by omega)]; simp [c]
      · rw [if_neg (by omega)]
        by_cases d : 12 < s.defs.length
        · rw [decide_eq_true (show ((s.defs.length : Int) > 12) by omega)]; simp [d]
        · rw [decide_eq_false (show ¬ ((s.defs.length : Int) > 12) by omega)]; simp [a, b, c, d]
theorem large_calls {w : World} {v : Value} {s : Stt} (hS : St w v s) : Calls Try.prog 44 #[v] w fun e w' => e = .returned (.bool (largeB s)) ∧ Below w.heap.size w w' := by
  obtain ⟨A2, c2, A3, c3, A4, c4, A5, c5, rfl, h2, k2, h3, k3, h4, k4, h5, k5⟩ := hS
  exact callboardlaw21_large.calls s.clk s.nxt A2 c2 s.defs A3 c3 s.items A4 c4 s.cells A5 c5 s.wats _ w h2 k2 h3 k3 h4 k4 h5 k5 (large_f s)
theorem fit_of {s : Stt} (h : largeB s = false) (hi : ∀ x ∈ s.items, (Lit.int .i64 x.f0).wf = true) (hw : ∀ x ∈ s.wats, (Lit.int .i64 x.f1).wf = true) : Fit s := by
  unfold largeB at h
  simp only [Bool.or_eq_false_iff, decide_eq_false_iff_not] at h
  exact ⟨by omega, by omega, by omega, hi, hw⟩
end Go.Proofs.Ythonmfcollafkaa.P
-- GENERATED by wip/gen.py (this session's own driver of a mended copy of the printer). Not trusted: Lean checks it.
namespace Go.Proofs.Ythonmfcollafkaa.P
open Go.RowKit Go.Proofs.YthonmfcollafkaaW.PrintWords Go.Proofs.YthonmfcollafkaaW.PrintLast Go.Proofs.YthonmfcollafkaaW.PrintMore
attribute [local go_sem] Go.Proofs.YthonmfcollafkaaB.less_swap Go.Proofs.YthonmfcollafkaaB.less_or max2_int min2_int max_two min_two max_three min_three max_four min_four   -- for this text's walks alone
set_option linter.unusedVariables false
set_option linter.unusedSimpArgs false

/-! ### cancel_Gone: function 47 -/
def cancel_Gone.l0 : Nat → List Int → List (S43) → Int → Int → Int → Int → List (S34) → List (S43) → List (S129) → List (S132) → Option (List Int)
 | 0, _, _, _, _, _, _, _, _, _, _ => none
 | k + 1, x5, x11, x12, x13, x244000, x244001, x244002, x244003, x244004, x244005 => if x13 < x12 then (if 0 ≤ x13 then (if x13 < (x11.length : Int) then ((arena_Find.f x244000 x244001 x244002 x244003 x244004 x244005 ((rd_T43 x11 x13).f0)).bind fun bt246 => (if bt246.2.2.2.2.2.2.2.2 = true then (cancel_Gone.l0 k x5 x11 x12 (wrap64 (x13 + 1)) x244000 x244001 x244002 x244003 x244004 x244005) else (if x5.length < 17592186044416 then (cancel_Gone.l0 k (x5 ++ [(rd_T43 x11 x13).f0]) x11 x12 (wrap64 (x13 + 1)) x244000 x244001 x244002 x244003 x244004 x244005) else (none)))) else (none)) else (none)) else ((slices_Sort_int_int.f x5).bind fun t259 => ((slices_Compact_int_int.f t259).bind fun t260 => (some t260)))
def cancel_Gone.f (k : Nat) (a0_0 : Int) (a0_1 : Int) (l0_2 : List (S34)) (l0_3 : List (S43)) (l0_4 : List (S129)) (l0_5 : List (S132)) (a1_0 : Int) (a1_1 : Int) (l1_2 : List (S34)) (l1_3 : List (S43)) (l1_4 : List (S129)) (l1_5 : List (S132)) : Option (List Int) := cancel_Gone.l0 k ([] : List Int) l0_3 (l0_3.length : Int) 0 a1_0 a1_1 l1_2 l1_3 l1_4 l1_5
theorem cancel_Gone.mono_l : ∀ k, (∀ y0 y1 y2 y3 y4 y5 y6 y7 y8 y9, LeO (cancel_Gone.l0 k y0 y1 y2 y3 y4 y5 y6 y7 y8 y9) (cancel_Gone.l0 (k + 1) y0 y1 y2 y3 y4 y5 y6 y7 y8 y9))
 | 0 => fun _ _ _ _ _ _ _ _ _ _ r h => by simp [cancel_Gone.l0] at h
 | k + 1 => by
  have ih0 := cancel_Gone.mono_l k
  ·intro y0 y1 y2 y3 y4 y5 y6 y7 y8 y9
   unfold cancel_Gone.l0
   repeat' first
   | (with_reducible exact ih0 _ _ _ _ _ _ _ _ _ _)
   | (with_reducible exact LeO.refl _)
   | (with_reducible exact LeO.none _)
   | (with_reducible refine LeO.ite ?_ ?_)
   | (with_reducible refine LeO.bind ?_ (fun _ => ?_))
   | exact ih0 _ _ _ _ _ _ _ _ _ _
   | exact LeO.none _
   | refine LeO.ite ?_ ?_
   | refine LeO.bind ?_ (fun _ => ?_)
theorem cancel_Gone.mono : ∀ a0 a1 a2 a3 a4 a5 a6 a7 a8 a9 a10 a11 k, LeO (cancel_Gone.f k a0 a1 a2 a3 a4 a5 a6 a7 a8 a9 a10 a11) (cancel_Gone.f (k + 1) a0 a1 a2 a3 a4 a5 a6 a7 a8 a9 a10 a11) := by
 intro a0 a1 a2 a3 a4 a5 a6 a7 a8 a9 a10 a11 k
 have ih0 := cancel_Gone.mono_l k
 unfold cancel_Gone.f
 repeat' first
   | (with_reducible exact ih0 _ _ _ _ _ _ _ _ _ _)
   | (with_reducible exact LeO.refl _)
   | (with_reducible exact LeO.none _)
   | (with_reducible refine LeO.ite ?_ ?_)
   | (with_reducible refine LeO.bind ?_ (fun _ => ?_))
   | exact ih0 _ _ _ _ _ _ _ _ _ _
   | exact LeO.none _
   | refine LeO.ite ?_ ?_
   | refine LeO.bind ?_ (fun _ => ?_)
set_option maxHeartbeats 8000000 in
set_option maxRecDepth 100000 in
theorem cancel_Gone.calls (k : Nat) (a0_0 : Int) (a0_1 : Int) (A0_2 : Option Addr) (c0_2 : Nat) (l0_2 : List (S34)) (A0_3 : Option Addr) (c0_3 : Nat) (l0_3 : List (S43)) (A0_4 : Option Addr) (c0_4 : Nat) (l0_4 : List (S129)) (A0_5 : Option Addr) (c0_5 : Nat) (l0_5 : List (S132)) (a1_0 : Int) (a1_1 : Int) (A1_2 : Option Addr) (c1_2 : Nat) (l1_2 : List (S34)) (A1_3 : Option Addr) (c1_3 : Nat) (l1_3 : List (S43)) (A1_4 : Option Addr) (c1_4 : Nat) (l1_4 : List (S129)) (A1_5 : Option Addr) (c1_5 : Nat) (l1_5 : List (S132)) (r : List Int) (w : World) (hr0_2 : Kd.C k34 w A0_2 l0_2.length l0_2) (hc0_2 : l0_2.length ≤ c0_2) (hr0_3 : Kd.C k43 w A0_3 l0_3.length l0_3) (hc0_3 : l0_3.length ≤ c0_3) (hr0_4 : Kd.C k129 w A0_4 l0_4.length l0_4) (hc0_4 : l0_4.length ≤ c0_4) (hr0_5 : Kd.C k132 w A0_5 l0_5.length l0_5) (hc0_5 : l0_5.length ≤ c0_5) (hr1_2 : Kd.C k34 w A1_2 l1_2.length l1_2) (hc1_2 : l1_2.length ≤ c1_2) (hr1_3 : Kd.C k43 w A1_3 l1_3.length l1_3) (hc1_3 : l1_3.length ≤ c1_3) (hr1_4 : Kd.C k129 w A1_4 l1_4.length l1_4) (hc1_4 : l1_4.length ≤ c1_4) (hr1_5 : Kd.C k132 w A1_5 l1_5.length l1_5) (hc1_5 : l1_5.length ≤ c1_5) (h : cancel_Gone.f k a0_0 a0_1 l0_2 l0_3 l0_4 l0_5 a1_0 a1_1 l1_2 l1_3 l1_4 l1_5 = some r) :
  Calls Try.prog 47 #[.agg #[.int .i64 a0_0, .int .i64 a0_1, .slice A0_2 l0_2.length c0_2, .slice A0_3 l0_3.length c0_3, .slice A0_4 l0_4.length c0_4, .slice A0_5 l0_5.length c0_5], .agg #[.int .i64 a1_0, .int .i64 a1_1, .slice A1_2 l1_2.length c1_2, .slice A1_3 l1_3.length c1_3, .slice A1_4 l1_4.length c1_4, .slice A1_5 l1_5.length c1_5]] w fun e w' => ∃ v0_ : Value, e = .returned (v0_) ∧ Kd.R (Kd.int .i64) 3 w' w.heap.size (fun _ => True) v0_ r ∧ Below w.heap.size w w' := by
 have hu27 := Try.underlying27
 have hu43 := Try.underlying43
 have HR0_2 := Aside0.mk hr0_2
 have HC0_2 := Aside0.mk hc0_2
 clear hr0_2 hc0_2
 have HR0_3 := Aside0.mk hr0_3
 have HC0_3 := Aside0.mk hc0_3
 clear hr0_3 hc0_3
 have HR0_4 := Aside0.mk hr0_4
 have HC0_4 := Aside0.mk hc0_4
 clear hr0_4 hc0_4
 have HR0_5 := Aside0.mk hr0_5
 have HC0_5 := Aside0.mk hc0_5
 clear hr0_5 hc0_5
 have HR1_2 := Aside0.mk hr1_2
 have HC1_2 := Aside0.mk hc1_2
 clear hr1_2 hc1_2
 have HR1_3 := Aside0.mk hr1_3
 have HC1_3 := Aside0.mk hc1_3
 clear hr1_3 hc1_3
 have HR1_4 := Aside0.mk hr1_4
 have HC1_4 := Aside0.mk hc1_4
 clear hr1_4 hc1_4
 have HR1_5 := Aside0.mk hr1_5
 have HC1_5 := Aside0.mk hc1_5
 clear hr1_5 hc1_5
 have HB := Aside0.mk (Below.refl w.heap.size w)
 have H : (cancel_Gone.l0 k ([] : List Int) l0_3 (l0_3.length : Int) 0 a1_0 a1_1 l1_2 l1_3 l1_4 l1_5) = some r := h
 clear h
 have H' := Aside0.mk H
 clear H
 go_enter Try.func47, Try.ntmps47
 go_wp2_with (first | ((with_reducible refine gate_dst (N := 2) rfl ?_); refine box_event ?hg (N := 2) ?hd (cs := #[.int .i64 a0_0, .int .i64 a0_1, .slice A0_2 l0_2.length c0_2, .slice A0_3 l0_3.length c0_3, .slice A0_4 l0_4.length c0_4, .slice A0_5 l0_5.length c0_5]) (t := 27) ?hr ?_; (case hd => rfl); (case hg => rfl); (case hr => first | (go_simp; done) | (go_simp; rfl)); intro gb242 hg w3 hbox hb; have BK242 := Aside0.mk (hbox); have GW242 := Aside0.mk ((by rw [hg]; exact (below_size (kl HB)) : w.heap.size ≤ gb242)); have GE242 := Aside0.mk ((by rw [hg]; exact (below_size (kl HB)) : w.heap.size ≤ gb242)); replace HB := Aside0.mk (below_step (kl HB) hb); clear hb hbox hg) | ((with_reducible refine gate_dst (N := 3) rfl ?_); refine box_event ?hg (N := 3) ?hd (cs := #[.int .i64 a1_0, .int .i64 a1_1, .slice A1_2 l1_2.length c1_2, .slice A1_3 l1_3.length c1_3, .slice A1_4 l1_4.length c1_4, .slice A1_5 l1_5.length c1_5]) (t := 27) ?hr ?_; (case hd => rfl); (case hg => rfl); (case hr => first | (go_simp; done) | (go_simp; rfl)); intro gb243 hg w4 hbox hb; have BK243 := Aside0.mk (hbox); have GW243 := Aside0.mk ((by rw [hg]; exact (below_size (kl HB)) : w.heap.size ≤ gb243)); have GE243 := Aside0.mk ((by rw [hg]; exact (below_size (kl HB)) : w.heap.size ≤ gb243)); replace HB := Aside0.mk (below_step (kl HB) hb); have NB242_243 := Aside0.mk ((by rw [hg]; exact Nat.ne_of_lt (bl BK242) : gb242 ≠ gb243)); have NB243_242 := Aside0.mk ((by rw [hg]; exact Nat.ne_of_gt (bl BK242) : gb243 ≠ gb242)); replace BK242 := bb BK242 hb; clear hb hbox hg; have hnb5 := NB242_243.out; have hnc5 := NB243_242.out; have hcz6_0 : w4.cell? ⟨gb242, 0, none⟩ = some (.int .i64 a0_0) := bc BK242 0; have hcz6_1 : w4.cell? ⟨gb242, 1, none⟩ = some (.int .i64 a0_1) := bc BK242 1; have hcz6_2 : w4.cell? ⟨gb242, 2, none⟩ = some (.slice A0_2 l0_2.length c0_2) := bc BK242 2; have hcz6_3 : w4.cell? ⟨gb242, 3, none⟩ = some (.slice A0_3 l0_3.length c0_3) := bc BK242 3; have hcz6_4 : w4.cell? ⟨gb242, 4, none⟩ = some (.slice A0_4 l0_4.length c0_4) := bc BK242 4; have hcz6_5 : w4.cell? ⟨gb242, 5, none⟩ = some (.slice A0_5 l0_5.length c0_5) := bc BK242 5; have hfz6_0 := blk_frozen BK242.out 0; have hfz6_1 := blk_frozen BK242.out 1; have hfz6_2 := blk_frozen BK242.out 2; have hfz6_3 := blk_frozen BK242.out 3; have hfz6_4 := blk_frozen BK242.out 4; have hfz6_5 := blk_frozen BK242.out 5))
 go_loopg [5, 13] k (fun kq v5 v13 w' => ∃ (x5_1 : List Int) (x13_1 : Int), v13 = .int .i64 x13_1 ∧ Aside0 (cancel_Gone.l0 kq x5_1 l0_3 (l0_3.length : Int) x13_1 a1_0 a1_1 l1_2 l1_3 l1_4 l1_5 = some r) ∧ Aside0 (kq ≤ k) ∧ Aside0 (Kd.R (Kd.int .i64) 3 w' w.heap.size (fun _ => True) v5 x5_1) ∧ Aside0 (w'.heap[gb242]? = some (.cells #[.int .i64 a0_0, .int .i64 a0_1, (.slice A0_2 l0_2.length c0_2), (.slice A0_3 l0_3.length c0_3), (.slice A0_4 l0_4.length c0_4), (.slice A0_5 l0_5.length c0_5)] 27 (0, 0))) ∧ Aside0 (w'.heap[gb243]? = some (.cells #[.int .i64 a1_0, .int .i64 a1_1, (.slice A1_2 l1_2.length c1_2), (.slice A1_3 l1_3.length c1_3), (.slice A1_4 l1_4.length c1_4), (.slice A1_5 l1_5.length c1_5)] 27 (0, 0))) ∧ Aside0 (Below w.heap.size w w'))
 case atStart => exact ⟨(([] : List Int)), (0), (by first | rfl | (simp; done) | (simp [*]; done)), H', ⟨Nat.le_refl _⟩, ⟨by first | exact Kd.R_nil _ _ _ _ _ | exact Kd.N_nil _ _ _ _ _ | exact Kd.V_nil _ _ _ _ _ | exact Kd.Q_nil _ _ _ _ _ | exact Kd.S_nil _ _ _ _ _⟩, ⟨kb BK242⟩, ⟨kb BK243⟩, ⟨kl HB⟩⟩
 case round =>
  clear H'
  try clear c1
  try clear p2
  try clear c4
  try clear c5
  try clear hcz6_0
  try clear hcz6_1
  try clear hcz6_2
  try clear hcz6_3
  try clear hcz6_4
  try clear hcz6_5
  try clear hfz6_0
  try clear hfz6_1
  try clear hfz6_2
  try clear hfz6_3
  try clear hfz6_4
  try clear hfz6_5
  obtain ⟨x5_1, x13_1, rfl, HA, HK1, HO_5, BK242, BK243, HB⟩ := hrel
  cases gk with
  | zero => exact absurd HA.out (by simp [cancel_Gone.l0])
  | succ k1 =>
   have H := HA.out
   clear HA
   simp only [cancel_Gone.l0] at H
   by_cases c7 : x13_1 < (l0_3.length : Int)
   ·rw [if_pos c7] at H
    have c7b0 : decide (x13_1 < (l0_3.length : Int)) = true := decide_eq_true c7
    clear c7
    by_cases c8 : 0 ≤ x13_1
    ·rw [if_pos c8] at H
     have c8b0 : decide (0 ≤ x13_1) = true := decide_eq_true c8
     clear c8
     by_cases c9 : x13_1 < (l0_3.length : Int)
     ·rw [if_pos c9] at H
      have c9b0 : decide (x13_1 < (l0_3.length : Int)) = true := decide_eq_true c9
      clear c9
      replace H := Option.bind_eq_some_iff.mp H
      obtain ⟨⟨t246, t247, t248, t249, t250, t251, t252, t253, t254⟩, A100, H⟩ := H
      replace H : (if t254 = true then (cancel_Gone.l0 k1 x5_1 l0_3 (l0_3.length : Int) (wrap64 (x13_1 + 1)) a1_0 a1_1 l1_2 l1_3 l1_4 l1_5) else (if x5_1.length < 17592186044416 then (cancel_Gone.l0 k1 (x5_1 ++ [(rd_T43 l0_3 x13_1).f0]) l0_3 (l0_3.length : Int) (wrap64 (x13_1 + 1)) a1_0 a1_1 l1_2 l1_3 l1_4 l1_5) else (none))) = some r := H
      have A10 := Aside0.mk A100
      clear A100
      by_cases c11 : t254 = true
      ·subst c11
       have H1 : (cancel_Gone.l0 k1 x5_1 l0_3 (l0_3.length : Int) (wrap64 (x13_1 + 1)) a1_0 a1_1 l1_2 l1_3 l1_4 l1_5) = some r := by rw [if_pos rfl] at H; exact H
       clear H
       have H := H1
       clear H1
       have H' := Aside0.mk H
       clear H
       have p244 : 0 ≤ (x13_1 : Int) := of_decide_eq_true (by first | (with_reducible assumption) | assumption)
       have q244 : x13_1 < (l0_3.length : Int) := of_decide_eq_true (by first | (with_reducible assumption) | assumption)
       obtain ⟨ad244, e244, hx244_0, hx244_1, hx244_2, hx244_3, hx244_4, hx244_5, hx244_6, hx244_7⟩ := at_T43 HR0_3.out x13_1 p244 q244
       cases e244
       replace hx244_0 := (HB.out.cell (World.block_lt_of_cell? w _ hx244_0)).trans hx244_0
       replace hx244_1 := (HB.out.cell (World.block_lt_of_cell? w _ hx244_1)).trans hx244_1
       replace hx244_2 := (HB.out.cell (World.block_lt_of_cell? w _ hx244_2)).trans hx244_2
       replace hx244_3 := (HB.out.cell (World.block_lt_of_cell? w _ hx244_3)).trans hx244_3
       replace hx244_4 := (HB.out.cell (World.block_lt_of_cell? w _ hx244_4)).trans hx244_4
       replace hx244_5 := (HB.out.cell (World.block_lt_of_cell? w _ hx244_5)).trans hx244_5
       replace hx244_6 := (HB.out.cell (World.block_lt_of_cell? w _ hx244_6)).trans hx244_6
       replace hx244_7 := (HB.out.cell (World.block_lt_of_cell? w _ hx244_7)).trans hx244_7
       replace p244 := eq_true p244
       replace q244 := eq_true q244
       go_wp2_with (first | ((with_reducible refine gate_dst (N := 7) rfl ?_); refine box_event ?hg (N := 7) ?hd (cs := #[.int .i64 0, .int .i64 0, .int .u8 0, .string (⟨#[]⟩ : ByteArray), .int .i64 0, .int .i64 0, .int .u8 0, .string (⟨#[]⟩ : ByteArray)]) (t := 43) ?hr ?_; (case hd => rfl); (case hg => rfl); (case hr => first | (go_simp; done) | (go_simp; rfl)); intro gb245 hg w12 hbox hb; replace HO_5 := rb HO_5 hb; have BK245 := Aside0.mk (hbox); have GW245 := Aside0.mk ((by rw [hg]; exact (below_size (kl HB)) : w.heap.size ≤ gb245)); have GE245 := Aside0.mk ((by rw [hg]; exact (below_size (kl HB)) : w.heap.size ≤ gb245)); replace HB := Aside0.mk (below_step (kl HB) hb); have NB242_245 := Aside0.mk ((by rw [hg]; exact Nat.ne_of_lt (bl BK242) : gb242 ≠ gb245)); have NB245_242 := Aside0.mk ((by rw [hg]; exact Nat.ne_of_gt (bl BK242) : gb245 ≠ gb242)); replace BK242 := bb BK242 hb; have NB243_245 := Aside0.mk ((by rw [hg]; exact Nat.ne_of_lt (bl BK243) : gb243 ≠ gb245)); have NB245_243 := Aside0.mk ((by rw [hg]; exact Nat.ne_of_gt (bl BK243) : gb245 ≠ gb243)); replace BK243 := bb BK243 hb; clear hb hbox hg; have hnb13 := NB245_242.out; have hnc13 := NB242_245.out; have hnb14 := NB245_243.out; have hnc14 := NB243_245.out; have hcz15_0 : w12.cell? ⟨gb245, 0, none⟩ = some (.int .i64 0) := bc BK245 0; have hcz15_1 : w12.cell? ⟨gb245, 1, none⟩ = some (.int .i64 0) := bc BK245 1; have hcz15_2 : w12.cell? ⟨gb245, 2, none⟩ = some (.int .u8 0) := bc BK245 2; have hcz15_3 : w12.cell? ⟨gb245, 3, none⟩ = some (.string (⟨#[]⟩ : ByteArray)) := bc BK245 3; have hcz15_4 : w12.cell? ⟨gb245, 4, none⟩ = some (.int .i64 0) := bc BK245 4; have hcz15_5 : w12.cell? ⟨gb245, 5, none⟩ = some (.int .i64 0) := bc BK245 5; have hcz15_6 : w12.cell? ⟨gb245, 6, none⟩ = some (.int .u8 0) := bc BK245 6; have hcz15_7 : w12.cell? ⟨gb245, 7, none⟩ = some (.string (⟨#[]⟩ : ByteArray)) := bc BK245 7; have hfz15_0 := blk_frozen BK245.out 0; have hfz15_1 := blk_frozen BK245.out 1; have hfz15_2 := blk_frozen BK245.out 2; have hfz15_3 := blk_frozen BK245.out 3; have hfz15_4 := blk_frozen BK245.out 4; have hfz15_5 := blk_frozen BK245.out 5; have hfz15_6 := blk_frozen BK245.out 6; have hfz15_7 := blk_frozen BK245.out 7; have hnb16 := NB243_242.out; have hnc16 := NB242_243.out; have hcz17_0 : w12.cell? ⟨gb243, 0, none⟩ = some (.int .i64 a1_0) := bc BK243 0; have hcz17_1 : w12.cell? ⟨gb243, 1, none⟩ = some (.int .i64 a1_1) := bc BK243 1; have hcz17_2 : w12.cell? ⟨gb243, 2, none⟩ = some (.slice A1_2 l1_2.length c1_2) := bc BK243 2; have hcz17_3 : w12.cell? ⟨gb243, 3, none⟩ = some (.slice A1_3 l1_3.length c1_3) := bc BK243 3; have hcz17_4 : w12.cell? ⟨gb243, 4, none⟩ = some (.slice A1_4 l1_4.length c1_4) := bc BK243 4; have hcz17_5 : w12.cell? ⟨gb243, 5, none⟩ = some (.slice A1_5 l1_5.length c1_5) := bc BK243 5; have hfz17_0 := blk_frozen BK243.out 0; have hfz17_1 := blk_frozen BK243.out 1; have hfz17_2 := blk_frozen BK243.out 2; have hfz17_3 := blk_frozen BK243.out 3; have hfz17_4 := blk_frozen BK243.out 4; have hfz17_5 := blk_frozen BK243.out 5) | ((with_reducible refine gate_callee (f := 16) rfl ?_); refine goesL_ (some 21) rfl rfl Try.func16 (by kernel_rfl) rfl #[.agg #[.int .i64 a1_0, .int .i64 a1_1, .slice A1_2 l1_2.length c1_2, .slice A1_3 l1_3.length c1_3, .slice A1_4 l1_4.length c1_4, .slice A1_5 l1_5.length c1_5], .int .i64 ((rd_T43 l0_3 x13_1).f0)] rfl (by (try simp only [List.map_toArray, List.map_cons, List.map_nil]); first | done | rfl | (simp only [List.length_drop, List.length_take]; rfl)) ?_; (with_reducible refine (arena_Find.calls a1_0 a1_1 _ _ l1_2 _ _ l1_3 _ _ l1_4 _ _ l1_5 ((rd_T43 l0_3 x13_1).f0) t246 t247 t248 t249 t250 t251 t252 t253 true _ ?side1 ?side2 ?side3 ?side4 ?side5 ?side6 ?side7 ?side8 A10.out).mono ?_); (case side1 => exact Kd.C_below HR1_2.out (kl HB)); (case side2 => exact HC1_2.out); (case side3 => exact Kd.C_below HR1_3.out (kl HB)); (case side4 => exact HC1_3.out); (case side5 => exact Kd.C_below HR1_4.out (kl HB)); (case side6 => exact HC1_4.out); (case side7 => exact Kd.C_below HR1_5.out (kl HB)); (case side8 => exact HC1_5.out); rintro e w18 ⟨rfl, hb⟩; refine ⟨_, rfl, ?_⟩; replace HO_5 := Aside0.mk (Kd.R_below (by (with_reducible repeat (first | apply Kd.R_alloc | apply Kd.R_drewN | apply Kd.R_drew)); exact (Kd.R_mono (Kd.R_far (p := ⟨gb245, 7, none⟩) (Kd.R_far (p := ⟨gb245, 6, none⟩) (Kd.R_far (p := ⟨gb245, 5, none⟩) (Kd.R_far (p := ⟨gb245, 4, none⟩) (Kd.R_far (p := ⟨gb245, 3, none⟩) (Kd.R_far (p := ⟨gb245, 2, none⟩) (Kd.R_far (p := ⟨gb245, 1, none⟩) (Kd.R_far (p := ⟨gb245, 0, none⟩) (Kd.R_types HO_5.out BK245.out (by decide)) (fun _ hk => hk.2) (.int .i64 ((rd_T43 l0_3 x13_1).f0))) (fun _ hk => hk.2) (.int .i64 ((rd_T43 l0_3 x13_1).f1))) (fun _ hk => hk.2) (.int .u8 ((rd_T43 l0_3 x13_1).f2))) (fun _ hk => hk.2) (.string ((rd_T43 l0_3 x13_1).f3))) (fun _ hk => hk.2) (.int .i64 ((rd_T43 l0_3 x13_1).f4))) (fun _ hk => hk.2) (.int .i64 ((rd_T43 l0_3 x13_1).f5))) (fun _ hk => hk.2) (.int .u8 ((rd_T43 l0_3 x13_1).f6))) (fun _ hk => hk.2) (.string ((rd_T43 l0_3 x13_1).f7))) (fun _ h_ => h_.1))) hb); replace BK242 := bf NB242_245 BK242 hb; replace BK243 := bf NB243_245 BK243 hb; replace BK245 := Aside0.mk (blk_below (g := gb245) (o := .cells #[.int .i64 ((rd_T43 l0_3 x13_1).f0), .int .i64 ((rd_T43 l0_3 x13_1).f1), .int .u8 ((rd_T43 l0_3 x13_1).f2), .string ((rd_T43 l0_3 x13_1).f3), .int .i64 ((rd_T43 l0_3 x13_1).f4), .int .i64 ((rd_T43 l0_3 x13_1).f5), .int .u8 ((rd_T43 l0_3 x13_1).f6), .string ((rd_T43 l0_3 x13_1).f7)] 43 (0, 0)) (by (with_reducible repeat (first | refine blk_drewN ?_ _ | refine blk_drew ?_ | refine blk_alloc ?_ _)); refine blk_put (cs := #[.int .i64 ((rd_T43 l0_3 x13_1).f0), .int .i64 ((rd_T43 l0_3 x13_1).f1), .int .u8 ((rd_T43 l0_3 x13_1).f2), .string ((rd_T43 l0_3 x13_1).f3), .int .i64 ((rd_T43 l0_3 x13_1).f4), .int .i64 ((rd_T43 l0_3 x13_1).f5), .int .u8 ((rd_T43 l0_3 x13_1).f6), .string (⟨#[]⟩ : ByteArray)]) ?_ 7 _ rfl; (with_reducible repeat (first | refine blk_drewN ?_ _ | refine blk_drew ?_ | refine blk_alloc ?_ _)); refine blk_put (cs := #[.int .i64 ((rd_T43 l0_3 x13_1).f0), .int .i64 ((rd_T43 l0_3 x13_1).f1), .int .u8 ((rd_T43 l0_3 x13_1).f2), .string ((rd_T43 l0_3 x13_1).f3), .int .i64 ((rd_T43 l0_3 x13_1).f4), .int .i64 ((rd_T43 l0_3 x13_1).f5), .int .u8 0, .string (⟨#[]⟩ : ByteArray)]) ?_ 6 _ rfl; (with_reducible repeat (first | refine blk_drewN ?_ _ | refine blk_drew ?_ | refine blk_alloc ?_ _)); refine blk_put (cs := #[.int .i64 ((rd_T43 l0_3 x13_1).f0), .int .i64 ((rd_T43 l0_3 x13_1).f1), .int .u8 ((rd_T43 l0_3 x13_1).f2), .string ((rd_T43 l0_3 x13_1).f3), .int .i64 ((rd_T43 l0_3 x13_1).f4), .int .i64 0, .int .u8 0, .string (⟨#[]⟩ : ByteArray)]) ?_ 5 _ rfl; (with_reducible repeat (first | refine blk_drewN ?_ _ | refine blk_drew ?_ | refine blk_alloc ?_ _)); refine blk_put (cs := #[.int .i64 ((rd_T43 l0_3 x13_1).f0), .int .i64 ((rd_T43 l0_3 x13_1).f1), .int .u8 ((rd_T43 l0_3 x13_1).f2), .string ((rd_T43 l0_3 x13_1).f3), .int .i64 0, .int .i64 0, .int .u8 0, .string (⟨#[]⟩ : ByteArray)]) ?_ 4 _ rfl; (with_reducible repeat (first | refine blk_drewN ?_ _ | refine blk_drew ?_ | refine blk_alloc ?_ _)); refine blk_put (cs := #[.int .i64 ((rd_T43 l0_3 x13_1).f0), .int .i64 ((rd_T43 l0_3 x13_1).f1), .int .u8 ((rd_T43 l0_3 x13_1).f2), .string (⟨#[]⟩ : ByteArray), .int .i64 0, .int .i64 0, .int .u8 0, .string (⟨#[]⟩ : ByteArray)]) ?_ 3 _ rfl; (with_reducible repeat (first | refine blk_drewN ?_ _ | refine blk_drew ?_ | refine blk_alloc ?_ _)); refine blk_put (cs := #[.int .i64 ((rd_T43 l0_3 x13_1).f0), .int .i64 ((rd_T43 l0_3 x13_1).f1), .int .u8 0, .string (⟨#[]⟩ : ByteArray), .int .i64 0, .int .i64 0, .int .u8 0, .string (⟨#[]⟩ : ByteArray)]) ?_ 2 _ rfl; (with_reducible repeat (first | refine blk_drewN ?_ _ | refine blk_drew ?_ | refine blk_alloc ?_ _)); refine blk_put (cs := #[.int .i64 ((rd_T43 l0_3 x13_1).f0), .int .i64 0, .int .u8 0, .string (⟨#[]⟩ : ByteArray), .int .i64 0, .int .i64 0, .int .u8 0, .string (⟨#[]⟩ : ByteArray)]) ?_ 1 _ rfl; (with_reducible repeat (first | refine blk_drewN ?_ _ | refine blk_drew ?_ | refine blk_alloc ?_ _)); refine blk_put (cs := #[.int .i64 0, .int .i64 0, .int .u8 0, .string (⟨#[]⟩ : ByteArray), .int .i64 0, .int .i64 0, .int .u8 0, .string (⟨#[]⟩ : ByteArray)]) ?_ 0 _ rfl; (with_reducible repeat (first | refine blk_drewN ?_ _ | refine blk_drew ?_ | refine blk_alloc ?_ _)); exact BK245.out) hb); replace HB := Aside0.mk (below_step (kl HB) hb); (try clear hb); (try clear hb2); (try clear hk); (try clear hi)) | ((with_reducible refine gate_dst (N := 8) rfl ?_); refine box_event ?hg (N := 8) ?hd (cs := #[.int .i64 0, .int .i64 0, .int .u8 0, .string (⟨#[]⟩ : ByteArray), .int .i64 0, .int .i64 0, .int .u8 0, .string (⟨#[]⟩ : ByteArray)]) (t := 43) ?hr ?_; (case hd => rfl); (case hg => rfl); (case hr => first | (go_simp; done) | (go_simp; rfl)); intro gb255 hg w19 hbox hb; replace HO_5 := rb HO_5 hb; have BK255 := Aside0.mk (hbox); have GW255 := Aside0.mk ((by rw [hg]; exact (below_size (kl HB)) : w.heap.size ≤ gb255)); have GE255 := Aside0.mk ((by rw [hg]; exact (below_size (kl HB)) : w.heap.size ≤ gb255)); replace HB := Aside0.mk (below_step (kl HB) hb); have NB242_255 := Aside0.mk ((by rw [hg]; exact Nat.ne_of_lt (bl BK242) : gb242 ≠ gb255)); have NB255_242 := Aside0.mk ((by rw [hg]; exact Nat.ne_of_gt (bl BK242) : gb255 ≠ gb242)); replace BK242 := bb BK242 hb; have NB243_255 := Aside0.mk ((by rw [hg]; exact Nat.ne_of_lt (bl BK243) : gb243 ≠ gb255)); have NB255_243 := Aside0.mk ((by rw [hg]; exact Nat.ne_of_gt (bl BK243) : gb255 ≠ gb243)); replace BK243 := bb BK243 hb; have NB245_255 := Aside0.mk ((by rw [hg]; exact Nat.ne_of_lt (bl BK245) : gb245 ≠ gb255)); have NB255_245 := Aside0.mk ((by rw [hg]; exact Nat.ne_of_gt (bl BK245) : gb255 ≠ gb245)); replace BK245 := bb BK245 hb; clear hb hbox hg; have hnb20 := NB255_242.out; have hnc20 := NB242_255.out; have hnb21 := NB255_243.out; have hnc21 := NB243_255.out; have hnb22 := NB255_245.out; have hnc22 := NB245_255.out; have hcz23_0 : w19.cell? ⟨gb255, 0, none⟩ = some (.int .i64 0) := bc BK255 0; have hcz23_1 : w19.cell? ⟨gb255, 1, none⟩ = some (.int .i64 0) := bc BK255 1; have hcz23_2 : w19.cell? ⟨gb255, 2, none⟩ = some (.int .u8 0) := bc BK255 2; have hcz23_3 : w19.cell? ⟨gb255, 3, none⟩ = some (.string (⟨#[]⟩ : ByteArray)) := bc BK255 3; have hcz23_4 : w19.cell? ⟨gb255, 4, none⟩ = some (.int .i64 0) := bc BK255 4; have hcz23_5 : w19.cell? ⟨gb255, 5, none⟩ = some (.int .i64 0) := bc BK255 5; have hcz23_6 : w19.cell? ⟨gb255, 6, none⟩ = some (.int .u8 0) := bc BK255 6; have hcz23_7 : w19.cell? ⟨gb255, 7, none⟩ = some (.string (⟨#[]⟩ : ByteArray)) := bc BK255 7; have hfz23_0 := blk_frozen BK255.out 0; have hfz23_1 := blk_frozen BK255.out 1; have hfz23_2 := blk_frozen BK255.out 2; have hfz23_3 := blk_frozen BK255.out 3; have hfz23_4 := blk_frozen BK255.out 4; have hfz23_5 := blk_frozen BK255.out 5; have hfz23_6 := blk_frozen BK255.out 6; have hfz23_7 := blk_frozen BK255.out 7))
       go_roundg k1
       case measure => have := HK1.out; omega
       case rel => exact ⟨(x5_1), (wrap64 (x13_1 + 1)), (by first | rfl | (simp; done) | (simp [*]; done)), H', ⟨by have := HK1.out; omega⟩, ⟨by (with_reducible repeat (first | apply Kd.R_alloc | apply Kd.R_drewN | apply Kd.R_drew)); exact Kd.R_mono (Kd.R_far (p := ⟨gb255, 7, none⟩) (Kd.R_far (p := ⟨gb255, 6, none⟩) (Kd.R_far (p := ⟨gb255, 5, none⟩) (Kd.R_far (p := ⟨gb255, 4, none⟩) (Kd.R_far (p := ⟨gb255, 3, none⟩) (Kd.R_far (p := ⟨gb255, 2, none⟩) (Kd.R_far (p := ⟨gb255, 1, none⟩) (Kd.R_far (p := ⟨gb255, 0, none⟩) (Kd.R_types HO_5.out BK255.out (by decide)) (fun _ hk => hk.2) (.int .i64 t246)) (fun _ hk => hk.2) (.int .i64 t247)) (fun _ hk => hk.2) (.int .u8 t248)) (fun _ hk => hk.2) (.string t249)) (fun _ hk => hk.2) (.int .i64 t250)) (fun _ hk => hk.2) (.int .i64 t251)) (fun _ hk => hk.2) (.int .u8 t252)) (fun _ hk => hk.2) (.string t253)) (fun _ hk => trivial)⟩, ⟨kf NB242_255 BK242⟩, ⟨kf NB243_255 BK243⟩, ⟨kl HB⟩⟩
      ·replace c11 := Bool.eq_false_iff.mpr c11
       subst c11
       have H1 : (if x5_1.length < 17592186044416 then (cancel_Gone.l0 k1 (x5_1 ++ [(rd_T43 l0_3 x13_1).f0]) l0_3 (l0_3.length : Int) (wrap64 (x13_1 + 1)) a1_0 a1_1 l1_2 l1_3 l1_4 l1_5) else (none)) = some r := by rw [if_neg (show ¬ (false = true) by decide)] at H; exact H
       clear H
       have H := H1
       clear H1
       by_cases c24 : x5_1.length < 17592186044416
       ·rw [if_pos c24] at H
        have LMc24 := Aside0.mk c24
        clear c24
        obtain ⟨y256, hy256⟩ : ∃ y_ : List Int, y_ = (x5_1 ++ [(rd_T43 l0_3 x13_1).f0]) := ⟨_, rfl⟩
        replace H : (cancel_Gone.l0 k1 y256 l0_3 (l0_3.length : Int) (wrap64 (x13_1 + 1)) a1_0 a1_1 l1_2 l1_3 l1_4 l1_5) = some r := by first | (rw [hy256]; with_reducible exact H) | (have H2_ := (Option.bind_some _ _).symm.trans H; rw [hy256]; with_reducible exact H2_) | (have H2_ := (Option.bind_some _ _).symm.trans H; with_reducible exact H2_) | with_reducible exact H | (rw [hy256]; exact H) | exact H
        have Ny256 := Aside0.mk hy256
        clear hy256
        have H' := Aside0.mk H
        clear H
        have p244 : 0 ≤ (x13_1 : Int) := of_decide_eq_true (by first | (with_reducible assumption) | assumption)
        have q244 : x13_1 < (l0_3.length : Int) := of_decide_eq_true (by first | (with_reducible assumption) | assumption)
        obtain ⟨ad244, e244, hx244_0, hx244_1, hx244_2, hx244_3, hx244_4, hx244_5, hx244_6, hx244_7⟩ := at_T43 HR0_3.out x13_1 p244 q244
        cases e244
        replace hx244_0 := (HB.out.cell (World.block_lt_of_cell? w _ hx244_0)).trans hx244_0
        replace hx244_1 := (HB.out.cell (World.block_lt_of_cell? w _ hx244_1)).trans hx244_1
        replace hx244_2 := (HB.out.cell (World.block_lt_of_cell? w _ hx244_2)).trans hx244_2
        replace hx244_3 := (HB.out.cell (World.block_lt_of_cell? w _ hx244_3)).trans hx244_3
        replace hx244_4 := (HB.out.cell (World.block_lt_of_cell? w _ hx244_4)).trans hx244_4
        replace hx244_5 := (HB.out.cell (World.block_lt_of_cell? w _ hx244_5)).trans hx244_5
        replace hx244_6 := (HB.out.cell (World.block_lt_of_cell? w _ hx244_6)).trans hx244_6
        replace hx244_7 := (HB.out.cell (World.block_lt_of_cell? w _ hx244_7)).trans hx244_7
        replace p244 := eq_true p244
        replace q244 := eq_true q244
        go_wp2_with (first | ((with_reducible refine gate_dst (N := 7) rfl ?_); refine box_event ?hg (N := 7) ?hd (cs := #[.int .i64 0, .int .i64 0, .int .u8 0, .string (⟨#[]⟩ : ByteArray), .int .i64 0, .int .i64 0, .int .u8 0, .string (⟨#[]⟩ : ByteArray)]) (t := 43) ?hr ?_; (case hd => rfl); (case hg => rfl); (case hr => first | (go_simp; done) | (go_simp; rfl)); intro gb245 hg w25 hbox hb; replace HO_5 := rb HO_5 hb; have BK245 := Aside0.mk (hbox); have GW245 := Aside0.mk ((by rw [hg]; exact (below_size (kl HB)) : w.heap.size ≤ gb245)); have GE245 := Aside0.mk ((by rw [hg]; exact (below_size (kl HB)) : w.heap.size ≤ gb245)); replace HB := Aside0.mk (below_step (kl HB) hb); have NB242_245 := Aside0.mk ((by rw [hg]; exact Nat.ne_of_lt (bl BK242) : gb242 ≠ gb245)); have NB245_242 := Aside0.mk ((by rw [hg]; exact Nat.ne_of_gt (bl BK242) : gb245 ≠ gb242)); replace BK242 := bb BK242 hb; have NB243_245 := Aside0.mk ((by rw [hg]; exact Nat.ne_of_lt (bl BK243) : gb243 ≠ gb245)); have NB245_243 := Aside0.mk ((by rw [hg]; exact Nat.ne_of_gt (bl BK243) : gb245 ≠ gb243)); replace BK243 := bb BK243 hb; clear hb hbox hg; have hnb26 := NB245_242.out; have hnc26 := NB242_245.out; have hnb27 := NB245_243.out; have hnc27 := NB243_245.out; have hcz28_0 : w25.cell? ⟨gb245, 0, none⟩ = some (.int .i64 0) := bc BK245 0; have hcz28_1 : w25.cell? ⟨gb245, 1, none⟩ = some (.int .i64 0) := bc BK245 1; have hcz28_2 : w25.cell? ⟨gb245, 2, none⟩ = some (.int .u8 0) := bc BK245 2; have hcz28_3 : w25.cell? ⟨gb245, 3, none⟩ = some (.string (⟨#[]⟩ : ByteArray)) := bc BK245 3; have hcz28_4 : w25.cell? ⟨gb245, 4, none⟩ = some (.int .i64 0) := bc BK245 4; have hcz28_5 : w25.cell? ⟨gb245, 5, none⟩ = some (.int .i64 0) := bc BK245 5; have hcz28_6 : w25.cell? ⟨gb245, 6, none⟩ = some (.int .u8 0) := bc BK245 6; have hcz28_7 : w25.cell? ⟨gb245, 7, none⟩ = some (.string (⟨#[]⟩ : ByteArray)) := bc BK245 7; have hfz28_0 := blk_frozen BK245.out 0; have hfz28_1 := blk_frozen BK245.out 1; have hfz28_2 := blk_frozen BK245.out 2; have hfz28_3 := blk_frozen BK245.out 3; have hfz28_4 := blk_frozen BK245.out 4; have hfz28_5 := blk_frozen BK245.out 5; have hfz28_6 := blk_frozen BK245.out 6; have hfz28_7 := blk_frozen BK245.out 7; have hnb29 := NB243_242.out; have hnc29 := NB242_243.out; have hcz30_0 : w25.cell? ⟨gb243, 0, none⟩ = some (.int .i64 a1_0) := bc BK243 0; have hcz30_1 : w25.cell? ⟨gb243, 1, none⟩ = some (.int .i64 a1_1) := bc BK243 1; have hcz30_2 : w25.cell? ⟨gb243, 2, none⟩ = some (.slice A1_2 l1_2.length c1_2) := bc BK243 2; have hcz30_3 : w25.cell? ⟨gb243, 3, none⟩ = some (.slice A1_3 l1_3.length c1_3) := bc BK243 3; have hcz30_4 : w25.cell? ⟨gb243, 4, none⟩ = some (.slice A1_4 l1_4.length c1_4) := bc BK243 4; have hcz30_5 : w25.cell? ⟨gb243, 5, none⟩ = some (.slice A1_5 l1_5.length c1_5) := bc BK243 5; have hfz30_0 := blk_frozen BK243.out 0; have hfz30_1 := blk_frozen BK243.out 1; have hfz30_2 := blk_frozen BK243.out 2; have hfz30_3 := blk_frozen BK243.out 3; have hfz30_4 := blk_frozen BK243.out 4; have hfz30_5 := blk_frozen BK243.out 5) | ((with_reducible refine gate_callee (f := 16) rfl ?_); refine goesL_ (some 21) rfl rfl Try.func16 (by kernel_rfl) rfl #[.agg #[.int .i64 a1_0, .int .i64 a1_1, .slice A1_2 l1_2.length c1_2, .slice A1_3 l1_3.length c1_3, .slice A1_4 l1_4.length c1_4, .slice A1_5 l1_5.length c1_5], .int .i64 ((rd_T43 l0_3 x13_1).f0)] rfl (by (try simp only [List.map_toArray, List.map_cons, List.map_nil]); first | done | rfl | (simp only [List.length_drop, List.length_take]; rfl)) ?_; (with_reducible refine (arena_Find.calls a1_0 a1_1 _ _ l1_2 _ _ l1_3 _ _ l1_4 _ _ l1_5 ((rd_T43 l0_3 x13_1).f0) t246 t247 t248 t249 t250 t251 t252 t253 false _ ?side1 ?side2 ?side3 ?side4 ?side5 ?side6 ?side7 ?side8 A10.out).mono ?_); (case side1 => exact Kd.C_below HR1_2.out (kl HB)); (case side2 => exact HC1_2.out); (case side3 => exact Kd.C_below HR1_3.out (kl HB)); (case side4 => exact HC1_3.out); (case side5 => exact Kd.C_below HR1_4.out (kl HB)); (case side6 => exact HC1_4.out); (case side7 => exact Kd.C_below HR1_5.out (kl HB)); (case side8 => exact HC1_5.out); rintro e w31 ⟨rfl, hb⟩; refine ⟨_, rfl, ?_⟩; replace HO_5 := Aside0.mk (Kd.R_below (by (with_reducible repeat (first | apply Kd.R_alloc | apply Kd.R_drewN | apply Kd.R_drew)); exact (Kd.R_mono (Kd.R_far (p := ⟨gb245, 7, none⟩) (Kd.R_far (p := ⟨gb245, 6, none⟩) (Kd.R_far (p := ⟨gb245, 5, none⟩) (Kd.R_far (p := ⟨gb245, 4, none⟩) (Kd.R_far (p := ⟨gb245, 3, none⟩) (Kd.R_far (p := ⟨gb245, 2, none⟩) (Kd.R_far (p := ⟨gb245, 1, none⟩) (Kd.R_far (p := ⟨gb245, 0, none⟩) (Kd.R_types HO_5.out BK245.out (by decide)) (fun _ hk => hk.2) (.int .i64 ((rd_T43 l0_3 x13_1).f0))) (fun _ hk => hk.2) (.int .i64 ((rd_T43 l0_3 x13_1).f1))) (fun _ hk => hk.2) (.int .u8 ((rd_T43 l0_3 x13_1).f2))) (fun _ hk => hk.2) (.string ((rd_T43 l0_3 x13_1).f3))) (fun _ hk => hk.2) (.int .i64 ((rd_T43 l0_3 x13_1).f4))) (fun _ hk => hk.2) (.int .i64 ((rd_T43 l0_3 x13_1).f5))) (fun _ hk => hk.2) (.int .u8 ((rd_T43 l0_3 x13_1).f6))) (fun _ hk => hk.2) (.string ((rd_T43 l0_3 x13_1).f7))) (fun _ h_ => h_.1))) hb); replace BK242 := bf NB242_245 BK242 hb; replace BK243 := bf NB243_245 BK243 hb; replace BK245 := Aside0.mk (blk_below (g := gb245) (o := .cells #[.int .i64 ((rd_T43 l0_3 x13_1).f0), .int .i64 ((rd_T43 l0_3 x13_1).f1), .int .u8 ((rd_T43 l0_3 x13_1).f2), .string ((rd_T43 l0_3 x13_1).f3), .int .i64 ((rd_T43 l0_3 x13_1).f4), .int .i64 ((rd_T43 l0_3 x13_1).f5), .int .u8 ((rd_T43 l0_3 x13_1).f6), .string ((rd_T43 l0_3 x13_1).f7)] 43 (0, 0)) (by (with_reducible repeat (first | refine blk_drewN ?_ _ | refine blk_drew ?_ | refine blk_alloc ?_ _)); refine blk_put (cs := #[.int .i64 ((rd_T43 l0_3 x13_1).f0), .int .i64 ((rd_T43 l0_3 x13_1).f1), .int .u8 ((rd_T43 l0_3 x13_1).f2), .string ((rd_T43 l0_3 x13_1).f3), .int .i64 ((rd_T43 l0_3 x13_1).f4), .int .i64 ((rd_T43 l0_3 x13_1).f5), .int .u8 ((rd_T43 l0_3 x13_1).f6), .string (⟨#[]⟩ : ByteArray)]) ?_ 7 _ rfl; (with_reducible repeat (first | refine blk_drewN ?_ _ | refine blk_drew ?_ | refine blk_alloc ?_ _)); refine blk_put (cs := #[.int .i64 ((rd_T43 l0_3 x13_1).f0), .int .i64 ((rd_T43 l0_3 x13_1).f1), .int .u8 ((rd_T43 l0_3 x13_1).f2), .string ((rd_T43 l0_3 x13_1).f3), .int .i64 ((rd_T43 l0_3 x13_1).f4), .int .i64 ((rd_T43 l0_3 x13_1).f5), .int .u8 0, .string (⟨#[]⟩ : ByteArray)]) ?_ 6 _ rfl; (with_reducible repeat (first | refine blk_drewN ?_ _ | refine blk_drew ?_ | refine blk_alloc ?_ _)); refine blk_put (cs := #[.int .i64 ((rd_T43 l0_3 x13_1).f0), .int .i64 ((rd_T43 l0_3 x13_1).f1), .int .u8 ((rd_T43 l0_3 x13_1).f2), .string ((rd_T43 l0_3 x13_1).f3), .int .i64 ((rd_T43 l0_3 x13_1).f4), .int .i64 0, .int .u8 0, .string (⟨#[]⟩ : ByteArray)]) ?_ 5 _ rfl; (with_reducible repeat (first | refine blk_drewN ?_ _ | refine blk_drew ?_ | refine blk_alloc ?_ _)); refine blk_put (cs := #[.int .i64 ((rd_T43 l0_3 x13_1).f0), .int .i64 ((rd_T43 l0_3 x13_1).f1), .int .u8 ((rd_T43 l0_3 x13_1).f2), .string ((rd_T43 l0_3 x13_1).f3), .int .i64 0, .int .i64 0, .int .u8 0, .string (⟨#[]⟩ : ByteArray)]) ?_ 4 _ rfl; (with_reducible repeat (first | refine blk_drewN ?_ _ | refine blk_drew ?_ | refine blk_alloc ?_ _)); refine blk_put (cs := #[.int .i64 ((rd_T43 l0_3 x13_1).f0), .int .i64 ((rd_T43 l0_3 x13_1).f1), .int .u8 ((rd_T43 l0_3 x13_1).f2), .string (⟨#[]⟩ : ByteArray), .int .i64 0, .int .i64 0, .int .u8 0, .string (⟨#[]⟩ : ByteArray)]) ?_ 3 _ rfl; (with_reducible repeat (first | refine blk_drewN ?_ _ | refine blk_drew ?_ | refine blk_alloc ?_ _)); refine blk_put (cs := #[.int .i64 ((rd_T43 l0_3 x13_1).f0), .int .i64 ((rd_T43 l0_3 x13_1).f1), .int .u8 0, .string (⟨#[]⟩ : ByteArray), .int .i64 0, .int .i64 0, .int .u8 0, .string (⟨#[]⟩ : ByteArray)]) ?_ 2 _ rfl; (with_reducible repeat (first | refine blk_drewN ?_ _ | refine blk_drew ?_ | refine blk_alloc ?_ _)); refine blk_put (cs := #[.int .i64 ((rd_T43 l0_3 x13_1).f0), .int .i64 0, .int .u8 0, .string (⟨#[]⟩ : ByteArray), .int .i64 0, .int .i64 0, .int .u8 0, .string (⟨#[]⟩ : ByteArray)]) ?_ 1 _ rfl; (with_reducible repeat (first | refine blk_drewN ?_ _ | refine blk_drew ?_ | refine blk_alloc ?_ _)); refine blk_put (cs := #[.int .i64 0, .int .i64 0, .int .u8 0, .string (⟨#[]⟩ : ByteArray), .int .i64 0, .int .i64 0, .int .u8 0, .string (⟨#[]⟩ : ByteArray)]) ?_ 0 _ rfl; (with_reducible repeat (first | refine blk_drewN ?_ _ | refine blk_drew ?_ | refine blk_alloc ?_ _)); exact BK245.out) hb); replace HB := Aside0.mk (below_step (kl HB) hb); (try clear hb); (try clear hb2); (try clear hk); (try clear hi)) | ((with_reducible refine gate_dst (N := 8) rfl ?_); refine box_event ?hg (N := 8) ?hd (cs := #[.int .i64 0, .int .i64 0, .int .u8 0, .string (⟨#[]⟩ : ByteArray), .int .i64 0, .int .i64 0, .int .u8 0, .string (⟨#[]⟩ : ByteArray)]) (t := 43) ?hr ?_; (case hd => rfl); (case hg => rfl); (case hr => first | (go_simp; done) | (go_simp; rfl)); intro gb255 hg w32 hbox hb; replace HO_5 := rb HO_5 hb; have BK255 := Aside0.mk (hbox); have GW255 := Aside0.mk ((by rw [hg]; exact (below_size (kl HB)) : w.heap.size ≤ gb255)); have GE255 := Aside0.mk ((by rw [hg]; exact (below_size (kl HB)) : w.heap.size ≤ gb255)); replace HB := Aside0.mk (below_step (kl HB) hb); have NB242_255 := Aside0.mk ((by rw [hg]; exact Nat.ne_of_lt (bl BK242) : gb242 ≠ gb255)); have NB255_242 := Aside0.mk ((by rw [hg]; exact Nat.ne_of_gt (bl BK242) : gb255 ≠ gb242)); replace BK242 := bb BK242 hb; have NB243_255 := Aside0.mk ((by rw [hg]; exact Nat.ne_of_lt (bl BK243) : gb243 ≠ gb255)); have NB255_243 := Aside0.mk ((by rw [hg]; exact Nat.ne_of_gt (bl BK243) : gb255 ≠ gb243)); replace BK243 := bb BK243 hb; have NB245_255 := Aside0.mk ((by rw [hg]; exact Nat.ne_of_lt (bl BK245) : gb245 ≠ gb255)); have NB255_245 := Aside0.mk ((by rw [hg]; exact Nat.ne_of_gt (bl BK245) : gb255 ≠ gb245)); replace BK245 := bb BK245 hb; clear hb hbox hg; have hnb33 := NB255_242.out; have hnc33 := NB242_255.out; have hnb34 := NB255_243.out; have hnc34 := NB243_255.out; have hnb35 := NB255_245.out; have hnc35 := NB245_255.out; have hcz36_0 : w32.cell? ⟨gb255, 0, none⟩ = some (.int .i64 0) := bc BK255 0; have hcz36_1 : w32.cell? ⟨gb255, 1, none⟩ = some (.int .i64 0) := bc BK255 1; have hcz36_2 : w32.cell? ⟨gb255, 2, none⟩ = some (.int .u8 0) := bc BK255 2; have hcz36_3 : w32.cell? ⟨gb255, 3, none⟩ = some (.string (⟨#[]⟩ : ByteArray)) := bc BK255 3; have hcz36_4 : w32.cell? ⟨gb255, 4, none⟩ = some (.int .i64 0) := bc BK255 4; have hcz36_5 : w32.cell? ⟨gb255, 5, none⟩ = some (.int .i64 0) := bc BK255 5; have hcz36_6 : w32.cell? ⟨gb255, 6, none⟩ = some (.int .u8 0) := bc BK255 6; have hcz36_7 : w32.cell? ⟨gb255, 7, none⟩ = some (.string (⟨#[]⟩ : ByteArray)) := bc BK255 7; have hfz36_0 := blk_frozen BK255.out 0; have hfz36_1 := blk_frozen BK255.out 1; have hfz36_2 := blk_frozen BK255.out 2; have hfz36_3 := blk_frozen BK255.out 3; have hfz36_4 := blk_frozen BK255.out 4; have hfz36_5 := blk_frozen BK255.out 5; have hfz36_6 := blk_frozen BK255.out 6; have hfz36_7 := blk_frozen BK255.out 7; have hcz37_0 : w32.cell? ⟨gb245, 0, none⟩ = some (.int .i64 ((rd_T43 l0_3 x13_1).f0)) := bc BK245 0; have hcz37_1 : w32.cell? ⟨gb245, 1, none⟩ = some (.int .i64 ((rd_T43 l0_3 x13_1).f1)) := bc BK245 1; have hcz37_2 : w32.cell? ⟨gb245, 2, none⟩ = some (.int .u8 ((rd_T43 l0_3 x13_1).f2)) := bc BK245 2; have hcz37_3 : w32.cell? ⟨gb245, 3, none⟩ = some (.string ((rd_T43 l0_3 x13_1).f3)) := bc BK245 3; have hcz37_4 : w32.cell? ⟨gb245, 4, none⟩ = some (.int .i64 ((rd_T43 l0_3 x13_1).f4)) := bc BK245 4; have hcz37_5 : w32.cell? ⟨gb245, 5, none⟩ = some (.int .i64 ((rd_T43 l0_3 x13_1).f5)) := bc BK245 5; have hcz37_6 : w32.cell? ⟨gb245, 6, none⟩ = some (.int .u8 ((rd_T43 l0_3 x13_1).f6)) := bc BK245 6; have hcz37_7 : w32.cell? ⟨gb245, 7, none⟩ = some (.string ((rd_T43 l0_3 x13_1).f7)) := bc BK245 7; have hfz37_0 := blk_frozen BK245.out 0; have hfz37_1 := blk_frozen BK245.out 1; have hfz37_2 := blk_frozen BK245.out 2; have hfz37_3 := blk_frozen BK245.out 3; have hfz37_4 := blk_frozen BK245.out 4; have hfz37_5 := blk_frozen BK245.out 5; have hfz37_6 := blk_frozen BK245.out 6; have hfz37_7 := blk_frozen BK245.out 7) | ((with_reducible refine gate_builtin (b := .append) (xs := #[.tmp 26, .tmp 29]) rfl ?_); at_builtin; refine Kd.R_append (Kd.int .i64) (w0 := w) w.heap.size rfl (.tmp 26) (.tmp 29) 51 3 (.int .i64 0) 8 rfl Try.underlying51 info3 rfl (by decide) (by omega) u5 x5_1 ((rd_T43 l0_3 x13_1).f0) [.int .i64 ((rd_T43 l0_3 x13_1).f0)] (fun _ => True) (fun _ => False) rfl (by first | (go_simp; done) | (go_simp; rfl)) ?aP (fun _ hk => hk.elim) ?aF ?aO ?aB ?aS ?aL ?_; (case aP => exact rfl); (case aB => exact (kl HB)); (case aF => exact (fun _ _ => trivial)); (case aO => exact (by (with_reducible repeat (first | apply Kd.R_alloc | apply Kd.R_drewN | apply Kd.R_drew)); exact Kd.R_mono (Kd.R_far (p := ⟨gb255, 7, none⟩) (Kd.R_far (p := ⟨gb255, 6, none⟩) (Kd.R_far (p := ⟨gb255, 5, none⟩) (Kd.R_far (p := ⟨gb255, 4, none⟩) (Kd.R_far (p := ⟨gb255, 3, none⟩) (Kd.R_far (p := ⟨gb255, 2, none⟩) (Kd.R_far (p := ⟨gb255, 1, none⟩) (Kd.R_far (p := ⟨gb255, 0, none⟩) (Kd.R_types HO_5.out BK255.out (by decide)) (fun _ hk => hk.2) (.int .i64 t246)) (fun _ hk => hk.2) (.int .i64 t247)) (fun _ hk => hk.2) (.int .u8 t248)) (fun _ hk => hk.2) (.string t249)) (fun _ hk => hk.2) (.int .i64 t250)) (fun _ hk => hk.2) (.int .i64 t251)) (fun _ hk => hk.2) (.int .u8 t252)) (fun _ hk => hk.2) (.string t253)) (fun _ hk => trivial))); (case aS => exact (below_size (kl HB))); (case aL => have := LMc24.out; omega); intro v257 w38 ho hb hg hat; rw [← Ny256.out] at ho; replace BK242 := Aside0.mk (blk_grown (g := gb242) (o := .cells #[.int .i64 a0_0, .int .i64 a0_1, .slice A0_2 l0_2.length c0_2, .slice (some ad244) l0_3.length c0_3, .slice A0_4 l0_4.length c0_4, .slice A0_5 l0_5.length c0_5] 27 (0, 0)) (kf NB242_255 BK242) hg (Kd.R_ne HO_5.out BK242.out (by decide))); replace BK243 := Aside0.mk (blk_grown (g := gb243) (o := .cells #[.int .i64 a1_0, .int .i64 a1_1, .slice A1_2 l1_2.length c1_2, .slice A1_3 l1_3.length c1_3, .slice A1_4 l1_4.length c1_4, .slice A1_5 l1_5.length c1_5] 27 (0, 0)) (kf NB243_255 BK243) hg (Kd.R_ne HO_5.out BK243.out (by decide))); replace BK245 := Aside0.mk (blk_grown (g := gb245) (o := .cells #[.int .i64 ((rd_T43 l0_3 x13_1).f0), .int .i64 ((rd_T43 l0_3 x13_1).f1), .int .u8 ((rd_T43 l0_3 x13_1).f2), .string ((rd_T43 l0_3 x13_1).f3), .int .i64 ((rd_T43 l0_3 x13_1).f4), .int .i64 ((rd_T43 l0_3 x13_1).f5), .int .u8 ((rd_T43 l0_3 x13_1).f6), .string ((rd_T43 l0_3 x13_1).f7)] 43 (0, 0)) (kf NB245_255 BK245) hg (Kd.R_ne HO_5.out BK245.out (by decide))); replace BK255 := Aside0.mk (blk_grown (g := gb255) (o := .cells #[.int .i64 t246, .int .i64 t247, .int .u8 t248, .string t249, .int .i64 t250, .int .i64 t251, .int .u8 t252, .string t253] 43 (0, 0)) (by (with_reducible repeat (first | refine blk_drewN ?_ _ | refine blk_drew ?_ | refine blk_alloc ?_ _)); refine blk_put (cs := #[.int .i64 t246, .int .i64 t247, .int .u8 t248, .string t249, .int .i64 t250, .int .i64 t251, .int .u8 t252, .string (⟨#[]⟩ : ByteArray)]) ?_ 7 _ rfl; (with_reducible repeat (first | refine blk_drewN ?_ _ | refine blk_drew ?_ | refine blk_alloc ?_ _)); refine blk_put (cs := #[.int .i64 t246, .int .i64 t247, .int .u8 t248, .string t249, .int .i64 t250, .int .i64 t251, .int .u8 0, .string (⟨#[]⟩ : ByteArray)]) ?_ 6 _ rfl; (with_reducible repeat (first | refine blk_drewN ?_ _ | refine blk_drew ?_ | refine blk_alloc ?_ _)); refine blk_put (cs := #[.int .i64 t246, .int .i64 t247, .int .u8 t248, .string t249, .int .i64 t250, .int .i64 0, .int .u8 0, .string (⟨#[]⟩ : ByteArray)]) ?_ 5 _ rfl; (with_reducible repeat (first | refine blk_drewN ?_ _ | refine blk_drew ?_ | refine blk_alloc ?_ _)); refine blk_put (cs := #[.int .i64 t246, .int .i64 t247, .int .u8 t248, .string t249, .int .i64 0, .int .i64 0, .int .u8 0, .string (⟨#[]⟩ : ByteArray)]) ?_ 4 _ rfl; (with_reducible repeat (first | refine blk_drewN ?_ _ | refine blk_drew ?_ | refine blk_alloc ?_ _)); refine blk_put (cs := #[.int .i64 t246, .int .i64 t247, .int .u8 t248, .string (⟨#[]⟩ : ByteArray), .int .i64 0, .int .i64 0, .int .u8 0, .string (⟨#[]⟩ : ByteArray)]) ?_ 3 _ rfl; (with_reducible repeat (first | refine blk_drewN ?_ _ | refine blk_drew ?_ | refine blk_alloc ?_ _)); refine blk_put (cs := #[.int .i64 t246, .int .i64 t247, .int .u8 0, .string (⟨#[]⟩ : ByteArray), .int .i64 0, .int .i64 0, .int .u8 0, .string (⟨#[]⟩ : ByteArray)]) ?_ 2 _ rfl; (with_reducible repeat (first | refine blk_drewN ?_ _ | refine blk_drew ?_ | refine blk_alloc ?_ _)); refine blk_put (cs := #[.int .i64 t246, .int .i64 0, .int .u8 0, .string (⟨#[]⟩ : ByteArray), .int .i64 0, .int .i64 0, .int .u8 0, .string (⟨#[]⟩ : ByteArray)]) ?_ 1 _ rfl; (with_reducible repeat (first | refine blk_drewN ?_ _ | refine blk_drew ?_ | refine blk_alloc ?_ _)); refine blk_put (cs := #[.int .i64 0, .int .i64 0, .int .u8 0, .string (⟨#[]⟩ : ByteArray), .int .i64 0, .int .i64 0, .int .u8 0, .string (⟨#[]⟩ : ByteArray)]) ?_ 0 _ rfl; (with_reducible repeat (first | refine blk_drewN ?_ _ | refine blk_drew ?_ | refine blk_alloc ?_ _)); exact BK255.out) hg (Kd.R_ne HO_5.out BK255.out (by decide))); replace HB := Aside0.mk (hb); have HO258 := Aside0.mk (ho); clear HO_5; clear ho hb hg hat))
        go_roundg k1
        case measure => have := HK1.out; omega
        case rel => exact ⟨(y256), (wrap64 (x13_1 + 1)), (by first | rfl | (simp; done) | (simp [*]; done)), H', ⟨by have := HK1.out; omega⟩, ⟨kr HO258⟩, ⟨kb BK242⟩, ⟨kb BK243⟩, ⟨kl HB⟩⟩
       ·rw [if_neg c24] at H
        exact absurd H (by simp)
     ·rw [if_neg c9] at H
      exact absurd H (by simp)
    ·rw [if_neg c8] at H
     exact absurd H (by simp)
   ·rw [if_neg c7] at H
    have c7b0 : decide (x13_1 < (l0_3.length : Int)) = false := decide_eq_false c7
    clear c7
    replace H := Option.bind_eq_some_iff.mp H
    obtain ⟨t259, A390, H⟩ := H
    replace H : ((slices_Compact_int_int.f t259).bind fun t260 => (some t260)) = some r := H
    have A39 := Aside0.mk A390
    clear A390
    replace H := Option.bind_eq_some_iff.mp H
    obtain ⟨t260, A400, H⟩ := H
    replace H : (some t260) = some r := H
    have A40 := Aside0.mk A400
    clear A400
    obtain rfl := Option.some.inj H
    obtain ⟨Ao41, co41, eo41⟩ := Kd.R_slice HO_5.out
    subst eo41
    go_wp2_with (first | ((with_reducible refine gate_callee (f := 108) rfl ?_); refine goesL_ (some 33) rfl rfl Try.func108 (by kernel_rfl) rfl #[.slice Ao41 x5_1.length co41] rfl (by (try simp only [List.map_toArray, List.map_cons, List.map_nil]); first | done | rfl | (simp only [List.length_drop, List.length_take]; rfl)) ?_; (with_reducible refine (slices_Sort_int_int.calls (fun k_ => some k_ = (.slice Ao41 x5_1.length co41 : Value).ownBlock) (.slice Ao41 x5_1.length co41) x5_1 t259 w _ ?side1 ?side2 A39.out).mono ?_); (case side1 => repeat (first | (with_reducible first | exact HB.out | apply below_alloc | apply pw_below_drewN | apply below_drew1 | refine below_set ?_ GE242.out | refine below_set ?_ GE243.out) | exact HB.out)); (case side2 => exact Kd.R_tight rfl HO_5.out); rintro e w42 ⟨rfl, hy0, hb, hkp⟩; refine ⟨_, rfl, ?_⟩; replace BK242 := Aside0.mk (blk_kept (kb BK242) hkp (fun hs_ => (fun e_ => (Kd.R_ne HO_5.out BK242.out (by decide)) e_) hs_)); replace BK243 := Aside0.mk (blk_kept (kb BK243) hkp (fun hs_ => (fun e_ => (Kd.R_ne HO_5.out BK243.out (by decide)) e_) hs_)); replace HO_5 := Aside0.mk (Kd.R_reok rfl hy0 (fun k_ e_ => HO_5.out.1 k_ e_)); replace HB := Aside0.mk (hb); (try clear hb); (try clear hkp); (try clear hy0)) | ((with_reducible refine gate_callee (f := 70) rfl ?_); refine goesL_ (some 35) rfl rfl Try.func70 (by kernel_rfl) rfl #[.slice Ao41 x5_1.length co41] rfl (by (try simp only [List.map_toArray, List.map_cons, List.map_nil]); first | done | rfl | (simp only [List.length_drop, List.length_take]; rfl)) ?_; (with_reducible refine (slices_Compact_int_int.calls (fun k_ => some k_ = (.slice Ao41 x5_1.length co41 : Value).ownBlock) (.slice Ao41 x5_1.length co41) t259 t260 w _ ?side1 ?side2 A40.out).mono ?_); (case side1 => repeat (first | (with_reducible first | exact HB.out | apply below_alloc | apply pw_below_drewN | apply below_drew1 | refine below_set ?_ GE242.out | refine below_set ?_ GE243.out) | exact HB.out)); (case side2 => exact Kd.R_tight rfl HO_5.out); rintro e w43 ⟨v261, rfl, ho0, hb, hkp⟩; refine ⟨_, rfl, ?_⟩; replace BK242 := Aside0.mk (blk_kept (kb BK242) hkp (fun hs_ => (fun e_ => (Kd.R_ne HO_5.out BK242.out (by decide)) e_) hs_)); replace BK243 := Aside0.mk (blk_kept (kb BK243) hkp (fun hs_ => (fun e_ => (Kd.R_ne HO_5.out BK243.out (by decide)) e_) hs_)); have HO262 := Aside0.mk (Kd.R_mono (ok' := fun k_ => True) ho0 (fun k_ hk_ => trivial)); replace HB := Aside0.mk (hb); clear HO_5; (try clear hb); (try clear hkp); (try clear ho0)))
    go_ret
    exact ⟨_, by first | rfl | (simp [errW_none, errW_some] <;> rfl) | (simp [*, errW_none, errW_some] <;> rfl), kr HO262, kl HB⟩

end Go.Proofs.Ythonmfcollafkaa.P
-- GENERATED by wip/gen.py (this session's own driver of a mended copy of the printer). Not trusted: Lean checks it.
namespace Go.Proofs.Ythonmfcollafkaa.P
open Go.RowKit Go.Proofs.YthonmfcollafkaaW.PrintWords Go.Proofs.YthonmfcollafkaaW.PrintLast Go.Proofs.YthonmfcollafkaaW.PrintMore
attribute [local go_sem] Go.Proofs.YthonmfcollafkaaB.less_swap Go.Proofs.YthonmfcollafkaaB.less_or max2_int min2_int max_two min_two max_three min_three max_four min_four   -- for this text's walks alone
set_option linter.unusedVariables false
set_option linter.unusedSimpArgs false

/-! ### callboardlaw21_tower: function 52 -/
def callboardlaw21_tower.l0 : Nat → Int → Int → Int → List (S43) → List (S129) → List (S132) → Option (Int × Int × (List (S34)) × (List (S43)) × (List (S129)) × (List (S132)))
 | 0, _, _, _, _, _, _ => none
 | k + 1, x2, x268000, x268001, x268003, x268004, x268005 => if x2 ≤ 5 then (if x268004.length < 2513169434916 then (if x268005.length < 2199023255552 then (callboardlaw21_tower.l0 k (wrap64 (x2 + 1)) x268000 x268001 x268003 (x268004 ++ [(⟨x2, (⟨#[120]⟩ : ByteArray), (⟨0, 0, (⟨#[]⟩ : ByteArray)⟩ : S127)⟩ : S129)]) (x268005 ++ [(⟨wrap64 (10 + x2), x2, 0, 0, (⟨#[]⟩ : ByteArray), 0, false⟩ : S132)])) else (none)) else (none)) else (some (x268000, x268001, ([] : List (S34)), x268003, x268004, x268005))
def callboardlaw21_tower.f (k : Nat)  : Option (Int × Int × (List (S34)) × (List (S43)) × (List (S129)) × (List (S132))) := callboardlaw21_tower.l0 k 1 7 9 (([(⟨1, 0, 1, (⟨#[]⟩ : ByteArray), (-1), 0, 0, (⟨#[]⟩ : ByteArray)⟩ : S43), (⟨2, 1, 2, (⟨#[]⟩ : ByteArray), 0, 0, 0, (⟨#[]⟩ : ByteArray)⟩ : S43), (⟨3, 2, 1, (⟨#[]⟩ : ByteArray), 0, 0, 0, (⟨#[]⟩ : ByteArray)⟩ : S43), (⟨4, 3, 2, (⟨#[]⟩ : ByteArray), 0, 0, 0, (⟨#[]⟩ : ByteArray)⟩ : S43), (⟨5, 1, 2, (⟨#[]⟩ : ByteArray), 0, 0, 0, (⟨#[]⟩ : ByteArray)⟩ : S43)] : List (S43))) ([] : List (S129)) ([] : List (S132))
theorem callboardlaw21_tower.mono_l : ∀ k, (∀ y0 y1 y2 y3 y4 y5, LeO (callboardlaw21_tower.l0 k y0 y1 y2 y3 y4 y5) (callboardlaw21_tower.l0 (k + 1) y0 y1 y2 y3 y4 y5))
 | 0 => fun _ _ _ _ _ _ r h => by simp [callboardlaw21_tower.l0] at h
 | k + 1 => by
  have ih0 := callboardlaw21_tower.mono_l k
  ·intro y0 y1 y2 y3 y4 y5
   unfold callboardlaw21_tower.l0
   repeat' first
   | (with_reducible exact ih0 _ _ _ _ _ _)
   | (with_reducible exact LeO.refl _)
   | (with_reducible exact LeO.none _)
   | (with_reducible refine LeO.ite ?_ ?_)
   | (with_reducible refine LeO.bind ?_ (fun _ => ?_))
   | exact ih0 _ _ _ _ _ _
   | exact LeO.none _
   | refine LeO.ite ?_ ?_
   | refine LeO.bind ?_ (fun _ => ?_)
theorem callboardlaw21_tower.mono : ∀ k, LeO (callboardlaw21_tower.f k ) (callboardlaw21_tower.f (k + 1) ) := by
 intro  k
 have ih0 := callboardlaw21_tower.mono_l k
 unfold callboardlaw21_tower.f
 repeat' first
   | (with_reducible exact ih0 _ _ _ _ _ _)
   | (with_reducible exact LeO.refl _)
   | (with_reducible exact LeO.none _)
   | (with_reducible refine LeO.ite ?_ ?_)
   | (with_reducible refine LeO.bind ?_ (fun _ => ?_))
   | exact ih0 _ _ _ _ _ _
   | exact LeO.none _
   | refine LeO.ite ?_ ?_
   | refine LeO.bind ?_ (fun _ => ?_)
set_option maxHeartbeats 8000000 in
set_option maxRecDepth 100000 in
theorem callboardlaw21_tower.calls (k : Nat)  (r1 : Int) (r2 : Int) (r3 : List (S34)) (r4 : List (S43)) (r5 : List (S129)) (r6 : List (S132)) (w : World) (h : callboardlaw21_tower.f k  = some (r1, r2, r3, r4, r5, r6)) :
  Calls Try.prog 52 #[] w fun e w' => ∃ v2_ v3_ v4_ v5_ : Value, e = .returned (.agg #[.int .i64 r1, .int .i64 r2, v2_, v3_, v4_, v5_]) ∧ Kd.R k34 34 w' w.heap.size (fun _ => True) v2_ r3 ∧ Kd.R k43 43 w' w.heap.size (fun _ => True) v3_ r4 ∧ Kd.R k129 129 w' w.heap.size (fun _ => True) v4_ r5 ∧ Kd.R k132 132 w' w.heap.size (fun _ => True) v5_ r6 ∧ Below w.heap.size w w' := by
 have hu27 := Try.underlying27
 have hu43 := Try.underlying43
 have hu129 := Try.underlying129
 have hu132 := Try.underlying132
 have HB := Aside0.mk (Below.refl w.heap.size w)
 have H : (callboardlaw21_tower.l0 k 1 7 9 (([(⟨1, 0, 1, (⟨#[]⟩ : ByteArray), (-1), 0, 0, (⟨#[]⟩ : ByteArray)⟩ : S43), (⟨2, 1, 2, (⟨#[]⟩ : ByteArray), 0, 0, 0, (⟨#[]⟩ : ByteArray)⟩ : S43), (⟨3, 2, 1, (⟨#[]⟩ : ByteArray), 0, 0, 0, (⟨#[]⟩ : ByteArray)⟩ : S43), (⟨4, 3, 2, (⟨#[]⟩ : ByteArray), 0, 0, 0, (⟨#[]⟩ : ByteArray)⟩ : S43), (⟨5, 1, 2, (⟨#[]⟩ : ByteArray), 0, 0, 0, (⟨#[]⟩ : ByteArray)⟩ : S43)] : List (S43))) ([] : List (S129)) ([] : List (S132))) = some (r1, r2, r3, r4, r5, r6) := h
 clear h
 obtain ⟨y264, hy264⟩ : ∃ y_ : List (S43), y_ = (([(⟨1, 0, 1, (⟨#[]⟩ : ByteArray), (-1), 0, 0, (⟨#[]⟩ : ByteArray)⟩ : S43), (⟨2, 1, 2, (⟨#[]⟩ : ByteArray), 0, 0, 0, (⟨#[]⟩ : ByteArray)⟩ : S43), (⟨3, 2, 1, (⟨#[]⟩ : ByteArray), 0, 0, 0, (⟨#[]⟩ : ByteArray)⟩ : S43), (⟨4, 3, 2, (⟨#[]⟩ : ByteArray), 0, 0, 0, (⟨#[]⟩ : ByteArray)⟩ : S43), (⟨5, 1, 2, (⟨#[]⟩ : ByteArray), 0, 0, 0, (⟨#[]⟩ : ByteArray)⟩ : S43)] : List (S43))) := ⟨_, rfl⟩
 replace H : (callboardlaw21_tower.l0 k 1 7 9 y264 ([] : List (S129)) ([] : List (S132))) = some (r1, r2, r3, r4, r5, r6) := by first | (rw [hy264]; with_reducible exact H) | (have H2_ := (Option.bind_some _ _).symm.trans H; rw [hy264]; with_reducible exact H2_) | (have H2_ := (Option.bind_some _ _).symm.trans H; with_reducible exact H2_) | with_reducible exact H | (rw [hy264]; exact H) | exact H
 have Ny264 := Aside0.mk hy264
 clear hy264
 have H' := Aside0.mk H
 clear H
 go_enter Try.func52, Try.ntmps52
 go_wp2_with (first | ((with_reducible refine gate_dst (N := 0) rfl ?_); refine box_event ?hg (N := 0) ?hd (cs := #[.int .i64 0, .int .i64 0, .slice none 0 0, .slice none 0 0, .slice none 0 0, .slice none 0 0]) (t := 27) ?hr ?_; (case hd => rfl); (case hg => rfl); (case hr => first | (go_simp; done) | (go_simp; rfl)); intro gb263 hg w1 hbox hb; have BK263 := Aside0.mk (hbox); have GW263 := Aside0.mk ((by rw [hg]; exact (below_size (kl HB)) : w.heap.size ≤ gb263)); have GE263 := Aside0.mk ((by rw [hg]; exact (below_size (kl HB)) : w.heap.size ≤ gb263)); replace HB := Aside0.mk (below_step (kl HB) hb); clear hb hbox hg) | ((with_reducible refine gate_dst (N := 8) rfl ?_); refine Kd.R_lit k43 _ 43 ?hg (N := 8) ?hd (xs := ([(⟨1, 0, 1, (⟨#[]⟩ : ByteArray), (-1), 0, 0, (⟨#[]⟩ : ByteArray)⟩ : S43), (⟨2, 1, 2, (⟨#[]⟩ : ByteArray), 0, 0, 0, (⟨#[]⟩ : ByteArray)⟩ : S43), (⟨3, 2, 1, (⟨#[]⟩ : ByteArray), 0, 0, 0, (⟨#[]⟩ : ByteArray)⟩ : S43), (⟨4, 3, 2, (⟨#[]⟩ : ByteArray), 0, 0, 0, (⟨#[]⟩ : ByteArray)⟩ : S43), (⟨5, 1, 2, (⟨#[]⟩ : ByteArray), 0, 0, 0, (⟨#[]⟩ : ByteArray)⟩ : S43)] : List (S43))) (inner := [.int .i64 1, .int .i64 0, .int .u8 1, .string (⟨#[]⟩ : ByteArray), .int .i64 (-1), .int .i64 0, .int .u8 0, .string (⟨#[]⟩ : ByteArray), .int .i64 2, .int .i64 1, .int .u8 2, .string (⟨#[]⟩ : ByteArray), .int .i64 0, .int .i64 0, .int .u8 0, .string (⟨#[]⟩ : ByteArray), .int .i64 3, .int .i64 2, .int .u8 1, .string (⟨#[]⟩ : ByteArray), .int .i64 0, .int .i64 0, .int .u8 0, .string (⟨#[]⟩ : ByteArray), .int .i64 4, .int .i64 3, .int .u8 2, .string (⟨#[]⟩ : ByteArray), .int .i64 0, .int .i64 0, .int .u8 0, .string (⟨#[]⟩ : ByteArray), .int .i64 5, .int .i64 1, .int .u8 2, .string (⟨#[]⟩ : ByteArray), .int .i64 0, .int .i64 0, .int .u8 0, .string (⟨#[]⟩ : ByteArray)]) (ok := fun _ => True) (okp := fun _ => True) ?hr ?hp (fun _ hk => hk) trivial (Below.refl _ _) (Nat.le_refl _) (by simp) ?_; (case hd => rfl); (case hg => rfl); (case hr => first | (go_simp; done) | (go_simp; rfl)); (case hp => exact (Reps.c8 (show Kd.M k43 _ _ _ (⟨1, 0, 1, (⟨#[]⟩ : ByteArray), (-1), 0, 0, (⟨#[]⟩ : ByteArray)⟩ : S43) [.int .i64 1, .int .i64 0, .int .u8 1, .string (⟨#[]⟩ : ByteArray), .int .i64 (-1), .int .i64 0, .int .u8 0, .string (⟨#[]⟩ : ByteArray)] from (k43_mkM _ _ _ (⟨1, 0, 1, (⟨#[]⟩ : ByteArray), (-1), 0, 0, (⟨#[]⟩ : ByteArray)⟩ : S43) )) (Reps.c8 (show Kd.M k43 _ _ _ (⟨2, 1, 2, (⟨#[]⟩ : ByteArray), 0, 0, 0, (⟨#[]⟩ : ByteArray)⟩ : S43) [.int .i64 2, .int .i64 1, .int .u8 2, .string (⟨#[]⟩ : ByteArray), .int .i64 0, .int .i64 0, .int .u8 0, .string (⟨#[]⟩ : ByteArray)] from (k43_mkM _ _ _ (⟨2, 1, 2, (⟨#[]⟩ : ByteArray), 0, 0, 0, (⟨#[]⟩ : ByteArray)⟩ : S43) )) (Reps.c8 (show Kd.M k43 _ _ _ (⟨3, 2, 1, (⟨#[]⟩ : ByteArray), 0, 0, 0, (⟨#[]⟩ : ByteArray)⟩ : S43) [.int .i64 3, .int .i64 2, .int .u8 1, .string (⟨#[]⟩ : ByteArray), .int .i64 0, .int .i64 0, .int .u8 0, .string (⟨#[]⟩ : ByteArray)] from (k43_mkM _ _ _ (⟨3, 2, 1, (⟨#[]⟩ : ByteArray), 0, 0, 0, (⟨#[]⟩ : ByteArray)⟩ : S43) )) (Reps.c8 (show Kd.M k43 _ _ _ (⟨4, 3, 2, (⟨#[]⟩ : ByteArray), 0, 0, 0, (⟨#[]⟩ : ByteArray)⟩ : S43) [.int .i64 4, .int .i64 3, .int .u8 2, .string (⟨#[]⟩ : ByteArray), .int .i64 0, .int .i64 0, .int .u8 0, .string (⟨#[]⟩ : ByteArray)] from (k43_mkM _ _ _ (⟨4, 3, 2, (⟨#[]⟩ : ByteArray), 0, 0, 0, (⟨#[]⟩ : ByteArray)⟩ : S43) )) (Reps.c8 (show Kd.M k43 _ _ _ (⟨5, 1, 2, (⟨#[]⟩ : ByteArray), 0, 0, 0, (⟨#[]⟩ : ByteArray)⟩ : S43) [.int .i64 5, .int .i64 1, .int .u8 2, .string (⟨#[]⟩ : ByteArray), .int .i64 0, .int .i64 0, .int .u8 0, .string (⟨#[]⟩ : ByteArray)] from (k43_mkM _ _ _ (⟨5, 1, 2, (⟨#[]⟩ : ByteArray), 0, 0, 0, (⟨#[]⟩ : ByteArray)⟩ : S43) )) (Reps.none _ _))))))); intro v265 w2 ho3 hb hg_ hnew_; clear hg_ hnew_; (first | rw [← Ny264.out] at ho3 | (simp only [Int.reduceToNat] at ho3; rw [← Ny264.out] at ho3)); have HO266 := Aside0.mk (Kd.R_lower ho3 (below_size (kl HB))); replace BK263 := bb BK263 hb; replace HB := Aside0.mk (below_step (kl HB) hb); clear hb ho3; obtain ⟨Ao4, co4, eo4⟩ := Kd.R_slice HO266.out; subst eo4) | ((with_reducible refine gate_dst (N := 1) rfl ?_); refine box_event ?hg (N := 1) ?hd (cs := #[.int .i64 0, .int .i64 0, .slice none 0 0, .slice none 0 0, .slice none 0 0, .slice none 0 0]) (t := 27) ?hr ?_; (case hd => rfl); (case hg => rfl); (case hr => first | (go_simp; done) | (go_simp; rfl)); intro gb267 hg w5 hbox hb; replace HO266 := rb HO266 hb; have BK267 := Aside0.mk (hbox); have GW267 := Aside0.mk ((by rw [hg]; exact (below_size (kl HB)) : w.heap.size ≤ gb267)); have GE267 := Aside0.mk ((by rw [hg]; exact (below_size (kl HB)) : w.heap.size ≤ gb267)); replace HB := Aside0.mk (below_step (kl HB) hb); have NB263_267 := Aside0.mk ((by rw [hg]; exact Nat.ne_of_lt (bl BK263) : gb263 ≠ gb267)); have NB267_263 := Aside0.mk ((by rw [hg]; exact Nat.ne_of_gt (bl BK263) : gb267 ≠ gb263)); replace BK263 := bb BK263 hb; clear hb hbox hg; have hnb6 := NB267_263.out; have hnc6 := NB263_267.out; have hcz7_0 : w5.cell? ⟨gb267, 0, none⟩ = some (.int .i64 0) := bc BK267 0; have hcz7_1 : w5.cell? ⟨gb267, 1, none⟩ = some (.int .i64 0) := bc BK267 1; have hcz7_2 : w5.cell? ⟨gb267, 2, none⟩ = some (.slice none 0 0) := bc BK267 2; have hcz7_3 : w5.cell? ⟨gb267, 3, none⟩ = some (.slice none 0 0) := bc BK267 3; have hcz7_4 : w5.cell? ⟨gb267, 4, none⟩ = some (.slice none 0 0) := bc BK267 4; have hcz7_5 : w5.cell? ⟨gb267, 5, none⟩ = some (.slice none 0 0) := bc BK267 5; have hfz7_0 := blk_frozen BK267.out 0; have hfz7_1 := blk_frozen BK267.out 1; have hfz7_2 := blk_frozen BK267.out 2; have hfz7_3 := blk_frozen BK267.out 3; have hfz7_4 := blk_frozen BK267.out 4; have hfz7_5 := blk_frozen BK267.out 5))
 go_loopg [2] k (fun kq v2 w' => ∃ (x2_1 : Int) (x268004_1 : List (S129)) (x268005_1 : List (S132)) (u268004 : Value) (u268005 : Value), v2 = .int .i64 x2_1 ∧ Aside0 (callboardlaw21_tower.l0 kq x2_1 7 9 y264 x268004_1 x268005_1 = some (r1, r2, r3, r4, r5, r6)) ∧ Aside0 (kq ≤ k) ∧ Aside0 (Kd.R k43 43 w' w.heap.size (fun _ => True) (.slice Ao4 y264.length co4) y264) ∧ Aside0 (Kd.R k129 129 w' w.heap.size (fun _ => True) u268004 x268004_1) ∧ Aside0 (Kd.R k132 132 w' w.heap.size (fun _ => True) u268005 x268005_1) ∧ Aside0 (w'.heap[gb263]? = some (.cells #[.int .i64 0, .int .i64 0, (.slice none 0 0), (.slice none 0 0), (.slice none 0 0), (.slice none 0 0)] 27 (0, 0))) ∧ Aside0 (w'.heap[gb267]? = some (.cells #[.int .i64 7, .int .i64 9, (.slice none 0 0), (.slice Ao4 y264.length co4), u268004, u268005] 27 (0, 0))) ∧ Aside0 (Below w.heap.size w w'))
 case atStart => exact ⟨(1), (([] : List (S129))), (([] : List (S132))), (.slice none 0 0), (.slice none 0 0), (by first | rfl | (simp; done) | (simp [*]; done)), H', ⟨Nat.le_refl _⟩, ⟨by (with_reducible repeat (first | apply Kd.R_alloc | apply Kd.R_drewN | apply Kd.R_drew)); exact Kd.R_mono (Kd.R_far (p := ⟨gb267, 5, none⟩) (Kd.R_far (p := ⟨gb267, 4, none⟩) (Kd.R_far (p := ⟨gb267, 3, none⟩) (Kd.R_far (p := ⟨gb267, 2, none⟩) (Kd.R_far (p := ⟨gb267, 1, none⟩) (Kd.R_far (p := ⟨gb267, 0, none⟩) (Kd.R_types HO266.out BK267.out (by decide)) (fun _ hk => hk.2) (.int .i64 7)) (fun _ hk => hk.2) (.int .i64 9)) (fun _ hk => hk.2) (.slice none 0 0)) (fun _ hk => hk.2) (.slice Ao4 y264.length co4)) (fun _ hk => hk.2) (.slice none 0 0)) (fun _ hk => hk.2) (.slice none 0 0)) (fun _ hk => trivial)⟩, ⟨by first | exact Kd.R_nil _ _ _ _ _ | exact Kd.N_nil _ _ _ _ _ | exact Kd.V_nil _ _ _ _ _ | exact Kd.Q_nil _ _ _ _ _ | exact Kd.S_nil _ _ _ _ _⟩, ⟨by first | exact Kd.R_nil _ _ _ _ _ | exact Kd.N_nil _ _ _ _ _ | exact Kd.V_nil _ _ _ _ _ | exact Kd.Q_nil _ _ _ _ _ | exact Kd.S_nil _ _ _ _ _⟩, ⟨kf NB263_267 BK263⟩, ⟨by (with_reducible repeat (first | refine blk_drewN ?_ _ | refine blk_drew ?_ | refine blk_alloc ?_ _)); refine blk_put (cs := #[.int .i64 7, .int .i64 9, .slice none 0 0, .slice Ao4 y264.length co4, .slice none 0 0, .slice none 0 0]) ?_ 5 _ rfl; (with_reducible repeat (first | refine blk_drewN ?_ _ | refine blk_drew ?_ | refine blk_alloc ?_ _)); refine blk_put (cs := #[.int .i64 7, .int .i64 9, .slice none 0 0, .slice Ao4 y264.length co4, .slice none 0 0, .slice none 0 0]) ?_ 4 _ rfl; (with_reducible repeat (first | refine blk_drewN ?_ _ | refine blk_drew ?_ | refine blk_alloc ?_ _)); refine blk_put (cs := #[.int .i64 7, .int .i64 9, .slice none 0 0, .slice none 0 0, .slice none 0 0, .slice none 0 0]) ?_ 3 _ rfl; (with_reducible repeat (first | refine blk_drewN ?_ _ | refine blk_drew ?_ | refine blk_alloc ?_ _)); refine blk_put (cs := #[.int .i64 7, .int .i64 9, .slice none 0 0, .slice none 0 0, .slice none 0 0, .slice none 0 0]) ?_ 2 _ rfl; (with_reducible repeat (first | refine blk_drewN ?_ _ | refine blk_drew ?_ | refine blk_alloc ?_ _)); refine blk_put (cs := #[.int .i64 7, .int .i64 0, .slice none 0 0, .slice none 0 0, .slice none 0 0, .slice none 0 0]) ?_ 1 _ rfl; (with_reducible repeat (first | refine blk_drewN ?_ _ | refine blk_drew ?_ | refine blk_alloc ?_ _)); refine blk_put (cs := #[.int .i64 0, .int .i64 0, .slice none 0 0, .slice none 0 0, .slice none 0 0, .slice none 0 0]) ?_ 0 _ rfl; (with_reducible repeat (first | refine blk_drewN ?_ _ | refine blk_drew ?_ | refine blk_alloc ?_ _)); exact BK267.out⟩, ⟨kl HB⟩⟩
 case round =>
  clear H'
  try clear p2
  try clear c5
  try clear c6
  try clear hcz7_0
  try clear hcz7_1
  try clear hcz7_2
  try clear hcz7_3
  try clear hcz7_4
  try clear hcz7_5
  try clear hfz7_0
  try clear hfz7_1
  try clear hfz7_2
  try clear hfz7_3
  try clear hfz7_4
  try clear hfz7_5
  obtain ⟨x2_1, x268004_1, x268005_1, u268004, u268005, rfl, HA, HK1, HO_268003, HO_268004, HO_268005, BK263, BK267, HB⟩ := hrel
  cases gk with
  | zero => exact absurd HA.out (by simp [callboardlaw21_tower.l0])
  | succ k1 =>
   have H := HA.out
   clear HA
   simp only [callboardlaw21_tower.l0] at H
   by_cases c8 : x2_1 ≤ 5
   ·rw [if_pos c8] at H
    have c8b0 : decide (x2_1 ≤ 5) = true := decide_eq_true c8
    clear c8
    by_cases c9 : x268004_1.length < 2513169434916
    ·rw [if_pos c9] at H
     have LMc9 := Aside0.mk c9
     clear c9
     obtain ⟨y268, hy268⟩ : ∃ y_ : List (S129), y_ = (x268004_1 ++ [(⟨x2_1, (⟨#[120]⟩ : ByteArray), (⟨0, 0, (⟨#[]⟩ : ByteArray)⟩ : S127)⟩ : S129)]) := ⟨_, rfl⟩
     replace H : (if x268005_1.length < 2199023255552 then (callboardlaw21_tower.l0 k1 (wrap64 (x2_1 + 1)) 7 9 y264 y268 (x268005_1 ++ [(⟨wrap64 (10 + x2_1), x2_1, 0, 0, (⟨#[]⟩ : ByteArray), 0, false⟩ : S132)])) else (none)) = some (r1, r2, r3, r4, r5, r6) := by first | (rw [hy268]; with_reducible exact H) | (have H2_ := (Option.bind_some _ _).symm.trans H; rw [hy268]; with_reducible exact H2_) | (have H2_ := (Option.bind_some _ _).symm.trans H; with_reducible exact H2_) | with_reducible exact H | (rw [hy268]; exact H) | exact H
     have Ny268 := Aside0.mk hy268
     clear hy268
     by_cases c10 : x268005_1.length < 2199023255552
     ·rw [if_pos c10] at H
      have LMc10 := Aside0.mk c10
      clear c10
      obtain ⟨y271, hy271⟩ : ∃ y_ : List (S132), y_ = (x268005_1 ++ [(⟨wrap64 (10 + x2_1), x2_1, 0, 0, (⟨#[]⟩ : ByteArray), 0, false⟩ : S132)]) := ⟨_, rfl⟩
      replace H : (callboardlaw21_tower.l0 k1 (wrap64 (x2_1 + 1)) 7 9 y264 y268 y271) = some (r1, r2, r3, r4, r5, r6) := by first | (rw [hy271]; with_reducible exact H) | (have H2_ := (Option.bind_some _ _).symm.trans H; rw [hy271]; with_reducible exact H2_) | (have H2_ := (Option.bind_some _ _).symm.trans H; with_reducible exact H2_) | with_reducible exact H | (rw [hy271]; exact H) | exact H
      have Ny271 := Aside0.mk hy271
      clear hy271
      have H' := Aside0.mk H
      clear H
      have hnb11 := NB267_263.out
      have hnc11 := NB263_267.out
      have hcz12_0 : wr.cell? ⟨gb267, 0, none⟩ = some (.int .i64 7) := bc BK267 0
      have hcz12_1 : wr.cell? ⟨gb267, 1, none⟩ = some (.int .i64 9) := bc BK267 1
      have hcz12_2 : wr.cell? ⟨gb267, 2, none⟩ = some (.slice none 0 0) := bc BK267 2
      have hcz12_3 : wr.cell? ⟨gb267, 3, none⟩ = some (.slice Ao4 y264.length co4) := bc BK267 3
      have hcz12_4 : wr.cell? ⟨gb267, 4, none⟩ = some (u268004) := bc BK267 4
      have hcz12_5 : wr.cell? ⟨gb267, 5, none⟩ = some (u268005) := bc BK267 5
      have hfz12_0 := blk_frozen BK267.out 0
      have hfz12_1 := blk_frozen BK267.out 1
      have hfz12_2 := blk_frozen BK267.out 2
      have hfz12_3 := blk_frozen BK267.out 3
      have hfz12_4 := blk_frozen BK267.out 4
      have hfz12_5 := blk_frozen BK267.out 5
      go_wp2_with (first | ((with_reducible refine gate_builtin (b := .append) (xs := #[.tmp 15, .tmp 18]) rfl ?_); at_builtin; refine Kd.R_append k129 (w0 := w) w.heap.size rfl (.tmp 15) (.tmp 18) 24 129 (.agg #[(.int .i64 0), (.string ⟨#[]⟩), (.int .u8 0), (.int .i64 0), (.string ⟨#[]⟩)]) 56 rfl Try.underlying24 info129 rfl (by decide) (by omega) u268004 x268004_1 (⟨x2_1, (⟨#[120]⟩ : ByteArray), (⟨0, 0, (⟨#[]⟩ : ByteArray)⟩ : S127)⟩ : S129) [.int .i64 x2_1, .string (⟨#[120]⟩ : ByteArray), .int .u8 0, .int .i64 0, .string (⟨#[]⟩ : ByteArray)] (fun _ => True) (fun _ => False) rfl rfl ?aP (fun _ hk => hk.elim) ?aF ?aO ?aB ?aS ?aL ?_; (case aP => exact k129_mkM _ _ _ (⟨x2_1, (⟨#[120]⟩ : ByteArray), (⟨0, 0, (⟨#[]⟩ : ByteArray)⟩ : S127)⟩ : S129)); (case aB => exact (kl HB)); (case aF => exact (fun _ _ => trivial)); (case aO => exact (kr HO_268004)); (case aS => exact (below_size (kl HB))); (case aL => have := LMc9.out; omega); intro v269 w13 ho hb hg hat; rw [← Ny268.out] at ho; replace HO_268003 := Aside0.mk (Kd.R_over' (kr HO_268003) (Kd.R_typed (kr HO_268004)) (by decide) hg); replace HO_268005 := Aside0.mk (Kd.R_over' (kr HO_268005) (Kd.R_typed (kr HO_268004)) (by decide) hg); replace BK263 := Aside0.mk (blk_grown (kb BK263) hg (Kd.R_ne HO_268004.out BK263.out (by decide))); replace BK267 := Aside0.mk (blk_grown (kb BK267) hg (Kd.R_ne HO_268004.out BK267.out (by decide))); replace HB := Aside0.mk (hb); have HO270 := Aside0.mk (ho); clear HO_268004; clear ho hb hg hat; obtain ⟨Ao14, co14, eo14⟩ := Kd.R_slice HO270.out; subst eo14; have hcz15_0 : w13.cell? ⟨gb267, 0, none⟩ = some (.int .i64 7) := bc BK267 0; have hcz15_1 : w13.cell? ⟨gb267, 1, none⟩ = some (.int .i64 9) := bc BK267 1; have hcz15_2 : w13.cell? ⟨gb267, 2, none⟩ = some (.slice none 0 0) := bc BK267 2; have hcz15_3 : w13.cell? ⟨gb267, 3, none⟩ = some (.slice Ao4 y264.length co4) := bc BK267 3; have hcz15_4 : w13.cell? ⟨gb267, 4, none⟩ = some (u268004) := bc BK267 4; have hcz15_5 : w13.cell? ⟨gb267, 5, none⟩ = some (u268005) := bc BK267 5; have hfz15_0 := blk_frozen BK267.out 0; have hfz15_1 := blk_frozen BK267.out 1; have hfz15_2 := blk_frozen BK267.out 2; have hfz15_3 := blk_frozen BK267.out 3; have hfz15_4 := blk_frozen BK267.out 4; have hfz15_5 := blk_frozen BK267.out 5) | ((with_reducible refine gate_builtin (b := .append) (xs := #[.tmp 22, .tmp 27]) rfl ?_); at_builtin; refine Kd.R_append k132 (w0 := w) w.heap.size rfl (.tmp 22) (.tmp 27) 25 132 (.agg #[(.int .i64 0), (.int .i64 0), (.int .i64 0), (.int .u8 0), (.string ⟨#[]⟩), (.int .i64 0), (.bool false)]) 64 rfl Try.underlying25 info132 rfl (by decide) (by omega) u268005 x268005_1 (⟨wrap64 (10 + x2_1), x2_1, 0, 0, (⟨#[]⟩ : ByteArray), 0, false⟩ : S132) [.int .i64 (wrap64 (10 + x2_1)), .int .i64 x2_1, .int .i64 0, .int .u8 0, .string (⟨#[]⟩ : ByteArray), .int .i64 0, .bool false] (fun _ => True) (fun _ => False) rfl (by first | (go_simp; done) | (go_simp; rfl)) ?aP (fun _ hk => hk.elim) ?aF ?aO ?aB ?aS ?aL ?_; (case aP => exact k132_mkM _ _ _ (⟨wrap64 (10 + x2_1), x2_1, 0, 0, (⟨#[]⟩ : ByteArray), 0, false⟩ : S132)); (case aB => exact (kl HB)); (case aF => exact (fun _ _ => trivial)); (case aO => exact (by (with_reducible repeat (first | apply Kd.R_alloc | apply Kd.R_drewN | apply Kd.R_drew)); exact Kd.R_mono (Kd.R_far (p := ⟨gb267, 4, none⟩) (Kd.R_types HO_268005.out BK267.out (by decide)) (fun _ hk => hk.2) (.slice Ao14 y268.length co14)) (fun _ hk => trivial))); (case aS => exact (below_size (kl HB))); (case aL => have := LMc10.out; omega); intro v272 w16 ho hb hg hat; rw [← Ny271.out] at ho; replace HO_268003 := Aside0.mk (Kd.R_over' (by (with_reducible repeat (first | apply Kd.R_alloc | apply Kd.R_drewN | apply Kd.R_drew)); exact (Kd.R_mono (Kd.R_far (p := ⟨gb267, 4, none⟩) (Kd.R_types HO_268003.out BK267.out (by decide)) (fun _ hk => hk.2) (.slice Ao14 y268.length co14)) (fun _ h_ => h_.1))) (Kd.R_typed (by (with_reducible repeat (first | apply Kd.R_alloc | apply Kd.R_drewN | apply Kd.R_drew)); exact (Kd.R_mono (Kd.R_far (p := ⟨gb267, 4, none⟩) (Kd.R_types HO_268005.out BK267.out (by decide)) (fun _ hk => hk.2) (.slice Ao14 y268.length co14)) (fun _ h_ => h_.1)))) (by decide) hg); replace BK263 := Aside0.mk (blk_grown (g := gb263) (o := .cells #[.int .i64 0, .int .i64 0, .slice none 0 0, .slice none 0 0, .slice none 0 0, .slice none 0 0] 27 (0, 0)) (kf NB263_267 BK263) hg (Kd.R_ne HO_268005.out BK263.out (by decide))); replace HO270 := Aside0.mk (Kd.R_over' (by (with_reducible repeat (first | apply Kd.R_alloc | apply Kd.R_drewN | apply Kd.R_drew)); exact (Kd.R_mono (Kd.R_far (p := ⟨gb267, 4, none⟩) (Kd.R_types HO270.out BK267.out (by decide)) (fun _ hk => hk.2) (.slice Ao14 y268.length co14)) (fun _ h_ => h_.1))) (Kd.R_typed (by (with_reducible repeat (first | apply Kd.R_alloc | apply Kd.R_drewN | apply Kd.R_drew)); exact (Kd.R_mono (Kd.R_far (p := ⟨gb267, 4, none⟩) (Kd.R_types HO_268005.out BK267.out (by decide)) (fun _ hk => hk.2) (.slice Ao14 y268.length co14)) (fun _ h_ => h_.1)))) (by decide) hg); replace BK267 := Aside0.mk (blk_grown (g := gb267) (o := .cells #[.int .i64 7, .int .i64 9, .slice none 0 0, .slice Ao4 y264.length co4, .slice Ao14 y268.length co14, u268005] 27 (0, 0)) (by (with_reducible repeat (first | refine blk_drewN ?_ _ | refine blk_drew ?_ | refine blk_alloc ?_ _)); refine blk_put (cs := #[.int .i64 7, .int .i64 9, .slice none 0 0, .slice Ao4 y264.length co4, u268004, u268005]) ?_ 4 _ rfl; (with_reducible repeat (first | refine blk_drewN ?_ _ | refine blk_drew ?_ | refine blk_alloc ?_ _)); exact BK267.out) hg (Kd.R_ne HO_268005.out BK267.out (by decide))); replace HB := Aside0.mk (hb); have HO273 := Aside0.mk (ho); clear HO_268005; clear ho hb hg hat; obtain ⟨Ao17, co17, eo17⟩ := Kd.R_slice HO273.out; subst eo17; have hcz18_0 : w16.cell? ⟨gb267, 0, none⟩ = some (.int .i64 7) := bc BK267 0; have hcz18_1 : w16.cell? ⟨gb267, 1, none⟩ = some (.int .i64 9) := bc BK267 1; have hcz18_2 : w16.cell? ⟨gb267, 2, none⟩ = some (.slice none 0 0) := bc BK267 2; have hcz18_3 : w16.cell? ⟨gb267, 3, none⟩ = some (.slice Ao4 y264.length co4) := bc BK267 3; have hcz18_4 : w16.cell? ⟨gb267, 4, none⟩ = some (.slice Ao14 y268.length co14) := bc BK267 4; have hcz18_5 : w16.cell? ⟨gb267, 5, none⟩ = some (u268005) := bc BK267 5; have hfz18_0 := blk_frozen BK267.out 0; have hfz18_1 := blk_frozen BK267.out 1; have hfz18_2 := blk_frozen BK267.out 2; have hfz18_3 := blk_frozen BK267.out 3; have hfz18_4 := blk_frozen BK267.out 4; have hfz18_5 := blk_frozen BK267.out 5))
      go_roundg k1
      case measure => have := HK1.out; omega
      case rel => exact ⟨(wrap64 (x2_1 + 1)), (y268), (y271), (.slice Ao14 y268.length co14), (.slice Ao17 y271.length co17), (by first | rfl | (simp; done) | (simp [*]; done)), H', ⟨by have := HK1.out; omega⟩, ⟨by (with_reducible repeat (first | apply Kd.R_alloc | apply Kd.R_drewN | apply Kd.R_drew)); exact Kd.R_mono (Kd.R_far (p := ⟨gb267, 5, none⟩) (Kd.R_types HO_268003.out BK267.out (by decide)) (fun _ hk => hk.2) (.slice Ao17 y271.length co17)) (fun _ hk => trivial)⟩, ⟨by (with_reducible repeat (first | apply Kd.R_alloc | apply Kd.R_drewN | apply Kd.R_drew)); exact Kd.R_mono (Kd.R_far (p := ⟨gb267, 5, none⟩) (Kd.R_types HO270.out BK267.out (by decide)) (fun _ hk => hk.2) (.slice Ao17 y271.length co17)) (fun _ hk => trivial)⟩, ⟨by (with_reducible repeat (first | apply Kd.R_alloc | apply Kd.R_drewN | apply Kd.R_drew)); exact Kd.R_mono (Kd.R_far (p := ⟨gb267, 5, none⟩) (Kd.R_types HO273.out BK267.out (by decide)) (fun _ hk => hk.2) (.slice Ao17 y271.length co17)) (fun _ hk => trivial)⟩, ⟨kf NB263_267 BK263⟩, ⟨by (with_reducible repeat (first | refine blk_drewN ?_ _ | refine blk_drew ?_ | refine blk_alloc ?_ _)); refine blk_put (cs := #[.int .i64 7, .int .i64 9, .slice none 0 0, .slice Ao4 y264.length co4, .slice Ao14 y268.length co14, u268005]) ?_ 5 _ rfl; (with_reducible repeat (first | refine blk_drewN ?_ _ | refine blk_drew ?_ | refine blk_alloc ?_ _)); exact BK267.out⟩, ⟨kl HB⟩⟩
     ·rw [if_neg c10] at H
      exact absurd H (by simp)
    ·rw [if_neg c9] at H
     exact absurd H (by simp)
   ·rw [if_neg c8] at H
    have c8b0 : decide (x2_1 ≤ 5) = false := decide_eq_false c8
    clear c8
    simp only [Option.some.injEq, Prod.mk.injEq] at H
    obtain ⟨rfl, rfl, rfl, rfl, rfl, rfl⟩ := H
    have hnb19 := NB267_263.out
    have hnc19 := NB263_267.out
    have hcz20_0 : wr.cell? ⟨gb267, 0, none⟩ = some (.int .i64 7) := bc BK267 0
    have hcz20_1 : wr.cell? ⟨gb267, 1, none⟩ = some (.int .i64 9) := bc BK267 1
    have hcz20_2 : wr.cell? ⟨gb267, 2, none⟩ = some (.slice none 0 0) := bc BK267 2
    have hcz20_3 : wr.cell? ⟨gb267, 3, none⟩ = some (.slice Ao4 y264.length co4) := bc BK267 3
    have hcz20_4 : wr.cell? ⟨gb267, 4, none⟩ = some (u268004) := bc BK267 4
    have hcz20_5 : wr.cell? ⟨gb267, 5, none⟩ = some (u268005) := bc BK267 5
    have hfz20_0 := blk_frozen BK267.out 0
    have hfz20_1 := blk_frozen BK267.out 1
    have hfz20_2 := blk_frozen BK267.out 2
    have hfz20_3 := blk_frozen BK267.out 3
    have hfz20_4 := blk_frozen BK267.out 4
    have hfz20_5 := blk_frozen BK267.out 5
    have hcz21_0 : wr.cell? ⟨gb263, 0, none⟩ = some (.int .i64 0) := bc BK263 0
    have hcz21_1 : wr.cell? ⟨gb263, 1, none⟩ = some (.int .i64 0) := bc BK263 1
    have hcz21_2 : wr.cell? ⟨gb263, 2, none⟩ = some (.slice none 0 0) := bc BK263 2
    have hcz21_3 : wr.cell? ⟨gb263, 3, none⟩ = some (.slice none 0 0) := bc BK263 3
    have hcz21_4 : wr.cell? ⟨gb263, 4, none⟩ = some (.slice none 0 0) := bc BK263 4
    have hcz21_5 : wr.cell? ⟨gb263, 5, none⟩ = some (.slice none 0 0) := bc BK263 5
    have hfz21_0 := blk_frozen BK263.out 0
    have hfz21_1 := blk_frozen BK263.out 1
    have hfz21_2 := blk_frozen BK263.out 2
    have hfz21_3 := blk_frozen BK263.out 3
    have hfz21_4 := blk_frozen BK263.out 4
    have hfz21_5 := blk_frozen BK263.out 5
    obtain ⟨Ao22, co22, eo22⟩ := Kd.R_slice HO_268004.out
    subst eo22
    obtain ⟨Ao23, co23, eo23⟩ := Kd.R_slice HO_268005.out
    subst eo23
    go_wp2
    refine bodyPost_ret (results_cell_row rfl _ _ gb263 27 #[.int .i64 7, .int .i64 9, .slice none 0 0, .slice Ao4 y264.length co4, .slice Ao22 x268004_1.length co22, .slice Ao23 x268005_1.length co23] (0, 0) _ rfl (by (with_reducible repeat (first | refine blk_drewN ?_ _ | refine blk_drew ?_ | refine blk_alloc ?_ _)); refine blk_put (cs := #[.int .i64 7, .int .i64 9, .slice none 0 0, .slice Ao4 y264.length co4, .slice Ao22 x268004_1.length co22, .slice none 0 0]) ?_ 5 _ rfl; (with_reducible repeat (first | refine blk_drewN ?_ _ | refine blk_drew ?_ | refine blk_alloc ?_ _)); refine blk_put (cs := #[.int .i64 7, .int .i64 9, .slice none 0 0, .slice Ao4 y264.length co4, .slice none 0 0, .slice none 0 0]) ?_ 4 _ rfl; (with_reducible repeat (first | refine blk_drewN ?_ _ | refine blk_drew ?_ | refine blk_alloc ?_ _)); refine blk_put (cs := #[.int .i64 7, .int .i64 9, .slice none 0 0, .slice none 0 0, .slice none 0 0, .slice none 0 0]) ?_ 3 _ rfl; (with_reducible repeat (first | refine blk_drewN ?_ _ | refine blk_drew ?_ | refine blk_alloc ?_ _)); refine blk_put (cs := #[.int .i64 7, .int .i64 9, .slice none 0 0, .slice none 0 0, .slice none 0 0, .slice none 0 0]) ?_ 2 _ rfl; (with_reducible repeat (first | refine blk_drewN ?_ _ | refine blk_drew ?_ | refine blk_alloc ?_ _)); refine blk_put (cs := #[.int .i64 7, .int .i64 0, .slice none 0 0, .slice none 0 0, .slice none 0 0, .slice none 0 0]) ?_ 1 _ rfl; (with_reducible repeat (first | refine blk_drewN ?_ _ | refine blk_drew ?_ | refine blk_alloc ?_ _)); refine blk_put (cs := #[.int .i64 0, .int .i64 0, .slice none 0 0, .slice none 0 0, .slice none 0 0, .slice none 0 0]) ?_ 0 _ rfl; (with_reducible repeat (first | refine blk_drewN ?_ _ | refine blk_drew ?_ | refine blk_alloc ?_ _)); exact BK263.out) Try.underlying27 rfl (by kernel_rfl)) rfl ?_
    exact ⟨_, _, _, _, by first | rfl | (simp [errW_none, errW_some] <;> rfl) | (simp [*, errW_none, errW_some] <;> rfl), by first | exact Kd.R_nil _ _ _ _ _ | exact Kd.N_nil _ _ _ _ _ | exact Kd.V_nil _ _ _ _ _ | exact Kd.Q_nil _ _ _ _ _ | exact Kd.S_nil _ _ _ _ _, by (with_reducible repeat (first | apply Kd.R_alloc | apply Kd.R_drewN | apply Kd.R_drew)); exact Kd.R_mono (Kd.R_far (p := ⟨gb263, 5, none⟩) (Kd.R_far (p := ⟨gb263, 4, none⟩) (Kd.R_far (p := ⟨gb263, 3, none⟩) (Kd.R_far (p := ⟨gb263, 2, none⟩) (Kd.R_far (p := ⟨gb263, 1, none⟩) (Kd.R_far (p := ⟨gb263, 0, none⟩) (Kd.R_types HO_268003.out BK263.out (by decide)) (fun _ hk => hk.2) (.int .i64 7)) (fun _ hk => hk.2) (.int .i64 9)) (fun _ hk => hk.2) (.slice none 0 0)) (fun _ hk => hk.2) (.slice Ao4 y264.length co4)) (fun _ hk => hk.2) (.slice Ao22 x268004_1.length co22)) (fun _ hk => hk.2) (.slice Ao23 x268005_1.length co23)) (fun _ hk => trivial), by (with_reducible repeat (first | apply Kd.R_alloc | apply Kd.R_drewN | apply Kd.R_drew)); exact Kd.R_mono (Kd.R_far (p := ⟨gb263, 5, none⟩) (Kd.R_far (p := ⟨gb263, 4, none⟩) (Kd.R_far (p := ⟨gb263, 3, none⟩) (Kd.R_far (p := ⟨gb263, 2, none⟩) (Kd.R_far (p := ⟨gb263, 1, none⟩) (Kd.R_far (p := ⟨gb263, 0, none⟩) (Kd.R_types HO_268004.out BK263.out (by decide)) (fun _ hk => hk.2) (.int .i64 7)) (fun _ hk => hk.2) (.int .i64 9)) (fun _ hk => hk.2) (.slice none 0 0)) (fun _ hk => hk.2) (.slice Ao4 y264.length co4)) (fun _ hk => hk.2) (.slice Ao22 x268004_1.length co22)) (fun _ hk => hk.2) (.slice Ao23 x268005_1.length co23)) (fun _ hk => trivial), by (with_reducible repeat (first | apply Kd.R_alloc | apply Kd.R_drewN | apply Kd.R_drew)); exact Kd.R_mono (Kd.R_far (p := ⟨gb263, 5, none⟩) (Kd.R_far (p := ⟨gb263, 4, none⟩) (Kd.R_far (p := ⟨gb263, 3, none⟩) (Kd.R_far (p := ⟨gb263, 2, none⟩) (Kd.R_far (p := ⟨gb263, 1, none⟩) (Kd.R_far (p := ⟨gb263, 0, none⟩) (Kd.R_types HO_268005.out BK263.out (by decide)) (fun _ hk => hk.2) (.int .i64 7)) (fun _ hk => hk.2) (.int .i64 9)) (fun _ hk => hk.2) (.slice none 0 0)) (fun _ hk => hk.2) (.slice Ao4 y264.length co4)) (fun _ hk => hk.2) (.slice Ao22 x268004_1.length co22)) (fun _ hk => hk.2) (.slice Ao23 x268005_1.length co23)) (fun _ hk => trivial), kl HB⟩

end Go.Proofs.Ythonmfcollafkaa.P
-- GENERATED by wip/gen.py (this session's own driver of a mended copy of the printer). Not trusted: Lean checks it.
namespace Go.Proofs.Ythonmfcollafkaa.P
open Go.RowKit Go.Proofs.YthonmfcollafkaaW.PrintWords Go.Proofs.YthonmfcollafkaaW.PrintLast Go.Proofs.YthonmfcollafkaaW.PrintMore
attribute [local go_sem] Go.Proofs.YthonmfcollafkaaB.less_swap Go.Proofs.YthonmfcollafkaaB.less_or max2_int min2_int max_two min_two max_three min_three max_four min_four   -- for this text's walks alone
set_option linter.unusedVariables false
set_option linter.unusedSimpArgs false

/-! ### callboardlaw21_left: function 55 -/
mutual
def callboardlaw21_left.j0 : Nat → List Int → Bool → Int → Int → List (S34) → List (S43) → List (S129) → List (S132) → Option (Bool)
 | 0, _, _, _, _, _, _, _, _ => none
 | k + 1, x1, x29, x276000, x276001, x276002, x276003, x276004, x276005 => if x29 = true then (some false) else (callboardlaw21_left.l0 k x1 0 x276000 x276001 x276002 x276003 x276004 x276005)
def callboardlaw21_left.l0 : Nat → List Int → Int → Int → Int → List (S34) → List (S43) → List (S129) → List (S132) → Option (Bool)
 | 0, _, _, _, _, _, _, _, _ => none
 | k + 1, x1, x5, x276000, x276001, x276002, x276003, x276004, x276005 => if x5 < (x1.length : Int) then (if 0 ≤ x5 then (if x5 < (x276003.length : Int) then (if ((rd_T43 x276003 x5).f0) = (rd x1 x5) then (if x5 < (x276004.length : Int) then (if ((rd_T129 x276004 x5).f0) = (rd x1 x5) then (callboardlaw21_left.l0 k x1 (wrap64 (x5 + 1)) x276000 x276001 x276002 x276003 x276004 x276005) else (some false)) else (none)) else (some false)) else (none)) else (none)) else (some true)
end
def callboardlaw21_left.f (k : Nat) (a0_0 : Int) (a0_1 : Int) (l0_2 : List (S34)) (l0_3 : List (S43)) (l0_4 : List (S129)) (l0_5 : List (S132)) (l1 : List Int) : Option (Bool) := if (l0_3.length : Int) = (l1.length : Int) then (if (l0_4.length : Int) = (l1.length : Int) then (if a0_0 = 7 then (callboardlaw21_left.j0 k l1 (a0_1 != 9) a0_0 a0_1 l0_2 l0_3 l0_4 l0_5) else (callboardlaw21_left.j0 k l1 true a0_0 a0_1 l0_2 l0_3 l0_4 l0_5)) else (callboardlaw21_left.j0 k l1 true a0_0 a0_1 l0_2 l0_3 l0_4 l0_5)) else (callboardlaw21_left.j0 k l1 true a0_0 a0_1 l0_2 l0_3 l0_4 l0_5)
theorem callboardlaw21_left.dead_j0_1 : ∀ kk y0 y2 y3 y4 y5 y6 y7, callboardlaw21_left.j0 kk y0 true y2 y3 y4 y5 y6 y7 ≠ some true := by
 intro kk y0 y2 y3 y4 y5 y6 y7
 cases kk <;> simp [callboardlaw21_left.j0]
set_option maxHeartbeats 8000000 in
set_option maxRecDepth 100000 in
theorem callboardlaw21_left.calls (k : Nat) (a0_0 : Int) (a0_1 : Int) (A0_2 : Option Addr) (c0_2 : Nat) (l0_2 : List (S34)) (A0_3 : Option Addr) (c0_3 : Nat) (l0_3 : List (S43)) (A0_4 : Option Addr) (c0_4 : Nat) (l0_4 : List (S129)) (A0_5 : Option Addr) (c0_5 : Nat) (l0_5 : List (S132)) (A1 : Option Addr) (c1 : Nat) (l1 : List Int) (r : Bool) (w : World) (hr0_2 : Kd.C k34 w A0_2 l0_2.length l0_2) (hc0_2 : l0_2.length ≤ c0_2) (hr0_3 : Kd.C k43 w A0_3 l0_3.length l0_3) (hc0_3 : l0_3.length ≤ c0_3) (hr0_4 : Kd.C k129 w A0_4 l0_4.length l0_4) (hc0_4 : l0_4.length ≤ c0_4) (hr0_5 : Kd.C k132 w A0_5 l0_5.length l0_5) (hc0_5 : l0_5.length ≤ c0_5) (hr1 : Kd.C (Kd.int .i64) w A1 l1.length l1) (hc1 : l1.length ≤ c1) (h : callboardlaw21_left.f k a0_0 a0_1 l0_2 l0_3 l0_4 l0_5 l1 = some r) (hT : Aside0 (r = true)) :
  Calls Try.prog 55 #[.agg #[.int .i64 a0_0, .int .i64 a0_1, .slice A0_2 l0_2.length c0_2, .slice A0_3 l0_3.length c0_3, .slice A0_4 l0_4.length c0_4, .slice A0_5 l0_5.length c0_5], .slice A1 l1.length c1] w fun e w' => e = .returned (.bool r) ∧ Below w.heap.size w w' := by
 have hu27 := Try.underlying27
 have HR0_2 := Aside0.mk hr0_2
 have HC0_2 := Aside0.mk hc0_2
 clear hr0_2 hc0_2
 have HR0_3 := Aside0.mk hr0_3
 have HC0_3 := Aside0.mk hc0_3
 clear hr0_3 hc0_3
 have HR0_4 := Aside0.mk hr0_4
 have HC0_4 := Aside0.mk hc0_4
 clear hr0_4 hc0_4
 have HR0_5 := Aside0.mk hr0_5
 have HC0_5 := Aside0.mk hc0_5
 clear hr0_5 hc0_5
 have HR1 := Aside0.mk hr1
 have HC1 := Aside0.mk hc1
 clear hr1 hc1
 have HB := Aside0.mk (Below.refl w.heap.size w)
 have H : (if (l0_3.length : Int) = (l1.length : Int) then (if (l0_4.length : Int) = (l1.length : Int) then (if a0_0 = 7 then (callboardlaw21_left.j0 k l1 (a0_1 != 9) a0_0 a0_1 l0_2 l0_3 l0_4 l0_5) else (callboardlaw21_left.j0 k l1 true a0_0 a0_1 l0_2 l0_3 l0_4 l0_5)) else (callboardlaw21_left.j0 k l1 true a0_0 a0_1 l0_2 l0_3 l0_4 l0_5)) else (callboardlaw21_left.j0 k l1 true a0_0 a0_1 l0_2 l0_3 l0_4 l0_5)) = some r := h
 clear h
 have HC3 := Aside0.mk H
 clear H
 go_enter Try.func55, Try.ntmps55
 go_upto_region 1 with (first | ((with_reducible refine gate_dst (N := 2) rfl ?_); (try (refine gate_guard (by rfl) ?_; dsimp only)); refine box_event ?hg (N := 2) ?hd (cs := #[.int .i64 a0_0, .int .i64 a0_1, .slice A0_2 l0_2.length c0_2, .slice A0_3 l0_3.length c0_3, .slice A0_4 l0_4.length c0_4, .slice A0_5 l0_5.length c0_5]) (t := 27) ?hr ?_; (case hd => rfl); (case hg => rfl); (case hr => first | (go_simp; done) | (go_simp; rfl)); intro gb275 hg w4 hbox hb; have BK275 := Aside0.mk (hbox); have GW275 := Aside0.mk ((by rw [hg]; exact (below_size (kl HB)) : w.heap.size ≤ gb275)); have GE275 := Aside0.mk ((by rw [hg]; exact (below_size (kl HB)) : w.heap.size ≤ gb275)); replace HB := Aside0.mk (below_step (kl HB) hb); clear hb hbox hg))
 repeat (go_quiet (first | ((with_reducible refine gate_dst (N := 2) rfl ?_); (try (refine gate_guard (by rfl) ?_; dsimp only)); refine box_event ?hg (N := 2) ?hd (cs := #[.int .i64 a0_0, .int .i64 a0_1, .slice A0_2 l0_2.length c0_2, .slice A0_3 l0_3.length c0_3, .slice A0_4 l0_4.length c0_4, .slice A0_5 l0_5.length c0_5]) (t := 27) ?hr ?_; (case hd => rfl); (case hg => rfl); (case hr => first | (go_simp; done) | (go_simp; rfl)); intro gb275 hg w4 hbox hb; have BK275 := Aside0.mk (hbox); have GW275 := Aside0.mk ((by rw [hg]; exact (below_size (kl HB)) : w.heap.size ≤ gb275)); have GE275 := Aside0.mk ((by rw [hg]; exact (below_size (kl HB)) : w.heap.size ≤ gb275)); replace HB := Aside0.mk (below_step (kl HB) hb); clear hb hbox hg)); go_upto_region 1 with (first | ((with_reducible refine gate_dst (N := 2) rfl ?_); (try (refine gate_guard (by rfl) ?_; dsimp only)); refine box_event ?hg (N := 2) ?hd (cs := #[.int .i64 a0_0, .int .i64 a0_1, .slice A0_2 l0_2.length c0_2, .slice A0_3 l0_3.length c0_3, .slice A0_4 l0_4.length c0_4, .slice A0_5 l0_5.length c0_5]) (t := 27) ?hr ?_; (case hd => rfl); (case hg => rfl); (case hr => first | (go_simp; done) | (go_simp; rfl)); intro gb275 hg w4 hbox hb; have BK275 := Aside0.mk (hbox); have GW275 := Aside0.mk ((by rw [hg]; exact (below_size (kl HB)) : w.heap.size ≤ gb275)); have GE275 := Aside0.mk ((by rw [hg]; exact (below_size (kl HB)) : w.heap.size ≤ gb275)); replace HB := Aside0.mk (below_step (kl HB) hb); clear hb hbox hg)))
 (try simp only [Act.put, List.setIfInBounds_toArray, List.set_cons_zero, List.set_cons_succ])
 go_cut [29] (fun v29 wc => ∃ (kq : Nat) (x29_2 : Bool), v29 = .bool x29_2 ∧ Aside0 (callboardlaw21_left.j0 kq l1 x29_2 a0_0 a0_1 l0_2 l0_3 l0_4 l0_5 = some r) ∧ Aside0 (kq ≤ k) ∧ Aside0 (wc.heap[gb275]? = some (.cells #[.int .i64 a0_0, .int .i64 a0_1, (.slice A0_2 l0_2.length c0_2), (.slice A0_3 l0_3.length c0_3), (.slice A0_4 l0_4.length c0_4), (.slice A0_5 l0_5.length c0_5)] 27 (0, 0))) ∧ Aside0 (Below w.heap.size w wc))
 case first =>
  have H := HC3.out
  clear HC3
  by_cases c5 : (l0_3.length : Int) = (l1.length : Int)
  ·rw [if_pos c5] at H
   have c5b0 : ((l0_3.length : Int) == (l1.length : Int)) = true := beq_iff_eq.mpr c5
   have c5b1 : ((l0_3.length : Int) != (l1.length : Int)) = false := bne_eq_false_iff_eq.mpr c5
   have c5b2 : (l0_3.length == l1.length) = true := by first | simpa using c5 | (simp at c5 ⊢; omega)
   clear c5
   (first | rw [c5b0] | (simp only [i64_w, i32_w]; rw [c5b0]) | skip)
   by_cases c6 : (l0_4.length : Int) = (l1.length : Int)
   ·rw [if_pos c6] at H
    have c6b0 : ((l0_4.length : Int) == (l1.length : Int)) = true := beq_iff_eq.mpr c6
    have c6b1 : ((l0_4.length : Int) != (l1.length : Int)) = false := bne_eq_false_iff_eq.mpr c6
    have c6b2 : (l0_4.length == l1.length) = true := by first | simpa using c6 | (simp at c6 ⊢; omega)
    clear c6
    by_cases c7 : a0_0 = 7
    ·rw [if_pos c7] at H
     have c7b0 : (a0_0 == 7) = true := beq_iff_eq.mpr c7
     have c7b1 : (a0_0 != 7) = false := bne_eq_false_iff_eq.mpr c7
     clear c7
     have H' := Aside0.mk H
     clear H
     have hcz8_0 : w4.cell? ⟨gb275, 0, none⟩ = some (.int .i64 a0_0) := bc BK275 0
     have hcz8_1 : w4.cell? ⟨gb275, 1, none⟩ = some (.int .i64 a0_1) := bc BK275 1
     have hcz8_2 : w4.cell? ⟨gb275, 2, none⟩ = some (.slice A0_2 l0_2.length c0_2) := bc BK275 2
     have hcz8_3 : w4.cell? ⟨gb275, 3, none⟩ = some (.slice A0_3 l0_3.length c0_3) := bc BK275 3
     have hcz8_4 : w4.cell? ⟨gb275, 4, none⟩ = some (.slice A0_4 l0_4.length c0_4) := bc BK275 4
     have hcz8_5 : w4.cell? ⟨gb275, 5, none⟩ = some (.slice A0_5 l0_5.length c0_5) := bc BK275 5
     have hfz8_0 := blk_frozen BK275.out 0
     have hfz8_1 := blk_frozen BK275.out 1
     have hfz8_2 := blk_frozen BK275.out 2
     have hfz8_3 := blk_frozen BK275.out 3
     have hfz8_4 := blk_frozen BK275.out 4
     have hfz8_5 := blk_frozen BK275.out 5
     go_wp2
     repeat (go_quiet (fail); try go_wp2)
     go_meet
     case rel => exact ⟨_, ((a0_1 != 9)), (by first | rfl | (simp; done) | (simp [*]; done)), H', ⟨by first | omega | exact Nat.le_refl _⟩, ⟨kb BK275⟩, ⟨kl HB⟩⟩
    ·rw [if_neg c7] at H
     exact absurd (H.trans (congrArg some hT.out)) (callboardlaw21_left.dead_j0_1 _ _ _ _ _ _ _ _)
   ·rw [if_neg c6] at H
    exact absurd (H.trans (congrArg some hT.out)) (callboardlaw21_left.dead_j0_1 _ _ _ _ _ _ _ _)
  ·rw [if_neg c5] at H
   exact absurd (H.trans (congrArg some hT.out)) (callboardlaw21_left.dead_j0_1 _ _ _ _ _ _ _ _)
 case rest =>
  clear HC3
  try clear c1
  try clear p2
  try clear c5
  try clear c5b0
  try clear c5b1
  try clear c5b2
  try clear c6
  try clear c6b0
  try clear c6b1
  try clear c6b2
  try clear c7
  try clear c7b0
  try clear c7b1
  try clear hcz8_0
  try clear hcz8_1
  try clear hcz8_2
  try clear hcz8_3
  try clear hcz8_4
  try clear hcz8_5
  try clear hfz8_0
  try clear hfz8_1
  try clear hfz8_2
  try clear hfz8_3
  try clear hfz8_4
  try clear hfz8_5
  obtain ⟨kq, x29_2, rfl, HA, HJ2, BK275, HB⟩ := hcut
  cases kq with
  | zero => exact absurd HA.out (by simp [callboardlaw21_left.j0])
  | succ kj2 =>
   have H := HA.out
   clear HA
   simp only [callboardlaw21_left.j0] at H
   by_cases c9 : x29_2 = true
   ·subst c9
    have H1 : (some false) = some r := by rw [if_pos rfl] at H; exact H
    clear H
    have H := H1
    clear H1
    exact absurd (H.trans (congrArg some hT.out)) (by decide)
   ·replace c9 := Bool.eq_false_iff.mpr c9
    subst c9
    have H1 : (callboardlaw21_left.l0 kj2 l1 0 a0_0 a0_1 l0_2 l0_3 l0_4 l0_5) = some r := by rw [if_neg (show ¬ (false = true) by decide)] at H; exact H
    clear H
    have H := H1
    clear H1
    have H' := Aside0.mk H
    clear H
    go_wp2
    repeat (go_quiet (fail); try go_wp2)
    go_loopg [5] kj2 (fun kq v5 w' => ∃ (x5_2 : Int), v5 = .int .i64 x5_2 ∧ Aside0 (callboardlaw21_left.l0 kq l1 x5_2 a0_0 a0_1 l0_2 l0_3 l0_4 l0_5 = some r) ∧ Aside0 (kq ≤ kj2) ∧ Aside0 (w'.heap[gb275]? = some (.cells #[.int .i64 a0_0, .int .i64 a0_1, (.slice A0_2 l0_2.length c0_2), (.slice A0_3 l0_3.length c0_3), (.slice A0_4 l0_4.length c0_4), (.slice A0_5 l0_5.length c0_5)] 27 (0, 0))) ∧ Aside0 (Below w.heap.size w w'))
    case atStart => exact ⟨(0), (by first | rfl | (simp; done) | (simp [*]; done)), H', ⟨Nat.le_refl _⟩, ⟨kb BK275⟩, ⟨kl HB⟩⟩
    case round =>
     clear H'
     try clear c1
     try clear p2
     try clear c5
     try clear c5b0
     try clear c5b1
     try clear c5b2
     try clear c6
     try clear c6b0
     try clear c6b1
     try clear c6b2
     try clear c7
     try clear c7b0
     try clear c7b1
     try clear c9
     try clear hcz8_0
     try clear hcz8_1
     try clear hcz8_2
     try clear hcz8_3
     try clear hcz8_4
     try clear hcz8_5
     try clear hfz8_0
     try clear hfz8_1
     try clear hfz8_2
     try clear hfz8_3
     try clear hfz8_4
     try clear hfz8_5
     try clear p2
     obtain ⟨x5_2, rfl, HA, HK2, BK275, HB⟩ := hrel
     cases gk with
     | zero => exact absurd HA.out (by simp [callboardlaw21_left.l0])
     | succ k2 =>
      have H := HA.out
      clear HA
      simp only [callboardlaw21_left.l0] at H
      by_cases c10 : x5_2 < (l1.length : Int)
      ·rw [if_pos c10] at H
       have c10b0 : decide (x5_2 < (l1.length : Int)) = true := decide_eq_true c10
       clear c10
       by_cases c11 : 0 ≤ x5_2
       ·rw [if_pos c11] at H
        have c11b0 : decide (0 ≤ x5_2) = true := decide_eq_true c11
        clear c11
        by_cases c12 : x5_2 < (l0_3.length : Int)
        ·rw [if_pos c12] at H
         have c12b0 : decide (x5_2 < (l0_3.length : Int)) = true := decide_eq_true c12
         clear c12
         by_cases c13 : ((rd_T43 l0_3 x5_2).f0) = (rd l1 x5_2)
         ·rw [if_pos c13] at H
          have c13b0 : (((rd_T43 l0_3 x5_2).f0) == (rd l1 x5_2)) = true := beq_iff_eq.mpr c13
          have c13b1 : (((rd_T43 l0_3 x5_2).f0) != (rd l1 x5_2)) = false := bne_eq_false_iff_eq.mpr c13
          clear c13
          by_cases c14 : x5_2 < (l0_4.length : Int)
          ·rw [if_pos c14] at H
           have c14b0 : decide (x5_2 < (l0_4.length : Int)) = true := decide_eq_true c14
           clear c14
           by_cases c15 : ((rd_T129 l0_4 x5_2).f0) = (rd l1 x5_2)
           ·rw [if_pos c15] at H
            have c15b0 : (((rd_T129 l0_4 x5_2).f0) == (rd l1 x5_2)) = true := beq_iff_eq.mpr c15
            have c15b1 : (((rd_T129 l0_4 x5_2).f0) != (rd l1 x5_2)) = false := bne_eq_false_iff_eq.mpr c15
            clear c15
            have H' := Aside0.mk H
            clear H
            have hcz16_0 : wr.cell? ⟨gb275, 0, none⟩ = some (.int .i64 a0_0) := bc BK275 0
            have hcz16_1 : wr.cell? ⟨gb275, 1, none⟩ = some (.int .i64 a0_1) := bc BK275 1
            have hcz16_2 : wr.cell? ⟨gb275, 2, none⟩ = some (.slice A0_2 l0_2.length c0_2) := bc BK275 2
            have hcz16_3 : wr.cell? ⟨gb275, 3, none⟩ = some (.slice A0_3 l0_3.length c0_3) := bc BK275 3
            have hcz16_4 : wr.cell? ⟨gb275, 4, none⟩ = some (.slice A0_4 l0_4.length c0_4) := bc BK275 4
            have hcz16_5 : wr.cell? ⟨gb275, 5, none⟩ = some (.slice A0_5 l0_5.length c0_5) := bc BK275 5
            have hfz16_0 := blk_frozen BK275.out 0
            have hfz16_1 := blk_frozen BK275.out 1
            have hfz16_2 := blk_frozen BK275.out 2
            have hfz16_3 := blk_frozen BK275.out 3
            have hfz16_4 := blk_frozen BK275.out 4
            have hfz16_5 := blk_frozen BK275.out 5
            have p276 : 0 ≤ (x5_2 : Int) := of_decide_eq_true (by first | (with_reducible assumption) | assumption)
            have q276 : x5_2 < (l0_3.length : Int) := of_decide_eq_true (by first | (with_reducible assumption) | assumption)
            obtain ⟨ad276, e276, hx276_0, hx276_1, hx276_2, hx276_3, hx276_4, hx276_5, hx276_6, hx276_7⟩ := at_T43 HR0_3.out x5_2 p276 q276
            cases e276
            replace hx276_0 := (HB.out.cell (World.block_lt_of_cell? w _ hx276_0)).trans hx276_0
            replace hx276_1 := (HB.out.cell (World.block_lt_of_cell? w _ hx276_1)).trans hx276_1
            replace hx276_2 := (HB.out.cell (World.block_lt_of_cell? w _ hx276_2)).trans hx276_2
            replace hx276_3 := (HB.out.cell (World.block_lt_of_cell? w _ hx276_3)).trans hx276_3
            replace hx276_4 := (HB.out.cell (World.block_lt_of_cell? w _ hx276_4)).trans hx276_4
            replace hx276_5 := (HB.out.cell (World.block_lt_of_cell? w _ hx276_5)).trans hx276_5
            replace hx276_6 := (HB.out.cell (World.block_lt_of_cell? w _ hx276_6)).trans hx276_6
            replace hx276_7 := (HB.out.cell (World.block_lt_of_cell? w _ hx276_7)).trans hx276_7
            replace p276 := eq_true p276
            replace q276 := eq_true q276
            have p277 : 0 ≤ (x5_2 : Int) := of_decide_eq_true (by first | (with_reducible assumption) | assumption)
            have q277 : x5_2 < (l1.length : Int) := of_decide_eq_true (by first | (with_reducible assumption) | assumption)
            obtain ⟨ad277, e277, hx277_0⟩ := Kd.at_int HR1.out x5_2 p277 q277
            cases e277
            replace hx277_0 := (HB.out.cell (World.block_lt_of_cell? w _ hx277_0)).trans hx277_0
            replace p277 := eq_true p277
            replace q277 := eq_true q277
            have p278 : 0 ≤ (x5_2 : Int) := of_decide_eq_true (by first | (with_reducible assumption) | assumption)
            have q278 : x5_2 < (l0_4.length : Int) := of_decide_eq_true (by first | (with_reducible assumption) | assumption)
            obtain ⟨ad278, e278, hx278_0, hx278_1, hx278_2, hx278_3, hx278_4⟩ := at_T129 HR0_4.out x5_2 p278 q278
            cases e278
            replace hx278_0 := (HB.out.cell (World.block_lt_of_cell? w _ hx278_0)).trans hx278_0
            replace hx278_1 := (HB.out.cell (World.block_lt_of_cell? w _ hx278_1)).trans hx278_1
            replace hx278_2 := (HB.out.cell (World.block_lt_of_cell? w _ hx278_2)).trans hx278_2
            replace hx278_3 := (HB.out.cell (World.block_lt_of_cell? w _ hx278_3)).trans hx278_3
            replace hx278_4 := (HB.out.cell (World.block_lt_of_cell? w _ hx278_4)).trans hx278_4
            replace p278 := eq_true p278
            replace q278 := eq_true q278
            have p279 : 0 ≤ (x5_2 : Int) := of_decide_eq_true (by first | (with_reducible assumption) | assumption)
            have q279 : x5_2 < (l1.length : Int) := of_decide_eq_true (by first | (with_reducible assumption) | assumption)
            obtain ⟨ad279, e279, hx279_0⟩ := Kd.at_int HR1.out x5_2 p279 q279
            obtain rfl : ad277 = ad279 := (by injection e279)
            replace hx279_0 := (HB.out.cell (World.block_lt_of_cell? w _ hx279_0)).trans hx279_0
            replace p279 := eq_true p279
            replace q279 := eq_true q279
            go_wp2
            repeat (go_quiet (fail); try go_wp2)
            go_roundg k2
            case measure => have := HJ2.out; have := HK2.out; omega
            case rel => exact ⟨(wrap64 (x5_2 + 1)), (by first | rfl | (simp; done) | (simp [*]; done)), H', ⟨by have := HJ2.out; have := HK2.out; omega⟩, ⟨kb BK275⟩, ⟨kl HB⟩⟩
           ·rw [if_neg c15] at H
            exact absurd (H.trans (congrArg some hT.out)) (by decide)
          ·rw [if_neg c14] at H
           exact absurd H (by simp)
         ·rw [if_neg c13] at H
          exact absurd (H.trans (congrArg some hT.out)) (by decide)
        ·rw [if_neg c12] at H
         exact absurd H (by simp)
       ·rw [if_neg c11] at H
        exact absurd H (by simp)
      ·rw [if_neg c10] at H
       have c10b0 : decide (x5_2 < (l1.length : Int)) = false := decide_eq_false c10
       clear c10
       obtain rfl := Option.some.inj H
       go_wp2
       repeat (go_quiet (fail); try go_wp2)
       go_ret
       exact ⟨by first | rfl | (simp [errW_none, errW_some] <;> rfl) | (simp [*, errW_none, errW_some] <;> rfl), kl HB⟩

end Go.Proofs.Ythonmfcollafkaa.P
-- GENERATED by wip/gen.py (this session's own driver of a mended copy of the printer). Not trusted: Lean checks it.
namespace Go.Proofs.Ythonmfcollafkaa.P
open Go.RowKit Go.Proofs.YthonmfcollafkaaW.PrintWords Go.Proofs.YthonmfcollafkaaW.PrintLast Go.Proofs.YthonmfcollafkaaW.PrintMore
attribute [local go_sem] Go.Proofs.YthonmfcollafkaaB.less_swap Go.Proofs.YthonmfcollafkaaB.less_or max2_int min2_int max_two min_two max_three min_three max_four min_four   -- for this text's walks alone
set_option linter.unusedVariables false
set_option linter.unusedSimpArgs false

/-! ### callboardlaw21_watched: function 53 -/
def callboardlaw21_watched.l0 : Nat → List Int → Int → Int → Int → List (S34) → List (S43) → List (S129) → List (S132) → Option (Bool)
 | 0, _, _, _, _, _, _, _, _ => none
 | k + 1, x1, x5, x454000, x454001, x454002, x454003, x454004, x454005 => if x5 < (x1.length : Int) then (if 0 ≤ x5 then (if x5 < (x454005.length : Int) then (if ((rd_T132 x454005 x5).f1) = (rd x1 x5) then (callboardlaw21_watched.l0 k x1 (wrap64 (x5 + 1)) x454000 x454001 x454002 x454003 x454004 x454005) else (some false)) else (none)) else (none)) else (some true)
def callboardlaw21_watched.f (k : Nat) (a0_0 : Int) (a0_1 : Int) (l0_2 : List (S34)) (l0_3 : List (S43)) (l0_4 : List (S129)) (l0_5 : List (S132)) (l1 : List Int) : Option (Bool) := if (l0_5.length : Int) = (l1.length : Int) then (callboardlaw21_watched.l0 k l1 0 a0_0 a0_1 l0_2 l0_3 l0_4 l0_5) else (some false)
set_option maxHeartbeats 8000000 in
set_option maxRecDepth 100000 in
theorem callboardlaw21_watched.calls (k : Nat) (a0_0 : Int) (a0_1 : Int) (A0_2 : Option Addr) (c0_2 : Nat) (l0_2 : List (S34)) (A0_3 : Option Addr) (c0_3 : Nat) (l0_3 : List (S43)) (A0_4 : Option Addr) (c0_4 : Nat) (l0_4 : List (S129)) (A0_5 : Option Addr) (c0_5 : Nat) (l0_5 : List (S132)) (A1 : Option Addr) (c1 : Nat) (l1 : List Int) (r : Bool) (w : World) (hr0_2 : Kd.C k34 w A0_2 l0_2.length l0_2) (hc0_2 : l0_2.length ≤ c0_2) (hr0_3 : Kd.C k43 w A0_3 l0_3.length l0_3) (hc0_3 : l0_3.length ≤ c0_3) (hr0_4 : Kd.C k129 w A0_4 l0_4.length l0_4) (hc0_4 : l0_4.length ≤ c0_4) (hr0_5 : Kd.C k132 w A0_5 l0_5.length l0_5) (hc0_5 : l0_5.length ≤ c0_5) (hr1 : Kd.C (Kd.int .i64) w A1 l1.length l1) (hc1 : l1.length ≤ c1) (h : callboardlaw21_watched.f k a0_0 a0_1 l0_2 l0_3 l0_4 l0_5 l1 = some r) (hT : Aside0 (r = true)) :
  Calls Try.prog 53 #[.agg #[.int .i64 a0_0, .int .i64 a0_1, .slice A0_2 l0_2.length c0_2, .slice A0_3 l0_3.length c0_3, .slice A0_4 l0_4.length c0_4, .slice A0_5 l0_5.length c0_5], .slice A1 l1.length c1] w fun e w' => e = .returned (.bool r) ∧ Below w.heap.size w w' := by
 have hu27 := Try.underlying27
 have HR0_2 := Aside0.mk hr0_2
 have HC0_2 := Aside0.mk hc0_2
 clear hr0_2 hc0_2
 have HR0_3 := Aside0.mk hr0_3
 have HC0_3 := Aside0.mk hc0_3
 clear hr0_3 hc0_3
 have HR0_4 := Aside0.mk hr0_4
 have HC0_4 := Aside0.mk hc0_4
 clear hr0_4 hc0_4
 have HR0_5 := Aside0.mk hr0_5
 have HC0_5 := Aside0.mk hc0_5
 clear hr0_5 hc0_5
 have HR1 := Aside0.mk hr1
 have HC1 := Aside0.mk hc1
 clear hr1 hc1
 have HB := Aside0.mk (Below.refl w.heap.size w)
 have H : (if (l0_5.length : Int) = (l1.length : Int) then (callboardlaw21_watched.l0 k l1 0 a0_0 a0_1 l0_2 l0_3 l0_4 l0_5) else (some false)) = some r := h
 clear h
 by_cases c3 : (l0_5.length : Int) = (l1.length : Int)
 ·rw [if_pos c3] at H
  have c3b0 : ((l0_5.length : Int) == (l1.length : Int)) = true := beq_iff_eq.mpr c3
  have c3b1 : ((l0_5.length : Int) != (l1.length : Int)) = false := bne_eq_false_iff_eq.mpr c3
  have c3b2 : (l0_5.length == l1.length) = true := by first | simpa using c3 | (simp at c3 ⊢; omega)
  clear c3
  have H' := Aside0.mk H
  clear H
  go_enter Try.func53, Try.ntmps53
  go_wp2_with (first | ((with_reducible refine gate_dst (N := 2) rfl ?_); refine box_event ?hg (N := 2) ?hd (cs := #[.int .i64 a0_0, .int .i64 a0_1, .slice A0_2 l0_2.length c0_2, .slice A0_3 l0_3.length c0_3, .slice A0_4 l0_4.length c0_4, .slice A0_5 l0_5.length c0_5]) (t := 27) ?hr ?_; (case hd => rfl); (case hg => rfl); (case hr => first | (go_simp; done) | (go_simp; rfl)); intro gb453 hg w4 hbox hb; have BK453 := Aside0.mk (hbox); have GW453 := Aside0.mk ((by rw [hg]; exact (below_size (kl HB)) : w.heap.size ≤ gb453)); have GE453 := Aside0.mk ((by rw [hg]; exact (below_size (kl HB)) : w.heap.size ≤ gb453)); replace HB := Aside0.mk (below_step (kl HB) hb); clear hb hbox hg; have hcz5_0 : w4.cell? ⟨gb453, 0, none⟩ = some (.int .i64 a0_0) := bc BK453 0; have hcz5_1 : w4.cell? ⟨gb453, 1, none⟩ = some (.int .i64 a0_1) := bc BK453 1; have hcz5_2 : w4.cell? ⟨gb453, 2, none⟩ = some (.slice A0_2 l0_2.length c0_2) := bc BK453 2; have hcz5_3 : w4.cell? ⟨gb453, 3, none⟩ = some (.slice A0_3 l0_3.length c0_3) := bc BK453 3; have hcz5_4 : w4.cell? ⟨gb453, 4, none⟩ = some (.slice A0_4 l0_4.length c0_4) := bc BK453 4; have hcz5_5 : w4.cell? ⟨gb453, 5, none⟩ = some (.slice A0_5 l0_5.length c0_5) := bc BK453 5; have hfz5_0 := blk_frozen BK453.out 0; have hfz5_1 := blk_frozen BK453.out 1; have hfz5_2 := blk_frozen BK453.out 2; have hfz5_3 := blk_frozen BK453.out 3; have hfz5_4 := blk_frozen BK453.out 4; have hfz5_5 := blk_frozen BK453.out 5))
  repeat (go_quiet (first | ((with_reducible refine gate_dst (N := 2) rfl ?_); refine box_event ?hg (N := 2) ?hd (cs := #[.int .i64 a0_0, .int .i64 a0_1, .slice A0_2 l0_2.length c0_2, .slice A0_3 l0_3.length c0_3, .slice A0_4 l0_4.length c0_4, .slice A0_5 l0_5.length c0_5]) (t := 27) ?hr ?_; (case hd => rfl); (case hg => rfl); (case hr => first | (go_simp; done) | (go_simp; rfl)); intro gb453 hg w4 hbox hb; have BK453 := Aside0.mk (hbox); have GW453 := Aside0.mk ((by rw [hg]; exact (below_size (kl HB)) : w.heap.size ≤ gb453)); have GE453 := Aside0.mk ((by rw [hg]; exact (below_size (kl HB)) : w.heap.size ≤ gb453)); replace HB := Aside0.mk (below_step (kl HB) hb); clear hb hbox hg; have hcz5_0 : w4.cell? ⟨gb453, 0, none⟩ = some (.int .i64 a0_0) := bc BK453 0; have hcz5_1 : w4.cell? ⟨gb453, 1, none⟩ = some (.int .i64 a0_1) := bc BK453 1; have hcz5_2 : w4.cell? ⟨gb453, 2, none⟩ = some (.slice A0_2 l0_2.length c0_2) := bc BK453 2; have hcz5_3 : w4.cell? ⟨gb453, 3, none⟩ = some (.slice A0_3 l0_3.length c0_3) := bc BK453 3; have hcz5_4 : w4.cell? ⟨gb453, 4, none⟩ = some (.slice A0_4 l0_4.length c0_4) := bc BK453 4; have hcz5_5 : w4.cell? ⟨gb453, 5, none⟩ = some (.slice A0_5 l0_5.length c0_5) := bc BK453 5; have hfz5_0 := blk_frozen BK453.out 0; have hfz5_1 := blk_frozen BK453.out 1; have hfz5_2 := blk_frozen BK453.out 2; have hfz5_3 := blk_frozen BK453.out 3; have hfz5_4 := blk_frozen BK453.out 4; have hfz5_5 := blk_frozen BK453.out 5)); try go_wp2_with (first | ((with_reducible refine gate_dst (N := 2) rfl ?_); refine box_event ?hg (N := 2) ?hd (cs := #[.int .i64 a0_0, .int .i64 a0_1, .slice A0_2 l0_2.length c0_2, .slice A0_3 l0_3.length c0_3, .slice A0_4 l0_4.length c0_4, .slice A0_5 l0_5.length c0_5]) (t := 27) ?hr ?_; (case hd => rfl); (case hg => rfl); (case hr => first | (go_simp; done) | (go_simp; rfl)); intro gb453 hg w4 hbox hb; have BK453 := Aside0.mk (hbox); have GW453 := Aside0.mk ((by rw [hg]; exact (below_size (kl HB)) : w.heap.size ≤ gb453)); have GE453 := Aside0.mk ((by rw [hg]; exact (below_size (kl HB)) : w.heap.size ≤ gb453)); replace HB := Aside0.mk (below_step (kl HB) hb); clear hb hbox hg; have hcz5_0 : w4.cell? ⟨gb453, 0, none⟩ = some (.int .i64 a0_0) := bc BK453 0; have hcz5_1 : w4.cell? ⟨gb453, 1, none⟩ = some (.int .i64 a0_1) := bc BK453 1; have hcz5_2 : w4.cell? ⟨gb453, 2, none⟩ = some (.slice A0_2 l0_2.length c0_2) := bc BK453 2; have hcz5_3 : w4.cell? ⟨gb453, 3, none⟩ = some (.slice A0_3 l0_3.length c0_3) := bc BK453 3; have hcz5_4 : w4.cell? ⟨gb453, 4, none⟩ = some (.slice A0_4 l0_4.length c0_4) := bc BK453 4; have hcz5_5 : w4.cell? ⟨gb453, 5, none⟩ = some (.slice A0_5 l0_5.length c0_5) := bc BK453 5; have hfz5_0 := blk_frozen BK453.out 0; have hfz5_1 := blk_frozen BK453.out 1; have hfz5_2 := blk_frozen BK453.out 2; have hfz5_3 := blk_frozen BK453.out 3; have hfz5_4 := blk_frozen BK453.out 4; have hfz5_5 := blk_frozen BK453.out 5)))
  go_loopg [5] k (fun kq v5 w' => ∃ (x5_1 : Int), v5 = .int .i64 x5_1 ∧ Aside0 (callboardlaw21_watched.l0 kq l1 x5_1 a0_0 a0_1 l0_2 l0_3 l0_4 l0_5 = some r) ∧ Aside0 (kq ≤ k) ∧ Aside0 (w'.heap[gb453]? = some (.cells #[.int .i64 a0_0, .int .i64 a0_1, (.slice A0_2 l0_2.length c0_2), (.slice A0_3 l0_3.length c0_3), (.slice A0_4 l0_4.length c0_4), (.slice A0_5 l0_5.length c0_5)] 27 (0, 0))) ∧ Aside0 (Below w.heap.size w w'))
  case atStart => exact ⟨(0), (by first | rfl | (simp; done) | (simp [*]; done)), H', ⟨Nat.le_refl _⟩, ⟨kb BK453⟩, ⟨kl HB⟩⟩
  case round =>
   clear H'
   try clear c1
   try clear p2
   try clear c3
   try clear c3b0
   try clear c3b1
   try clear c3b2
   try clear c5
   try clear hcz5_0
   try clear hcz5_1
   try clear hcz5_2
   try clear hcz5_3
   try clear hcz5_4
   try clear hcz5_5
   try clear hfz5_0
   try clear hfz5_1
   try clear hfz5_2
   try clear hfz5_3
   try clear hfz5_4
   try clear hfz5_5
   obtain ⟨x5_1, rfl, HA, HK1, BK453, HB⟩ := hrel
   cases gk with
   | zero => exact absurd HA.out (by simp [callboardlaw21_watched.l0])
   | succ k1 =>
    have H := HA.out
    clear HA
    simp only [callboardlaw21_watched.l0] at H
    by_cases c6 : x5_1 < (l1.length : Int)
    ·rw [if_pos c6] at H
     have c6b0 : decide (x5_1 < (l1.length : Int)) = true := decide_eq_true c6
     clear c6
     by_cases c7 : 0 ≤ x5_1
     ·rw [if_pos c7] at H
      have c7b0 : decide (0 ≤ x5_1) = true := decide_eq_true c7
      clear c7
      by_cases c8 : x5_1 < (l0_5.length : Int)
      ·rw [if_pos c8] at H
       have c8b0 : decide (x5_1 < (l0_5.length : Int)) = true := decide_eq_true c8
       clear c8
       by_cases c9 : ((rd_T132 l0_5 x5_1).f1) = (rd l1 x5_1)
       ·rw [if_pos c9] at H
        have c9b0 : (((rd_T132 l0_5 x5_1).f1) == (rd l1 x5_1)) = true := beq_iff_eq.mpr c9
        have c9b1 : (((rd_T132 l0_5 x5_1).f1) != (rd l1 x5_1)) = false := bne_eq_false_iff_eq.mpr c9
        clear c9
        have H' := Aside0.mk H
        clear H
        have hcz10_0 : wr.cell? ⟨gb453, 0, none⟩ = some (.int .i64 a0_0) := bc BK453 0
        have hcz10_1 : wr.cell? ⟨gb453, 1, none⟩ = some (.int .i64 a0_1) := bc BK453 1
        have hcz10_2 : wr.cell? ⟨gb453, 2, none⟩ = some (.slice A0_2 l0_2.length c0_2) := bc BK453 2
        have hcz10_3 : wr.cell? ⟨gb453, 3, none⟩ = some (.slice A0_3 l0_3.length c0_3) := bc BK453 3
        have hcz10_4 : wr.cell? ⟨gb453, 4, none⟩ = some (.slice A0_4 l0_4.length c0_4) := bc BK453 4
        have hcz10_5 : wr.cell? ⟨gb453, 5, none⟩ = some (.slice A0_5 l0_5.length c0_5) := bc BK453 5
        have hfz10_0 := blk_frozen BK453.out 0
        have hfz10_1 := blk_frozen BK453.out 1
        have hfz10_2 := blk_frozen BK453.out 2
        have hfz10_3 := blk_frozen BK453.out 3
        have hfz10_4 := blk_frozen BK453.out 4
        have hfz10_5 := blk_frozen BK453.out 5
        have p454 : 0 ≤ (x5_1 : Int) := of_decide_eq_true (by first | (with_reducible assumption) | assumption)
        have q454 : x5_1 < (l0_5.length : Int) := of_decide_eq_true (by first | (with_reducible assumption) | assumption)
        obtain ⟨ad454, e454, hx454_0, hx454_1, hx454_2, hx454_3, hx454_4, hx454_5, hx454_6⟩ := at_T132 HR0_5.out x5_1 p454 q454
        cases e454
        replace hx454_0 := (HB.out.cell (World.block_lt_of_cell? w _ hx454_0)).trans hx454_0
        replace hx454_1 := (HB.out.cell (World.block_lt_of_cell? w _ hx454_1)).trans hx454_1
        replace hx454_2 := (HB.out.cell (World.block_lt_of_cell? w _ hx454_2)).trans hx454_2
        replace hx454_3 := (HB.out.cell (World.block_lt_of_cell? w _ hx454_3)).trans hx454_3
        replace hx454_4 := (HB.out.cell (World.block_lt_of_cell? w _ hx454_4)).trans hx454_4
        replace hx454_5 := (HB.out.cell (World.block_lt_of_cell? w _ hx454_5)).trans hx454_5
        replace hx454_6 := (HB.out.cell (World.block_lt_of_cell? w _ hx454_6)).trans hx454_6
        replace p454 := eq_true p454
        replace q454 := eq_true q454
        have p455 : 0 ≤ (x5_1 : Int) := of_decide_eq_true (by first | (with_reducible assumption) | assumption)
        have q455 : x5_1 < (l1.length : Int) := of_decide_eq_true (by first | (with_reducible assumption) | assumption)
        obtain ⟨ad455, e455, hx455_0⟩ := Kd.at_int HR1.out x5_1 p455 q455
        cases e455
        replace hx455_0 := (HB.out.cell (World.block_lt_of_cell? w _ hx455_0)).trans hx455_0
        replace p455 := eq_true p455
        replace q455 := eq_true q455
        go_wp2
        repeat (go_quiet (fail); try go_wp2)
        go_roundg k1
        case measure => have := HK1.out; omega
        case rel => exact ⟨(wrap64 (x5_1 + 1)), (by first | rfl | (simp; done) | (simp [*]; done)), H', ⟨by have := HK1.out; omega⟩, ⟨kb BK453⟩, ⟨kl HB⟩⟩
       ·rw [if_neg c9] at H
        exact absurd (H.trans (congrArg some hT.out)) (by decide)
      ·rw [if_neg c8] at H
       exact absurd H (by simp)
     ·rw [if_neg c7] at H
      exact absurd H (by simp)
    ·rw [if_neg c6] at H
     have c6b0 : decide (x5_1 < (l1.length : Int)) = false := decide_eq_false c6
     clear c6
     obtain rfl := Option.some.inj H
     go_wp2
     repeat (go_quiet (fail); try go_wp2)
     go_ret
     exact ⟨by first | rfl | (simp [errW_none, errW_some] <;> rfl) | (simp [*, errW_none, errW_some] <;> rfl), kl HB⟩
 ·rw [if_neg c3] at H
  exact absurd (H.trans (congrArg some hT.out)) (by decide)

end Go.Proofs.Ythonmfcollafkaa.P
-- GENERATED by wip/gen.py (this session's own driver of a mended copy of the printer). Not trusted: Lean checks it.
namespace Go.Proofs.Ythonmfcollafkaa.P
open Go.RowKit Go.Proofs.YthonmfcollafkaaW.PrintWords Go.Proofs.YthonmfcollafkaaW.PrintLast Go.Proofs.YthonmfcollafkaaW.PrintMore
attribute [local go_sem] Go.Proofs.YthonmfcollafkaaB.less_swap Go.Proofs.YthonmfcollafkaaB.less_or max2_int min2_int max_two min_two max_three min_three max_four min_four   -- for this text's walks alone
set_option linter.unusedVariables false
set_option linter.unusedSimpArgs false

/-! ### callboardref05_Ints: function 35 -/
def callboardref05_Ints.l0 : Nat → List Int → List Int → Int → Option (Bool)
 | 0, _, _, _ => none
 | k + 1, x0, x1, x5 => if x5 < (x0.length : Int) then (if 0 ≤ x5 then (if x5 < (x1.length : Int) then (if (rd x0 x5) = (rd x1 x5) then (callboardref05_Ints.l0 k x0 x1 (wrap64 (x5 + 1))) else (some false)) else (none)) else (none)) else (some true)
def callboardref05_Ints.f (k : Nat) (l0 : List Int) (l1 : List Int) : Option (Bool) := if (l0.length : Int) = (l1.length : Int) then (callboardref05_Ints.l0 k l0 l1 0) else (some false)
set_option maxHeartbeats 8000000 in
set_option maxRecDepth 100000 in
theorem callboardref05_Ints.calls (k : Nat) (A0 : Option Addr) (c0 : Nat) (l0 : List Int) (A1 : Option Addr) (c1 : Nat) (l1 : List Int) (r : Bool) (w : World) (hr0 : Kd.C (Kd.int .i64) w A0 l0.length l0) (hc0 : l0.length ≤ c0) (hr1 : Kd.C (Kd.int .i64) w A1 l1.length l1) (hc1 : l1.length ≤ c1) (h : callboardref05_Ints.f k l0 l1 = some r) (hT : Aside0 (r = true)) :
  Calls Try.prog 35 #[.slice A0 l0.length c0, .slice A1 l1.length c1] w fun e w' => e = .returned (.bool r) ∧ Drawn0 w w' := by
 have HR0 := Aside0.mk hr0
 have HC0 := Aside0.mk hc0
 clear hr0 hc0
 have HR1 := Aside0.mk hr1
 have HC1 := Aside0.mk hc1
 clear hr1 hc1
 have H : (if (l0.length : Int) = (l1.length : Int) then (callboardref05_Ints.l0 k l0 l1 0) else (some false)) = some r := h
 clear h
 by_cases c3 : (l0.length : Int) = (l1.length : Int)
 ·rw [if_pos c3] at H
  have c3b0 : ((l0.length : Int) == (l1.length : Int)) = true := beq_iff_eq.mpr c3
  have c3b1 : ((l0.length : Int) != (l1.length : Int)) = false := bne_eq_false_iff_eq.mpr c3
  have c3b2 : (l0.length == l1.length) = true := by first | simpa using c3 | (simp at c3 ⊢; omega)
  clear c3
  have H' := Aside0.mk H
  clear H
  go_enter Try.func35, Try.ntmps35
  go_wp2
  repeat (go_quiet (fail); try go_wp2)
  go_loopg [5] k (fun kq v5 w' => ∃ (x5_1 : Int), v5 = .int .i64 x5_1 ∧ Aside0 (callboardref05_Ints.l0 kq l0 l1 x5_1 = some r) ∧ Aside0 (kq ≤ k) ∧ Drawn0 w w')
  case atStart => exact ⟨(0), (by first | rfl | (simp; done) | (simp [*]; done)), H', ⟨Nat.le_refl _⟩, by repeat (first | exact Drawn0.refl _ | apply Drawn0.step)⟩
  case round =>
   clear H'
   try clear c1
   try clear p2
   try clear c3
   try clear c3b0
   try clear c3b1
   try clear c3b2
   obtain ⟨x5_1, rfl, HA, HK1, ⟨m1, rfl⟩⟩ := hrel
   cases gk with
   | zero => exact absurd HA.out (by simp [callboardref05_Ints.l0])
   | succ k1 =>
    have H := HA.out
    clear HA
    simp only [callboardref05_Ints.l0] at H
    by_cases c4 : x5_1 < (l0.length : Int)
    ·rw [if_pos c4] at H
     have c4b0 : decide (x5_1 < (l0.length : Int)) = true := decide_eq_true c4
     clear c4
     by_cases c5 : 0 ≤ x5_1
     ·rw [if_pos c5] at H
      have c5b0 : decide (0 ≤ x5_1) = true := decide_eq_true c5
      clear c5
      by_cases c6 : x5_1 < (l1.length : Int)
      ·rw [if_pos c6] at H
       have c6b0 : decide (x5_1 < (l1.length : Int)) = true := decide_eq_true c6
       clear c6
       by_cases c7 : (rd l0 x5_1) = (rd l1 x5_1)
       ·rw [if_pos c7] at H
        have c7b0 : ((rd l0 x5_1) == (rd l1 x5_1)) = true := beq_iff_eq.mpr c7
        have c7b1 : ((rd l0 x5_1) != (rd l1 x5_1)) = false := bne_eq_false_iff_eq.mpr c7
        clear c7
        have H' := Aside0.mk H
        clear H
        have p105 : 0 ≤ (x5_1 : Int) := of_decide_eq_true (by first | (with_reducible assumption) | assumption)
        have q105 : x5_1 < (l0.length : Int) := of_decide_eq_true (by first | (with_reducible assumption) | assumption)
        obtain ⟨ad105, e105, hx105_0⟩ := Kd.at_int HR0.out x5_1 p105 q105
        cases e105
        replace p105 := eq_true p105
        replace q105 := eq_true q105
        have p106 : 0 ≤ (x5_1 : Int) := of_decide_eq_true (by first | (with_reducible assumption) | assumption)
        have q106 : x5_1 < (l1.length : Int) := of_decide_eq_true (by first | (with_reducible assumption) | assumption)
        obtain ⟨ad106, e106, hx106_0⟩ := Kd.at_int HR1.out x5_1 p106 q106
        cases e106
        replace p106 := eq_true p106
        replace q106 := eq_true q106
        go_wp2
        repeat (go_quiet (fail); try go_wp2)
        go_roundg k1
        case measure => have := HK1.out; omega
        case rel => exact ⟨(wrap64 (x5_1 + 1)), (by first | rfl | (simp; done) | (simp [*]; done)), H', ⟨by have := HK1.out; omega⟩, by repeat (first | exact Drawn0.refl _ | apply Drawn0.step)⟩
       ·rw [if_neg c7] at H
        exact absurd (H.trans (congrArg some hT.out)) (by decide)
      ·rw [if_neg c6] at H
       exact absurd H (by simp)
     ·rw [if_neg c5] at H
      exact absurd H (by simp)
    ·rw [if_neg c4] at H
     have c4b0 : decide (x5_1 < (l0.length : Int)) = false := decide_eq_false c4
     clear c4
     obtain rfl := Option.some.inj H
     go_wp2
     repeat (go_quiet (fail); try go_wp2)
     go_ret
     exact ⟨by first | rfl | (simp; done) | (simp [*]; done), by repeat (first | exact Drawn0.refl _ | apply Drawn0.step)⟩
 ·rw [if_neg c3] at H
  exact absurd (H.trans (congrArg some hT.out)) (by decide)

end Go.Proofs.Ythonmfcollafkaa.P
/- The examples of the laws of cancel: contracts in few words. -/
namespace Go.Proofs.Ythonmfcollafkaa.P
open Go.RowKit Go.Proofs.YthonmfcollafkaaW.PrintWords Go.Proofs.YthonmfcollafkaaW.PrintLast Go.Proofs.YthonmfcollafkaaW.PrintMore
set_option linter.unusedVariables false
set_option linter.unusedSimpArgs false

theorem find_f (a b : Int) (l2 : List S34) (its : List S43) (l4 : List S129) (l5 : List S132) (hl : its.length ≤ 1000000000) (id : Int) : arena_Find.f a b l2 its l4 l5 id = some (((findI its id).getD z43').f0, ((findI its id).getD z43').f1, ((findI its id).getD z43').f2, ((findI its id).getD z43').f3, ((findI its id).getD z43').f4, ((findI its id).getD z43').f5, ((findI its id).getD z43').f6, ((findI its id).getD z43').f7, (findI its id).isSome) := by
  unfold arena_Find.f arena_place.f
  rw [if_pos (by omega), Option.bind_some]
  cases hf : findI its id with
  | none =>
    rw [findI_none hf]
    rfl
  | some x =>
    obtain ⟨j, hj, hlt, rfl⟩ := findI_at x hf
    have hrd : rd_T43 its (j : Int) = its[j] := by unfold rd_T43; simp [List.getD_eq_getElem?_getD, hlt]
    rw [hj, if_neg (by omega), if_pos (by omega), if_pos (by omega), hrd]
    rfl
def goneL (a b : List S43) : List Int := (a.filter (fun t => !(findI b t.f0).isSome)).map (fun t => t.f0)
theorem gone_l0 (its its2 : List S43) (hn : its.length ≤ 1000000) (hn2 : its2.length ≤ 1000000) (a b : Int) (l2 : List S34) (l4 : List S129) (l5 : List S132) : ∀ (d i : Nat) (out : List Int), d + i = its.length → out.length ≤ i →
    cancel_Gone.l0 (d + 1) out its (its.length : Int) (i : Int) a b l2 its2 l4 l5 = (slices_Sort_int_int.f (out ++ goneL (its.drop i) its2)).bind fun t => (slices_Compact_int_int.f t).bind some := by
  intro d
  induction d with
  | zero =>
    intro i out h1 h2
    rw [cancel_Gone.l0, if_neg (by omega), List.drop_of_length_le (by omega)]
    simp [goneL]
  | succ d ih =>
    intro i out h1 h2
    have hlt : i < its.length := by omega
    have hrd : rd_T43 its (i : Int) = its[i] := by unfold rd_T43; simp [List.getD_eq_getElem?_getD, hlt]
    have hw : wrap64 ((i : Int) + 1) = ((i + 1 : Nat) : Int) := by rw [wrap_up (n := its.length) (by omega) (by omega) hn]; omega
    rw [cancel_Gone.l0, if_pos (by omega), if_pos (by omega), if_pos (by omega), hrd, hw, find_f _ _ _ _ _ _ (by omega), Option.bind_some, List.drop_eq_getElem_cons hlt]
    unfold goneL at ih ⊢
    rw [List.filter_cons]
    cases hs : (findI its2 its[i].f0).isSome with
    | true =>
      simp only [hs, if_true, Bool.not_true, Bool.false_eq_true, if_false]
      rw [ih (i + 1) out (by omega) (by omega)]
    | false =>
      simp only [hs, if_true, Bool.not_false, Bool.false_eq_true, if_false]
      rw [if_pos (by omega), ih (i + 1) (out ++ [its[i].f0]) (by omega) (by simp; omega)]
      simp
theorem goneL_len (a b : List S43) : (goneL a b).length ≤ a.length := by unfold goneL; rw [List.length_map]; exact List.length_filter_le _ _
/-- cancel.Gone of two states. -/
theorem gone_calls {w : World} {v v2 : Value} {s s2 : Stt} (hS : St w v s) (hF : Fit s) (hS2 : St w v2 s2) (hF2 : Fit s2) : Calls Try.prog 47 #[v, v2] w fun e w' => ∃ v', e = .returned v' ∧ kI.R 3 w' w.heap.size (fun _ => True) v' (Lib.compact (sortL (goneL s.items s2.items))) ∧ Below w.heap.size w w' := by
  obtain ⟨A2, c2, A3, c3, A4, c4, A5, c5, rfl, h2, k2, h3, k3, h4, k4, h5, k5⟩ := hS
  obtain ⟨B2, d2, B3, d3, B4, d4, B5, d5, rfl, g2, m2, g3, m3, g4, m4, g5, m5⟩ := hS2
  have hn := hF.items
  have hg := goneL_len s.items s2.items
  have hs := sortL_len (goneL s.items s2.items)
  refine cancel_Gone.calls (s.items.length + 1) s.clk s.nxt A2 c2 s.defs A3 c3 s.items A4 c4 s.cells A5 c5 s.wats s2.clk s2.nxt B2 d2 s2.defs B3 d3 s2.items B4 d4 s2.cells B5 d5 s2.wats _ w h2 k2 h3 k3 h4 k4 h5 k5 g2 m2 g3 m3 g4 m4 g5 m5 ?_
  unfold cancel_Gone.f
  have e : (0 : Int) = ((0 : Nat) : Int) := rfl
  rw [e, gone_l0 s.items s2.items hF.items hF2.items s2.clk s2.nxt s2.defs s2.cells s2.wats s.items.length 0 [] (by omega) (Nat.le_refl _), List.drop_zero, List.nil_append]
  unfold slices_Sort_int_int.f
  rw [if_pos (by omega), Option.bind_some]
  unfold slices_Compact_int_int.f
  rw [if_pos (by omega)]; rfl
/-- A state in which just some items, their cells, and the watches of some, are not. -/
def cutL (s : Stt) (l m : List Int) : Stt := { s with items := s.items.filter (fun x => !decide (x.f0 ∈ l)), cells := s.cells.filter (fun x => !decide (x.f0 ∈ l)), wats := s.wats.filter (fun x => !decide (x.f1 ∈ m)) }
theorem cut_L (s : Stt) {p q : Int → Prop} {l m : List Int} (h : ∀ x, p x ↔ x ∈ l) (h' : ∀ x, q x ↔ x ∈ m) : cut s p q = cutL s l m := by
  unfold cut cutL
  simp only [Stt.mk.injEq, true_and]
  refine ⟨?_, ?_, ?_⟩ <;> (apply List.filter_congr; intro x _; simp [h, h'])
def towerS : Stt := ⟨7, 9, [], [⟨1, 0, 1, ⟨#[]⟩, -1, 0, 0, ⟨#[]⟩⟩, ⟨2, 1, 2, ⟨#[]⟩, 0, 0, 0, ⟨#[]⟩⟩, ⟨3, 2, 1, ⟨#[]⟩, 0, 0, 0, ⟨#[]⟩⟩, ⟨4, 3, 2, ⟨#[]⟩, 0, 0, 0, ⟨#[]⟩⟩, ⟨5, 1, 2, ⟨#[]⟩, 0, 0, 0, ⟨#[]⟩⟩],
  [⟨1, ⟨#[120]⟩, ⟨0, 0, ⟨#[]⟩⟩⟩, ⟨2, ⟨#[120]⟩, ⟨0, 0, ⟨#[]⟩⟩⟩, ⟨3, ⟨#[120]⟩, ⟨0, 0, ⟨#[]⟩⟩⟩, ⟨4, ⟨#[120]⟩, ⟨0, 0, ⟨#[]⟩⟩⟩, ⟨5, ⟨#[120]⟩, ⟨0, 0, ⟨#[]⟩⟩⟩],
  [⟨11, 1, 0, 0, ⟨#[]⟩, 0, false⟩, ⟨12, 2, 0, 0, ⟨#[]⟩, 0, false⟩, ⟨13, 3, 0, 0, ⟨#[]⟩, 0, false⟩, ⟨14, 4, 0, 0, ⟨#[]⟩, 0, false⟩, ⟨15, 5, 0, 0, ⟨#[]⟩, 0, false⟩]⟩
theorem tower_f : callboardlaw21_tower.f 10 = some (7, 9, towerS.defs, towerS.items, towerS.cells, towerS.wats) := by kernel_rfl
theorem tower_calls (w : World) : Calls Try.prog 52 #[] w fun e w' => ∃ v, e = .returned v ∧ St w' v towerS ∧ Below w.heap.size w w' := by
  refine (callboardlaw21_tower.calls 10 7 9 towerS.defs towerS.items towerS.cells towerS.wats w tower_f).mono ?_
  rintro e w' ⟨v2, v3, v4, v5, rfl, r2, r3, r4, r5, hb⟩
  obtain ⟨A2, c2, rfl, i2, j2⟩ := Kd.R_reads r2
  exact ⟨_, rfl, st_of (s := towerS) j2 i2 r3 r4 r5, hb⟩
theorem tower_fit : Fit towerS := ⟨by decide, by decide, by decide, by decide, by decide⟩
theorem left_calls {w : World} {v : Value} {s : Stt} (hS : St w v s) {A : Option Addr} {c : Nat} (ids : List Int) (hC : kI.C w A ids.length ids) (hc : ids.length ≤ c) (k : Nat) (h : callboardlaw21_left.f k s.clk s.nxt s.defs s.items s.cells s.wats ids = some true) : Calls Try.prog 55 #[v, .slice A ids.length c] w fun e w' => e = .returned (.bool true) ∧ Below w.heap.size w w' := by
  obtain ⟨A2, c2, A3, c3, A4, c4, A5, c5, rfl, h2, k2, h3, k3, h4, k4, h5, k5⟩ := hS
  exact callboardlaw21_left.calls k s.clk s.nxt A2 c2 s.defs A3 c3 s.items A4 c4 s.cells A5 c5 s.wats A c ids true w h2 k2 h3 k3 h4 k4 h5 k5 hC hc h ⟨rfl⟩
theorem watched_calls {w : World} {v : Value} {s : Stt} (hS : St w v s) {A : Option Addr} {c : Nat} (ids : List Int) (hC : kI.C w A ids.length ids) (hc : ids.length ≤ c) (k : Nat) (h : callboardlaw21_watched.f k s.clk s.nxt s.defs s.items s.cells s.wats ids = some true) : Calls Try.prog 53 #[v, .slice A ids.length c] w fun e w' => e = .returned (.bool true) ∧ Below w.heap.size w w' := by
  obtain ⟨A2, c2, A3, c3, A4, c4, A5, c5, rfl, h2, k2, h3, k3, h4, k4, h5, k5⟩ := hS
  exact callboardlaw21_watched.calls k s.clk s.nxt A2 c2 s.defs A3 c3 s.items A4 c4 s.cells A5 c5 s.wats A c ids true w h2 k2 h3 k3 h4 k4 h5 k5 hC hc h ⟨rfl⟩
theorem ints_calls {w : World} {A B : Option Addr} {c d : Nat} (l m : List Int) (hC : kI.C w A l.length l) (hc : l.length ≤ c) (hD : kI.C w B m.length m) (hd : m.length ≤ d) (k : Nat) (h : callboardref05_Ints.f k l m = some true) : Calls Try.prog 35 #[.slice A l.length c, .slice B m.length d] w fun e w' => e = .returned (.bool true) ∧ Below w.heap.size w w' :=
  (callboardref05_Ints.calls k A c l B d m true w hC hc hD hd h ⟨rfl⟩).mono fun e w' ⟨he, hd⟩ => ⟨he, hd.below⟩
theorem ids_C (W : World) (l : List Int) (hl : l.length ≤ 1000) : kI.C (W.alloc (.cells (nums .i64 l).toArray 3 (0, 0))) (some ⟨W.heap.size, 0, none⟩) l.length l := by
  have h : kI.R 3 (W.alloc (.cells (nums .i64 l).toArray 3 (0, 0))) 0 (fun _ => True) (.slice (some ⟨W.heap.size, 0, none⟩) l.length l.length) l := Kd.R_of_own (own_lit W 0 3 .i64 l (Nat.zero_le _) (by omega)) (fun _ _ => trivial)
  exact (Kd.Q_reads' (Kd.Q_of_R h)).2.2
end Go.Proofs.Ythonmfcollafkaa.P
/- callboardlaw21.works. -/
namespace Go.Proofs.Ythonmfcollafkaa.P
open Go.RowKit Go.Proofs.YthonmfcollafkaaW.PrintWords Go.Proofs.YthonmfcollafkaaW.PrintLast Go.Proofs.YthonmfcollafkaaW.PrintMore
set_option linter.unusedVariables false
set_option linter.unusedSimpArgs false
theorem gone_list (s : Stt) (a : Int) (l : List Int) (ht : There s.items a) (h0 : a ∈ l) (hc : ∀ it ∈ s.items, it.f1 ∈ l → it.f0 ∈ l) (hs : ∀ x ∈ l, x = a ∨ Desc s.items a x) : takeS s a = cutL s l l := cut_L s (gone_of _ a l ht h0 hc hs) (gone_of _ a l ht h0 hc hs)
theorem below_list (s : Stt) (a : Int) (l : List Int) (ht : There s.items a) (ha : a ∉ l) (hc : ∀ it ∈ s.items, it.f1 ∈ a :: l → it.f0 ∈ a :: l) (hs : ∀ x ∈ l, Desc s.items a x) : clearS s a = cutL s l l := by
  have h : ∀ x, Below' s.items a x ↔ x ∈ l := by
    intro x
    have hg := gone_of s.items a (a :: l) ht List.mem_cons_self hc (fun y hy => (List.mem_cons.1 hy).imp id (hs y)) x
    constructor
    · rintro ⟨h1, h2, h3⟩
      exact (List.mem_cons.1 (hg.1 ⟨h1, .inr h2⟩)).resolve_left h3
    · intro hx
      exact ⟨ht, hs x hx, fun e => ha (e ▸ hx)⟩
  exact cut_L s h h
theorem kid_of {its : List S43} (it : S43) (h : it ∈ its) (hne : it.f0 ≠ it.f1) : kidOf its it.f1 it.f0 := ⟨it, h, rfl, rfl, hne⟩
theorem k12 : kidOf towerS.items 1 2 := kid_of (its := towerS.items) ⟨2, 1, 2, ⟨#[]⟩, 0, 0, 0, ⟨#[]⟩⟩ (by simp [towerS]) (by decide)
theorem k23 : kidOf towerS.items 2 3 := kid_of (its := towerS.items) ⟨3, 2, 1, ⟨#[]⟩, 0, 0, 0, ⟨#[]⟩⟩ (by simp [towerS]) (by decide)
theorem k34' : kidOf towerS.items 3 4 := kid_of (its := towerS.items) ⟨4, 3, 2, ⟨#[]⟩, 0, 0, 0, ⟨#[]⟩⟩ (by simp [towerS]) (by decide)
theorem k15 : kidOf towerS.items 1 5 := kid_of (its := towerS.items) ⟨5, 1, 2, ⟨#[]⟩, 0, 0, 0, ⟨#[]⟩⟩ (by simp [towerS]) (by decide)
theorem there_of' {its : List S43} {a : Int} (h : (its.any fun x => x.f0 == a) = true) : There its a := by
  obtain ⟨x, hx, he⟩ := List.any_eq_true.1 h
  exact ⟨x, hx, by simpa using he⟩
theorem not_there {its : List S43} {a : Int} (h : (its.any fun x => x.f0 == a) = false) : ¬ There its a := by
  rintro ⟨x, hx, he⟩
  have := List.any_eq_false.1 h x hx
  simp [he] at this
theorem take2 : takeS towerS 2 = cutL towerS [2, 3, 4] [2, 3, 4] := gone_list towerS 2 [2, 3, 4] (there_of' (by decide)) (by decide) (by decide) (by
  intro x hx
  simp only [List.mem_cons, List.not_mem_nil, or_false] at hx
  rcases hx with rfl | rfl | rfl
  · exact .inl rfl
  · exact .inr (.kid k23)
  · exact .inr (.step (.kid k23) k34'))
theorem clear3 : clearS towerS 3 = cutL towerS [4] [4] := below_list towerS 3 [4] (there_of' (by decide)) (by decide) (by decide) (by
  intro x hx
  simp only [List.mem_cons, List.not_mem_nil, or_false] at hx
  subst hx
  exact .kid k34')
theorem take9 : takeS towerS 9 = towerS := take_not _ _ (not_there (by decide))
theorem fit_cut4 : Fit (cutL towerS [4] [4]) := ⟨by decide, by decide, by decide, by decide, by decide⟩
theorem sorted_eq (l : List Int) (h : l.Pairwise (fun a b => decide (a ≤ b) = true)) : sortL l = l := List.mergeSort_of_pairwise h
theorem gone4 : Lib.compact (sortL (goneL towerS.items (cutL towerS [4] [4]).items)) = [4] := by
  have e : goneL towerS.items (cutL towerS [4] [4]).items = [4] := by decide
  rw [e, sorted_eq [4] (by decide)]
  decide
set_option maxHeartbeats 8000000 in
set_option maxRecDepth 100000 in
theorem works_calls (w : World) : Calls Try.prog 43 #[] w fun e w' => e = .returned (.bool true) ∧ Below w.heap.size w w' := by
  have hu := Try.underlying27
  have HB := Aside0.mk (Below.refl w.heap.size w)
  go_enter Try.func43, Try.ntmps43
  go_wp2_with fail
  refine Calls.mono (tower_calls _) ?_
  rintro e w1 ⟨tv, rfl, hS, hb⟩
  have FB : Aside0 (Below w.heap.size w w1) := by first | exact ⟨below_step (Below.refl _ _) hb⟩ | exact ⟨below_step (below_alloc (Below.refl _ _) _) hb⟩ | exact ⟨below_step (below_alloc (below_alloc (Below.refl _ _) _) _) hb⟩ | exact ⟨below_step (below_drew (Below.refl _ _)) hb⟩ | exact ⟨below_step (below_alloc (below_drew (Below.refl _ _)) _) hb⟩
  replace HB := Aside0.mk (below_step HB.out FB.out)
  obtain ⟨tA2, tc2, tA3, tc3, tA4, tc4, tA5, tc5, rfl, _⟩ := id hS
  have St := Aside0.mk hS
  clear hS
  clear hb FB
  go_wp2_with fail
  refine Calls.mono (clear_calls (s := towerS) ?hst tower_fit 3 (by decide)) ?_
  case hst => first | exact St.out | exact St.out.below (below_alloc (Below.refl _ _) _) | exact St.out.below (below_alloc (below_alloc (Below.refl _ _) _) _) | exact St.out.below (below_drew (Below.refl _ _)) | exact St.out.below (below_alloc (below_drew (Below.refl _ _)) _)
  rintro e w2 ⟨uv, rfl, hS, hb⟩
  have FB : Aside0 (Below w1.heap.size w1 w2) := by first | exact ⟨below_step (Below.refl _ _) hb⟩ | exact ⟨below_step (below_alloc (Below.refl _ _) _) hb⟩ | exact ⟨below_step (below_alloc (below_alloc (Below.refl _ _) _) _) hb⟩ | exact ⟨below_step (below_drew (Below.refl _ _)) hb⟩ | exact ⟨below_step (below_alloc (below_drew (Below.refl _ _)) _) hb⟩
  have Bt : Aside0 (w2.heap[w1.heap.size]? = some (.cells #[.int .i64 (towerS).clk, .int .i64 (towerS).nxt, .slice tA2 (towerS).defs.length tc2, .slice tA3 (towerS).items.length tc3, .slice tA4 (towerS).cells.length tc4, .slice tA5 (towerS).wats.length tc5] 27 (0, 0))) := ⟨blk_below (blk_new w1 _) hb⟩
  replace St := Aside0.mk (St.out.below FB.out)
  replace HB := Aside0.mk (below_step HB.out FB.out)
  rw [clear3] at hS
  obtain ⟨uA2, uc2, uA3, uc3, uA4, uc4, uA5, uc5, rfl, _⟩ := id hS
  have Su := Aside0.mk hS
  clear hS
  clear hb FB
  have ti0 := blk_cell Bt.out 0
  have ti1 := blk_cell Bt.out 1
  have ti2 := blk_cell Bt.out 2
  have ti3 := blk_cell Bt.out 3
  have ti4 := blk_cell Bt.out 4
  have ti5 := blk_cell Bt.out 5
  simp only [List.getElem?_toArray, List.getElem?_cons_zero, List.getElem?_cons_succ] at ti0 ti1 ti2 ti3 ti4 ti5
  have thl := blk_lt Bt.out
  go_wp2_with fail
  refine Calls.mono (take_calls (s := towerS) ?hst tower_fit 2 (by decide)) ?_
  case hst => first | exact St.out | exact St.out.below (below_alloc (Below.refl _ _) _) | exact St.out.below (below_alloc (below_alloc (Below.refl _ _) _) _) | exact St.out.below (below_drew (Below.refl _ _)) | exact St.out.below (below_alloc (below_drew (Below.refl _ _)) _)
  rintro e w3 ⟨av, rfl, hS, hb⟩
  have FB : Aside0 (Below w2.heap.size w2 w3) := by first | exact ⟨below_step (Below.refl _ _) hb⟩ | exact ⟨below_step (below_alloc (Below.refl _ _) _) hb⟩ | exact ⟨below_step (below_alloc (below_alloc (Below.refl _ _) _) _) hb⟩ | exact ⟨below_step (below_drew (Below.refl _ _)) hb⟩ | exact ⟨below_step (below_alloc (below_drew (Below.refl _ _)) _) hb⟩
  clear ti0 ti1 ti2 ti3 ti4 ti5 thl
  replace Bt := Aside0.mk (blk_below Bt.out FB.out)
  have Bu : Aside0 (w3.heap[w2.heap.size]? = some (.cells #[.int .i64 (cutL towerS [4] [4]).clk, .int .i64 (cutL towerS [4] [4]).nxt, .slice uA2 (cutL towerS [4] [4]).defs.length uc2, .slice uA3 (cutL towerS [4] [4]).items.length uc3, .slice uA4 (cutL towerS [4] [4]).cells.length uc4, .slice uA5 (cutL towerS [4] [4]).wats.length uc5] 27 (0, 0))) := ⟨blk_below (blk_new w2 _) hb⟩
  replace St := Aside0.mk (St.out.below FB.out)
  replace Su := Aside0.mk (Su.out.below FB.out)
  replace HB := Aside0.mk (below_step HB.out FB.out)
  rw [take2] at hS
  obtain ⟨aA2, ac2, aA3, ac3, aA4, ac4, aA5, ac5, rfl, _⟩ := id hS
  have Sa := Aside0.mk hS
  clear hS
  clear hb FB
  have ti0 := blk_cell Bt.out 0
  have ti1 := blk_cell Bt.out 1
  have ti2 := blk_cell Bt.out 2
  have ti3 := blk_cell Bt.out 3
  have ti4 := blk_cell Bt.out 4
  have ti5 := blk_cell Bt.out 5
  simp only [List.getElem?_toArray, List.getElem?_cons_zero, List.getElem?_cons_succ] at ti0 ti1 ti2 ti3 ti4 ti5
  have thl := blk_lt Bt.out
  have ui0 := blk_cell Bu.out 0
  have ui1 := blk_cell Bu.out 1
  have ui2 := blk_cell Bu.out 2
  have ui3 := blk_cell Bu.out 3
  have ui4 := blk_cell Bu.out 4
  have ui5 := blk_cell Bu.out 5
  simp only [List.getElem?_toArray, List.getElem?_cons_zero, List.getElem?_cons_succ] at ui0 ui1 ui2 ui3 ui4 ui5
  have uhl := blk_lt Bu.out
  go_wp2_with fail
  refine Calls.mono (left_calls (s := cutL towerS [2, 3, 4] [2, 3, 4]) ?hst [1, 5] ?hC (Nat.le_refl _) 20 (by kernel_rfl)) ?_
  case hst => first | exact Sa.out | exact Sa.out.below (below_alloc (Below.refl _ _) _) | exact Sa.out.below (below_alloc (below_alloc (Below.refl _ _) _) _) | exact Sa.out.below (below_drew (Below.refl _ _)) | exact Sa.out.below (below_alloc (below_drew (Below.refl _ _)) _)
  case hC => exact ids_C _ [1, 5] (by decide)
  rintro e w4 ⟨rfl, hb⟩
  have FB : Aside0 (Below w3.heap.size w3 w4) := by first | exact ⟨below_step (Below.refl _ _) hb⟩ | exact ⟨below_step (below_alloc (Below.refl _ _) _) hb⟩ | exact ⟨below_step (below_alloc (below_alloc (Below.refl _ _) _) _) hb⟩ | exact ⟨below_step (below_drew (Below.refl _ _)) hb⟩ | exact ⟨below_step (below_alloc (below_drew (Below.refl _ _)) _) hb⟩
  clear ti0 ti1 ti2 ti3 ti4 ti5 thl ui0 ui1 ui2 ui3 ui4 ui5 uhl
  replace Bt := Aside0.mk (blk_below Bt.out FB.out)
  replace Bu := Aside0.mk (blk_below Bu.out FB.out)
  replace St := Aside0.mk (St.out.below FB.out)
  replace Su := Aside0.mk (Su.out.below FB.out)
  replace Sa := Aside0.mk (Sa.out.below FB.out)
  replace HB := Aside0.mk (below_step HB.out FB.out)
  clear hb FB
  have ti0 := blk_cell Bt.out 0
  have ti1 := blk_cell Bt.out 1
  have ti2 := blk_cell Bt.out 2
  have ti3 := blk_cell Bt.out 3
  have ti4 := blk_cell Bt.out 4
  have ti5 := blk_cell Bt.out 5
  simp only [List.getElem?_toArray, List.getElem?_cons_zero, List.getElem?_cons_succ] at ti0 ti1 ti2 ti3 ti4 ti5
  have thl := blk_lt Bt.out
  have ui0 := blk_cell Bu.out 0
  have ui1 := blk_cell Bu.out 1
  have ui2 := blk_cell Bu.out 2
  have ui3 := blk_cell Bu.out 3
  have ui4 := blk_cell Bu.out 4
  have ui5 := blk_cell Bu.out 5
  simp only [List.getElem?_toArray, List.getElem?_cons_zero, List.getElem?_cons_succ] at ui0 ui1 ui2 ui3 ui4 ui5
  have uhl := blk_lt Bu.out
  go_wp2_with fail
  refine Calls.mono (left_calls (s := cutL towerS [4] [4]) ?hst [1, 2, 3, 5] ?hC (Nat.le_refl _) 20 (by kernel_rfl)) ?_
  case hst => first | exact Su.out | exact Su.out.below (below_alloc (Below.refl _ _) _) | exact Su.out.below (below_alloc (below_alloc (Below.refl _ _) _) _) | exact Su.out.below (below_drew (Below.refl _ _)) | exact Su.out.below (below_alloc (below_drew (Below.refl _ _)) _)
  case hC => exact ids_C _ [1, 2, 3, 5] (by decide)
  rintro e w5 ⟨rfl, hb⟩
  have FB : Aside0 (Below w4.heap.size w4 w5) := by first | exact ⟨below_step (Below.refl _ _) hb⟩ | exact ⟨below_step (below_alloc (Below.refl _ _) _) hb⟩ | exact ⟨below_step (below_alloc (below_alloc (Below.refl _ _) _) _) hb⟩ | exact ⟨below_step (below_drew (Below.refl _ _)) hb⟩ | exact ⟨below_step (below_alloc (below_drew (Below.refl _ _)) _) hb⟩
  clear ti0 ti1 ti2 ti3 ti4 ti5 thl ui0 ui1 ui2 ui3 ui4 ui5 uhl
  replace Bt := Aside0.mk (blk_below Bt.out FB.out)
  replace Bu := Aside0.mk (blk_below Bu.out FB.out)
  replace St := Aside0.mk (St.out.below FB.out)
  replace Su := Aside0.mk (Su.out.below FB.out)
  replace Sa := Aside0.mk (Sa.out.below FB.out)
  replace HB := Aside0.mk (below_step HB.out FB.out)
  clear hb FB
  have ti0 := blk_cell Bt.out 0
  have ti1 := blk_cell Bt.out 1
  have ti2 := blk_cell Bt.out 2
  have ti3 := blk_cell Bt.out 3
  have ti4 := blk_cell Bt.out 4
  have ti5 := blk_cell Bt.out 5
  simp only [List.getElem?_toArray, List.getElem?_cons_zero, List.getElem?_cons_succ] at ti0 ti1 ti2 ti3 ti4 ti5
  have thl := blk_lt Bt.out
  have ui0 := blk_cell Bu.out 0
  have ui1 := blk_cell Bu.out 1
  have ui2 := blk_cell Bu.out 2
  have ui3 := blk_cell Bu.out 3
  have ui4 := blk_cell Bu.out 4
  have ui5 := blk_cell Bu.out 5
  simp only [List.getElem?_toArray, List.getElem?_cons_zero, List.getElem?_cons_succ] at ui0 ui1 ui2 ui3 ui4 ui5
  have uhl := blk_lt Bu.out
  go_wp2_with fail
  refine Calls.mono (gone_calls (s := towerS) (s2 := cutL towerS [4] [4]) ?hst tower_fit ?hst2 fit_cut4) ?_
  case hst => first | exact St.out | exact St.out.below (below_alloc (Below.refl _ _) _) | exact St.out.below (below_alloc (below_alloc (Below.refl _ _) _) _) | exact St.out.below (below_drew (Below.refl _ _)) | exact St.out.below (below_alloc (below_drew (Below.refl _ _)) _)
  case hst2 => first | exact Su.out | exact Su.out.below (below_alloc (Below.refl _ _) _) | exact Su.out.below (below_alloc (below_alloc (Below.refl _ _) _) _) | exact Su.out.below (below_drew (Below.refl _ _)) | exact Su.out.below (below_alloc (below_drew (Below.refl _ _)) _)
  rintro e w6 ⟨gv, rfl, hR, hb⟩
  have FB : Aside0 (Below w5.heap.size w5 w6) := by first | exact ⟨below_step (Below.refl _ _) hb⟩ | exact ⟨below_step (below_alloc (Below.refl _ _) _) hb⟩ | exact ⟨below_step (below_alloc (below_alloc (Below.refl _ _) _) _) hb⟩ | exact ⟨below_step (below_drew (Below.refl _ _)) hb⟩ | exact ⟨below_step (below_alloc (below_drew (Below.refl _ _)) _) hb⟩
  clear ti0 ti1 ti2 ti3 ti4 ti5 thl ui0 ui1 ui2 ui3 ui4 ui5 uhl
  replace Bt := Aside0.mk (blk_below Bt.out FB.out)
  replace Bu := Aside0.mk (blk_below Bu.out FB.out)
  replace St := Aside0.mk (St.out.below FB.out)
  replace Su := Aside0.mk (Su.out.below FB.out)
  replace Sa := Aside0.mk (Sa.out.below FB.out)
  replace HB := Aside0.mk (below_step HB.out FB.out)
  rw [gone4] at hR
  obtain ⟨gA, gc, rfl, gl, gC⟩ := Kd.R_reads hR
  have Rg := Aside0.mk gC
  clear hR gC
  clear hb FB
  have ti0 := blk_cell Bt.out 0
  have ti1 := blk_cell Bt.out 1
  have ti2 := blk_cell Bt.out 2
  have ti3 := blk_cell Bt.out 3
  have ti4 := blk_cell Bt.out 4
  have ti5 := blk_cell Bt.out 5
  simp only [List.getElem?_toArray, List.getElem?_cons_zero, List.getElem?_cons_succ] at ti0 ti1 ti2 ti3 ti4 ti5
  have thl := blk_lt Bt.out
  have ui0 := blk_cell Bu.out 0
  have ui1 := blk_cell Bu.out 1
  have ui2 := blk_cell Bu.out 2
  have ui3 := blk_cell Bu.out 3
  have ui4 := blk_cell Bu.out 4
  have ui5 := blk_cell Bu.out 5
  simp only [List.getElem?_toArray, List.getElem?_cons_zero, List.getElem?_cons_succ] at ui0 ui1 ui2 ui3 ui4 ui5
  have uhl := blk_lt Bu.out
  go_wp2_with fail
  refine Calls.mono (ints_calls [4] [4] ?hC gl ?hD (Nat.le_refl _) 5 (by kernel_rfl)) ?_
  case hC => exact Kd.C_below Rg.out (below_alloc (Below.refl _ _) _)
  case hD => exact ids_C _ [4] (by decide)
  rintro e w7 ⟨rfl, hb⟩
  have FB : Aside0 (Below w6.heap.size w6 w7) := by first | exact ⟨below_step (Below.refl _ _) hb⟩ | exact ⟨below_step (below_alloc (Below.refl _ _) _) hb⟩ | exact ⟨below_step (below_alloc (below_alloc (Below.refl _ _) _) _) hb⟩ | exact ⟨below_step (below_drew (Below.refl _ _)) hb⟩ | exact ⟨below_step (below_alloc (below_drew (Below.refl _ _)) _) hb⟩
  clear ti0 ti1 ti2 ti3 ti4 ti5 thl ui0 ui1 ui2 ui3 ui4 ui5 uhl
  replace Bt := Aside0.mk (blk_below Bt.out FB.out)
  replace Bu := Aside0.mk (blk_below Bu.out FB.out)
  replace St := Aside0.mk (St.out.below FB.out)
  replace Su := Aside0.mk (Su.out.below FB.out)
  replace Sa := Aside0.mk (Sa.out.below FB.out)
  replace Rg := Aside0.mk (Kd.C_below Rg.out FB.out)
  replace HB := Aside0.mk (below_step HB.out FB.out)
  clear hb FB
  have ti0 := blk_cell Bt.out 0
  have ti1 := blk_cell Bt.out 1
  have ti2 := blk_cell Bt.out 2
  have ti3 := blk_cell Bt.out 3
  have ti4 := blk_cell Bt.out 4
  have ti5 := blk_cell Bt.out 5
  simp only [List.getElem?_toArray, List.getElem?_cons_zero, List.getElem?_cons_succ] at ti0 ti1 ti2 ti3 ti4 ti5
  have thl := blk_lt Bt.out
  have ui0 := blk_cell Bu.out 0
  have ui1 := blk_cell Bu.out 1
  have ui2 := blk_cell Bu.out 2
  have ui3 := blk_cell Bu.out 3
  have ui4 := blk_cell Bu.out 4
  have ui5 := blk_cell Bu.out 5
  simp only [List.getElem?_toArray, List.getElem?_cons_zero, List.getElem?_cons_succ] at ui0 ui1 ui2 ui3 ui4 ui5
  have uhl := blk_lt Bu.out
  go_wp2_with fail
  refine Calls.mono (take_calls (s := towerS) ?hst tower_fit 9 (by decide)) ?_
  case hst => first | exact St.out | exact St.out.below (below_alloc (Below.refl _ _) _) | exact St.out.below (below_alloc (below_alloc (Below.refl _ _) _) _) | exact St.out.below (below_drew (Below.refl _ _)) | exact St.out.below (below_alloc (below_drew (Below.refl _ _)) _)
  rintro e w8 ⟨bv, rfl, hS, hb⟩
  have FB : Aside0 (Below w7.heap.size w7 w8) := by first | exact ⟨below_step (Below.refl _ _) hb⟩ | exact ⟨below_step (below_alloc (Below.refl _ _) _) hb⟩ | exact ⟨below_step (below_alloc (below_alloc (Below.refl _ _) _) _) hb⟩ | exact ⟨below_step (below_drew (Below.refl _ _)) hb⟩ | exact ⟨below_step (below_alloc (below_drew (Below.refl _ _)) _) hb⟩
  clear ti0 ti1 ti2 ti3 ti4 ti5 thl ui0 ui1 ui2 ui3 ui4 ui5 uhl
  replace Bt := Aside0.mk (blk_below Bt.out FB.out)
  replace Bu := Aside0.mk (blk_below Bu.out FB.out)
  replace St := Aside0.mk (St.out.below FB.out)
  replace Su := Aside0.mk (Su.out.below FB.out)
  replace Sa := Aside0.mk (Sa.out.below FB.out)
  replace Rg := Aside0.mk (Kd.C_below Rg.out FB.out)
  replace HB := Aside0.mk (below_step HB.out FB.out)
  rw [take9] at hS
  obtain ⟨bA2, bc2, bA3, bc3, bA4, bc4, bA5, bc5, rfl, _⟩ := id hS
  have Sb := Aside0.mk hS
  clear hS
  clear hb FB
  have ti0 := blk_cell Bt.out 0
  have ti1 := blk_cell Bt.out 1
  have ti2 := blk_cell Bt.out 2
  have ti3 := blk_cell Bt.out 3
  have ti4 := blk_cell Bt.out 4
  have ti5 := blk_cell Bt.out 5
  simp only [List.getElem?_toArray, List.getElem?_cons_zero, List.getElem?_cons_succ] at ti0 ti1 ti2 ti3 ti4 ti5
  have thl := blk_lt Bt.out
  have ui0 := blk_cell Bu.out 0
  have ui1 := blk_cell Bu.out 1
  have ui2 := blk_cell Bu.out 2
  have ui3 := blk_cell Bu.out 3
  have ui4 := blk_cell Bu.out 4
  have ui5 := blk_cell Bu.out 5
  simp only [List.getElem?_toArray, List.getElem?_cons_zero, List.getElem?_cons_succ] at ui0 ui1 ui2 ui3 ui4 ui5
  have uhl := blk_lt Bu.out
  go_wp2_with fail
  refine Calls.mono (left_calls (s := towerS) ?hst [1, 2, 3, 4, 5] ?hC (Nat.le_refl _) 20 (by kernel_rfl)) ?_
  case hst => first | exact Sb.out | exact Sb.out.below (below_alloc (Below.refl _ _) _) | exact Sb.out.below (below_alloc (below_alloc (Below.refl _ _) _) _) | exact Sb.out.below (below_drew (Below.refl _ _)) | exact Sb.out.below (below_alloc (below_drew (Below.refl _ _)) _)
  case hC => exact ids_C _ [1, 2, 3, 4, 5] (by decide)
  rintro e w9 ⟨rfl, hb⟩
  have FB : Aside0 (Below w8.heap.size w8 w9) := by first | exact ⟨below_step (Below.refl _ _) hb⟩ | exact ⟨below_step (below_alloc (Below.refl _ _) _) hb⟩ | exact ⟨below_step (below_alloc (below_alloc (Below.refl _ _) _) _) hb⟩ | exact ⟨below_step (below_drew (Below.refl _ _)) hb⟩ | exact ⟨below_step (below_alloc (below_drew (Below.refl _ _)) _) hb⟩
  clear ti0 ti1 ti2 ti3 ti4 ti5 thl ui0 ui1 ui2 ui3 ui4 ui5 uhl
  replace Bt := Aside0.mk (blk_below Bt.out FB.out)
  replace Bu := Aside0.mk (blk_below Bu.out FB.out)
  replace St := Aside0.mk (St.out.below FB.out)
  replace Su := Aside0.mk (Su.out.below FB.out)
  replace Sa := Aside0.mk (Sa.out.below FB.out)
  replace Sb := Aside0.mk (Sb.out.below FB.out)
  replace Rg := Aside0.mk (Kd.C_below Rg.out FB.out)
  replace HB := Aside0.mk (below_step HB.out FB.out)
  clear hb FB
  have ti0 := blk_cell Bt.out 0
  have ti1 := blk_cell Bt.out 1
  have ti2 := blk_cell Bt.out 2
  have ti3 := blk_cell Bt.out 3
  have ti4 := blk_cell Bt.out 4
  have ti5 := blk_cell Bt.out 5
  simp only [List.getElem?_toArray, List.getElem?_cons_zero, List.getElem?_cons_succ] at ti0 ti1 ti2 ti3 ti4 ti5
  have thl := blk_lt Bt.out
  have ui0 := blk_cell Bu.out 0
  have ui1 := blk_cell Bu.out 1
  have ui2 := blk_cell Bu.out 2
  have ui3 := blk_cell Bu.out 3
  have ui4 := blk_cell Bu.out 4
  have ui5 := blk_cell Bu.out 5
  simp only [List.getElem?_toArray, List.getElem?_cons_zero, List.getElem?_cons_succ] at ui0 ui1 ui2 ui3 ui4 ui5
  have uhl := blk_lt Bu.out
  go_wp2_with fail
  refine Calls.mono (left_calls (s := towerS) ?hst [1, 2, 3, 4, 5] ?hC (Nat.le_refl _) 20 (by kernel_rfl)) ?_
  case hst => first | exact St.out | exact St.out.below (below_alloc (Below.refl _ _) _) | exact St.out.below (below_alloc (below_alloc (Below.refl _ _) _) _) | exact St.out.below (below_drew (Below.refl _ _)) | exact St.out.below (below_alloc (below_drew (Below.refl _ _)) _)
  case hC => exact ids_C _ [1, 2, 3, 4, 5] (by decide)
  rintro e w10 ⟨rfl, hb⟩
  have FB : Aside0 (Below w9.heap.size w9 w10) := by first | exact ⟨below_step (Below.refl _ _) hb⟩ | exact ⟨below_step (below_alloc (Below.refl _ _) _) hb⟩ | exact ⟨below_step (below_alloc (below_alloc (Below.refl _ _) _) _) hb⟩ | exact ⟨below_step (below_drew (Below.refl _ _)) hb⟩ | exact ⟨below_step (below_alloc (below_drew (Below.refl _ _)) _) hb⟩
  clear ti0 ti1 ti2 ti3 ti4 ti5 thl ui0 ui1 ui2 ui3 ui4 ui5 uhl
  replace Bt := Aside0.mk (blk_below Bt.out FB.out)
  replace Bu := Aside0.mk (blk_below Bu.out FB.out)
  replace St := Aside0.mk (St.out.below FB.out)
  replace Su := Aside0.mk (Su.out.below FB.out)
  replace Sa := Aside0.mk (Sa.out.below FB.out)
  replace Sb := Aside0.mk (Sb.out.below FB.out)
  replace Rg := Aside0.mk (Kd.C_below Rg.out FB.out)
  replace HB := Aside0.mk (below_step HB.out FB.out)
  clear hb FB
  have ti0 := blk_cell Bt.out 0
  have ti1 := blk_cell Bt.out 1
  have ti2 := blk_cell Bt.out 2
  have ti3 := blk_cell Bt.out 3
  have ti4 := blk_cell Bt.out 4
  have ti5 := blk_cell Bt.out 5
  simp only [List.getElem?_toArray, List.getElem?_cons_zero, List.getElem?_cons_succ] at ti0 ti1 ti2 ti3 ti4 ti5
  have thl := blk_lt Bt.out
  have ui0 := blk_cell Bu.out 0
  have ui1 := blk_cell Bu.out 1
  have ui2 := blk_cell Bu.out 2
  have ui3 := blk_cell Bu.out 3
  have ui4 := blk_cell Bu.out 4
  have ui5 := blk_cell Bu.out 5
  simp only [List.getElem?_toArray, List.getElem?_cons_zero, List.getElem?_cons_succ] at ui0 ui1 ui2 ui3 ui4 ui5
  have uhl := blk_lt Bu.out
  go_wp2
  go_ret
  exact ⟨rfl, HB.out⟩
end Go.Proofs.Ythonmfcollafkaa.P
/- callboardlaw21.CancelRow. -/
namespace Go.Proofs.Ythonmfcollafkaa.P
open Go.RowKit Go.Proofs.YthonmfcollafkaaW.PrintWords Go.Proofs.YthonmfcollafkaaW.PrintLast Go.Proofs.YthonmfcollafkaaW.PrintMore
set_option linter.unusedVariables false
set_option linter.unusedSimpArgs false
def RowRel (w : World) (n : Nat) (o : Obj) (v : Value) (wr : World) : Prop :=
  ∃ i : Nat, v = .int .i64 i ∧ i ≤ n ∧ Aside0 (wr.heap[w.heap.size]? = some o) ∧ Aside0 (Below w.heap.size w wr)
set_option maxHeartbeats 8000000 in
set_option maxRecDepth 100000 in
theorem row_calls {w : World} {v : Value} {s : Stt} (hS : St w v s) (hi : ∀ x ∈ s.items, (Lit.int .i64 x.f0).wf = true) (hw : ∀ x ∈ s.wats, (Lit.int .i64 x.f1).wf = true) (a b : Int) (ha : (Lit.int .i64 a).wf = true) (hb : (Lit.int .i64 b).wf = true) : Calls Try.prog 9 #[v, .int .i64 a, .int .i64 b] w fun e w' => e = .returned (.bool true) ∧ Below w.heap.size w w' := by
  have hu := Try.underlying27
  have hu43 := Try.underlying43
  have HS := Aside0.mk hS
  have HFT := fun h => fit_of (s := s) h hi hw
  clear hi hw
  obtain ⟨A2, c2, A3, c3, A4, c4, A5, c5, rfl, h2, k2, h3, k3, h4, k4, h5, k5⟩ := hS
  have H3 := Aside0.mk h3
  have hn3 : s.items.length ≤ 9223372036854775807 := h3.2.1
  clear h2 k2 h3 h4 k4 h5 k5
  cases hL : largeB s with
  | true =>
    have HL := Aside0.mk hL
    clear hL HFT
    go_enter Try.func9, Try.ntmps9
    go_wp2_with fail
    refine Calls.mono (works_calls _) ?_
    rintro e w1 ⟨rfl, hb1⟩
    have B0 := Aside0.mk (blk_below (blk_new w _) hb1)
    have HB := Aside0.mk (below_step (below_alloc (Below.refl w.heap.size w) _) hb1)
    clear hb1
    have i0 := blk_cell B0.out 0; have i1 := blk_cell B0.out 1; have i2 := blk_cell B0.out 2; have i3 := blk_cell B0.out 3; have i4 := blk_cell B0.out 4; have i5 := blk_cell B0.out 5
    simp only [List.getElem?_toArray, List.getElem?_cons_zero, List.getElem?_cons_succ] at i0 i1 i2 i3 i4 i5
    go_wp2_with fail
    refine Calls.mono (large_calls (HS.out.below HB.out)) ?_
    rintro e w2 ⟨rfl, hb2⟩
    rw [HL.out]
    replace HB := Aside0.mk (below_step HB.out hb2)
    clear hb2
    go_wp2_with fail
    refine Calls.mono (works_calls _) ?_
    rintro e w3 ⟨rfl, hb3⟩
    replace HB := Aside0.mk (below_step HB.out hb3)
    clear hb3
    go_wp2
    go_ret
    exact ⟨rfl, HB.out⟩
  | false =>
    have HL := Aside0.mk hL
    have HF := Aside0.mk (HFT hL)
    clear hL HFT
    go_enter Try.func9, Try.ntmps9
    go_wp2_with fail
    refine Calls.mono (works_calls _) ?_
    rintro e w1 ⟨rfl, hb1⟩
    have B0 := Aside0.mk (blk_below (blk_new w (.cells #[.int .i64 s.clk, .int .i64 s.nxt, .slice A2 s.defs.length c2, .slice A3 s.items.length c3, .slice A4 s.cells.length c4, .slice A5 s.wats.length c5] 27 (0, 0))) hb1)
    have HB := Aside0.mk (below_step (below_alloc (Below.refl w.heap.size w) _) hb1)
    clear hb1
    have i0 := blk_cell B0.out 0; have i1 := blk_cell B0.out 1; have i2 := blk_cell B0.out 2; have i3 := blk_cell B0.out 3; have i4 := blk_cell B0.out 4; have i5 := blk_cell B0.out 5
    simp only [List.getElem?_toArray, List.getElem?_cons_zero, List.getElem?_cons_succ] at i0 i1 i2 i3 i4 i5
    go_wp2_with fail
    refine Calls.mono (large_calls (HS.out.below HB.out)) ?_
    rintro e w2 ⟨rfl, hb2⟩
    rw [HL.out]
    replace HB := Aside0.mk (below_step HB.out hb2)
    replace B0 := Aside0.mk (blk_below B0.out hb2)
    clear hb2 i0 i1 i2 i3 i4 i5
    go_wp2
    go_loopw [7] (fun v w' => RowRel w s.items.length (.cells #[.int .i64 s.clk, .int .i64 s.nxt, .slice A2 s.defs.length c2, .slice A3 s.items.length c3, .slice A4 s.cells.length c4, .slice A5 s.wats.length c5] 27 (0, 0)) v w') (fun v _ => s.items.length - (intOf v).toNat)
    case atStart => exact ⟨0, rfl, Nat.zero_le _, B0, HB⟩
    case round =>
      unfold RowRel at hrel
      obtain ⟨i, rfl, hi, B1, HB1⟩ := hrel
      clear B0 HB
      have i3 := blk_cell B1.out 3
      simp only [List.getElem?_toArray, List.getElem?_cons_zero, List.getElem?_cons_succ] at i3
      by_cases hlt : i < s.items.length
      · go_wp2
        go_loopw [8] (fun v w' => RowRel w i (.cells #[.int .i64 s.clk, .int .i64 s.nxt, .slice A2 s.defs.length c2, .slice A3 s.items.length c3, .slice A4 s.cells.length c4, .slice A5 s.wats.length c5] 27 (0, 0)) v w') (fun v _ => i - (intOf v).toNat)
        case atStart => exact ⟨0, rfl, Nat.zero_le _, B1, HB1⟩
        case round =>
          unfold RowRel at hrel
          obtain ⟨k, rfl, hk, B2, HB2⟩ := hrel
          clear i3
          have i3 := blk_cell B2.out 3
          simp only [List.getElem?_toArray, List.getElem?_cons_zero, List.getElem?_cons_succ] at i3
          by_cases hlk : k < i
          · have h1 : 0 ≤ ((i : Nat) : Int) := by omega
            have h2 : ((i : Nat) : Int) < (s.items.length : Int) := by omega
            have h1' : 0 ≤ ((k : Nat) : Int) := by omega
            have h2' : ((k : Nat) : Int) < (s.items.length : Int) := by omega
            obtain ⟨ad, e, x0, _⟩ := at_T43 (Kd.C_below H3.out HB2.out) _ h1 h2
            obtain ⟨ad', e', y0, _⟩ := at_T43 (Kd.C_below H3.out HB2.out) _ h1' h2'
            cases e
            cases e'
            simp only [Int.toNat_natCast] at x0 y0
            cases hq : (rd_T43 s.items (k : Int)).f0 == (rd_T43 s.items (i : Int)).f0 with
            | true =>
              go_wp2
              go_quiet (fail)
              go_wp2
              go_ret
              exact ⟨rfl, pw_below_drewN HB2.out _⟩
            | false =>
              go_wp2
              go_quiet (fail)
              go_wp2
              go_roundw
              case rel => unfold RowRel; exact ⟨k + 1, by go_num, hlk, ⟨B2.out⟩, ⟨pw_below_drewN HB2.out _⟩⟩
              case measure => simp [intOf]; omega
          · go_wp2
            go_roundw
            case rel => unfold RowRel; exact ⟨i + 1, by go_num, hlt, B2, HB2⟩
            case measure => simp [intOf]; omega
      · have HSX := Aside0.mk (HS.out.below HB1.out)
        clear i3
        have i0 := blk_cell B1.out 0
        have i1 := blk_cell B1.out 1
        have i2 := blk_cell B1.out 2
        have i3 := blk_cell B1.out 3
        have i4 := blk_cell B1.out 4
        have i5 := blk_cell B1.out 5
        simp only [List.getElem?_toArray, List.getElem?_cons_zero, List.getElem?_cons_succ] at i0 i1 i2 i3 i4 i5
        go_wp2_with fail
        refine Calls.mono (take_calls HSX.out HF.out a ha) ?_
        rintro e w3 ⟨tv, rfl, hT, hb3⟩
        replace HSX := Aside0.mk (HSX.out.below hb3)
        replace HB1 := Aside0.mk (below_step HB1.out hb3)
        replace B1 := Aside0.mk (blk_below B1.out hb3)
        obtain ⟨tA2, tc2, tA3, tc3, tA4, tc4, tA5, tc5, rfl, _⟩ := id hT
        have HT := Aside0.mk hT
        clear hT hb3 i0 i1 i2 i3 i4 i5
        have HFT : Aside0 (Fit (takeS s a)) := ⟨HF.out.cut _ _⟩
        have HFB : Aside0 (Fit (takeS s b)) := ⟨HF.out.cut _ _⟩
        have i0 := blk_cell B1.out 0
        have i1 := blk_cell B1.out 1
        have i2 := blk_cell B1.out 2
        have i3 := blk_cell B1.out 3
        have i4 := blk_cell B1.out 4
        have i5 := blk_cell B1.out 5
        simp only [List.getElem?_toArray, List.getElem?_cons_zero, List.getElem?_cons_succ] at i0 i1 i2 i3 i4 i5
        have hl1 := blk_lt B1.out
        go_upto_region 12 with (fail)
        generalize hX : w3.alloc _ = X
        have BT : Aside0 (X.heap[w3.heap.size]? = some (.cells #[.int .i64 (takeS s a).clk, .int .i64 (takeS s a).nxt, .slice tA2 (takeS s a).defs.length tc2, .slice tA3 (takeS s a).items.length tc3, .slice tA4 (takeS s a).cells.length tc4, .slice tA5 (takeS s a).wats.length tc5] 27 (0, 0))) := ⟨by rw [← hX]; exact blk_new w3 _⟩
        replace B1 := Aside0.mk (show X.heap[w.heap.size]? = some (.cells #[.int .i64 s.clk, .int .i64 s.nxt, .slice A2 s.defs.length c2, .slice A3 s.items.length c3, .slice A4 s.cells.length c4, .slice A5 s.wats.length c5] 27 (0, 0)) by rw [← hX]; exact blk_alloc B1.out _)
        have h3X : Below w3.heap.size w3 X := by rw [← hX]; exact below_alloc (Below.refl _ _) _
        replace HSX := Aside0.mk (HSX.out.below h3X)
        replace HT := Aside0.mk (HT.out.below h3X)
        replace HB1 := Aside0.mk (below_step HB1.out h3X)
        have HX := Aside0.mk (below_drew (Below.refl X.heap.size X))
        clear hX h3X hl1 i0 i1 i2 i3 i4 i5
        have i0 := blk_cell B1.out 0
        have i1 := blk_cell B1.out 1
        have i2 := blk_cell B1.out 2
        have i3 := blk_cell B1.out 3
        have i4 := blk_cell B1.out 4
        have i5 := blk_cell B1.out 5
        simp only [List.getElem?_toArray, List.getElem?_cons_zero, List.getElem?_cons_succ] at i0 i1 i2 i3 i4 i5
        have t0 := blk_cell BT.out 0
        have t1 := blk_cell BT.out 1
        have t2 := blk_cell BT.out 2
        have t3 := blk_cell BT.out 3
        have t4 := blk_cell BT.out 4
        have t5 := blk_cell BT.out 5
        simp only [List.getElem?_toArray, List.getElem?_cons_zero, List.getElem?_cons_succ] at t0 t1 t2 t3 t4 t5
        replace B1 := Aside0.mk (blk_drew B1.out)
        replace BT := Aside0.mk (blk_drew BT.out)
        go_region_held3 (fun w' => w'.cell? ⟨w.heap.size, 0, none⟩ = some (.int .i64 s.clk) ∧ w'.cell? ⟨w.heap.size, 1, none⟩ = some (.int .i64 s.nxt) ∧ w'.cell? ⟨w.heap.size, 2, none⟩ = some (.slice A2 s.defs.length c2) ∧ w'.cell? ⟨w.heap.size, 3, none⟩ = some (.slice A3 s.items.length c3) ∧ w'.cell? ⟨w.heap.size, 4, none⟩ = some (.slice A4 s.cells.length c4) ∧ w'.cell? ⟨w.heap.size, 5, none⟩ = some (.slice A5 s.wats.length c5) ∧ w'.cell? ⟨w3.heap.size, 0, none⟩ = some (.int .i64 (takeS s a).clk) ∧ w'.cell? ⟨w3.heap.size, 1, none⟩ = some (.int .i64 (takeS s a).nxt) ∧ w'.cell? ⟨w3.heap.size, 2, none⟩ = some (.slice tA2 (takeS s a).defs.length tc2) ∧ w'.cell? ⟨w3.heap.size, 3, none⟩ = some (.slice tA3 (takeS s a).items.length tc3) ∧ w'.cell? ⟨w3.heap.size, 4, none⟩ = some (.slice tA4 (takeS s a).cells.length tc4) ∧ w'.cell? ⟨w3.heap.size, 5, none⟩ = some (.slice tA5 (takeS s a).wats.length tc5)) (go_keep) (first | (go_at_call 45; (with_reducible refine Calls.mono (take_calls (HT.out.below HX.out) HFT.out b hb) ?_); rintro e w47 ⟨v47, rfl, hS47, hb47⟩; rw [take_comm] at hS47; have S47 := Aside0.mk hS47; (try replace S50 := Aside0.mk (S50.out.below hb47)); (try replace S52 := Aside0.mk (S52.out.below hb47)); replace HX := Aside0.mk (below_step HX.out hb47); replace B1 := Aside0.mk (blk_below B1.out hb47); replace BT := Aside0.mk (blk_below BT.out hb47); (try clear i0 i1 i2 i3 i4 i5); (try clear t0 t1 t2 t3 t4 t5); have i0 := blk_cell B1.out 0; have i1 := blk_cell B1.out 1; have i2 := blk_cell B1.out 2; have i3 := blk_cell B1.out 3; have i4 := blk_cell B1.out 4; have i5 := blk_cell B1.out 5; simp only [List.getElem?_toArray, List.getElem?_cons_zero, List.getElem?_cons_succ] at i0 i1 i2 i3 i4 i5; have t0 := blk_cell BT.out 0; have t1 := blk_cell BT.out 1; have t2 := blk_cell BT.out 2; have t3 := blk_cell BT.out 3; have t4 := blk_cell BT.out 4; have t5 := blk_cell BT.out 5; simp only [List.getElem?_toArray, List.getElem?_cons_zero, List.getElem?_cons_succ] at t0 t1 t2 t3 t4 t5; clear hS47 hb47) | (go_at_call 45; (with_reducible refine Calls.mono (take_calls (HSX.out.below HX.out) HF.out b hb) ?_); rintro e w50 ⟨v50, rfl, hS50, hb50⟩; have S50 := Aside0.mk hS50; (try replace S47 := Aside0.mk (S47.out.below hb50)); replace HX := Aside0.mk (below_step HX.out hb50); replace B1 := Aside0.mk (blk_below B1.out hb50); replace BT := Aside0.mk (blk_below BT.out hb50); (try clear i0 i1 i2 i3 i4 i5); (try clear t0 t1 t2 t3 t4 t5); have i0 := blk_cell B1.out 0; have i1 := blk_cell B1.out 1; have i2 := blk_cell B1.out 2; have i3 := blk_cell B1.out 3; have i4 := blk_cell B1.out 4; have i5 := blk_cell B1.out 5; simp only [List.getElem?_toArray, List.getElem?_cons_zero, List.getElem?_cons_succ] at i0 i1 i2 i3 i4 i5; have t0 := blk_cell BT.out 0; have t1 := blk_cell BT.out 1; have t2 := blk_cell BT.out 2; have t3 := blk_cell BT.out 3; have t4 := blk_cell BT.out 4; have t5 := blk_cell BT.out 5; simp only [List.getElem?_toArray, List.getElem?_cons_zero, List.getElem?_cons_succ] at t0 t1 t2 t3 t4 t5; clear hS50 hb50) | (go_at_call 45; (with_reducible refine Calls.mono (take_calls S50.out HFB.out a ha) ?_); rintro e w52 ⟨v52, rfl, hS52, hb52⟩; have S52 := Aside0.mk hS52; (try replace S47 := Aside0.mk (S47.out.below hb52)); replace HX := Aside0.mk (below_step HX.out hb52); replace B1 := Aside0.mk (blk_below B1.out hb52); replace BT := Aside0.mk (blk_below BT.out hb52); (try clear i0 i1 i2 i3 i4 i5); (try clear t0 t1 t2 t3 t4 t5); have i0 := blk_cell B1.out 0; have i1 := blk_cell B1.out 1; have i2 := blk_cell B1.out 2; have i3 := blk_cell B1.out 3; have i4 := blk_cell B1.out 4; have i5 := blk_cell B1.out 5; simp only [List.getElem?_toArray, List.getElem?_cons_zero, List.getElem?_cons_succ] at i0 i1 i2 i3 i4 i5; have t0 := blk_cell BT.out 0; have t1 := blk_cell BT.out 1; have t2 := blk_cell BT.out 2; have t3 := blk_cell BT.out 3; have t4 := blk_cell BT.out 4; have t5 := blk_cell BT.out 5; simp only [List.getElem?_toArray, List.getElem?_cons_zero, List.getElem?_cons_succ] at t0 t1 t2 t3 t4 t5; clear hS52 hb52) | (go_at_call 46; (with_reducible refine Calls.mono (same_calls S47.out S52.out) ?_); rintro e w53 ⟨rfl, hb53⟩; replace HX := Aside0.mk (below_step HX.out hb53); replace B1 := Aside0.mk (blk_below B1.out hb53); replace BT := Aside0.mk (blk_below BT.out hb53); (try clear i0 i1 i2 i3 i4 i5); (try clear t0 t1 t2 t3 t4 t5); have i0 := blk_cell B1.out 0; have i1 := blk_cell B1.out 1; have i2 := blk_cell B1.out 2; have i3 := blk_cell B1.out 3; have i4 := blk_cell B1.out 4; have i5 := blk_cell B1.out 5; simp only [List.getElem?_toArray, List.getElem?_cons_zero, List.getElem?_cons_succ] at i0 i1 i2 i3 i4 i5; have t0 := blk_cell BT.out 0; have t1 := blk_cell BT.out 1; have t2 := blk_cell BT.out 2; have t3 := blk_cell BT.out 3; have t4 := blk_cell BT.out 4; have t5 := blk_cell BT.out 5; simp only [List.getElem?_toArray, List.getElem?_cons_zero, List.getElem?_cons_succ] at t0 t1 t2 t3 t4 t5; clear hb53) | (go_at_call 45; (with_reducible refine Calls.mono (take_calls (HT.out.below HX.out) HFT.out a ha) ?_); rintro e w57 ⟨v57, rfl, hS57, hb57⟩; rw [take_once] at hS57; have S57 := Aside0.mk hS57; replace HX := Aside0.mk (below_step HX.out hb57); replace B1 := Aside0.mk (blk_below B1.out hb57); replace BT := Aside0.mk (blk_below BT.out hb57); (try clear i0 i1 i2 i3 i4 i5); (try clear t0 t1 t2 t3 t4 t5); have i0 := blk_cell B1.out 0; have i1 := blk_cell B1.out 1; have i2 := blk_cell B1.out 2; have i3 := blk_cell B1.out 3; have i4 := blk_cell B1.out 4; have i5 := blk_cell B1.out 5; simp only [List.getElem?_toArray, List.getElem?_cons_zero, List.getElem?_cons_succ] at i0 i1 i2 i3 i4 i5; have t0 := blk_cell BT.out 0; have t1 := blk_cell BT.out 1; have t2 := blk_cell BT.out 2; have t3 := blk_cell BT.out 3; have t4 := blk_cell BT.out 4; have t5 := blk_cell BT.out 5; simp only [List.getElem?_toArray, List.getElem?_cons_zero, List.getElem?_cons_succ] at t0 t1 t2 t3 t4 t5; clear hS57 hb57) | (go_at_call 46; (with_reducible refine Calls.mono (same_calls S57.out (HT.out.below HX.out)) ?_); rintro e w59 ⟨rfl, hb59⟩; replace HX := Aside0.mk (below_step HX.out hb59); replace B1 := Aside0.mk (blk_below B1.out hb59); replace BT := Aside0.mk (blk_below BT.out hb59); (try clear i0 i1 i2 i3 i4 i5); (try clear t0 t1 t2 t3 t4 t5); have i0 := blk_cell B1.out 0; have i1 := blk_cell B1.out 1; have i2 := blk_cell B1.out 2; have i3 := blk_cell B1.out 3; have i4 := blk_cell B1.out 4; have i5 := blk_cell B1.out 5; simp only [List.getElem?_toArray, List.getElem?_cons_zero, List.getElem?_cons_succ] at i0 i1 i2 i3 i4 i5; have t0 := blk_cell BT.out 0; have t1 := blk_cell BT.out 1; have t2 := blk_cell BT.out 2; have t3 := blk_cell BT.out 3; have t4 := blk_cell BT.out 4; have t5 := blk_cell BT.out 5; simp only [List.getElem?_toArray, List.getElem?_cons_zero, List.getElem?_cons_succ] at t0 t1 t2 t3 t4 t5; clear hb59))
        all_goals
          go_wp2
          go_ret
          exact ⟨rfl, below_step HB1.out HX.out⟩
theorem row_walk (s : Stt) (v : Value) (a b : Int) (w : World) (hS : St w v s) (hi : ∀ x ∈ s.items, (Lit.int .i64 x.f0).wf = true) (hw : ∀ x ∈ s.wats, (Lit.int .i64 x.f1).wf = true) (ha : (Lit.int .i64 a).wf = true) (hb : (Lit.int .i64 b).wf = true) : Calls Try.prog 9 #[v, .int .i64 a, .int .i64 b] w fun e w' => e = .returned (.bool true) ∧ Below w.heap.size w w' := row_calls hS hi hw a b ha hb
end Go.Proofs.Ythonmfcollafkaa.P
/- What came in, read as data, is of its kind: structs and slices of whatever depth. -/
namespace Go.Proofs.YthonmfcollafkaaR
open Go.RowKit Go.Proofs.YthonmfcollafkaaW.PrintWords
open Go.Proofs.YthonmfcollafkaaW

section
variable {H : Type} {enc : TypeId × Value → H} {P : Program} {w : World} {spare : Nat → Bool} {held : Bool}

/-- Whatever reads as data at type t is of kind d, and Q holds of it. -/
def Opens {α : Type} (enc : TypeId × Value → H) (P : Program) (w : World) (spare : Nat → Bool) (held : Bool) (t : TypeId) (d : Kd α) (Q : α → Prop) : Prop :=
  ∀ (fuel : Nat) (cs : List Value) (x : DataW H × List MemPlace), DataW.trod enc P w 0 spare held fuel t cs = some x → ∃ v : α, d.K w v cs ∧ Q v

theorem opens_int {t : TypeId} {k : IntKind} (ht : P.underlying t = some (.int k)) : Opens enc P w spare held t (Kd.int k) (fun n => (Lit.int k n).wf = true) := by
  intro fuel cs x h
  obtain ⟨n, rfl, rfl, hw⟩ := DataW.trod_int ht h
  exact ⟨n, rfl, hw⟩
theorem opens_bool {t : TypeId} (ht : P.underlying t = some .bool) : Opens enc P w spare held t Kd.bool (fun _ => True) := by
  intro fuel cs x h
  obtain ⟨n, rfl, rfl⟩ := DataW.trod_bool ht h
  exact ⟨n, rfl, trivial⟩
theorem opens_string {t : TypeId} (ht : P.underlying t = some .string) : Opens enc P w spare held t Kd.string (fun s => s.size ≤ maxLen) := by
  intro fuel cs x h
  obtain ⟨s, rfl, rfl, hs⟩ := DataW.trod_string ht h
  exact ⟨s, rfl, hs⟩

theorem add_add (a : Addr) (n m : Nat) : (a.add n).add m = a.add (n + m) := by
  unfold Addr.add
  by_cases h : n = 0
  · subst h; simp
  · by_cases h2 : m = 0
    · subst h2; simp [h]
    · have : n + m ≠ 0 := by omega
      simp [h, h2]; omega

/-- A choice for each place of a list. -/
theorem choose_list {α : Type} (p : Nat → α → Prop) : ∀ n, (∀ i, i < n → ∃ v, p i v) → ∃ l : List α, l.length = n ∧ ∀ i v, l[i]? = some v → p i v := by
  intro n
  induction n with
  | zero => intro _; exact ⟨[], rfl, fun i v h => by simp at h⟩
  | succ n ih =>
    intro h
    obtain ⟨l, hl, hp⟩ := ih (fun i hi => h i (by omega))
    obtain ⟨v, hv⟩ := h n (by omega)
    refine ⟨l ++ [v], by simp [hl], fun i u hu => ?_⟩
    rw [List.getElem?_append] at hu
    split at hu
    · exact hp i u hu
    · rename_i hn
      have : i = n := by
        rcases Nat.lt_or_ge (i - l.length) 1 with h1 | h1
        · omega
        · rw [List.getElem?_eq_none (by simpa using h1)] at hu; cases hu
      subst this
      simp [hl] at hu
      exact hu ▸ hv

theorem opens_slice {α : Type} {t e : TypeId} {d : Kd α} {Q : α → Prop} (ht : P.underlying t = some (.slice e)) (hs : P.cellsOf e = d.sz) (he : Opens enc P w spare held e d Q) :
    Opens enc P w spare held t (Kd.slice e d) (fun l => l.length ≤ maxLen ∧ ∀ x ∈ l, Q x) := by
  intro fuel cs x h
  rcases DataW.trod_slice ht h with ⟨rfl, rfl⟩ | ⟨a, len, cap, elems, rest, n, rfl, rfl, rfl, hb, hl, hc, hel, hget, _⟩
  · exact ⟨[], ⟨none, 0, rfl, Nat.le_refl _, Kd.C_nil d w⟩, by simp [maxLen], fun x hx => by simp at hx⟩
  · obtain ⟨l, hll, hlp⟩ := choose_list (fun i v => ∃ c, w.cells? 0 (a.add (i * d.sz)) d.sz = some c ∧ d.K w v c ∧ Q v) len (fun i hi => by
      have h1 := hget i hi
      have h2 : elems[i]? = some (elems[i]'(by omega)) := List.getElem?_eq_getElem (by omega)
      rw [h2, hs] at h1
      obtain ⟨c, hc1, hc2⟩ := Option.bind_eq_some_iff.1 h1
      obtain ⟨v, hv, hq⟩ := he _ _ _ hc2
      exact ⟨v, c, hc1, hv, hq⟩)
    refine ⟨l, ⟨some a, cap, by rw [hll], by omega, by rw [hll], by rw [hll]; unfold maxLen at hc; omega, fun hpos => ⟨a, rfl, fun j p hj => ?_⟩⟩, by rw [hll]; omega, fun y hy => ?_⟩
    · obtain ⟨c, hc1, hc2, _⟩ := hlp j p hj
      have hc3 := World.cells?_some hc1
      refine ⟨c, hc3.2.1, hc2, fun i u hu => ?_⟩
      have hi : i < d.sz := by
        have := (List.getElem?_eq_some_iff.1 hu).1
        rw [hc3.2.1] at this
        exact this
      rw [← add_add, hc3.2.2 i hi]
      exact hu
    · obtain ⟨i, hi⟩ := List.getElem?_of_mem hy
      obtain ⟨c, _, _, hq⟩ := hlp i y hi
      exact hq

/-- The fields of a struct, from cell o on, are of kind d. -/
def OpensFs {α : Type} (enc : TypeId × Value → H) (P : Program) (w : World) (spare : Nat → Bool) (held : Bool) (fs : List Field) (o : Nat) (d : Kd α) (Q : α → Prop) : Prop :=
  ∀ (fuel : Nat) (cs : List Value), cs.length = o + d.sz → (∀ f ∈ fs, ∃ x, DataW.trod enc P w 0 spare held fuel f.type ((cs.drop f.offset).take (P.cellsOf f.type)) = some x) → ∃ v : α, d.K w v (cs.drop o) ∧ Q v
theorem opensFs_one {α : Type} {f : Field} {o : Nat} {d : Kd α} {Q : α → Prop} (ho : f.offset = o) (hs : P.cellsOf f.type = d.sz) (he : Opens enc P w spare held f.type d Q) : OpensFs enc P w spare held [f] o d Q := by
  intro fuel cs hl h
  obtain ⟨x, hx⟩ := h f (List.mem_singleton.2 rfl)
  rw [ho, hs, List.take_of_length_le (by simp; omega)] at hx
  exact he _ _ _ hx
theorem opensFs_cons {α β : Type} {f : Field} {fs : List Field} {o : Nat} {d : Kd α} {d' : Kd β} {Q : α → Prop} {Q' : β → Prop} (ho : f.offset = o) (hs : P.cellsOf f.type = d.sz) (he : Opens enc P w spare held f.type d Q) (hr : OpensFs enc P w spare held fs (o + d.sz) d' Q') :
    OpensFs enc P w spare held (f :: fs) o (Kd.pair d d') (fun z => Q z.1 ∧ Q' z.2) := by
  intro fuel cs hl h
  have hl' : cs.length = o + (d.sz + d'.sz) := hl
  obtain ⟨x, hx⟩ := h f (List.mem_cons_self ..)
  rw [ho, hs] at hx
  obtain ⟨v, hv, hq⟩ := he _ _ _ hx
  obtain ⟨v', hv', hq'⟩ := hr fuel cs (by omega) (fun g hg => h g (List.mem_cons_of_mem _ hg))
  refine ⟨(v, v'), ⟨(cs.drop o).take d.sz, cs.drop (o + d.sz), ?_, hv, hv'⟩, hq, hq'⟩
  rw [← List.drop_drop, List.take_append_drop]
theorem opens_struct {α β : Type} {t : TypeId} {fs : Array Field} {d : Kd α} {Q : α → Prop} (ht : P.underlying t = some (.struct fs)) (hs : P.cellsOf t = d.sz) (he : OpensFs enc P w spare held fs.toList 0 d Q) (g : α → β) (f : β → α) (hfg : ∀ a, f (g a) = a) :
    Opens enc P w spare held t (Kd.iso d f) (fun b => Q (f b)) := by
  intro fuel cs x h
  obtain ⟨xs, n, rfl, rfl, hl, hn, hget⟩ := DataW.trod_struct ht h
  obtain ⟨v, hv, hq⟩ := he n cs (by omega) (fun fd hfd => by
    obtain ⟨i, hi⟩ := List.getElem?_of_mem hfd
    have h1 := hget i fd (by simpa using hi)
    have hlt : i < xs.length := by
      have := (List.getElem?_eq_some_iff.1 hi).1
      simp at this
      omega
    rw [List.getElem?_eq_getElem hlt] at h1
    exact ⟨_, h1⟩)
  exact ⟨g v, by show d.K w (f (g v)) cs; rw [hfg]; exact hv, by show Q (f (g v)); rw [hfg]; exact hq⟩
end
end Go.Proofs.YthonmfcollafkaaR
/- A state that came in. -/
namespace Go.Proofs.Ythonmfcollafkaa.P
open Go.RowKit Go.Proofs.YthonmfcollafkaaW.PrintWords Go.Proofs.YthonmfcollafkaaR
section
variable {H : Type} {enc : TypeId × Value → H} {w : World}
theorem open127 : ∃ Q, Opens enc Try.prog w (fun _ => true) true 127 k127 Q :=
  ⟨_, opens_struct (g := fun z => (⟨z.1, z.2.1, z.2.2⟩ : S127)) Try.underlying127 (by kernel_rfl) (opensFs_cons rfl (by kernel_rfl) (opens_int Try.underlying5) (opensFs_cons rfl (by kernel_rfl) (opens_int Try.underlying2) (opensFs_one rfl (by kernel_rfl) (opens_string Try.underlying9)))) _ (fun _ => rfl)⟩
theorem open158 : ∃ Q, Opens enc Try.prog w (fun _ => true) true 158 k158 Q := by
  obtain ⟨Q, h⟩ := open127 (enc := enc) (w := w)
  exact ⟨_, opens_struct (g := fun z => (⟨z.1, z.2⟩ : S158)) Try.underlying158 (by kernel_rfl) (opensFs_cons rfl (by kernel_rfl) (opens_string Try.underlying9) (opensFs_one rfl (by kernel_rfl) h)) _ (fun _ => rfl)⟩
theorem open66 : ∃ Q, Opens enc Try.prog w (fun _ => true) true 66 k66 Q :=
  ⟨_, opens_struct (g := fun z => (⟨z.1, z.2.1, z.2.2.1, z.2.2.2⟩ : S66)) Try.underlying66 (by kernel_rfl) (opensFs_cons rfl (by kernel_rfl) (opens_int Try.underlying3) (opensFs_cons rfl (by kernel_rfl) (opens_int Try.underlying3) (opensFs_cons rfl (by kernel_rfl) (opens_string Try.underlying9) (opensFs_one rfl (by kernel_rfl) (opens_bool Try.underlying4))))) _ (fun _ => rfl)⟩
theorem open37 : ∃ Q, Opens enc Try.prog w (fun _ => true) true 37 k37 Q := by
  obtain ⟨Q, h⟩ := open158 (enc := enc) (w := w)
  exact ⟨_, opens_struct (g := fun z => (⟨z.1, z.2.1, z.2.2.1, z.2.2.2.1, z.2.2.2.2.1, z.2.2.2.2.2.1, z.2.2.2.2.2.2.1, z.2.2.2.2.2.2.2.1, z.2.2.2.2.2.2.2.2.1, z.2.2.2.2.2.2.2.2.2.1, z.2.2.2.2.2.2.2.2.2.2⟩ : S37)) Try.underlying37 (by kernel_rfl)
    (opensFs_cons rfl (by kernel_rfl) (opens_string Try.underlying9) (opensFs_cons rfl (by kernel_rfl) (opens_int Try.underlying5) (opensFs_cons rfl (by kernel_rfl) (opens_int Try.underlying3) (opensFs_cons rfl (by kernel_rfl) (opens_int Try.underlying3) (opensFs_cons rfl (by kernel_rfl) (opens_int Try.underlying5) (opensFs_cons rfl (by kernel_rfl) (opens_string Try.underlying9) (opensFs_cons rfl (by kernel_rfl) (opens_string Try.underlying9) (opensFs_cons rfl (by kernel_rfl) (opens_string Try.underlying9) (opensFs_cons rfl (by kernel_rfl) (opens_bool Try.underlying4) (opensFs_cons rfl (by kernel_rfl) (opens_slice Try.underlying30 (by kernel_rfl) h) (opensFs_one rfl (by kernel_rfl) (opens_slice Try.underlying35 (by kernel_rfl) (opens_string Try.underlying9))))))))))))) _ (fun _ => rfl)⟩
theorem open34 : ∃ Q, Opens enc Try.prog w (fun _ => true) true 34 k34 Q := by
  obtain ⟨Q1, h1⟩ := open158 (enc := enc) (w := w)
  obtain ⟨Q2, h2⟩ := open37 (enc := enc) (w := w)
  obtain ⟨Q3, h3⟩ := open66 (enc := enc) (w := w)
  exact ⟨_, opens_struct (g := fun z => (⟨z.1, z.2.1, z.2.2.1, z.2.2.2⟩ : S34)) Try.underlying34 (by kernel_rfl) (opensFs_cons rfl (by kernel_rfl) (opens_string Try.underlying9) (opensFs_cons rfl (by kernel_rfl) (opens_slice Try.underlying30 (by kernel_rfl) h1) (opensFs_cons rfl (by kernel_rfl) (opens_slice Try.underlying31 (by kernel_rfl) h2) (opensFs_one rfl (by kernel_rfl) (opens_slice Try.underlying32 (by kernel_rfl) h3))))) _ (fun _ => rfl)⟩
theorem open43 : ∃ Q, Opens enc Try.prog w (fun _ => true) true 43 k43 Q ∧ ∀ x, Q x → (Lit.int .i64 x.f0).wf = true :=
  ⟨_, opens_struct (g := fun z => (⟨z.1, z.2.1, z.2.2.1, z.2.2.2.1, z.2.2.2.2.1, z.2.2.2.2.2.1, z.2.2.2.2.2.2.1, z.2.2.2.2.2.2.2⟩ : S43)) Try.underlying43 (by kernel_rfl)
    (opensFs_cons rfl (by kernel_rfl) (opens_int Try.underlying3) (opensFs_cons rfl (by kernel_rfl) (opens_int Try.underlying3) (opensFs_cons rfl (by kernel_rfl) (opens_int Try.underlying5) (opensFs_cons rfl (by kernel_rfl) (opens_string Try.underlying9) (opensFs_cons rfl (by kernel_rfl) (opens_int Try.underlying3) (opensFs_cons rfl (by kernel_rfl) (opens_int Try.underlying3) (opensFs_cons rfl (by kernel_rfl) (opens_int Try.underlying5) (opensFs_one rfl (by kernel_rfl) (opens_string Try.underlying9))))))))) _ (fun _ => rfl), fun _ h => h.1⟩
theorem open129 : ∃ Q, Opens enc Try.prog w (fun _ => true) true 129 k129 Q := by
  obtain ⟨Q, h⟩ := open127 (enc := enc) (w := w)
  exact ⟨_, opens_struct (g := fun z => (⟨z.1, z.2.1, z.2.2⟩ : S129)) Try.underlying129 (by kernel_rfl) (opensFs_cons rfl (by kernel_rfl) (opens_int Try.underlying3) (opensFs_cons rfl (by kernel_rfl) (opens_string Try.underlying9) (opensFs_one rfl (by kernel_rfl) h))) _ (fun _ => rfl)⟩
theorem open132 : ∃ Q, Opens enc Try.prog w (fun _ => true) true 132 k132 Q ∧ ∀ x, Q x → (Lit.int .i64 x.f1).wf = true :=
  ⟨_, opens_struct (g := fun z => (⟨z.1, z.2.1, z.2.2.1, z.2.2.2.1, z.2.2.2.2.1, z.2.2.2.2.2.1, z.2.2.2.2.2.2⟩ : S132)) Try.underlying132 (by kernel_rfl)
    (opensFs_cons rfl (by kernel_rfl) (opens_int Try.underlying3) (opensFs_cons rfl (by kernel_rfl) (opens_int Try.underlying3) (opensFs_cons rfl (by kernel_rfl) (opens_int Try.underlying3) (opensFs_cons rfl (by kernel_rfl) (opens_int Try.underlying5) (opensFs_cons rfl (by kernel_rfl) (opens_string Try.underlying9) (opensFs_cons rfl (by kernel_rfl) (opens_int Try.underlying3) (opensFs_one rfl (by kernel_rfl) (opens_bool Try.underlying4)))))))) _ (fun _ => rfl), fun _ h => h.2.1⟩
def kS : Kd (Int × (Int × (List S34 × (List S43 × (List S129 × List S132))))) := Kd.pair (Kd.int .i64) (Kd.pair (Kd.int .i64) (Kd.pair (Kd.slice 34 k34) (Kd.pair (Kd.slice 43 k43) (Kd.pair (Kd.slice 129 k129) (Kd.slice 132 k132)))))
theorem open27 : ∃ Q, Opens enc Try.prog w (fun _ => true) true 27 (Kd.iso kS id) Q ∧ ∀ z, Q z → (∀ x ∈ z.2.2.2.1, (Lit.int .i64 x.f0).wf = true) ∧ ∀ x ∈ z.2.2.2.2.2, (Lit.int .i64 x.f1).wf = true := by
  obtain ⟨Q1, h1⟩ := open34 (enc := enc) (w := w)
  obtain ⟨Q2, h2, g2⟩ := open43 (enc := enc) (w := w)
  obtain ⟨Q3, h3⟩ := open129 (enc := enc) (w := w)
  obtain ⟨Q4, h4, g4⟩ := open132 (enc := enc) (w := w)
  exact ⟨_, opens_struct (g := id) Try.underlying27 (by kernel_rfl) (opensFs_cons rfl (by kernel_rfl) (opens_int Try.underlying3) (opensFs_cons rfl (by kernel_rfl) (opens_int Try.underlying3) (opensFs_cons rfl (by kernel_rfl) (opens_slice Try.underlying22 (by kernel_rfl) h1) (opensFs_cons rfl (by kernel_rfl) (opens_slice Try.underlying23 (by kernel_rfl) h2) (opensFs_cons rfl (by kernel_rfl) (opens_slice Try.underlying24 (by kernel_rfl) h3) (opensFs_one rfl (by kernel_rfl) (opens_slice Try.underlying25 (by kernel_rfl) h4))))))) id (fun _ => rfl),
    fun z h => ⟨fun x hx => g2 x (h.2.2.2.1.2 x hx), fun x hx => g4 x (h.2.2.2.2.2.2 x hx)⟩⟩
/-- A state, as an argument. -/
theorem argS {v : Value} {d : DataW H} {p : List MemPlace} (hv : ∃ cs, v = .agg cs ∧ cs.size = Try.prog.cellsOf 27) (h : DataW.Trod enc Try.prog w 0 (fun _ => true) true 27 v d p) :
    ∃ s, St w v s ∧ (∀ x ∈ s.items, (Lit.int .i64 x.f0).wf = true) ∧ ∀ x ∈ s.wats, (Lit.int .i64 x.f1).wf = true := by
  obtain ⟨cs, rfl, _⟩ := hv
  obtain ⟨fuel, hf⟩ := h
  obtain ⟨Q, ho, hq⟩ := open27 (enc := enc) (w := w)
  obtain ⟨⟨a, b, l2, l3, l4, l5⟩, hK, hQ⟩ := ho _ _ _ hf
  obtain ⟨_, _, e, rfl, _, _, rfl, rfl, _, _, rfl, ⟨A2, c2, rfl, i2, g2⟩, _, _, rfl, ⟨A3, c3, rfl, i3, g3⟩, _, _, rfl, ⟨A4, c4, rfl, i4, g4⟩, ⟨A5, c5, rfl, i5, g5⟩⟩ := hK
  have hqq := hq _ hQ
  refine ⟨⟨a, b, l2, l3, l4, l5⟩, ⟨A2, c2, A3, c3, A4, c4, A5, c5, ?_, g2, i2, g3, i3, g4, i4, g5, i5⟩, hqq.1, hqq.2⟩
  have e2 : cs.toList = [.int .i64 a, .int .i64 b, .slice A2 l2.length c2, .slice A3 l3.length c3, .slice A4 l4.length c4, .slice A5 l5.length c5] := e
  rw [show cs = #[.int .i64 a, .int .i64 b, .slice A2 l2.length c2, .slice A3 l3.length c3, .slice A4 l4.length c4, .slice A5 l5.length c5] from by rw [← e2]]
end
end Go.Proofs.Ythonmfcollafkaa.P
