import Derived.Test.YthonmfcollafkaaHTake
import Derived.Test.YthonmfcollafkaaHDelI
/- cancel.Clear, cancel.Break. -/
namespace Go.Proofs.Ythonmfcollafkaa.P
open Go.RowKit Go.Proofs.YthonmfcollafkaaW.PrintWords Go.Proofs.YthonmfcollafkaaW.PrintLast Go.Proofs.YthonmfcollafkaaW.PrintMore
open Go.Maps
set_option linter.unusedVariables false
set_option linter.unusedSimpArgs false
theorem three_facts (w : World) (o0 o1 o2 : Obj) : (((w.alloc o0).alloc o1).alloc o2).heap[w.heap.size]? = some o0 ∧ (((w.alloc o0).alloc o1).alloc o2).heap[w.heap.size + 1]? = some o1 ∧ (((w.alloc o0).alloc o1).alloc o2).heap[w.heap.size + 2]? = some o2 ∧ Below w.heap.size w (((w.alloc o0).alloc o1).alloc o2) := by
  have h2 := blk_new ((w.alloc o0).alloc o1) o2
  have h1 := blk_alloc (blk_new (w.alloc o0) o1) o2
  have h0 := blk_alloc (blk_alloc (blk_new w o0) o1) o2
  simp only [World.size_alloc] at h1 h2
  exact ⟨h0, h1, h2, below_alloc (below_alloc (below_alloc (Below.refl _ _) _) _) _⟩
theorem below_ids {its : List S43} {id : Int} {x0 : S43} {l : List Int} (hf : findI its id = some x0) (hm : ∀ x, x ∈ l ↔ Desc its id x ∧ x ≠ id) : ∀ x, x ∈ l ↔ Below' its id x := by
  intro x
  have ht : There its id := by rw [findI_there, hf]; rfl
  rw [hm]
  exact ⟨fun h => ⟨ht, h.1, h.2⟩, fun h => ⟨h.2.1, h.2.2⟩⟩
theorem clear_not (s : Stt) (a : Int) (h : ¬ There s.items a) : clearS s a = s := cut_none _ _ _ (fun _ k => h k.1) (fun _ k => h k.1)
set_option maxHeartbeats 4000000 in
set_option maxRecDepth 100000 in
theorem clear_there {w : World} {s : Stt} {A2 A3 A4 A5 : Option Addr} {c2 c3 c4 c5 : Nat} (h2 : Kd.C k34 w A2 s.defs.length s.defs) (k2 : s.defs.length ≤ c2) (h3 : Kd.C k43 w A3 s.items.length s.items) (k3 : s.items.length ≤ c3) (h4 : Kd.C k129 w A4 s.cells.length s.cells) (k4 : s.cells.length ≤ c4) (h5 : Kd.C k132 w A5 s.wats.length s.wats) (k5 : s.wats.length ≤ c5) (hF : Fit s) (id : Int) (hid : (Lit.int .i64 id).wf = true) (x : S43) (hfi : findI s.items id = some x) :
    Calls Try.prog 54 #[.agg #[.int .i64 s.clk, .int .i64 s.nxt, .slice A2 s.defs.length c2, .slice A3 s.items.length c3, .slice A4 s.cells.length c4, .slice A5 s.wats.length c5], .int .i64 id] w fun e w' => ∃ v3 v4 v5, e = .returned (.agg #[.int .i64 s.clk, .int .i64 s.nxt, .slice A2 s.defs.length c2, v3, v4, v5]) ∧ Kd.R k43 43 w' w.heap.size (fun _ => True) v3 (clearS s id).items ∧ Kd.R k129 129 w' w.heap.size (fun _ => True) v4 (clearS s id).cells ∧ Kd.R k132 132 w' w.heap.size (fun _ => True) v5 (clearS s id).wats ∧ Below w.heap.size w w' := by
  have hu := Try.underlying27
  have HS := Aside0.mk (show St w (.agg #[.int .i64 s.clk, .int .i64 s.nxt, .slice A2 s.defs.length c2, .slice A3 s.items.length c3, .slice A4 s.cells.length c4, .slice A5 s.wats.length c5]) s from ⟨A2, c2, A3, c3, A4, c4, A5, c5, rfl, h2, k2, h3, k3, h4, k4, h5, k5⟩)
  have H2 := Aside0.mk h2; have H3 := Aside0.mk h3; have H4 := Aside0.mk h4; have H5 := Aside0.mk h5
  clear h2 h3 h4 h5
  obtain ⟨k0, k1, kr, kb⟩ := three_facts w (.cells #[.int .i64 s.clk, .int .i64 s.nxt, .slice A2 s.defs.length c2, .slice A3 s.items.length c3, .slice A4 s.cells.length c4, .slice A5 s.wats.length c5] 27 (0, 0)) (.cells #[.int .i64 id] 3 (0, 0)) (.cells #[.int .i64 0, .int .i64 0, .slice none 0 0, .slice none 0 0, .slice none 0 0, .slice none 0 0] 27 (0, 0))
  have L0 := Aside0.mk k0; have L1 := Aside0.mk k1; have LR := Aside0.mk kr; have LB := Aside0.mk kb
  clear k0 k1 kr kb
  have HN := Aside0.mk hfi
  clear hfi
  go_enter Try.func54, Try.ntmps54
  go_wp2_with (go_at_call 16; refine (find_calls (HS.out.below LB.out) hF id).mono ?_; rintro e w1 ⟨rfl, hb⟩; rw [HN.out]; have K0 := Aside0.mk (blk_below L0.out hb); have K1 := Aside0.mk (blk_below L1.out hb); have KR := Aside0.mk (blk_below LR.out hb); have HB := Aside0.mk (below_step LB.out hb); clear hb; have hl0 := blk_lt K0.out; have hl1 := blk_lt K1.out; have hlr := blk_lt KR.out; have i0 := blk_cell K0.out 0; have i1 := blk_cell K0.out 1; have i2 := blk_cell K0.out 2; have i3 := blk_cell K0.out 3; have i4 := blk_cell K0.out 4; have i5 := blk_cell K0.out 5; simp only [List.getElem?_toArray, List.getElem?_cons_zero, List.getElem?_cons_succ] at i0 i1 i2 i3 i4 i5; have j0 := blk_cell KR.out 0; have f0 := blk_frozen KR.out 0; have j1 := blk_cell KR.out 1; have f1 := blk_frozen KR.out 1; have j2 := blk_cell KR.out 2; have f2 := blk_frozen KR.out 2; have j3 := blk_cell KR.out 3; have f3 := blk_frozen KR.out 3; have j4 := blk_cell KR.out 4; have f4 := blk_frozen KR.out 4; have j5 := blk_cell KR.out 5; have f5 := blk_frozen KR.out 5; simp only [List.getElem?_toArray, List.getElem?_cons_zero, List.getElem?_cons_succ] at j0 j1 j2 j3 j4 j5; have iq := cell_old K1.out; unfold agg43; simp only [Option.getD_some, Option.isSome_some])
  generalize hX : w1.alloc _ = X
  have X0 := Aside0.mk (show X.heap[w.heap.size]? = some (.cells #[.int .i64 s.clk, .int .i64 s.nxt, .slice A2 s.defs.length c2, .slice A3 s.items.length c3, .slice A4 s.cells.length c4, .slice A5 s.wats.length c5] 27 (0, 0)) by rw [← hX]; exact blk_alloc K0.out _)
  have X1 := Aside0.mk (show X.heap[w.heap.size + 1]? = some (.cells #[.int .i64 id] 3 (0, 0)) by rw [← hX]; exact blk_alloc K1.out _)
  have XR := Aside0.mk (show X.heap[w.heap.size + 2]? = some (.cells #[.int .i64 0, .int .i64 0, .slice none 0 0, .slice none 0 0, .slice none 0 0, .slice none 0 0] 27 (0, 0)) by rw [← hX]; exact blk_alloc KR.out _)
  have XB := Aside0.mk (show Below w.heap.size w X by rw [← hX]; exact below_alloc HB.out _)
  clear hX L0 L1 LR LB K0 K1 KR HB hl0 hl1 hlr i0 i1 i2 i3 i4 i5 iq j0 j1 j2 j3 j4 j5 f0 f1 f2 f3 f4 f5
  have i0 := blk_cell X0.out 0; have i1 := blk_cell X0.out 1; have i2 := blk_cell X0.out 2; have i3 := blk_cell X0.out 3; have i4 := blk_cell X0.out 4; have i5 := blk_cell X0.out 5; simp only [List.getElem?_toArray, List.getElem?_cons_zero, List.getElem?_cons_succ] at i0 i1 i2 i3 i4 i5
  have iq := cell_old X1.out
  have hd1 : ¬ (w.heap.size = w.heap.size + 1 + 1) := by omega
  have hd2 : ¬ (w.heap.size + 1 + 1 = w.heap.size) := by omega
  go_region_held3 (fun w' => w'.cell? ⟨w.heap.size, 0, none⟩ = some (.int .i64 s.clk) ∧ w'.cell? ⟨w.heap.size, 1, none⟩ = some (.int .i64 s.nxt) ∧ w'.cell? ⟨w.heap.size, 2, none⟩ = some (.slice A2 s.defs.length c2) ∧ w'.cell? ⟨w.heap.size, 3, none⟩ = some (.slice A3 s.items.length c3) ∧ w'.cell? ⟨w.heap.size, 4, none⟩ = some (.slice A4 s.cells.length c4) ∧ w'.cell? ⟨w.heap.size, 5, none⟩ = some (.slice A5 s.wats.length c5) ∧ w'.cell? ⟨w.heap.size + 1, 0, none⟩ = some (.int .i64 id)) (go_keep) (first | (go_at_call 48; refine Calls.mono (below_calls (s := s) (HS.out.below (below_drew XB.out)) hF id hid) ?_; rintro e w2 ⟨vB, l, rfl, hol, hml, hll, hbl⟩; have HBL := Aside0.mk (below_step (below_drew (Below.refl X.heap.size X)) hbl); have Y0 := Aside0.mk (blk_below X0.out HBL.out); have Y1 := Aside0.mk (blk_below X1.out HBL.out); have YR := Aside0.mk (blk_below XR.out HBL.out); have YB := Aside0.mk (below_then XB.out XB.out.size HBL.out); have HOL := Aside0.mk hol; have HWF : Aside0 (∀ x ∈ l, (Lit.int .i64 x).wf = true) := ⟨fun x hx => desc_wf hF ((hml x).1 hx).1⟩; have HNE : Aside0 (∀ x ∈ l, x ≠ id) := ⟨fun x hx => ((hml x).1 hx).2⟩; have HML := Aside0.mk (below_ids HN.out hml); clear hol hml hbl; obtain ⟨AB, cB, rfl, hcB, hCB⟩ := Kd.R_reads HOL.out; have HCB := Aside0.mk hCB; clear hCB; have m0 := blk_cell Y0.out 0; have m1 := blk_cell Y0.out 1; have m2 := blk_cell Y0.out 2; have m3 := blk_cell Y0.out 3; have m4 := blk_cell Y0.out 4; have m5 := blk_cell Y0.out 5; simp only [List.getElem?_toArray, List.getElem?_cons_zero, List.getElem?_cons_succ] at m0 m1 m2 m3 m4 m5; have mq := cell_old Y1.out) | (go_at_call 109; refine (del_109_none AB cB l (w.heap.size + 1) id w2 HCB.out hcB (by omega) Y1.out HNE.out).mono ?_; rintro e w3 ⟨rfl, hb3⟩; have Z0 := Aside0.mk (blk_below Y0.out hb3); have Z1 := Aside0.mk (blk_below Y1.out hb3); have ZR := Aside0.mk (blk_below YR.out hb3); have ZB := Aside0.mk (below_then YB.out YB.out.size hb3); have ZC := Aside0.mk (Kd.C_below HCB.out hb3); clear hb3 i0 i1 i2 i3 i4 i5 iq m0 m1 m2 m3 m4 m5 mq; have n0 := blk_cell Z0.out 0; have n1 := blk_cell Z0.out 1; have n2 := blk_cell Z0.out 2; have n3 := blk_cell Z0.out 3; have n4 := blk_cell Z0.out 4; have n5 := blk_cell Z0.out 5; simp only [List.getElem?_toArray, List.getElem?_cons_zero, List.getElem?_cons_succ] at n0 n1 n2 n3 n4 n5; have nq := cell_old Z1.out) | (go_at_call 106; refine (without_n s hF A2 c2 A3 c3 A4 c4 A5 c5 AB l.length cB l w3 rfl (Kd.C_below H2.out ZB.out) k2 (Kd.C_below H3.out ZB.out) k3 (Kd.C_below H4.out ZB.out) k4 (Kd.C_below H5.out ZB.out) k5 ZC.out hcB (by omega) HWF.out (Below' s.items id) HML.out).mono ?_; rintro e w4 ⟨v3, v4, v5, rfl, ho3, ho4, ho5, hb4⟩; have HO3 := Aside0.mk ho3; have HO4 := Aside0.mk ho4; have HO5 := Aside0.mk ho5; have U0 := Aside0.mk (blk_below Z0.out hb4); have U1 := Aside0.mk (blk_below Z1.out hb4); have UR := Aside0.mk (blk_below ZR.out hb4); have UB := Aside0.mk (below_then ZB.out ZB.out.size hb4); have HZ := Aside0.mk (blk_lt ZR.out); clear ho3 ho4 ho5 hb4 n0 n1 n2 n3 n4 n5 nq; obtain ⟨A7, c7, rfl⟩ := Kd.R_slice HO3.out; obtain ⟨A8, c8, rfl⟩ := Kd.R_slice HO4.out; obtain ⟨A9, c9, rfl⟩ := Kd.R_slice HO5.out; have q0 := blk_cell U0.out 0; have q1 := blk_cell U0.out 1; have q2 := blk_cell U0.out 2; have q3 := blk_cell U0.out 3; have q4 := blk_cell U0.out 4; have q5 := blk_cell U0.out 5; simp only [List.getElem?_toArray, List.getElem?_cons_zero, List.getElem?_cons_succ] at q0 q1 q2 q3 q4 q5; have qq := cell_old U1.out; have j0 := blk_cell UR.out 0; have f0 := blk_frozen UR.out 0; have j1 := blk_cell UR.out 1; have f1 := blk_frozen UR.out 1; have j2 := blk_cell UR.out 2; have f2 := blk_frozen UR.out 2; have j3 := blk_cell UR.out 3; have f3 := blk_frozen UR.out 3; have j4 := blk_cell UR.out 4; have f4 := blk_frozen UR.out 4; have j5 := blk_cell UR.out 5; have f5 := blk_frozen UR.out 5; simp only [List.getElem?_toArray, List.getElem?_cons_zero, List.getElem?_cons_succ] at j0 j1 j2 j3 j4 j5))
  all_goals
    go_wp2
    refine bodyPost_ret (results_cell_row rfl _ _ (w.heap.size + 2) 27 _ (0, 0) _ rfl (blk_six UR.out) Try.underlying27 rfl (by kernel_rfl)) rfl ?_
    exact ⟨_, _, _, rfl, Kd.R_mono (Kd.R_lower (R_six' HO3.out HZ.out) ZB.out.size) (fun _ _ => trivial), Kd.R_mono (Kd.R_lower (R_six' HO4.out HZ.out) ZB.out.size) (fun _ _ => trivial), Kd.R_mono (Kd.R_lower (R_six' HO5.out HZ.out) ZB.out.size) (fun _ _ => trivial), below_six UB.out (by omega)⟩
set_option maxHeartbeats 4000000 in
set_option maxRecDepth 100000 in
theorem clear_calls {w : World} {v : Value} {s : Stt} (hS : St w v s) (hF : Fit s) (id : Int) (hid : (Lit.int .i64 id).wf = true) : Calls Try.prog 54 #[v, .int .i64 id] w fun e w' => ∃ v', e = .returned v' ∧ St w' v' (clearS s id) ∧ Below w.heap.size w w' := by
  have hu := Try.underlying27
  have HS := Aside0.mk hS
  obtain ⟨A2, c2, A3, c3, A4, c4, A5, c5, rfl, h2, k2, h3, k3, h4, k4, h5, k5⟩ := hS
  have H2 := Aside0.mk h2; have H3 := Aside0.mk h3; have H4 := Aside0.mk h4; have H5 := Aside0.mk h5
  clear h2 h3 h4 h5
  obtain ⟨k0, k1, kr, kb⟩ := three_facts w (.cells #[.int .i64 s.clk, .int .i64 s.nxt, .slice A2 s.defs.length c2, .slice A3 s.items.length c3, .slice A4 s.cells.length c4, .slice A5 s.wats.length c5] 27 (0, 0)) (.cells #[.int .i64 id] 3 (0, 0)) (.cells #[.int .i64 0, .int .i64 0, .slice none 0 0, .slice none 0 0, .slice none 0 0, .slice none 0 0] 27 (0, 0))
  have L0 := Aside0.mk k0; have L1 := Aside0.mk k1; have LR := Aside0.mk kr; have LB := Aside0.mk kb
  clear k0 k1 kr kb
  cases hfi : findI s.items id with
  | none =>
    have HN := Aside0.mk hfi
    clear hfi
    go_enter Try.func54, Try.ntmps54
    go_wp2_with (go_at_call 16; refine (find_calls (HS.out.below LB.out) hF id).mono ?_; rintro e w1 ⟨rfl, hb⟩; rw [HN.out]; have K0 := Aside0.mk (blk_below L0.out hb); have K1 := Aside0.mk (blk_below L1.out hb); have KR := Aside0.mk (blk_below LR.out hb); have HB := Aside0.mk (below_step LB.out hb); clear hb; have hl0 := blk_lt K0.out; have hl1 := blk_lt K1.out; have hlr := blk_lt KR.out; have i0 := blk_cell K0.out 0; have i1 := blk_cell K0.out 1; have i2 := blk_cell K0.out 2; have i3 := blk_cell K0.out 3; have i4 := blk_cell K0.out 4; have i5 := blk_cell K0.out 5; simp only [List.getElem?_toArray, List.getElem?_cons_zero, List.getElem?_cons_succ] at i0 i1 i2 i3 i4 i5; have j0 := blk_cell KR.out 0; have f0 := blk_frozen KR.out 0; have j1 := blk_cell KR.out 1; have f1 := blk_frozen KR.out 1; have j2 := blk_cell KR.out 2; have f2 := blk_frozen KR.out 2; have j3 := blk_cell KR.out 3; have f3 := blk_frozen KR.out 3; have j4 := blk_cell KR.out 4; have f4 := blk_frozen KR.out 4; have j5 := blk_cell KR.out 5; have f5 := blk_frozen KR.out 5; simp only [List.getElem?_toArray, List.getElem?_cons_zero, List.getElem?_cons_succ] at j0 j1 j2 j3 j4 j5; have iq := cell_old K1.out; unfold agg43; simp only [Option.getD_none, Option.isSome_none, z43'])
    refine bodyPost_ret (results_cell_row rfl _ _ (w.heap.size + 2) 27 _ (0, 0) _ rfl (blk_alloc (blk_six KR.out) _) Try.underlying27 rfl (by kernel_rfl)) rfl ?_
    have hnt : ¬ There s.items id := fun h => by rw [findI_there, HN.out] at h; cases h
    exact ⟨_, rfl, by rw [clear_not _ _ hnt]; exact HS.out.below (below_alloc (below_six HB.out (by omega)) _), below_alloc (below_six HB.out (by omega)) _⟩
  | some x =>
    refine (clear_there H2.out k2 H3.out k3 H4.out k4 H5.out k5 hF id hid x hfi).mono ?_
    rintro e w' ⟨v3, v4, v5, rfl, r3, r4, r5, hb⟩
    exact ⟨_, rfl, st_of (s := clearS s id) (Kd.C_below H2.out hb) k2 r3 r4 r5, hb⟩
theorem map_ne {w2 : World} {g : Nat} {o : Obj} (h : w2.heap[g]? = some o) : some g ≠ some w2.heap.size := fun e => by injection e with e; have := blk_lt h; omega
theorem map_below {w2 w3 : World} {o : Obj} (hg : (w2.alloc o).grownBy w3 (some w2.heap.size)) : Below w2.heap.size w2 w3 :=
  pw_below_grown (below_alloc (Below.refl _ _) _) _ (by simp [World.size_alloc]) hg (fun k hk => by injection hk with hk; omega)
theorem break_not (s : Stt) (a : Int) (h : ¬ There s.items a) : breakS s a = s := if_neg h
theorem break_eq {s : Stt} {id : Int} (h : There s.items id) : breakS s id = { clearS s id with wats := (clearS s id).wats.filter fun x => !decide (0 < cntOf ((.map [] : DataW Unit).put (.int .i64 id) (.lit (.int .i64 1))) x.f1) } := by
  unfold breakS
  rw [if_pos h]
  unfold cut
  simp only [Stt.mk.injEq, true_and]
  refine ⟨List.filter_eq_self.2 (fun x _ => by simp), List.filter_eq_self.2 (fun x _ => by simp), ?_⟩
  apply List.filter_congr
  intro x _
  rw [cntOf_put isMap_empty, cntOf_none]
  by_cases e : x.f1 = id <;> simp [e]
theorem break_st {w : World} {s : Stt} {id : Int} {A2 : Option Addr} {c2 b3 b4 b5 : Nat} {k3 k4 k5 : Nat → Prop} {v3 v4 v5 : Value} (ht : There s.items id) (h2 : Kd.C k34 w A2 s.defs.length s.defs) (hc2 : s.defs.length ≤ c2) (h3 : Kd.R k43 43 w b3 k3 v3 (clearS s id).items) (h4 : Kd.R k129 129 w b4 k4 v4 (clearS s id).cells) (h5 : Kd.R k132 132 w b5 k5 v5 ((clearS s id).wats.filter fun x => !decide (0 < cntOf ((.map [] : DataW Unit).put (.int .i64 id) (.lit (.int .i64 1))) x.f1))) : St w (.agg #[.int .i64 s.clk, .int .i64 s.nxt, .slice A2 s.defs.length c2, v3, v4, v5]) (breakS s id) := by
  rw [break_eq ht]
  exact st_of (s := { clearS s id with wats := _ }) h2 hc2 h3 h4 h5
set_option maxHeartbeats 4000000 in
set_option maxRecDepth 100000 in
theorem break_calls {w : World} {v : Value} {s : Stt} (hS : St w v s) (hF : Fit s) (id : Int) (hid : (Lit.int .i64 id).wf = true) : Calls Try.prog 56 #[v, .int .i64 id] w fun e w' => ∃ v', e = .returned v' ∧ St w' v' (breakS s id) ∧ Below w.heap.size w w' := by
  have hu := Try.underlying27
  have HS := Aside0.mk hS
  obtain ⟨A2, c2, A3, c3, A4, c4, A5, c5, rfl, h2, k2, h3, k3, h4, k4, h5, k5⟩ := hS
  have H2 := Aside0.mk h2; have H3 := Aside0.mk h3; have H4 := Aside0.mk h4; have H5 := Aside0.mk h5
  clear h2 h3 h4 h5
  cases hfi : findI s.items id with
  | none =>
    have HN := Aside0.mk hfi
    clear hfi
    go_enter Try.func56, Try.ntmps56
    go_wp2_with (go_at_call 16; refine (find_calls (HS.out.below (below_alloc (below_alloc (Below.refl _ _) _) _)) hF id).mono ?_; rintro e w1 ⟨rfl, hb⟩; rw [HN.out]; have k0 := blk_below (blk_alloc (blk_new w _) _) hb; have k1 := blk_below (blk_new2 w _ _) hb; have HB := Aside0.mk (below_step (below_alloc (below_alloc (Below.refl _ _) _) _) hb); clear hb; have K0 := Aside0.mk k0; have K1 := Aside0.mk k1; clear k0 k1; have hl0 := blk_lt K0.out; have hl1 := blk_lt K1.out; have i0 := blk_cell K0.out 0; have i1 := blk_cell K0.out 1; have i2 := blk_cell K0.out 2; have i3 := blk_cell K0.out 3; have i4 := blk_cell K0.out 4; have i5 := blk_cell K0.out 5; simp only [List.getElem?_toArray, List.getElem?_cons_zero, List.getElem?_cons_succ] at i0 i1 i2 i3 i4 i5; have j0 := blk_cell K1.out 0; have j1 := blk_cell K1.out 1; have j2 := blk_cell K1.out 2; have j3 := blk_cell K1.out 3; have j4 := blk_cell K1.out 4; have j5 := blk_cell K1.out 5; have f0 := blk_frozen K1.out 0; have f1 := blk_frozen K1.out 1; have f2 := blk_frozen K1.out 2; have f3 := blk_frozen K1.out 3; have f4 := blk_frozen K1.out 4; have f5 := blk_frozen K1.out 5; simp only [List.getElem?_toArray, List.getElem?_cons_zero, List.getElem?_cons_succ] at j0 j1 j2 j3 j4 j5; unfold agg43; simp only [Option.getD_none, Option.isSome_none, z43'])
    refine bodyPost_ret (results_cell_row rfl _ _ (w.heap.size + 1) 27 _ (0, 0) _ rfl (blk_alloc (blk_six K1.out) _) Try.underlying27 rfl (by kernel_rfl)) rfl ?_
    have hnt : ¬ There s.items id := fun h => by rw [findI_there, HN.out] at h; cases h
    exact ⟨_, rfl, by rw [break_not _ _ hnt]; exact HS.out.below (below_alloc (below_six HB.out (by omega)) _), below_alloc (below_six HB.out (by omega)) _⟩
  | some x =>
    have HN := Aside0.mk hfi
    clear hfi
    have hkey := keyOf_int_mk Try.underlying3 hid
    have hmm := @run_makeMap Try.prog
    have HC := Aside0.mk (hF.cut (Below' s.items id) (Below' s.items id))
    have HL5 : Aside0 ((clearS s id).wats.length ≤ 1000000000) := ⟨by have := HC.out.wats; unfold clearS; omega⟩
    go_enter Try.func56, Try.ntmps56
    go_wp2_with (first | (go_at_call 16; refine (find_calls (HS.out.below (below_alloc (below_alloc (Below.refl _ _) _) _)) hF id).mono ?_; rintro e w1 ⟨rfl, hb⟩; rw [HN.out]; have k0 := blk_below (blk_alloc (blk_new w _) _) hb; have k1 := blk_below (blk_new2 w _ _) hb; have HB := Aside0.mk (below_step (below_alloc (below_alloc (Below.refl _ _) _) _) hb); clear hb; have K0 := Aside0.mk k0; have K1 := Aside0.mk k1; clear k0 k1; have hl0 := blk_lt K0.out; have hl1 := blk_lt K1.out; have i0 := blk_cell K0.out 0; have i1 := blk_cell K0.out 1; have i2 := blk_cell K0.out 2; have i3 := blk_cell K0.out 3; have i4 := blk_cell K0.out 4; have i5 := blk_cell K0.out 5; simp only [List.getElem?_toArray, List.getElem?_cons_zero, List.getElem?_cons_succ] at i0 i1 i2 i3 i4 i5; have j0 := blk_cell K1.out 0; have j1 := blk_cell K1.out 1; have j2 := blk_cell K1.out 2; have j3 := blk_cell K1.out 3; have j4 := blk_cell K1.out 4; have j5 := blk_cell K1.out 5; have f0 := blk_frozen K1.out 0; have f1 := blk_frozen K1.out 1; have f2 := blk_frozen K1.out 2; have f3 := blk_frozen K1.out 3; have f4 := blk_frozen K1.out 4; have f5 := blk_frozen K1.out 5; simp only [List.getElem?_toArray, List.getElem?_cons_zero, List.getElem?_cons_succ] at j0 j1 j2 j3 j4 j5; unfold agg43; simp only [Option.getD_some, Option.isSome_some]) | (go_at_call 54; refine Calls.mono (clear_there (Kd.C_below H2.out (below_alloc HB.out _)) k2 (Kd.C_below H3.out (below_alloc HB.out _)) k3 (Kd.C_below H4.out (below_alloc HB.out _)) k4 (Kd.C_below H5.out (below_alloc HB.out _)) k5 hF id hid x HN.out) ?_; rintro e w2 ⟨v3, v4, v5, rfl, r3, r4, r5, hbc⟩; clear i0 i1 i2 i3 i4 i5 j0 j1 j2 j3 j4 j5 f0 f1 f2 f3 f4 f5; have Y1 := Aside0.mk (blk_below (blk_alloc K1.out _) hbc); have YB := Aside0.mk (below_step (below_alloc HB.out _) hbc); have HZ1 := Aside0.mk (blk_lt K1.out); have R3 := Aside0.mk (Kd.R_lower r3 (size_al (Nat.le_refl w1.heap.size))); have R4 := Aside0.mk (Kd.R_lower r4 (size_al (Nat.le_refl w1.heap.size))); have R5 := Aside0.mk (Kd.R_lower r5 (size_al (Nat.le_refl w1.heap.size))); clear r3 r4 r5 hbc; obtain ⟨B3, d3, rfl, e3, g3⟩ := Kd.R_reads R3.out; obtain ⟨B4, d4, rfl, e4, g4⟩ := Kd.R_reads R4.out; obtain ⟨B5, d5, rfl, e5, g5⟩ := Kd.R_reads R5.out; have G5 := Aside0.mk g5; clear g3 g4 g5) | ((with_reducible refine gate_ (Op.insert 135 (.tmp 19) (.tmp 20) (.const (.int .i64 1))) rfl ?_); refine wpList_insert_own _ rfl _ _ _ 135 rfl 3 3 keyed3 Try.underlying135 (plainElem Try.prog 3) w2.heap.size 0 (.map [] : DataW Unit) rfl (World.ownsMap_made (H := Unit) w2 Try.prog 3 (plainElem Try.prog 3)) (by unfold maxLen; omega) _ _ _ rfl rfl hkey _ [] (plainElem_int Try.underlying3 (by decide)) ?_; intro w3 hown3 hgrow3; have Z1 := Aside0.mk (blk_grown (blk_alloc Y1.out _) hgrow3 (map_ne Y1.out)); have ZG := Aside0.mk (map_below hgrow3); have HM := Aside0.mk hown3; clear hown3 hgrow3) | (go_at_call 111; refine (unwatched_calls s.clk s.nxt A2 s.defs.length c2 B3 (clearS s id).items.length d3 B4 (clearS s id).cells.length d4 B5 d5 (clearS s id).wats _ w2.heap.size 1 w3 (Kd.C_below G5.out ZG.out) e5 HL5.out HM.out HM.out.lt HC.out.on).mono ?_; rintro e w4 ⟨v5, rfl, ho5, hb4⟩; have HO5 := Aside0.mk ho5; have U1 := Aside0.mk (blk_below Z1.out hb4); have WG := Aside0.mk (below_step ZG.out hb4); have UB := Aside0.mk (below_step YB.out WG.out); have HZ := Aside0.mk (blk_lt Z1.out); clear ho5 hb4; obtain ⟨A9, c9, rfl⟩ := Kd.R_slice HO5.out; have j0 := blk_cell U1.out 0; have f0 := blk_frozen U1.out 0; have j1 := blk_cell U1.out 1; have f1 := blk_frozen U1.out 1; have j2 := blk_cell U1.out 2; have f2 := blk_frozen U1.out 2; have j3 := blk_cell U1.out 3; have f3 := blk_frozen U1.out 3; have j4 := blk_cell U1.out 4; have f4 := blk_frozen U1.out 4; have j5 := blk_cell U1.out 5; have f5 := blk_frozen U1.out 5; simp only [List.getElem?_toArray, List.getElem?_cons_zero, List.getElem?_cons_succ] at j0 j1 j2 j3 j4 j5))
    refine bodyPost_ret (results_cell_row rfl _ _ (w.heap.size + 1) 27 _ (0, 0) _ rfl (blk_six U1.out) Try.underlying27 rfl (by kernel_rfl)) rfl ?_
    have ht : There s.items id := by rw [findI_there, HN.out]; rfl
    exact ⟨_, rfl, break_st ht (Kd.C_below H2.out (below_six UB.out (by omega))) k2 (R_six' (Kd.R_below R3.out WG.out) HZ1.out) (R_six' (Kd.R_below R4.out WG.out) HZ1.out) (R_six' HO5.out HZ.out), below_six UB.out (by omega)⟩
end Go.Proofs.Ythonmfcollafkaa.P
