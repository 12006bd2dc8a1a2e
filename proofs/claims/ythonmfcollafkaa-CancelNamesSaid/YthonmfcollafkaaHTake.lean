import Derived.Test.YthonmfcollafkaaHBelow
import Derived.Deep.AppendLies
/- cancel.Take, Clear, Break. -/
namespace Go.Proofs.Ythonmfcollafkaa.P
open Go.RowKit Go.Proofs.YthonmfcollafkaaW.PrintWords Go.Proofs.YthonmfcollafkaaW.PrintLast Go.Proofs.YthonmfcollafkaaW.PrintMore
open Go.Maps
set_option linter.unusedVariables false
set_option linter.unusedSimpArgs false
theorem take_base {w X : World} {o : Obj} {g : Nat} (h : Below w.heap.size w X) (hb : X.heap[g]? = some o) (hg : g = w.heap.size + 1) : w.heap.size + 2 ≤ X.heap.size := by
  have := blk_lt hb
  omega
theorem take_base' {w X : World} {o : Obj} {g : Nat} (o' : Obj) (h : Below w.heap.size w X) (hb : X.heap[g]? = some o) (hg : g = w.heap.size + 1) : w.heap.size + 2 ≤ (X.drew.alloc o').heap.size := by
  have := blk_lt hb
  rw [World.size_alloc]
  show w.heap.size + 2 ≤ X.heap.size + 1
  omega
theorem own_ne2 {w2 : World} {base n g : Nat} {v : Value} {xs : List Value} (h : w2.ownsRow base 3 1 v n xs) (hg : g < base) : some g ≠ v.ownBlock := fun e => by have := own_base h g e.symm; omega
theorem own_ge2 {w w2 : World} {n : Nat} {v : Value} {xs : List Value} (h : w2.ownsRow (w.heap.size + 2) 3 1 v n xs) : ∀ k, v.ownBlock = some k → w.heap.size ≤ k := fun k e => by have := own_base h k e; omega
theorem size_al {w2 : World} {b : Nat} {o : Obj} (h : b ≤ w2.heap.size) : b ≤ (w2.alloc o).heap.size := by rw [World.size_alloc]; omega
theorem box_news (W : World) (x : Value) (t : TypeId) : ∀ (j : Nat) (u : Value), [x][j]? = some u → (W.alloc (.cells #[x] t (0, 0))).cell? ((⟨W.heap.size, 0, none⟩ : Addr).add j) = some u := by
  intro j u hj
  cases j with
  | zero =>
    rw [add_plain]
    exact (blk_cell (blk_new W (.cells #[x] t (0, 0))) 0).trans hj
  | succ j => simp at hj
theorem old_news {W : World} {g : Nat} {x : Value} {t : TypeId} (h : W.heap[g]? = some (.cells #[x] t (0, 0))) : ∀ (j : Nat) (u : Value), [x][j]? = some u → W.cell? ((⟨g, 0, none⟩ : Addr).add j) = some u := by
  intro j u hj
  cases j with
  | zero =>
    rw [add_plain]
    exact (blk_cell h 0).trans hj
  | succ j => simp at hj
theorem one_news (k : Int) : ∀ u ∈ [Value.int .i64 k], u.oneCell' = true := fun u hu => by rw [List.mem_singleton.1 hu]; rfl
theorem ids_row {w : World} {base : Nat} {v : Value} {l : List Int} {id : Int} (h : w.ownsRow base 3 1 v (l.length + 1) (encs (Value.int .i64) l ++ [.int .i64 id])) : kI.R 3 w base (fun _ => True) v (l ++ [id]) :=
  Kd.R_of_own (by simpa [encs] using h) (fun _ _ => trivial)
theorem C_len {w : World} {A : Option Addr} {n : Nat} {xs : List Int} (h : kI.C w A n xs) (hn : n = xs.length) : kI.C w A xs.length xs := by subst hn; exact h
theorem without_n (s : Stt) (hF : Fit s) (A2 : Option Addr) (c2 : Nat) (A3 : Option Addr) (c3 : Nat) (A4 : Option Addr) (c4 : Nat) (A5 : Option Addr) (c5 : Nat) (A6 : Option Addr) (n6 c6 : Nat) (l6 : List Int) (w : World)
    (hn6 : l6.length = n6) (hr2 : Kd.C k34 w A2 s.defs.length s.defs) (hc2 : s.defs.length ≤ c2) (hr3 : Kd.C k43 w A3 s.items.length s.items) (hc3 : s.items.length ≤ c3) (hr4 : Kd.C k129 w A4 s.cells.length s.cells) (hc4 : s.cells.length ≤ c4) (hr5 : Kd.C k132 w A5 s.wats.length s.wats) (hc5 : s.wats.length ≤ c5) (hr6 : kI.C w A6 l6.length l6) (hc6 : n6 ≤ c6) (hl6 : n6 ≤ 1000001) (hw6 : ∀ x ∈ l6, (Lit.int .i64 x).wf = true) (p : Int → Prop) (hp : ∀ x, x ∈ l6 ↔ p x) :
    Calls Try.prog 106 #[.agg #[.int .i64 s.clk, .int .i64 s.nxt, .slice A2 s.defs.length c2, .slice A3 s.items.length c3, .slice A4 s.cells.length c4, .slice A5 s.wats.length c5], .slice A6 n6 c6] w fun e w' => ∃ v3 v4 v5, e = .returned (.agg #[.int .i64 s.clk, .int .i64 s.nxt, .slice A2 s.defs.length c2, v3, v4, v5]) ∧ Kd.R k43 43 w' w.heap.size (fun _ => True) v3 (cut s p p).items ∧ Kd.R k129 129 w' w.heap.size (fun _ => True) v4 (cut s p p).cells ∧ Kd.R k132 132 w' w.heap.size (fun _ => True) v5 (cut s p p).wats ∧ Below w.heap.size w w' := by
  subst hn6
  have h1 := hF.items
  have h2 := hF.cells
  have h3 := hF.wats
  refine (without_calls s.clk s.nxt A2 s.defs.length c2 A3 c3 s.items A4 c4 s.cells A5 c5 s.wats A6 c6 l6 w hr3 hc3 (by omega) hr4 hc4 (by omega) hr5 hc5 (by omega) hr6 hc6 (by omega) hF.ids hF.on hw6).mono ?_
  rintro e w' ⟨v3, v4, v5, rfl, r3, r4, r5, hb⟩
  have e3 : (cut s p p).items = s.items.filter (fun x => !decide (x.f0 ∈ l6)) := by unfold cut; apply List.filter_congr; intro x _; simp [hp]
  have e4 : (cut s p p).cells = s.cells.filter (fun x => !decide (x.f0 ∈ l6)) := by unfold cut; apply List.filter_congr; intro x _; simp [hp]
  have e5 : (cut s p p).wats = s.wats.filter (fun x => !decide (x.f1 ∈ l6)) := by unfold cut; apply List.filter_congr; intro x _; simp [hp]
  rw [e3, e4, e5]
  exact ⟨v3, v4, v5, rfl, r3, r4, r5, hb⟩
theorem st_of {w : World} {s : Stt} {A2 : Option Addr} {c2 b3 b4 b5 : Nat} {k3 k4 k5 : Nat → Prop} {v3 v4 v5 : Value} (h2 : Kd.C k34 w A2 s.defs.length s.defs) (hc2 : s.defs.length ≤ c2) (h3 : Kd.R k43 43 w b3 k3 v3 s.items) (h4 : Kd.R k129 129 w b4 k4 v4 s.cells) (h5 : Kd.R k132 132 w b5 k5 v5 s.wats) : St w (.agg #[.int .i64 s.clk, .int .i64 s.nxt, .slice A2 s.defs.length c2, v3, v4, v5]) s := by
  obtain ⟨A3, c3, rfl, i3, j3⟩ := Kd.R_reads h3
  obtain ⟨A4, c4, rfl, i4, j4⟩ := Kd.R_reads h4
  obtain ⟨A5, c5, rfl, i5, j5⟩ := Kd.R_reads h5
  exact ⟨A2, c2, A3, c3, A4, c4, A5, c5, rfl, h2, hc2, j3, i3, j4, i4, j5, i5⟩
theorem desc_wf {s : Stt} (hF : Fit s) {id x : Int} (h : Desc s.items id x) : (Lit.int .i64 x).wf = true := by
  cases h with
  | kid k => obtain ⟨it, hm, _, h2, _⟩ := k; rw [← h2]; exact hF.ids it hm
  | step _ k => obtain ⟨it, hm, _, h2, _⟩ := k; rw [← h2]; exact hF.ids it hm
theorem R_six' {α : Type} {d : Kd α} {e base g : Nat} {ok : Nat → Prop} {w1 : World} {v : Value} {xs : List α} {u0 u1 u2 u3 u4 u5 : Value} (h : d.R e w1 base ok v xs) (hg : g < base) : d.R e (six w1 g u0 u1 u2 u3 u4 u5) base ok v xs := by
  have st : ∀ (W : World) (i : Nat) (u : Value), d.R e W base ok v xs → d.R e (W.setCell ⟨g, i, none⟩ u) base ok v xs := fun W i u hW => Kd.R_mono (Kd.R_far (p := ⟨g, i, none⟩) (Kd.R_bound hW) (fun k hk => by have := hk.2.1; show k ≠ g; omega) u) (fun _ hk => hk.1)
  exact st _ _ _ (st _ _ _ (st _ _ _ (st _ _ _ (st _ _ _ (st _ _ _ h)))))
theorem gone_ids {its : List S43} {id : Int} {x0 : S43} {l : List Int} (hf : findI its id = some x0) (hm : ∀ x, x ∈ l ↔ Desc its id x ∧ x ≠ id) : ∀ x, x ∈ l ++ [id] ↔ Gone its id x := by
  intro x
  have ht : There its id := by rw [findI_there, hf]; rfl
  rw [List.mem_append, List.mem_singleton, hm]
  constructor
  · rintro (h | rfl)
    · exact ⟨ht, .inr h.1⟩
    · exact ⟨ht, .inl rfl⟩
  · rintro ⟨_, rfl | h⟩
    · exact .inr rfl
    · by_cases e : x = id
      · exact .inr e
      · exact .inl ⟨h, e⟩
theorem gone_wf {s : Stt} (hF : Fit s) {id : Int} (hid : (Lit.int .i64 id).wf = true) {l : List Int} (hm : ∀ x, x ∈ l ↔ Desc s.items id x ∧ x ≠ id) : ∀ x ∈ l ++ [id], (Lit.int .i64 x).wf = true := by
  intro x hx
  rcases List.mem_append.1 hx with hx | hx
  · exact desc_wf hF ((hm x).1 hx).1
  · rw [List.mem_singleton.1 hx]; exact hid
set_option maxHeartbeats 4000000 in
set_option maxRecDepth 100000 in
theorem take_calls {w : World} {v : Value} {s : Stt} (hS : St w v s) (hF : Fit s) (id : Int) (hid : (Lit.int .i64 id).wf = true) : Calls Try.prog 45 #[v, .int .i64 id] w fun e w' => ∃ v', e = .returned v' ∧ St w' v' (takeS s id) ∧ Below w.heap.size w w' := by
  have hu := Try.underlying27
  have HS := Aside0.mk hS
  obtain ⟨A2, c2, A3, c3, A4, c4, A5, c5, rfl, h2, k2, h3, k3, h4, k4, h5, k5⟩ := hS
  have H2 := Aside0.mk h2; have H3 := Aside0.mk h3; have H4 := Aside0.mk h4; have H5 := Aside0.mk h5
  clear h2 h3 h4 h5
  cases hfi : findI s.items id with
  | none =>
    have HN := Aside0.mk hfi
    clear hfi
    go_enter Try.func45, Try.ntmps45
    go_wp2_with (go_at_call 16; refine (find_calls (HS.out.below (below_alloc (below_alloc (Below.refl _ _) _) _)) hF id).mono ?_; rintro e w1 ⟨rfl, hb⟩; rw [HN.out]; have k0 := blk_below (blk_alloc (blk_new w _) _) hb; have k1 := blk_below (blk_new2 w _ _) hb; have HB := Aside0.mk (below_step (below_alloc (below_alloc (Below.refl _ _) _) _) hb); clear hb; have K0 := Aside0.mk k0; have K1 := Aside0.mk k1; clear k0 k1; have hl0 := blk_lt K0.out; have hl1 := blk_lt K1.out; have i0 := blk_cell K0.out 0; have i1 := blk_cell K0.out 1; have i2 := blk_cell K0.out 2; have i3 := blk_cell K0.out 3; have i4 := blk_cell K0.out 4; have i5 := blk_cell K0.out 5; simp only [List.getElem?_toArray, List.getElem?_cons_zero, List.getElem?_cons_succ] at i0 i1 i2 i3 i4 i5; have j0 := blk_cell K1.out 0; have j1 := blk_cell K1.out 1; have j2 := blk_cell K1.out 2; have j3 := blk_cell K1.out 3; have j4 := blk_cell K1.out 4; have j5 := blk_cell K1.out 5; have f0 := blk_frozen K1.out 0; have f1 := blk_frozen K1.out 1; have f2 := blk_frozen K1.out 2; have f3 := blk_frozen K1.out 3; have f4 := blk_frozen K1.out 4; have f5 := blk_frozen K1.out 5; simp only [List.getElem?_toArray, List.getElem?_cons_zero, List.getElem?_cons_succ] at j0 j1 j2 j3 j4 j5; unfold agg43; simp only [Option.getD_none, Option.isSome_none, z43'])
    refine bodyPost_ret (results_cell_row rfl _ _ (w.heap.size + 1) 27 _ (0, 0) _ rfl (blk_alloc (blk_six K1.out) _) Try.underlying27 rfl (by kernel_rfl)) rfl ?_
    have hnt : ¬ There s.items id := fun h => by rw [findI_there, HN.out] at h; cases h
    exact ⟨_, rfl, by rw [take_not _ _ hnt]; exact HS.out.below (below_alloc (below_six HB.out (by omega)) _), below_alloc (below_six HB.out (by omega)) _⟩
  | some x =>
    have HN := Aside0.mk hfi
    clear hfi
    go_enter Try.func45, Try.ntmps45
    go_wp2_with (go_at_call 16; refine (find_calls (HS.out.below (below_alloc (below_alloc (Below.refl _ _) _) _)) hF id).mono ?_; rintro e w1 ⟨rfl, hb⟩; rw [HN.out]; have k0 := blk_below (blk_alloc (blk_new w _) _) hb; have k1 := blk_below (blk_new2 w _ _) hb; have HB := Aside0.mk (below_step (below_alloc (below_alloc (Below.refl _ _) _) _) hb); clear hb; have K0 := Aside0.mk k0; have K1 := Aside0.mk k1; clear k0 k1; have hl0 := blk_lt K0.out; have hl1 := blk_lt K1.out; have i0 := blk_cell K0.out 0; have i1 := blk_cell K0.out 1; have i2 := blk_cell K0.out 2; have i3 := blk_cell K0.out 3; have i4 := blk_cell K0.out 4; have i5 := blk_cell K0.out 5; simp only [List.getElem?_toArray, List.getElem?_cons_zero, List.getElem?_cons_succ] at i0 i1 i2 i3 i4 i5; have j0 := blk_cell K1.out 0; have j1 := blk_cell K1.out 1; have j2 := blk_cell K1.out 2; have j3 := blk_cell K1.out 3; have j4 := blk_cell K1.out 4; have j5 := blk_cell K1.out 5; have f0 := blk_frozen K1.out 0; have f1 := blk_frozen K1.out 1; have f2 := blk_frozen K1.out 2; have f3 := blk_frozen K1.out 3; have f4 := blk_frozen K1.out 4; have f5 := blk_frozen K1.out 5; simp only [List.getElem?_toArray, List.getElem?_cons_zero, List.getElem?_cons_succ] at j0 j1 j2 j3 j4 j5; unfold agg43; simp only [Option.getD_some, Option.isSome_some])
    generalize hX : w1.alloc _ = X
    have X0 := Aside0.mk (show X.heap[w.heap.size]? = some (.cells #[.int .i64 s.clk, .int .i64 s.nxt, .slice A2 s.defs.length c2, .slice A3 s.items.length c3, .slice A4 s.cells.length c4, .slice A5 s.wats.length c5] 27 (0, 0)) by rw [← hX]; exact blk_alloc K0.out _)
    have X1 := Aside0.mk (show X.heap[w.heap.size + 1]? = some (.cells #[.int .i64 0, .int .i64 0, .slice none 0 0, .slice none 0 0, .slice none 0 0, .slice none 0 0] 27 (0, 0)) by rw [← hX]; exact blk_alloc K1.out _)
    have XB := Aside0.mk (show Below w.heap.size w X by rw [← hX]; exact below_alloc HB.out _)
    clear hX K0 K1 HB hl0 hl1 i0 i1 i2 i3 i4 i5 j0 j1 j2 j3 j4 j5 f0 f1 f2 f3 f4 f5
    have i0 := blk_cell X0.out 0; have i1 := blk_cell X0.out 1; have i2 := blk_cell X0.out 2; have i3 := blk_cell X0.out 3; have i4 := blk_cell X0.out 4; have i5 := blk_cell X0.out 5; simp only [List.getElem?_toArray, List.getElem?_cons_zero, List.getElem?_cons_succ] at i0 i1 i2 i3 i4 i5
    obtain ⟨ty3, hi3, hz3⟩ := Option.map_eq_some_iff.1 info3
    simp only [Prod.mk.injEq] at hz3
    have HI3 := Aside0.mk hi3
    have HZ3 := Aside0.mk hz3
    clear hi3 hz3
    go_region_held3 (fun w' => w'.cell? ⟨w.heap.size, 0, none⟩ = some (.int .i64 s.clk) ∧ w'.cell? ⟨w.heap.size, 1, none⟩ = some (.int .i64 s.nxt) ∧ w'.cell? ⟨w.heap.size, 2, none⟩ = some (.slice A2 s.defs.length c2) ∧ w'.cell? ⟨w.heap.size, 3, none⟩ = some (.slice A3 s.items.length c3) ∧ w'.cell? ⟨w.heap.size, 4, none⟩ = some (.slice A4 s.cells.length c4) ∧ w'.cell? ⟨w.heap.size, 5, none⟩ = some (.slice A5 s.wats.length c5)) (go_keep) (first | (go_at_call 48; refine Calls.mono (below_calls (s := s) ?hst hF id hid) ?_; (case hst => first | exact HS.out.below (below_drew XB.out) | exact HS.out.below (below_alloc (below_drew XB.out) _)); rintro e w2 ⟨vB, l, rfl, hol, hml, hll, hbl⟩; have HBL : Aside0 (Below X.heap.size X w2) := (by first | exact ⟨below_step (below_drew (Below.refl _ _)) hbl⟩ | exact ⟨below_step (below_alloc (below_drew (Below.refl _ _)) _) hbl⟩); (try (have HBX := Aside0.mk (blk_below (blk_new X.drew (.cells #[.int .i64 id] 3 (0, 0))) hbl))); have Y0 := Aside0.mk (blk_below X0.out HBL.out); have Y1 := Aside0.mk (blk_below X1.out HBL.out); have YB := Aside0.mk (below_then XB.out XB.out.size HBL.out); have HOL : Aside0 (w2.ownsRow (w.heap.size + 2) 3 1 vB l.length (encs (Value.int .i64) l)) := (by first | exact ⟨own_weaken (Kd.own_of_R hol) (show w.heap.size + 2 ≤ X.heap.size from take_base XB.out X1.out rfl)⟩ | exact ⟨own_weaken (Kd.own_of_R hol) (take_base' _ XB.out X1.out rfl)⟩); have HWF := Aside0.mk (gone_wf hF hid hml); have HML := Aside0.mk (gone_ids HN.out hml); have HLT := Aside0.mk (show w.heap.size + 2 ≤ w2.heap.size from blk_lt Y1.out); clear hol hml hbl; have m0 := blk_cell Y0.out 0; have m1 := blk_cell Y0.out 1; have m2 := blk_cell Y0.out 2; have m3 := blk_cell Y0.out 3; have m4 := blk_cell Y0.out 4; have m5 := blk_cell Y0.out 5; simp only [List.getElem?_toArray, List.getElem?_cons_zero, List.getElem?_cons_succ] at m0 m1 m2 m3 m4 m5) | (refine step_append_lies (P := Try.prog) _ rfl (.tmp 19) (.tmp 21) 51 rfl (w.heap.size + 2) 3 ty3 (.int .i64 0) 1 8 Try.underlying51 HI3.out HZ3.out.1 HZ3.out.2.1 HZ3.out.2.2 rfl (by decide) vB l.length (encs (Value.int .i64) l) (by rfl) (HOL.out.alloc _) ⟨w2.heap.size, 0, none⟩ 1 1 [.int .i64 id] (by rfl) rfl (box_news w2 _ 3) (one_news id) (by decide) (by unfold maxLen; omega) (by omega) (size_al HLT.out) _ rfl ?_; intro g cap w3 hown3 hgrow3 hat3 hlt3; have Z0 : Aside0 (w3.heap[w.heap.size]? = _) := (by first | exact ⟨blk_grown (blk_alloc Y0.out _) hgrow3 (own_ne2 HOL.out (by omega))⟩ | exact ⟨blk_grown Y0.out hgrow3 (own_ne2 HOL.out (by omega))⟩); have Z1 : Aside0 (w3.heap[w.heap.size + 1]? = _) := (by first | exact ⟨blk_grown (blk_alloc Y1.out _) hgrow3 (own_ne2 HOL.out (by omega))⟩ | exact ⟨blk_grown Y1.out hgrow3 (own_ne2 HOL.out (by omega))⟩); have ZB : Aside0 (Below w.heap.size w w3) := (by first | exact ⟨pw_below_grown (below_alloc YB.out _) _ (below_alloc YB.out _).size hgrow3 (own_ge2 HOL.out)⟩ | exact ⟨pw_below_grown YB.out _ YB.out.size hgrow3 (own_ge2 HOL.out)⟩); have HID := Aside0.mk (ids_row hown3); clear hown3 hgrow3 hat3 hlt3; clear i0 i1 i2 i3 i4 i5 m0 m1 m2 m3 m4 m5; have n0 := blk_cell Z0.out 0; have n1 := blk_cell Z0.out 1; have n2 := blk_cell Z0.out 2; have n3 := blk_cell Z0.out 3; have n4 := blk_cell Z0.out 4; have n5 := blk_cell Z0.out 5; simp only [List.getElem?_toArray, List.getElem?_cons_zero, List.getElem?_cons_succ] at n0 n1 n2 n3 n4 n5) | (refine step_append_lies (P := Try.prog) _ rfl (.tmp 19) (.tmp 21) 51 rfl (w.heap.size + 2) 3 ty3 (.int .i64 0) 1 8 Try.underlying51 HI3.out HZ3.out.1 HZ3.out.2.1 HZ3.out.2.2 rfl (by decide) vB l.length (encs (Value.int .i64) l) (by rfl) HOL.out ⟨X.heap.size, 0, none⟩ 1 1 [.int .i64 id] (by rfl) rfl (old_news HBX.out) (one_news id) (by decide) (by unfold maxLen; omega) (by omega) HLT.out _ rfl ?_; intro g cap w3 hown3 hgrow3 hat3 hlt3; have Z0 : Aside0 (w3.heap[w.heap.size]? = _) := (by first | exact ⟨blk_grown (blk_alloc Y0.out _) hgrow3 (own_ne2 HOL.out (by omega))⟩ | exact ⟨blk_grown Y0.out hgrow3 (own_ne2 HOL.out (by omega))⟩); have Z1 : Aside0 (w3.heap[w.heap.size + 1]? = _) := (by first | exact ⟨blk_grown (blk_alloc Y1.out _) hgrow3 (own_ne2 HOL.out (by omega))⟩ | exact ⟨blk_grown Y1.out hgrow3 (own_ne2 HOL.out (by omega))⟩); have ZB : Aside0 (Below w.heap.size w w3) := (by first | exact ⟨pw_below_grown (below_alloc YB.out _) _ (below_alloc YB.out _).size hgrow3 (own_ge2 HOL.out)⟩ | exact ⟨pw_below_grown YB.out _ YB.out.size hgrow3 (own_ge2 HOL.out)⟩); have HID := Aside0.mk (ids_row hown3); clear hown3 hgrow3 hat3 hlt3; clear i0 i1 i2 i3 i4 i5 m0 m1 m2 m3 m4 m5; have n0 := blk_cell Z0.out 0; have n1 := blk_cell Z0.out 1; have n2 := blk_cell Z0.out 2; have n3 := blk_cell Z0.out 3; have n4 := blk_cell Z0.out 4; have n5 := blk_cell Z0.out 5; simp only [List.getElem?_toArray, List.getElem?_cons_zero, List.getElem?_cons_succ] at n0 n1 n2 n3 n4 n5) | (go_at_call 106; obtain ⟨hn6, hc6, hC6⟩ := Kd.Q_reads' (Kd.Q_of_R HID.out); refine (without_n s hF A2 c2 A3 c3 A4 c4 A5 c5 (some ⟨g, 0, none⟩) (l.length + 1) cap (l ++ [id]) w3 hn6.symm (Kd.C_below H2.out ZB.out) k2 (Kd.C_below H3.out ZB.out) k3 (Kd.C_below H4.out ZB.out) k4 (Kd.C_below H5.out ZB.out) k5 hC6 hc6 (by omega) HWF.out (Gone s.items id) HML.out).mono ?_; rintro e w4 ⟨v3, v4, v5, rfl, ho3, ho4, ho5, hb4⟩; have HO3 := Aside0.mk ho3; have HO4 := Aside0.mk ho4; have HO5 := Aside0.mk ho5; have U0 := Aside0.mk (blk_below Z0.out hb4); have U1 := Aside0.mk (blk_below Z1.out hb4); have UB := Aside0.mk (below_then ZB.out ZB.out.size hb4); have HZ := Aside0.mk (blk_lt Z1.out); clear ho3 ho4 ho5 hb4 hn6 hc6 hC6 n0 n1 n2 n3 n4 n5; obtain ⟨A7, c7, rfl⟩ := Kd.R_slice HO3.out; obtain ⟨A8, c8, rfl⟩ := Kd.R_slice HO4.out; obtain ⟨A9, c9, rfl⟩ := Kd.R_slice HO5.out; have q0 := blk_cell U0.out 0; have q1 := blk_cell U0.out 1; have q2 := blk_cell U0.out 2; have q3 := blk_cell U0.out 3; have q4 := blk_cell U0.out 4; have q5 := blk_cell U0.out 5; simp only [List.getElem?_toArray, List.getElem?_cons_zero, List.getElem?_cons_succ] at q0 q1 q2 q3 q4 q5; have j0 := blk_cell U1.out 0; have f0 := blk_frozen U1.out 0; have j1 := blk_cell U1.out 1; have f1 := blk_frozen U1.out 1; have j2 := blk_cell U1.out 2; have f2 := blk_frozen U1.out 2; have j3 := blk_cell U1.out 3; have f3 := blk_frozen U1.out 3; have j4 := blk_cell U1.out 4; have f4 := blk_frozen U1.out 4; have j5 := blk_cell U1.out 5; have f5 := blk_frozen U1.out 5; simp only [List.getElem?_toArray, List.getElem?_cons_zero, List.getElem?_cons_succ] at j0 j1 j2 j3 j4 j5))
    all_goals
      go_wp2
      refine bodyPost_ret (results_cell_row rfl _ _ (w.heap.size + 1) 27 _ (0, 0) _ rfl (blk_six U1.out) Try.underlying27 rfl (by kernel_rfl)) rfl ?_
      exact ⟨_, rfl, st_of (s := takeS s id) (Kd.C_below H2.out (below_six UB.out (by omega))) k2 (R_six' HO3.out HZ.out) (R_six' HO4.out HZ.out) (R_six' HO5.out HZ.out), below_six UB.out (by omega)⟩
end Go.Proofs.Ythonmfcollafkaa.P
