import Derived.Test.YthonmfcollafkaaHWorks
/- callboardlaw21.CancelNames. -/
namespace Go.Proofs.Ythonmfcollafkaa.P
open Go.RowKit Go.Proofs.YthonmfcollafkaaW.PrintWords Go.Proofs.YthonmfcollafkaaW.PrintLast Go.Proofs.YthonmfcollafkaaW.PrintMore
set_option linter.unusedVariables false
set_option linter.unusedSimpArgs false
theorem C_nilI (w : World) : kI.C w none ([] : List Int).length [] := (Kd.Q_reads' (Kd.Q_nil kI 3 w 0 (fun _ => True))).2.2
theorem break_list (s : Stt) (a : Int) (l : List Int) (ht : There s.items a) (ha : a ∉ l) (hc : ∀ it ∈ s.items, it.f1 ∈ a :: l → it.f0 ∈ a :: l) (hs : ∀ x ∈ l, Desc s.items a x) (m : List Int) (hm : ∀ x, x ∈ m ↔ (x ∈ l ∨ x = a)) : breakS s a = cutL s l m := by
  have h : ∀ x, Below' s.items a x ↔ x ∈ l := by
    intro x
    have hg := gone_of s.items a (a :: l) ht List.mem_cons_self hc (fun y hy => (List.mem_cons.1 hy).imp id (hs y)) x
    constructor
    · rintro ⟨h1, h2, h3⟩
      exact (List.mem_cons.1 (hg.1 ⟨h1, .inr h2⟩)).resolve_left h3
    · intro hx
      exact ⟨ht, hs x hx, fun e => ha (e ▸ hx)⟩
  unfold breakS clearS
  rw [if_pos ht, cut_cut]
  exact cut_L s (fun x => by rw [h]; simp) (fun x => by rw [h, hm])
theorem k13 : Desc towerS.items 1 3 := .step (.kid k12) k23
theorem k14 : Desc towerS.items 1 4 := .step k13 k34'
theorem all1 : ∀ x ∈ [(2 : Int), 3, 4, 5], Desc towerS.items 1 x := by
  intro x hx
  simp only [List.mem_cons, List.not_mem_nil, or_false] at hx
  rcases hx with rfl | rfl | rfl | rfl
  · exact .kid k12
  · exact k13
  · exact k14
  · exact .kid k15
theorem only4 : ∀ x ∈ [(4 : Int)], Desc towerS.items 3 x := by
  intro x hx
  simp only [List.mem_cons, List.not_mem_nil, or_false] at hx
  subst hx
  exact .kid k34'
theorem clear1 : clearS towerS 1 = cutL towerS [2, 3, 4, 5] [2, 3, 4, 5] := below_list towerS 1 [2, 3, 4, 5] (there_of' (by decide)) (by decide) (by decide) all1
theorem take1 : takeS towerS 1 = cutL towerS [1, 2, 3, 4, 5] [1, 2, 3, 4, 5] := gone_list towerS 1 [1, 2, 3, 4, 5] (there_of' (by decide)) (by decide) (by decide) (fun x hx => (List.mem_cons.1 hx).imp id (all1 x))
theorem break1 : breakS towerS 1 = cutL towerS [2, 3, 4, 5] [1, 2, 3, 4, 5] := break_list towerS 1 [2, 3, 4, 5] (there_of' (by decide)) (by decide) (by decide) all1 _ (fun x => by simp; omega)
theorem break3 : breakS towerS 3 = cutL towerS [4] [3, 4] := break_list towerS 3 [4] (there_of' (by decide)) (by decide) (by decide) only4 _ (fun x => by simp; omega)
theorem break4 : breakS towerS 4 = cutL towerS [] [4] := break_list towerS 4 [] (there_of' (by decide)) (by decide) (by decide) (fun x hx => absurd hx List.not_mem_nil) _ (fun x => by simp)
theorem break9 : breakS towerS 9 = towerS := break_not _ _ (not_there (by decide))
def ringS : Stt := { towerS with items := [⟨1, 4, 1, ⟨#[]⟩, -1, 0, 0, ⟨#[]⟩⟩, ⟨2, 1, 2, ⟨#[]⟩, 0, 0, 0, ⟨#[]⟩⟩, ⟨3, 2, 1, ⟨#[]⟩, 0, 0, 0, ⟨#[]⟩⟩, ⟨4, 3, 2, ⟨#[]⟩, 0, 0, 0, ⟨#[]⟩⟩, ⟨5, 1, 2, ⟨#[]⟩, 0, 0, 0, ⟨#[]⟩⟩] }
theorem ring_fit : Fit ringS := ⟨by decide, by decide, by decide, by decide, by decide⟩
theorem ring_cell {cur : Array Value} (h : cur.toList.take 40 = cellsOf enc43 towerS.items) : cur[1]? = some (.int .i64 0) := by
  have h1 : (cur.toList.take 40)[1]? = some (.int .i64 0) := by rw [h]; rfl
  rw [List.getElem?_take] at h1
  simpa using h1
theorem ring_calls (w : World) : Calls Try.prog 52 #[] w fun e w' => ∃ A2 c2 g cap cur A4 c4 A5 c5, e = .returned (.agg #[.int .i64 7, .int .i64 9, .slice A2 0 c2, .slice (some ⟨g, 0, none⟩) 5 cap, .slice A4 5 c4, .slice A5 5 c5]) ∧ w.heap.size ≤ g ∧ w'.heap[g]? = some (.cells cur 43 (0, 0)) ∧ 5 ≤ cap ∧ cap ≤ maxLen ∧ cur.size = cap * 8 ∧ cur.toList.take 40 = cellsOf enc43 towerS.items ∧ Kd.R k34 34 w' w.heap.size (fun _ => True) (.slice A2 0 c2) towerS.defs ∧ Kd.R k129 129 w' w.heap.size (fun _ => True) (.slice A4 5 c4) towerS.cells ∧ Kd.R k132 132 w' w.heap.size (fun _ => True) (.slice A5 5 c5) towerS.wats ∧ Below w.heap.size w w' := by
  refine (callboardlaw21_tower.calls 10 7 9 towerS.defs towerS.items towerS.cells towerS.wats w tower_f).mono ?_
  rintro e w' ⟨v2, v3, v4, v5, rfl, r2, r3, r4, r5, hb⟩
  obtain ⟨A2, c2, rfl⟩ := Kd.R_slice r2
  obtain ⟨A4, c4, rfl⟩ := Kd.R_slice r4
  obtain ⟨A5, c5, rfl⟩ := Kd.R_slice r5
  obtain ⟨_, ⟨_, h0⟩ | ⟨g, cap, cur, rfl, hbb, hh, hnc, hcm, hcs, hct⟩⟩ := own_of_row enc43_ok r3
  · exact absurd h0 (by decide)
  · exact ⟨A2, c2, g, cap, cur, A4, c4, A5, c5, rfl, hbb, hh, hnc, hcm, hcs, hct, r2, r4, r5, hb⟩
theorem ring_row {w : World} {g cap : Nat} {cur : Array Value} (hg : w.heap[g]? = some (.cells cur 43 (0, 0))) (hcap : 5 ≤ cap) (hmax : cap ≤ maxLen) (hsz : cur.size = cap * 8) (htk : cur.toList.take 40 = cellsOf enc43 towerS.items) : Kd.R k43 43 (w.setCell ⟨g, 1, none⟩ (.int .i64 4)) 0 (fun _ => True) (.slice (some ⟨g, 0, none⟩) 5 cap) ringS.items := by
  refine row_of_own enc43_ok rfl ⟨rfl, .inr ⟨g, cap, _, rfl, Nat.zero_le _, blk_set hg 1 _, hcap, hmax, by simpa using hsz, ?_⟩⟩
  rw [Array.toList_setIfInBounds, List.take_set, show ringS.items.length * 8 = 40 from rfl, htk]
  rfl
theorem ring_world {u w : World} {A2 A4 A5 : Option Addr} {c2 c4 c5 g cap : Nat} {cur : Array Value} {o : Obj} (hb : Below u.heap.size u w) (hgb : u.heap.size ≤ g) (hg : w.heap[g]? = some (.cells cur 43 (0, 0))) (hr : Kd.R k43 43 (w.setCell ⟨g, 1, none⟩ (.int .i64 4)) 0 (fun _ => True) (.slice (some ⟨g, 0, none⟩) 5 cap) ringS.items) (r2 : Kd.R k34 34 w u.heap.size (fun _ => True) (.slice A2 0 c2) towerS.defs) (r4 : Kd.R k129 129 w u.heap.size (fun _ => True) (.slice A4 5 c4) towerS.cells) (r5 : Kd.R k132 132 w u.heap.size (fun _ => True) (.slice A5 5 c5) towerS.wats) :
    Below u.heap.size u ((w.setCell ⟨g, 1, none⟩ (.int .i64 4)).alloc o) ∧ ((w.setCell ⟨g, 1, none⟩ (.int .i64 4)).alloc o).heap[w.heap.size]? = some o ∧ St ((w.setCell ⟨g, 1, none⟩ (.int .i64 4)).alloc o) (.agg #[.int .i64 7, .int .i64 9, .slice A2 0 c2, .slice (some ⟨g, 0, none⟩) 5 cap, .slice A4 5 c4, .slice A5 5 c5]) ringS := by
  have hba := below_alloc (Below.refl (w.setCell ⟨g, 1, none⟩ (.int .i64 4)).heap.size (w.setCell ⟨g, 1, none⟩ (.int .i64 4))) o
  refine ⟨below_alloc (hb.setCell (p := ⟨g, 1, none⟩) hgb _) o, ?_, ?_⟩
  · have := blk_new (w.setCell ⟨g, 1, none⟩ (.int .i64 4)) o
    rwa [show (w.setCell ⟨g, 1, none⟩ (.int .i64 4)).heap.size = w.heap.size by simp [World.setCell]] at this
  · obtain ⟨B2, d2, e2, i2, j2⟩ := Kd.R_reads (Kd.R_below (Kd.R_set r2 hg (by decide) 1 (.int .i64 4)) hba)
    cases e2
    exact st_of (s := ringS) j2 i2 (Kd.R_below hr hba) (Kd.R_below (Kd.R_set r4 hg (by decide) 1 (.int .i64 4)) hba) (Kd.R_below (Kd.R_set r5 hg (by decide) 1 (.int .i64 4)) hba)
def emptyS : Stt := ⟨0, 0, [], [], [], []⟩
theorem empty_fit : Fit emptyS := ⟨by decide, by decide, by decide, by decide, by decide⟩
theorem st_empty (w : World) : St w (.agg #[.int .i64 0, .int .i64 0, .slice none 0 0, .slice none 0 0, .slice none 0 0, .slice none 0 0]) emptyS :=
  ⟨none, 0, none, 0, none, 0, none, 0, rfl, (Kd.Q_reads' (Kd.Q_nil k34 34 w 0 (fun _ => True))).2.2, Nat.le_refl _, (Kd.Q_reads' (Kd.Q_nil k43 43 w 0 (fun _ => True))).2.2, Nat.le_refl _, (Kd.Q_reads' (Kd.Q_nil k129 129 w 0 (fun _ => True))).2.2, Nat.le_refl _, (Kd.Q_reads' (Kd.Q_nil k132 132 w 0 (fun _ => True))).2.2, Nat.le_refl _⟩
theorem r34 : kidOf ringS.items 3 4 := kid_of (its := ringS.items) ⟨4, 3, 2, ⟨#[]⟩, 0, 0, 0, ⟨#[]⟩⟩ (by simp [ringS]) (by decide)
theorem r41 : kidOf ringS.items 4 1 := kid_of (its := ringS.items) ⟨1, 4, 1, ⟨#[]⟩, -1, 0, 0, ⟨#[]⟩⟩ (by simp [ringS]) (by decide)
theorem r12 : kidOf ringS.items 1 2 := kid_of (its := ringS.items) ⟨2, 1, 2, ⟨#[]⟩, 0, 0, 0, ⟨#[]⟩⟩ (by simp [ringS]) (by decide)
theorem r15 : kidOf ringS.items 1 5 := kid_of (its := ringS.items) ⟨5, 1, 2, ⟨#[]⟩, 0, 0, 0, ⟨#[]⟩⟩ (by simp [ringS]) (by decide)
theorem rall : ∀ x ∈ [(1 : Int), 2, 4, 5], Desc ringS.items 3 x := by
  have d4 : Desc ringS.items 3 4 := .kid r34
  have d1 : Desc ringS.items 3 1 := .step d4 r41
  intro x hx
  simp only [List.mem_cons, List.not_mem_nil, or_false] at hx
  rcases hx with rfl | rfl | rfl | rfl
  · exact d1
  · exact .step d1 r12
  · exact d4
  · exact .step d1 r15
theorem takeR : takeS ringS 3 = cutL ringS [1, 2, 3, 4, 5] [1, 2, 3, 4, 5] := gone_list ringS 3 [1, 2, 3, 4, 5] (there_of' (by decide)) (by decide) (by decide) (fun x hx => by
  by_cases e : x = 3
  · exact .inl e
  · exact .inr (rall x (by simp only [List.mem_cons, List.not_mem_nil, or_false] at hx ⊢; omega)))
theorem clearR : clearS ringS 3 = cutL ringS [1, 2, 4, 5] [1, 2, 4, 5] := below_list ringS 3 [1, 2, 4, 5] (there_of' (by decide)) (by decide) (by decide) rall
theorem goneE : Lib.compact (sortL (goneL towerS.items emptyS.items)) = [1, 2, 3, 4, 5] := by
  have e : goneL towerS.items emptyS.items = [1, 2, 3, 4, 5] := by decide
  rw [e, sorted_eq [1, 2, 3, 4, 5] (by decide)]
  decide
theorem goneT : Lib.compact (sortL (goneL towerS.items towerS.items)) = [] := by
  have e : goneL towerS.items towerS.items = [] := by decide
  rw [e, sorted_eq [] (by decide)]
  decide
theorem goneF : Lib.compact (sortL (goneL emptyS.items towerS.items)) = [] := by
  have e : goneL emptyS.items towerS.items = [] := by decide
  rw [e, sorted_eq [] (by decide)]
  decide
set_option maxHeartbeats 16000000 in
set_option maxRecDepth 100000 in
theorem names_calls (w : World) : Calls Try.prog 10 #[] w fun e w' => e = .returned (.bool true) ∧ Below w.heap.size w w' := by
  have hu := Try.underlying27
  have HB := Aside0.mk (Below.refl w.heap.size w)
  go_enter Try.func10, Try.ntmps10
  go_wp2_with fail
  refine Calls.mono (works_calls _) ?_
  rintro e w1 ⟨rfl, hb⟩
  have FB : Aside0 (Below w.heap.size w w1) := by first | exact ⟨below_step (Below.refl _ _) hb⟩ | exact ⟨below_step (below_alloc (Below.refl _ _) _) hb⟩ | exact ⟨below_step (below_alloc (below_alloc (Below.refl _ _) _) _) hb⟩ | exact ⟨below_step (below_drew (Below.refl _ _)) hb⟩ | exact ⟨below_step (below_alloc (below_drew (Below.refl _ _)) _) hb⟩
  replace HB := Aside0.mk (below_step HB.out FB.out)
  clear hb FB
  go_wp2_with fail
  refine Calls.mono (tower_calls _) ?_
  rintro e w2 ⟨tv, rfl, hS, hb⟩
  have FB : Aside0 (Below w1.heap.size w1 w2) := by first | exact ⟨below_step (Below.refl _ _) hb⟩ | exact ⟨below_step (below_alloc (Below.refl _ _) _) hb⟩ | exact ⟨below_step (below_alloc (below_alloc (Below.refl _ _) _) _) hb⟩ | exact ⟨below_step (below_drew (Below.refl _ _)) hb⟩ | exact ⟨below_step (below_alloc (below_drew (Below.refl _ _)) _) hb⟩
  replace HB := Aside0.mk (below_step HB.out FB.out)
  obtain ⟨tA2, tc2, tA3, tc3, tA4, tc4, tA5, tc5, rfl, _⟩ := id hS
  have St := Aside0.mk hS
  clear hS
  clear hb FB
  go_wp2_with fail
  refine Calls.mono (take_calls (s := towerS) ?hst tower_fit 2 (by decide)) ?_
  case hst => first | exact St.out | exact St.out.below (below_alloc (Below.refl _ _) _) | exact St.out.below (below_alloc (below_alloc (Below.refl _ _) _) _) | exact St.out.below (below_drew (Below.refl _ _)) | exact St.out.below (below_alloc (below_drew (Below.refl _ _)) _)
  rintro e w3 ⟨a1v, rfl, hS, hb⟩
  have FB : Aside0 (Below w2.heap.size w2 w3) := by first | exact ⟨below_step (Below.refl _ _) hb⟩ | exact ⟨below_step (below_alloc (Below.refl _ _) _) hb⟩ | exact ⟨below_step (below_alloc (below_alloc (Below.refl _ _) _) _) hb⟩ | exact ⟨below_step (below_drew (Below.refl _ _)) hb⟩ | exact ⟨below_step (below_alloc (below_drew (Below.refl _ _)) _) hb⟩
  have Bt : Aside0 (w3.heap[w2.heap.size]? = some (.cells #[.int .i64 (towerS).clk, .int .i64 (towerS).nxt, .slice tA2 (towerS).defs.length tc2, .slice tA3 (towerS).items.length tc3, .slice tA4 (towerS).cells.length tc4, .slice tA5 (towerS).wats.length tc5] 27 (0, 0))) := ⟨blk_below (blk_new w2 _) hb⟩
  replace St := Aside0.mk (St.out.below FB.out)
  replace HB := Aside0.mk (below_step HB.out FB.out)
  rw [take2] at hS
  obtain ⟨a1A2, a1c2, a1A3, a1c3, a1A4, a1c4, a1A5, a1c5, rfl, _⟩ := id hS
  have Sa1 := Aside0.mk hS
  clear hS
  clear hb FB
  have ti0 := blk_cell Bt.out 0
  have ti1 := blk_cell Bt.out 1
  have ti2 := blk_cell Bt.out 2
  have ti3 := blk_cell Bt.out 3
  have ti4 := blk_cell Bt.out 4
  have ti5 := blk_cell Bt.out 5
  simp only [List.getElem?_toArray, List.getElem?_cons_zero, List.getElem?_cons_succ] at ti0 ti1 ti2 ti3 ti4 ti5
  have thl := blk_lt Bt.out
  go_wp2_with fail
  refine Calls.mono (watched_calls (s := cutL towerS [2, 3, 4] [2, 3, 4]) ?hst [1, 5] ?hC (Nat.le_refl _) 20 (by kernel_rfl)) ?_
  case hst => first | exact Sa1.out | exact Sa1.out.below (below_alloc (Below.refl _ _) _) | exact Sa1.out.below (below_alloc (below_alloc (Below.refl _ _) _) _) | exact Sa1.out.below (below_drew (Below.refl _ _)) | exact Sa1.out.below (below_alloc (below_drew (Below.refl _ _)) _)
  case hC => exact ids_C _ [1, 5] (by decide)
  rintro e w4 ⟨rfl, hb⟩
  have FB : Aside0 (Below w3.heap.size w3 w4) := by first | exact ⟨below_step (Below.refl _ _) hb⟩ | exact ⟨below_step (below_alloc (Below.refl _ _) _) hb⟩ | exact ⟨below_step (below_alloc (below_alloc (Below.refl _ _) _) _) hb⟩ | exact ⟨below_step (below_drew (Below.refl _ _)) hb⟩ | exact ⟨below_step (below_alloc (below_drew (Below.refl _ _)) _) hb⟩
  clear ti0 ti1 ti2 ti3 ti4 ti5 thl
  replace Bt := Aside0.mk (blk_below Bt.out FB.out)
  replace St := Aside0.mk (St.out.below FB.out)
  replace Sa1 := Aside0.mk (Sa1.out.below FB.out)
  replace HB := Aside0.mk (below_step HB.out FB.out)
  clear hb FB
  have ti0 := blk_cell Bt.out 0
  have ti1 := blk_cell Bt.out 1
  have ti2 := blk_cell Bt.out 2
  have ti3 := blk_cell Bt.out 3
  have ti4 := blk_cell Bt.out 4
  have ti5 := blk_cell Bt.out 5
  simp only [List.getElem?_toArray, List.getElem?_cons_zero, List.getElem?_cons_succ] at ti0 ti1 ti2 ti3 ti4 ti5
  have thl := blk_lt Bt.out
  clear Sa1
  go_wp2_with fail
  refine Calls.mono (clear_calls (s := towerS) ?hst tower_fit 1 (by decide)) ?_
  case hst => first | exact St.out | exact St.out.below (below_alloc (Below.refl _ _) _) | exact St.out.below (below_alloc (below_alloc (Below.refl _ _) _) _) | exact St.out.below (below_drew (Below.refl _ _)) | exact St.out.below (below_alloc (below_drew (Below.refl _ _)) _)
  rintro e w5 ⟨a2v, rfl, hS, hb⟩
  have FB : Aside0 (Below w4.heap.size w4 w5) := by first | exact ⟨below_step (Below.refl _ _) hb⟩ | exact ⟨below_step (below_alloc (Below.refl _ _) _) hb⟩ | exact ⟨below_step (below_alloc (below_alloc (Below.refl _ _) _) _) hb⟩ | exact ⟨below_step (below_drew (Below.refl _ _)) hb⟩ | exact ⟨below_step (below_alloc (below_drew (Below.refl _ _)) _) hb⟩
  clear ti0 ti1 ti2 ti3 ti4 ti5 thl
  replace Bt := Aside0.mk (blk_below Bt.out FB.out)
  replace St := Aside0.mk (St.out.below FB.out)
  replace HB := Aside0.mk (below_step HB.out FB.out)
  rw [clear1] at hS
  obtain ⟨a2A2, a2c2, a2A3, a2c3, a2A4, a2c4, a2A5, a2c5, rfl, _⟩ := id hS
  have Sa2 := Aside0.mk hS
  clear hS
  clear hb FB
  have ti0 := blk_cell Bt.out 0
  have ti1 := blk_cell Bt.out 1
  have ti2 := blk_cell Bt.out 2
  have ti3 := blk_cell Bt.out 3
  have ti4 := blk_cell Bt.out 4
  have ti5 := blk_cell Bt.out 5
  simp only [List.getElem?_toArray, List.getElem?_cons_zero, List.getElem?_cons_succ] at ti0 ti1 ti2 ti3 ti4 ti5
  have thl := blk_lt Bt.out
  go_wp2_with fail
  refine Calls.mono (watched_calls (s := cutL towerS [2, 3, 4, 5] [2, 3, 4, 5]) ?hst [1] ?hC (Nat.le_refl _) 20 (by kernel_rfl)) ?_
  case hst => first | exact Sa2.out | exact Sa2.out.below (below_alloc (Below.refl _ _) _) | exact Sa2.out.below (below_alloc (below_alloc (Below.refl _ _) _) _) | exact Sa2.out.below (below_drew (Below.refl _ _)) | exact Sa2.out.below (below_alloc (below_drew (Below.refl _ _)) _)
  case hC => exact ids_C _ [1] (by decide)
  rintro e w6 ⟨rfl, hb⟩
  have FB : Aside0 (Below w5.heap.size w5 w6) := by first | exact ⟨below_step (Below.refl _ _) hb⟩ | exact ⟨below_step (below_alloc (Below.refl _ _) _) hb⟩ | exact ⟨below_step (below_alloc (below_alloc (Below.refl _ _) _) _) hb⟩ | exact ⟨below_step (below_drew (Below.refl _ _)) hb⟩ | exact ⟨below_step (below_alloc (below_drew (Below.refl _ _)) _) hb⟩
  clear ti0 ti1 ti2 ti3 ti4 ti5 thl
  replace Bt := Aside0.mk (blk_below Bt.out FB.out)
  replace St := Aside0.mk (St.out.below FB.out)
  replace Sa2 := Aside0.mk (Sa2.out.below FB.out)
  replace HB := Aside0.mk (below_step HB.out FB.out)
  clear hb FB
  have ti0 := blk_cell Bt.out 0
  have ti1 := blk_cell Bt.out 1
  have ti2 := blk_cell Bt.out 2
  have ti3 := blk_cell Bt.out 3
  have ti4 := blk_cell Bt.out 4
  have ti5 := blk_cell Bt.out 5
  simp only [List.getElem?_toArray, List.getElem?_cons_zero, List.getElem?_cons_succ] at ti0 ti1 ti2 ti3 ti4 ti5
  have thl := blk_lt Bt.out
  clear Sa2
  go_wp2_with fail
  refine Calls.mono (clear_calls (s := towerS) ?hst tower_fit 1 (by decide)) ?_
  case hst => first | exact St.out | exact St.out.below (below_alloc (Below.refl _ _) _) | exact St.out.below (below_alloc (below_alloc (Below.refl _ _) _) _) | exact St.out.below (below_drew (Below.refl _ _)) | exact St.out.below (below_alloc (below_drew (Below.refl _ _)) _)
  rintro e w7 ⟨a3v, rfl, hS, hb⟩
  have FB : Aside0 (Below w6.heap.size w6 w7) := by first | exact ⟨below_step (Below.refl _ _) hb⟩ | exact ⟨below_step (below_alloc (Below.refl _ _) _) hb⟩ | exact ⟨below_step (below_alloc (below_alloc (Below.refl _ _) _) _) hb⟩ | exact ⟨below_step (below_drew (Below.refl _ _)) hb⟩ | exact ⟨below_step (below_alloc (below_drew (Below.refl _ _)) _) hb⟩
  clear ti0 ti1 ti2 ti3 ti4 ti5 thl
  replace Bt := Aside0.mk (blk_below Bt.out FB.out)
  replace St := Aside0.mk (St.out.below FB.out)
  replace HB := Aside0.mk (below_step HB.out FB.out)
  rw [clear1] at hS
  obtain ⟨a3A2, a3c2, a3A3, a3c3, a3A4, a3c4, a3A5, a3c5, rfl, _⟩ := id hS
  have Sa3 := Aside0.mk hS
  clear hS
  clear hb FB
  have ti0 := blk_cell Bt.out 0
  have ti1 := blk_cell Bt.out 1
  have ti2 := blk_cell Bt.out 2
  have ti3 := blk_cell Bt.out 3
  have ti4 := blk_cell Bt.out 4
  have ti5 := blk_cell Bt.out 5
  simp only [List.getElem?_toArray, List.getElem?_cons_zero, List.getElem?_cons_succ] at ti0 ti1 ti2 ti3 ti4 ti5
  have thl := blk_lt Bt.out
  go_wp2_with fail
  refine Calls.mono (left_calls (s := cutL towerS [2, 3, 4, 5] [2, 3, 4, 5]) ?hst [1] ?hC (Nat.le_refl _) 20 (by kernel_rfl)) ?_
  case hst => first | exact Sa3.out | exact Sa3.out.below (below_alloc (Below.refl _ _) _) | exact Sa3.out.below (below_alloc (below_alloc (Below.refl _ _) _) _) | exact Sa3.out.below (below_drew (Below.refl _ _)) | exact Sa3.out.below (below_alloc (below_drew (Below.refl _ _)) _)
  case hC => exact ids_C _ [1] (by decide)
  rintro e w8 ⟨rfl, hb⟩
  have FB : Aside0 (Below w7.heap.size w7 w8) := by first | exact ⟨below_step (Below.refl _ _) hb⟩ | exact ⟨below_step (below_alloc (Below.refl _ _) _) hb⟩ | exact ⟨below_step (below_alloc (below_alloc (Below.refl _ _) _) _) hb⟩ | exact ⟨below_step (below_drew (Below.refl _ _)) hb⟩ | exact ⟨below_step (below_alloc (below_drew (Below.refl _ _)) _) hb⟩
  clear ti0 ti1 ti2 ti3 ti4 ti5 thl
  replace Bt := Aside0.mk (blk_below Bt.out FB.out)
  replace St := Aside0.mk (St.out.below FB.out)
  replace Sa3 := Aside0.mk (Sa3.out.below FB.out)
  replace HB := Aside0.mk (below_step HB.out FB.out)
  clear hb FB
  have ti0 := blk_cell Bt.out 0
  have ti1 := blk_cell Bt.out 1
  have ti2 := blk_cell Bt.out 2
  have ti3 := blk_cell Bt.out 3
  have ti4 := blk_cell Bt.out 4
  have ti5 := blk_cell Bt.out 5
  simp only [List.getElem?_toArray, List.getElem?_cons_zero, List.getElem?_cons_succ] at ti0 ti1 ti2 ti3 ti4 ti5
  have thl := blk_lt Bt.out
  clear Sa3
  go_wp2_with fail
  refine Calls.mono (break_calls (s := towerS) ?hst tower_fit 1 (by decide)) ?_
  case hst => first | exact St.out | exact St.out.below (below_alloc (Below.refl _ _) _) | exact St.out.below (below_alloc (below_alloc (Below.refl _ _) _) _) | exact St.out.below (below_drew (Below.refl _ _)) | exact St.out.below (below_alloc (below_drew (Below.refl _ _)) _)
  rintro e w9 ⟨a4v, rfl, hS, hb⟩
  have FB : Aside0 (Below w8.heap.size w8 w9) := by first | exact ⟨below_step (Below.refl _ _) hb⟩ | exact ⟨below_step (below_alloc (Below.refl _ _) _) hb⟩ | exact ⟨below_step (below_alloc (below_alloc (Below.refl _ _) _) _) hb⟩ | exact ⟨below_step (below_drew (Below.refl _ _)) hb⟩ | exact ⟨below_step (below_alloc (below_drew (Below.refl _ _)) _) hb⟩
  clear ti0 ti1 ti2 ti3 ti4 ti5 thl
  replace Bt := Aside0.mk (blk_below Bt.out FB.out)
  replace St := Aside0.mk (St.out.below FB.out)
  replace HB := Aside0.mk (below_step HB.out FB.out)
  rw [break1] at hS
  obtain ⟨a4A2, a4c2, a4A3, a4c3, a4A4, a4c4, a4A5, a4c5, rfl, _⟩ := id hS
  have Sa4 := Aside0.mk hS
  clear hS
  clear hb FB
  have ti0 := blk_cell Bt.out 0
  have ti1 := blk_cell Bt.out 1
  have ti2 := blk_cell Bt.out 2
  have ti3 := blk_cell Bt.out 3
  have ti4 := blk_cell Bt.out 4
  have ti5 := blk_cell Bt.out 5
  simp only [List.getElem?_toArray, List.getElem?_cons_zero, List.getElem?_cons_succ] at ti0 ti1 ti2 ti3 ti4 ti5
  have thl := blk_lt Bt.out
  go_wp2_with fail
  refine Calls.mono (watched_calls (s := cutL towerS [2, 3, 4, 5] [1, 2, 3, 4, 5]) ?hst [] (C_nilI _) (Nat.le_refl _) 20 (by kernel_rfl)) ?_
  case hst => first | exact Sa4.out | exact Sa4.out.below (below_alloc (Below.refl _ _) _) | exact Sa4.out.below (below_alloc (below_alloc (Below.refl _ _) _) _) | exact Sa4.out.below (below_drew (Below.refl _ _)) | exact Sa4.out.below (below_alloc (below_drew (Below.refl _ _)) _)
  rintro e w10 ⟨rfl, hb⟩
  have FB : Aside0 (Below w9.heap.size w9 w10) := by first | exact ⟨below_step (Below.refl _ _) hb⟩ | exact ⟨below_step (below_alloc (Below.refl _ _) _) hb⟩ | exact ⟨below_step (below_alloc (below_alloc (Below.refl _ _) _) _) hb⟩ | exact ⟨below_step (below_drew (Below.refl _ _)) hb⟩ | exact ⟨below_step (below_alloc (below_drew (Below.refl _ _)) _) hb⟩
  clear ti0 ti1 ti2 ti3 ti4 ti5 thl
  replace Bt := Aside0.mk (blk_below Bt.out FB.out)
  replace St := Aside0.mk (St.out.below FB.out)
  replace Sa4 := Aside0.mk (Sa4.out.below FB.out)
  replace HB := Aside0.mk (below_step HB.out FB.out)
  clear hb FB
  have ti0 := blk_cell Bt.out 0
  have ti1 := blk_cell Bt.out 1
  have ti2 := blk_cell Bt.out 2
  have ti3 := blk_cell Bt.out 3
  have ti4 := blk_cell Bt.out 4
  have ti5 := blk_cell Bt.out 5
  simp only [List.getElem?_toArray, List.getElem?_cons_zero, List.getElem?_cons_succ] at ti0 ti1 ti2 ti3 ti4 ti5
  have thl := blk_lt Bt.out
  clear Sa4
  go_wp2_with fail
  refine Calls.mono (break_calls (s := towerS) ?hst tower_fit 1 (by decide)) ?_
  case hst => first | exact St.out | exact St.out.below (below_alloc (Below.refl _ _) _) | exact St.out.below (below_alloc (below_alloc (Below.refl _ _) _) _) | exact St.out.below (below_drew (Below.refl _ _)) | exact St.out.below (below_alloc (below_drew (Below.refl _ _)) _)
  rintro e w11 ⟨a5v, rfl, hS, hb⟩
  have FB : Aside0 (Below w10.heap.size w10 w11) := by first | exact ⟨below_step (Below.refl _ _) hb⟩ | exact ⟨below_step (below_alloc (Below.refl _ _) _) hb⟩ | exact ⟨below_step (below_alloc (below_alloc (Below.refl _ _) _) _) hb⟩ | exact ⟨below_step (below_drew (Below.refl _ _)) hb⟩ | exact ⟨below_step (below_alloc (below_drew (Below.refl _ _)) _) hb⟩
  clear ti0 ti1 ti2 ti3 ti4 ti5 thl
  replace Bt := Aside0.mk (blk_below Bt.out FB.out)
  replace St := Aside0.mk (St.out.below FB.out)
  replace HB := Aside0.mk (below_step HB.out FB.out)
  rw [break1] at hS
  obtain ⟨a5A2, a5c2, a5A3, a5c3, a5A4, a5c4, a5A5, a5c5, rfl, _⟩ := id hS
  have Sa5 := Aside0.mk hS
  clear hS
  clear hb FB
  have ti0 := blk_cell Bt.out 0
  have ti1 := blk_cell Bt.out 1
  have ti2 := blk_cell Bt.out 2
  have ti3 := blk_cell Bt.out 3
  have ti4 := blk_cell Bt.out 4
  have ti5 := blk_cell Bt.out 5
  simp only [List.getElem?_toArray, List.getElem?_cons_zero, List.getElem?_cons_succ] at ti0 ti1 ti2 ti3 ti4 ti5
  have thl := blk_lt Bt.out
  go_wp2_with fail
  refine Calls.mono (left_calls (s := cutL towerS [2, 3, 4, 5] [1, 2, 3, 4, 5]) ?hst [1] ?hC (Nat.le_refl _) 20 (by kernel_rfl)) ?_
  case hst => first | exact Sa5.out | exact Sa5.out.below (below_alloc (Below.refl _ _) _) | exact Sa5.out.below (below_alloc (below_alloc (Below.refl _ _) _) _) | exact Sa5.out.below (below_drew (Below.refl _ _)) | exact Sa5.out.below (below_alloc (below_drew (Below.refl _ _)) _)
  case hC => exact ids_C _ [1] (by decide)
  rintro e w12 ⟨rfl, hb⟩
  have FB : Aside0 (Below w11.heap.size w11 w12) := by first | exact ⟨below_step (Below.refl _ _) hb⟩ | exact ⟨below_step (below_alloc (Below.refl _ _) _) hb⟩ | exact ⟨below_step (below_alloc (below_alloc (Below.refl _ _) _) _) hb⟩ | exact ⟨below_step (below_drew (Below.refl _ _)) hb⟩ | exact ⟨below_step (below_alloc (below_drew (Below.refl _ _)) _) hb⟩
  clear ti0 ti1 ti2 ti3 ti4 ti5 thl
  replace Bt := Aside0.mk (blk_below Bt.out FB.out)
  replace St := Aside0.mk (St.out.below FB.out)
  replace Sa5 := Aside0.mk (Sa5.out.below FB.out)
  replace HB := Aside0.mk (below_step HB.out FB.out)
  clear hb FB
  have ti0 := blk_cell Bt.out 0
  have ti1 := blk_cell Bt.out 1
  have ti2 := blk_cell Bt.out 2
  have ti3 := blk_cell Bt.out 3
  have ti4 := blk_cell Bt.out 4
  have ti5 := blk_cell Bt.out 5
  simp only [List.getElem?_toArray, List.getElem?_cons_zero, List.getElem?_cons_succ] at ti0 ti1 ti2 ti3 ti4 ti5
  have thl := blk_lt Bt.out
  clear Sa5
  go_wp2_with fail
  refine Calls.mono (break_calls (s := towerS) ?hst tower_fit 3 (by decide)) ?_
  case hst => first | exact St.out | exact St.out.below (below_alloc (Below.refl _ _) _) | exact St.out.below (below_alloc (below_alloc (Below.refl _ _) _) _) | exact St.out.below (below_drew (Below.refl _ _)) | exact St.out.below (below_alloc (below_drew (Below.refl _ _)) _)
  rintro e w13 ⟨a6v, rfl, hS, hb⟩
  have FB : Aside0 (Below w12.heap.size w12 w13) := by first | exact ⟨below_step (Below.refl _ _) hb⟩ | exact ⟨below_step (below_alloc (Below.refl _ _) _) hb⟩ | exact ⟨below_step (below_alloc (below_alloc (Below.refl _ _) _) _) hb⟩ | exact ⟨below_step (below_drew (Below.refl _ _)) hb⟩ | exact ⟨below_step (below_alloc (below_drew (Below.refl _ _)) _) hb⟩
  clear ti0 ti1 ti2 ti3 ti4 ti5 thl
  replace Bt := Aside0.mk (blk_below Bt.out FB.out)
  replace St := Aside0.mk (St.out.below FB.out)
  replace HB := Aside0.mk (below_step HB.out FB.out)
  rw [break3] at hS
  obtain ⟨a6A2, a6c2, a6A3, a6c3, a6A4, a6c4, a6A5, a6c5, rfl, _⟩ := id hS
  have Sa6 := Aside0.mk hS
  clear hS
  clear hb FB
  have ti0 := blk_cell Bt.out 0
  have ti1 := blk_cell Bt.out 1
  have ti2 := blk_cell Bt.out 2
  have ti3 := blk_cell Bt.out 3
  have ti4 := blk_cell Bt.out 4
  have ti5 := blk_cell Bt.out 5
  simp only [List.getElem?_toArray, List.getElem?_cons_zero, List.getElem?_cons_succ] at ti0 ti1 ti2 ti3 ti4 ti5
  have thl := blk_lt Bt.out
  go_wp2_with fail
  refine Calls.mono (watched_calls (s := cutL towerS [4] [3, 4]) ?hst [1, 2, 5] ?hC (Nat.le_refl _) 20 (by kernel_rfl)) ?_
  case hst => first | exact Sa6.out | exact Sa6.out.below (below_alloc (Below.refl _ _) _) | exact Sa6.out.below (below_alloc (below_alloc (Below.refl _ _) _) _) | exact Sa6.out.below (below_drew (Below.refl _ _)) | exact Sa6.out.below (below_alloc (below_drew (Below.refl _ _)) _)
  case hC => exact ids_C _ [1, 2, 5] (by decide)
  rintro e w14 ⟨rfl, hb⟩
  have FB : Aside0 (Below w13.heap.size w13 w14) := by first | exact ⟨below_step (Below.refl _ _) hb⟩ | exact ⟨below_step (below_alloc (Below.refl _ _) _) hb⟩ | exact ⟨below_step (below_alloc (below_alloc (Below.refl _ _) _) _) hb⟩ | exact ⟨below_step (below_drew (Below.refl _ _)) hb⟩ | exact ⟨below_step (below_alloc (below_drew (Below.refl _ _)) _) hb⟩
  clear ti0 ti1 ti2 ti3 ti4 ti5 thl
  replace Bt := Aside0.mk (blk_below Bt.out FB.out)
  replace St := Aside0.mk (St.out.below FB.out)
  replace Sa6 := Aside0.mk (Sa6.out.below FB.out)
  replace HB := Aside0.mk (below_step HB.out FB.out)
  clear hb FB
  have ti0 := blk_cell Bt.out 0
  have ti1 := blk_cell Bt.out 1
  have ti2 := blk_cell Bt.out 2
  have ti3 := blk_cell Bt.out 3
  have ti4 := blk_cell Bt.out 4
  have ti5 := blk_cell Bt.out 5
  simp only [List.getElem?_toArray, List.getElem?_cons_zero, List.getElem?_cons_succ] at ti0 ti1 ti2 ti3 ti4 ti5
  have thl := blk_lt Bt.out
  clear Sa6
  go_wp2_with fail
  refine Calls.mono (break_calls (s := towerS) ?hst tower_fit 3 (by decide)) ?_
  case hst => first | exact St.out | exact St.out.below (below_alloc (Below.refl _ _) _) | exact St.out.below (below_alloc (below_alloc (Below.refl _ _) _) _) | exact St.out.below (below_drew (Below.refl _ _)) | exact St.out.below (below_alloc (below_drew (Below.refl _ _)) _)
  rintro e w15 ⟨a7v, rfl, hS, hb⟩
  have FB : Aside0 (Below w14.heap.size w14 w15) := by first | exact ⟨below_step (Below.refl _ _) hb⟩ | exact ⟨below_step (below_alloc (Below.refl _ _) _) hb⟩ | exact ⟨below_step (below_alloc (below_alloc (Below.refl _ _) _) _) hb⟩ | exact ⟨below_step (below_drew (Below.refl _ _)) hb⟩ | exact ⟨below_step (below_alloc (below_drew (Below.refl _ _)) _) hb⟩
  clear ti0 ti1 ti2 ti3 ti4 ti5 thl
  replace Bt := Aside0.mk (blk_below Bt.out FB.out)
  replace St := Aside0.mk (St.out.below FB.out)
  replace HB := Aside0.mk (below_step HB.out FB.out)
  rw [break3] at hS
  obtain ⟨a7A2, a7c2, a7A3, a7c3, a7A4, a7c4, a7A5, a7c5, rfl, _⟩ := id hS
  have Sa7 := Aside0.mk hS
  clear hS
  clear hb FB
  have ti0 := blk_cell Bt.out 0
  have ti1 := blk_cell Bt.out 1
  have ti2 := blk_cell Bt.out 2
  have ti3 := blk_cell Bt.out 3
  have ti4 := blk_cell Bt.out 4
  have ti5 := blk_cell Bt.out 5
  simp only [List.getElem?_toArray, List.getElem?_cons_zero, List.getElem?_cons_succ] at ti0 ti1 ti2 ti3 ti4 ti5
  have thl := blk_lt Bt.out
  go_wp2_with fail
  refine Calls.mono (left_calls (s := cutL towerS [4] [3, 4]) ?hst [1, 2, 3, 5] ?hC (Nat.le_refl _) 20 (by kernel_rfl)) ?_
  case hst => first | exact Sa7.out | exact Sa7.out.below (below_alloc (Below.refl _ _) _) | exact Sa7.out.below (below_alloc (below_alloc (Below.refl _ _) _) _) | exact Sa7.out.below (below_drew (Below.refl _ _)) | exact Sa7.out.below (below_alloc (below_drew (Below.refl _ _)) _)
  case hC => exact ids_C _ [1, 2, 3, 5] (by decide)
  rintro e w16 ⟨rfl, hb⟩
  have FB : Aside0 (Below w15.heap.size w15 w16) := by first | exact ⟨below_step (Below.refl _ _) hb⟩ | exact ⟨below_step (below_alloc (Below.refl _ _) _) hb⟩ | exact ⟨below_step (below_alloc (below_alloc (Below.refl _ _) _) _) hb⟩ | exact ⟨below_step (below_drew (Below.refl _ _)) hb⟩ | exact ⟨below_step (below_alloc (below_drew (Below.refl _ _)) _) hb⟩
  clear ti0 ti1 ti2 ti3 ti4 ti5 thl
  replace Bt := Aside0.mk (blk_below Bt.out FB.out)
  replace St := Aside0.mk (St.out.below FB.out)
  replace Sa7 := Aside0.mk (Sa7.out.below FB.out)
  replace HB := Aside0.mk (below_step HB.out FB.out)
  clear hb FB
  have ti0 := blk_cell Bt.out 0
  have ti1 := blk_cell Bt.out 1
  have ti2 := blk_cell Bt.out 2
  have ti3 := blk_cell Bt.out 3
  have ti4 := blk_cell Bt.out 4
  have ti5 := blk_cell Bt.out 5
  simp only [List.getElem?_toArray, List.getElem?_cons_zero, List.getElem?_cons_succ] at ti0 ti1 ti2 ti3 ti4 ti5
  have thl := blk_lt Bt.out
  clear Sa7
  go_wp2_with fail
  refine Calls.mono (break_calls (s := towerS) ?hst tower_fit 4 (by decide)) ?_
  case hst => first | exact St.out | exact St.out.below (below_alloc (Below.refl _ _) _) | exact St.out.below (below_alloc (below_alloc (Below.refl _ _) _) _) | exact St.out.below (below_drew (Below.refl _ _)) | exact St.out.below (below_alloc (below_drew (Below.refl _ _)) _)
  rintro e w17 ⟨a8v, rfl, hS, hb⟩
  have FB : Aside0 (Below w16.heap.size w16 w17) := by first | exact ⟨below_step (Below.refl _ _) hb⟩ | exact ⟨below_step (below_alloc (Below.refl _ _) _) hb⟩ | exact ⟨below_step (below_alloc (below_alloc (Below.refl _ _) _) _) hb⟩ | exact ⟨below_step (below_drew (Below.refl _ _)) hb⟩ | exact ⟨below_step (below_alloc (below_drew (Below.refl _ _)) _) hb⟩
  clear ti0 ti1 ti2 ti3 ti4 ti5 thl
  replace Bt := Aside0.mk (blk_below Bt.out FB.out)
  replace St := Aside0.mk (St.out.below FB.out)
  replace HB := Aside0.mk (below_step HB.out FB.out)
  rw [break4] at hS
  obtain ⟨a8A2, a8c2, a8A3, a8c3, a8A4, a8c4, a8A5, a8c5, rfl, _⟩ := id hS
  have Sa8 := Aside0.mk hS
  clear hS
  clear hb FB
  have ti0 := blk_cell Bt.out 0
  have ti1 := blk_cell Bt.out 1
  have ti2 := blk_cell Bt.out 2
  have ti3 := blk_cell Bt.out 3
  have ti4 := blk_cell Bt.out 4
  have ti5 := blk_cell Bt.out 5
  simp only [List.getElem?_toArray, List.getElem?_cons_zero, List.getElem?_cons_succ] at ti0 ti1 ti2 ti3 ti4 ti5
  have thl := blk_lt Bt.out
  go_wp2_with fail
  refine Calls.mono (watched_calls (s := cutL towerS [] [4]) ?hst [1, 2, 3, 5] ?hC (Nat.le_refl _) 20 (by kernel_rfl)) ?_
  case hst => first | exact Sa8.out | exact Sa8.out.below (below_alloc (Below.refl _ _) _) | exact Sa8.out.below (below_alloc (below_alloc (Below.refl _ _) _) _) | exact Sa8.out.below (below_drew (Below.refl _ _)) | exact Sa8.out.below (below_alloc (below_drew (Below.refl _ _)) _)
  case hC => exact ids_C _ [1, 2, 3, 5] (by decide)
  rintro e w18 ⟨rfl, hb⟩
  have FB : Aside0 (Below w17.heap.size w17 w18) := by first | exact ⟨below_step (Below.refl _ _) hb⟩ | exact ⟨below_step (below_alloc (Below.refl _ _) _) hb⟩ | exact ⟨below_step (below_alloc (below_alloc (Below.refl _ _) _) _) hb⟩ | exact ⟨below_step (below_drew (Below.refl _ _)) hb⟩ | exact ⟨below_step (below_alloc (below_drew (Below.refl _ _)) _) hb⟩
  clear ti0 ti1 ti2 ti3 ti4 ti5 thl
  replace Bt := Aside0.mk (blk_below Bt.out FB.out)
  replace St := Aside0.mk (St.out.below FB.out)
  replace Sa8 := Aside0.mk (Sa8.out.below FB.out)
  replace HB := Aside0.mk (below_step HB.out FB.out)
  clear hb FB
  have ti0 := blk_cell Bt.out 0
  have ti1 := blk_cell Bt.out 1
  have ti2 := blk_cell Bt.out 2
  have ti3 := blk_cell Bt.out 3
  have ti4 := blk_cell Bt.out 4
  have ti5 := blk_cell Bt.out 5
  simp only [List.getElem?_toArray, List.getElem?_cons_zero, List.getElem?_cons_succ] at ti0 ti1 ti2 ti3 ti4 ti5
  have thl := blk_lt Bt.out
  clear Sa8
  go_wp2_with fail
  refine Calls.mono (take_calls (s := towerS) ?hst tower_fit 1 (by decide)) ?_
  case hst => first | exact St.out | exact St.out.below (below_alloc (Below.refl _ _) _) | exact St.out.below (below_alloc (below_alloc (Below.refl _ _) _) _) | exact St.out.below (below_drew (Below.refl _ _)) | exact St.out.below (below_alloc (below_drew (Below.refl _ _)) _)
  rintro e w19 ⟨a9v, rfl, hS, hb⟩
  have FB : Aside0 (Below w18.heap.size w18 w19) := by first | exact ⟨below_step (Below.refl _ _) hb⟩ | exact ⟨below_step (below_alloc (Below.refl _ _) _) hb⟩ | exact ⟨below_step (below_alloc (below_alloc (Below.refl _ _) _) _) hb⟩ | exact ⟨below_step (below_drew (Below.refl _ _)) hb⟩ | exact ⟨below_step (below_alloc (below_drew (Below.refl _ _)) _) hb⟩
  clear ti0 ti1 ti2 ti3 ti4 ti5 thl
  replace Bt := Aside0.mk (blk_below Bt.out FB.out)
  replace St := Aside0.mk (St.out.below FB.out)
  replace HB := Aside0.mk (below_step HB.out FB.out)
  rw [take1] at hS
  obtain ⟨a9A2, a9c2, a9A3, a9c3, a9A4, a9c4, a9A5, a9c5, rfl, _⟩ := id hS
  have Sa9 := Aside0.mk hS
  clear hS
  clear hb FB
  have ti0 := blk_cell Bt.out 0
  have ti1 := blk_cell Bt.out 1
  have ti2 := blk_cell Bt.out 2
  have ti3 := blk_cell Bt.out 3
  have ti4 := blk_cell Bt.out 4
  have ti5 := blk_cell Bt.out 5
  simp only [List.getElem?_toArray, List.getElem?_cons_zero, List.getElem?_cons_succ] at ti0 ti1 ti2 ti3 ti4 ti5
  have thl := blk_lt Bt.out
  go_wp2_with fail
  refine Calls.mono (left_calls (s := cutL towerS [1, 2, 3, 4, 5] [1, 2, 3, 4, 5]) ?hst [] (C_nilI _) (Nat.le_refl _) 20 (by kernel_rfl)) ?_
  case hst => first | exact Sa9.out | exact Sa9.out.below (below_alloc (Below.refl _ _) _) | exact Sa9.out.below (below_alloc (below_alloc (Below.refl _ _) _) _) | exact Sa9.out.below (below_drew (Below.refl _ _)) | exact Sa9.out.below (below_alloc (below_drew (Below.refl _ _)) _)
  rintro e w20 ⟨rfl, hb⟩
  have FB : Aside0 (Below w19.heap.size w19 w20) := by first | exact ⟨below_step (Below.refl _ _) hb⟩ | exact ⟨below_step (below_alloc (Below.refl _ _) _) hb⟩ | exact ⟨below_step (below_alloc (below_alloc (Below.refl _ _) _) _) hb⟩ | exact ⟨below_step (below_drew (Below.refl _ _)) hb⟩ | exact ⟨below_step (below_alloc (below_drew (Below.refl _ _)) _) hb⟩
  clear ti0 ti1 ti2 ti3 ti4 ti5 thl
  replace Bt := Aside0.mk (blk_below Bt.out FB.out)
  replace St := Aside0.mk (St.out.below FB.out)
  replace Sa9 := Aside0.mk (Sa9.out.below FB.out)
  replace HB := Aside0.mk (below_step HB.out FB.out)
  clear hb FB
  have ti0 := blk_cell Bt.out 0
  have ti1 := blk_cell Bt.out 1
  have ti2 := blk_cell Bt.out 2
  have ti3 := blk_cell Bt.out 3
  have ti4 := blk_cell Bt.out 4
  have ti5 := blk_cell Bt.out 5
  simp only [List.getElem?_toArray, List.getElem?_cons_zero, List.getElem?_cons_succ] at ti0 ti1 ti2 ti3 ti4 ti5
  have thl := blk_lt Bt.out
  clear Sa9
  go_wp2_with fail
  refine Calls.mono (break_calls (s := towerS) ?hst tower_fit 9 (by decide)) ?_
  case hst => first | exact St.out | exact St.out.below (below_alloc (Below.refl _ _) _) | exact St.out.below (below_alloc (below_alloc (Below.refl _ _) _) _) | exact St.out.below (below_drew (Below.refl _ _)) | exact St.out.below (below_alloc (below_drew (Below.refl _ _)) _)
  rintro e w21 ⟨a10v, rfl, hS, hb⟩
  have FB : Aside0 (Below w20.heap.size w20 w21) := by first | exact ⟨below_step (Below.refl _ _) hb⟩ | exact ⟨below_step (below_alloc (Below.refl _ _) _) hb⟩ | exact ⟨below_step (below_alloc (below_alloc (Below.refl _ _) _) _) hb⟩ | exact ⟨below_step (below_drew (Below.refl _ _)) hb⟩ | exact ⟨below_step (below_alloc (below_drew (Below.refl _ _)) _) hb⟩
  clear ti0 ti1 ti2 ti3 ti4 ti5 thl
  replace Bt := Aside0.mk (blk_below Bt.out FB.out)
  replace St := Aside0.mk (St.out.below FB.out)
  replace HB := Aside0.mk (below_step HB.out FB.out)
  rw [break9] at hS
  obtain ⟨a10A2, a10c2, a10A3, a10c3, a10A4, a10c4, a10A5, a10c5, rfl, _⟩ := id hS
  have Sa10 := Aside0.mk hS
  clear hS
  clear hb FB
  have ti0 := blk_cell Bt.out 0
  have ti1 := blk_cell Bt.out 1
  have ti2 := blk_cell Bt.out 2
  have ti3 := blk_cell Bt.out 3
  have ti4 := blk_cell Bt.out 4
  have ti5 := blk_cell Bt.out 5
  simp only [List.getElem?_toArray, List.getElem?_cons_zero, List.getElem?_cons_succ] at ti0 ti1 ti2 ti3 ti4 ti5
  have thl := blk_lt Bt.out
  go_wp2_with fail
  refine Calls.mono (watched_calls (s := towerS) ?hst [1, 2, 3, 4, 5] ?hC (Nat.le_refl _) 20 (by kernel_rfl)) ?_
  case hst => first | exact Sa10.out | exact Sa10.out.below (below_alloc (Below.refl _ _) _) | exact Sa10.out.below (below_alloc (below_alloc (Below.refl _ _) _) _) | exact Sa10.out.below (below_drew (Below.refl _ _)) | exact Sa10.out.below (below_alloc (below_drew (Below.refl _ _)) _)
  case hC => exact ids_C _ [1, 2, 3, 4, 5] (by decide)
  rintro e w22 ⟨rfl, hb⟩
  have FB : Aside0 (Below w21.heap.size w21 w22) := by first | exact ⟨below_step (Below.refl _ _) hb⟩ | exact ⟨below_step (below_alloc (Below.refl _ _) _) hb⟩ | exact ⟨below_step (below_alloc (below_alloc (Below.refl _ _) _) _) hb⟩ | exact ⟨below_step (below_drew (Below.refl _ _)) hb⟩ | exact ⟨below_step (below_alloc (below_drew (Below.refl _ _)) _) hb⟩
  clear ti0 ti1 ti2 ti3 ti4 ti5 thl
  replace Bt := Aside0.mk (blk_below Bt.out FB.out)
  replace St := Aside0.mk (St.out.below FB.out)
  replace Sa10 := Aside0.mk (Sa10.out.below FB.out)
  replace HB := Aside0.mk (below_step HB.out FB.out)
  clear hb FB
  have ti0 := blk_cell Bt.out 0
  have ti1 := blk_cell Bt.out 1
  have ti2 := blk_cell Bt.out 2
  have ti3 := blk_cell Bt.out 3
  have ti4 := blk_cell Bt.out 4
  have ti5 := blk_cell Bt.out 5
  simp only [List.getElem?_toArray, List.getElem?_cons_zero, List.getElem?_cons_succ] at ti0 ti1 ti2 ti3 ti4 ti5
  have thl := blk_lt Bt.out
  clear Sa10
  go_wp2_with fail
  refine Calls.mono (ring_calls _) ?_
  rintro e w23 ⟨A2, c2, gr, cap, cur, A4, c4, A5, c5, rfl, hgb, hg, hcap, hmax, hsz, htk, r2, r4, r5, hb⟩
  clear ti0 ti1 ti2 ti3 ti4 ti5 thl
  have hx : cur[1]? = some (.int .i64 0) := ring_cell htk
  have hcx := (blk_cell hg 1).trans hx
  have hfx := blk_frozen hg 1
  have hlx := blk_lt hg
  have HG := Aside0.mk hg
  have HR := Aside0.mk (ring_row hg hcap hmax hsz htk)
  have R2 := Aside0.mk r2; have R4 := Aside0.mk r4; have R5 := Aside0.mk r5; have HBR := Aside0.mk hb
  clear hg hx htk r2 r4 r5 hb hcap hmax hsz
  go_wp2_with fail
  have hX0 := ring_world (o := .cells #[.int .i64 7, .int .i64 9, .slice A2 0 c2, .slice (some ⟨gr, 0, none⟩) 5 cap, .slice A4 5 c4, .slice A5 5 c5] 27 (0, 0)) HBR.out hgb HG.out HR.out R2.out R4.out R5.out
  generalize hX : (w23.setCell ⟨gr, 1, none⟩ (.int .i64 4)).alloc (.cells #[.int .i64 7, .int .i64 9, .slice A2 0 c2, .slice (some ⟨gr, 0, none⟩) 5 cap, .slice A4 5 c4, .slice A5 5 c5] 27 (0, 0)) = w24 at hX0 ⊢
  obtain ⟨x1, x2, x3⟩ := hX0
  have Br := Aside0.mk x2; have Sr := Aside0.mk x3
  replace Bt := Aside0.mk (blk_below Bt.out x1); replace St := Aside0.mk (St.out.below x1); replace HB := Aside0.mk (below_step HB.out x1)
  clear hX x1 x2 x3 HG HR R2 R4 R5 HBR hcx hfx hlx
  have ti0 := blk_cell Bt.out 0
  have ti1 := blk_cell Bt.out 1
  have ti2 := blk_cell Bt.out 2
  have ti3 := blk_cell Bt.out 3
  have ti4 := blk_cell Bt.out 4
  have ti5 := blk_cell Bt.out 5
  simp only [List.getElem?_toArray, List.getElem?_cons_zero, List.getElem?_cons_succ] at ti0 ti1 ti2 ti3 ti4 ti5
  have thl := blk_lt Bt.out
  have ri0 := blk_cell Br.out 0
  have ri1 := blk_cell Br.out 1
  have ri2 := blk_cell Br.out 2
  have ri3 := blk_cell Br.out 3
  have ri4 := blk_cell Br.out 4
  have ri5 := blk_cell Br.out 5
  simp only [List.getElem?_toArray, List.getElem?_cons_zero, List.getElem?_cons_succ] at ri0 ri1 ri2 ri3 ri4 ri5
  have rhl := blk_lt Br.out
  skip
  refine Calls.mono (take_calls (s := ringS) ?hst ring_fit 3 (by decide)) ?_
  case hst => first | exact Sr.out | exact Sr.out.below (below_alloc (Below.refl _ _) _) | exact Sr.out.below (below_alloc (below_alloc (Below.refl _ _) _) _) | exact Sr.out.below (below_drew (Below.refl _ _)) | exact Sr.out.below (below_alloc (below_drew (Below.refl _ _)) _)
  rintro e w25 ⟨a11v, rfl, hS, hb⟩
  have FB : Aside0 (Below w24.heap.size w24 w25) := by first | exact ⟨below_step (Below.refl _ _) hb⟩ | exact ⟨below_step (below_alloc (Below.refl _ _) _) hb⟩ | exact ⟨below_step (below_alloc (below_alloc (Below.refl _ _) _) _) hb⟩ | exact ⟨below_step (below_drew (Below.refl _ _)) hb⟩ | exact ⟨below_step (below_alloc (below_drew (Below.refl _ _)) _) hb⟩
  clear ti0 ti1 ti2 ti3 ti4 ti5 thl ri0 ri1 ri2 ri3 ri4 ri5 rhl
  replace Bt := Aside0.mk (blk_below Bt.out FB.out)
  replace Br := Aside0.mk (blk_below Br.out FB.out)
  replace St := Aside0.mk (St.out.below FB.out)
  replace Sr := Aside0.mk (Sr.out.below FB.out)
  replace HB := Aside0.mk (below_step HB.out FB.out)
  rw [takeR] at hS
  obtain ⟨a11A2, a11c2, a11A3, a11c3, a11A4, a11c4, a11A5, a11c5, rfl, _⟩ := id hS
  have Sa11 := Aside0.mk hS
  clear hS
  clear hb FB
  have ti0 := blk_cell Bt.out 0
  have ti1 := blk_cell Bt.out 1
  have ti2 := blk_cell Bt.out 2
  have ti3 := blk_cell Bt.out 3
  have ti4 := blk_cell Bt.out 4
  have ti5 := blk_cell Bt.out 5
  simp only [List.getElem?_toArray, List.getElem?_cons_zero, List.getElem?_cons_succ] at ti0 ti1 ti2 ti3 ti4 ti5
  have thl := blk_lt Bt.out
  have ri0 := blk_cell Br.out 0
  have ri1 := blk_cell Br.out 1
  have ri2 := blk_cell Br.out 2
  have ri3 := blk_cell Br.out 3
  have ri4 := blk_cell Br.out 4
  have ri5 := blk_cell Br.out 5
  simp only [List.getElem?_toArray, List.getElem?_cons_zero, List.getElem?_cons_succ] at ri0 ri1 ri2 ri3 ri4 ri5
  have rhl := blk_lt Br.out
  go_wp2_with fail
  refine Calls.mono (left_calls (s := cutL ringS [1, 2, 3, 4, 5] [1, 2, 3, 4, 5]) ?hst [] (C_nilI _) (Nat.le_refl _) 20 (by kernel_rfl)) ?_
  case hst => first | exact Sa11.out | exact Sa11.out.below (below_alloc (Below.refl _ _) _) | exact Sa11.out.below (below_alloc (below_alloc (Below.refl _ _) _) _) | exact Sa11.out.below (below_drew (Below.refl _ _)) | exact Sa11.out.below (below_alloc (below_drew (Below.refl _ _)) _)
  rintro e w26 ⟨rfl, hb⟩
  have FB : Aside0 (Below w25.heap.size w25 w26) := by first | exact ⟨below_step (Below.refl _ _) hb⟩ | exact ⟨below_step (below_alloc (Below.refl _ _) _) hb⟩ | exact ⟨below_step (below_alloc (below_alloc (Below.refl _ _) _) _) hb⟩ | exact ⟨below_step (below_drew (Below.refl _ _)) hb⟩ | exact ⟨below_step (below_alloc (below_drew (Below.refl _ _)) _) hb⟩
  clear ti0 ti1 ti2 ti3 ti4 ti5 thl ri0 ri1 ri2 ri3 ri4 ri5 rhl
  replace Bt := Aside0.mk (blk_below Bt.out FB.out)
  replace Br := Aside0.mk (blk_below Br.out FB.out)
  replace St := Aside0.mk (St.out.below FB.out)
  replace Sr := Aside0.mk (Sr.out.below FB.out)
  replace Sa11 := Aside0.mk (Sa11.out.below FB.out)
  replace HB := Aside0.mk (below_step HB.out FB.out)
  clear hb FB
  have ti0 := blk_cell Bt.out 0
  have ti1 := blk_cell Bt.out 1
  have ti2 := blk_cell Bt.out 2
  have ti3 := blk_cell Bt.out 3
  have ti4 := blk_cell Bt.out 4
  have ti5 := blk_cell Bt.out 5
  simp only [List.getElem?_toArray, List.getElem?_cons_zero, List.getElem?_cons_succ] at ti0 ti1 ti2 ti3 ti4 ti5
  have thl := blk_lt Bt.out
  have ri0 := blk_cell Br.out 0
  have ri1 := blk_cell Br.out 1
  have ri2 := blk_cell Br.out 2
  have ri3 := blk_cell Br.out 3
  have ri4 := blk_cell Br.out 4
  have ri5 := blk_cell Br.out 5
  simp only [List.getElem?_toArray, List.getElem?_cons_zero, List.getElem?_cons_succ] at ri0 ri1 ri2 ri3 ri4 ri5
  have rhl := blk_lt Br.out
  clear Sa11
  go_wp2_with fail
  refine Calls.mono (clear_calls (s := ringS) ?hst ring_fit 3 (by decide)) ?_
  case hst => first | exact Sr.out | exact Sr.out.below (below_alloc (Below.refl _ _) _) | exact Sr.out.below (below_alloc (below_alloc (Below.refl _ _) _) _) | exact Sr.out.below (below_drew (Below.refl _ _)) | exact Sr.out.below (below_alloc (below_drew (Below.refl _ _)) _)
  rintro e w27 ⟨a12v, rfl, hS, hb⟩
  have FB : Aside0 (Below w26.heap.size w26 w27) := by first | exact ⟨below_step (Below.refl _ _) hb⟩ | exact ⟨below_step (below_alloc (Below.refl _ _) _) hb⟩ | exact ⟨below_step (below_alloc (below_alloc (Below.refl _ _) _) _) hb⟩ | exact ⟨below_step (below_drew (Below.refl _ _)) hb⟩ | exact ⟨below_step (below_alloc (below_drew (Below.refl _ _)) _) hb⟩
  clear ti0 ti1 ti2 ti3 ti4 ti5 thl ri0 ri1 ri2 ri3 ri4 ri5 rhl
  replace Bt := Aside0.mk (blk_below Bt.out FB.out)
  replace Br := Aside0.mk (blk_below Br.out FB.out)
  replace St := Aside0.mk (St.out.below FB.out)
  replace Sr := Aside0.mk (Sr.out.below FB.out)
  replace HB := Aside0.mk (below_step HB.out FB.out)
  rw [clearR] at hS
  obtain ⟨a12A2, a12c2, a12A3, a12c3, a12A4, a12c4, a12A5, a12c5, rfl, _⟩ := id hS
  have Sa12 := Aside0.mk hS
  clear hS
  clear hb FB
  have ti0 := blk_cell Bt.out 0
  have ti1 := blk_cell Bt.out 1
  have ti2 := blk_cell Bt.out 2
  have ti3 := blk_cell Bt.out 3
  have ti4 := blk_cell Bt.out 4
  have ti5 := blk_cell Bt.out 5
  simp only [List.getElem?_toArray, List.getElem?_cons_zero, List.getElem?_cons_succ] at ti0 ti1 ti2 ti3 ti4 ti5
  have thl := blk_lt Bt.out
  have ri0 := blk_cell Br.out 0
  have ri1 := blk_cell Br.out 1
  have ri2 := blk_cell Br.out 2
  have ri3 := blk_cell Br.out 3
  have ri4 := blk_cell Br.out 4
  have ri5 := blk_cell Br.out 5
  simp only [List.getElem?_toArray, List.getElem?_cons_zero, List.getElem?_cons_succ] at ri0 ri1 ri2 ri3 ri4 ri5
  have rhl := blk_lt Br.out
  go_wp2_with fail
  refine Calls.mono (left_calls (s := cutL ringS [1, 2, 4, 5] [1, 2, 4, 5]) ?hst [3] ?hC (Nat.le_refl _) 20 (by kernel_rfl)) ?_
  case hst => first | exact Sa12.out | exact Sa12.out.below (below_alloc (Below.refl _ _) _) | exact Sa12.out.below (below_alloc (below_alloc (Below.refl _ _) _) _) | exact Sa12.out.below (below_drew (Below.refl _ _)) | exact Sa12.out.below (below_alloc (below_drew (Below.refl _ _)) _)
  case hC => exact ids_C _ [3] (by decide)
  rintro e w28 ⟨rfl, hb⟩
  have FB : Aside0 (Below w27.heap.size w27 w28) := by first | exact ⟨below_step (Below.refl _ _) hb⟩ | exact ⟨below_step (below_alloc (Below.refl _ _) _) hb⟩ | exact ⟨below_step (below_alloc (below_alloc (Below.refl _ _) _) _) hb⟩ | exact ⟨below_step (below_drew (Below.refl _ _)) hb⟩ | exact ⟨below_step (below_alloc (below_drew (Below.refl _ _)) _) hb⟩
  clear ti0 ti1 ti2 ti3 ti4 ti5 thl ri0 ri1 ri2 ri3 ri4 ri5 rhl
  replace Bt := Aside0.mk (blk_below Bt.out FB.out)
  replace Br := Aside0.mk (blk_below Br.out FB.out)
  replace St := Aside0.mk (St.out.below FB.out)
  replace Sr := Aside0.mk (Sr.out.below FB.out)
  replace Sa12 := Aside0.mk (Sa12.out.below FB.out)
  replace HB := Aside0.mk (below_step HB.out FB.out)
  clear hb FB
  have ti0 := blk_cell Bt.out 0
  have ti1 := blk_cell Bt.out 1
  have ti2 := blk_cell Bt.out 2
  have ti3 := blk_cell Bt.out 3
  have ti4 := blk_cell Bt.out 4
  have ti5 := blk_cell Bt.out 5
  simp only [List.getElem?_toArray, List.getElem?_cons_zero, List.getElem?_cons_succ] at ti0 ti1 ti2 ti3 ti4 ti5
  have thl := blk_lt Bt.out
  have ri0 := blk_cell Br.out 0
  have ri1 := blk_cell Br.out 1
  have ri2 := blk_cell Br.out 2
  have ri3 := blk_cell Br.out 3
  have ri4 := blk_cell Br.out 4
  have ri5 := blk_cell Br.out 5
  simp only [List.getElem?_toArray, List.getElem?_cons_zero, List.getElem?_cons_succ] at ri0 ri1 ri2 ri3 ri4 ri5
  have rhl := blk_lt Br.out
  clear Sa12
  go_wp2_with fail
  refine Calls.mono (clear_calls (s := ringS) ?hst ring_fit 3 (by decide)) ?_
  case hst => first | exact Sr.out | exact Sr.out.below (below_alloc (Below.refl _ _) _) | exact Sr.out.below (below_alloc (below_alloc (Below.refl _ _) _) _) | exact Sr.out.below (below_drew (Below.refl _ _)) | exact Sr.out.below (below_alloc (below_drew (Below.refl _ _)) _)
  rintro e w29 ⟨a13v, rfl, hS, hb⟩
  have FB : Aside0 (Below w28.heap.size w28 w29) := by first | exact ⟨below_step (Below.refl _ _) hb⟩ | exact ⟨below_step (below_alloc (Below.refl _ _) _) hb⟩ | exact ⟨below_step (below_alloc (below_alloc (Below.refl _ _) _) _) hb⟩ | exact ⟨below_step (below_drew (Below.refl _ _)) hb⟩ | exact ⟨below_step (below_alloc (below_drew (Below.refl _ _)) _) hb⟩
  clear ti0 ti1 ti2 ti3 ti4 ti5 thl ri0 ri1 ri2 ri3 ri4 ri5 rhl
  replace Bt := Aside0.mk (blk_below Bt.out FB.out)
  replace Br := Aside0.mk (blk_below Br.out FB.out)
  replace St := Aside0.mk (St.out.below FB.out)
  replace Sr := Aside0.mk (Sr.out.below FB.out)
  replace HB := Aside0.mk (below_step HB.out FB.out)
  rw [clearR] at hS
  obtain ⟨a13A2, a13c2, a13A3, a13c3, a13A4, a13c4, a13A5, a13c5, rfl, _⟩ := id hS
  have Sa13 := Aside0.mk hS
  clear hS
  clear hb FB
  have ti0 := blk_cell Bt.out 0
  have ti1 := blk_cell Bt.out 1
  have ti2 := blk_cell Bt.out 2
  have ti3 := blk_cell Bt.out 3
  have ti4 := blk_cell Bt.out 4
  have ti5 := blk_cell Bt.out 5
  simp only [List.getElem?_toArray, List.getElem?_cons_zero, List.getElem?_cons_succ] at ti0 ti1 ti2 ti3 ti4 ti5
  have thl := blk_lt Bt.out
  have ri0 := blk_cell Br.out 0
  have ri1 := blk_cell Br.out 1
  have ri2 := blk_cell Br.out 2
  have ri3 := blk_cell Br.out 3
  have ri4 := blk_cell Br.out 4
  have ri5 := blk_cell Br.out 5
  simp only [List.getElem?_toArray, List.getElem?_cons_zero, List.getElem?_cons_succ] at ri0 ri1 ri2 ri3 ri4 ri5
  have rhl := blk_lt Br.out
  go_wp2_with fail
  refine Calls.mono (watched_calls (s := cutL ringS [1, 2, 4, 5] [1, 2, 4, 5]) ?hst [3] ?hC (Nat.le_refl _) 20 (by kernel_rfl)) ?_
  case hst => first | exact Sa13.out | exact Sa13.out.below (below_alloc (Below.refl _ _) _) | exact Sa13.out.below (below_alloc (below_alloc (Below.refl _ _) _) _) | exact Sa13.out.below (below_drew (Below.refl _ _)) | exact Sa13.out.below (below_alloc (below_drew (Below.refl _ _)) _)
  case hC => exact ids_C _ [3] (by decide)
  rintro e w30 ⟨rfl, hb⟩
  have FB : Aside0 (Below w29.heap.size w29 w30) := by first | exact ⟨below_step (Below.refl _ _) hb⟩ | exact ⟨below_step (below_alloc (Below.refl _ _) _) hb⟩ | exact ⟨below_step (below_alloc (below_alloc (Below.refl _ _) _) _) hb⟩ | exact ⟨below_step (below_drew (Below.refl _ _)) hb⟩ | exact ⟨below_step (below_alloc (below_drew (Below.refl _ _)) _) hb⟩
  clear ti0 ti1 ti2 ti3 ti4 ti5 thl ri0 ri1 ri2 ri3 ri4 ri5 rhl
  replace Bt := Aside0.mk (blk_below Bt.out FB.out)
  replace Br := Aside0.mk (blk_below Br.out FB.out)
  replace St := Aside0.mk (St.out.below FB.out)
  replace Sr := Aside0.mk (Sr.out.below FB.out)
  replace Sa13 := Aside0.mk (Sa13.out.below FB.out)
  replace HB := Aside0.mk (below_step HB.out FB.out)
  clear hb FB
  have ti0 := blk_cell Bt.out 0
  have ti1 := blk_cell Bt.out 1
  have ti2 := blk_cell Bt.out 2
  have ti3 := blk_cell Bt.out 3
  have ti4 := blk_cell Bt.out 4
  have ti5 := blk_cell Bt.out 5
  simp only [List.getElem?_toArray, List.getElem?_cons_zero, List.getElem?_cons_succ] at ti0 ti1 ti2 ti3 ti4 ti5
  have thl := blk_lt Bt.out
  have ri0 := blk_cell Br.out 0
  have ri1 := blk_cell Br.out 1
  have ri2 := blk_cell Br.out 2
  have ri3 := blk_cell Br.out 3
  have ri4 := blk_cell Br.out 4
  have ri5 := blk_cell Br.out 5
  simp only [List.getElem?_toArray, List.getElem?_cons_zero, List.getElem?_cons_succ] at ri0 ri1 ri2 ri3 ri4 ri5
  have rhl := blk_lt Br.out
  clear Sa13
  go_wp2_with fail
  refine Calls.mono (gone_calls (s := towerS) (s2 := emptyS) ?hst tower_fit (st_empty _) empty_fit) ?_
  case hst => first | exact St.out | exact St.out.below (below_alloc (Below.refl _ _) _) | exact St.out.below (below_alloc (below_alloc (Below.refl _ _) _) _) | exact St.out.below (below_drew (Below.refl _ _)) | exact St.out.below (below_alloc (below_drew (Below.refl _ _)) _)
  rintro e w31 ⟨gv, rfl, hR, hb⟩
  have FB : Aside0 (Below w30.heap.size w30 w31) := by first | exact ⟨below_step (Below.refl _ _) hb⟩ | exact ⟨below_step (below_alloc (Below.refl _ _) _) hb⟩ | exact ⟨below_step (below_alloc (below_alloc (Below.refl _ _) _) _) hb⟩ | exact ⟨below_step (below_drew (Below.refl _ _)) hb⟩ | exact ⟨below_step (below_alloc (below_drew (Below.refl _ _)) _) hb⟩
  clear ti0 ti1 ti2 ti3 ti4 ti5 thl ri0 ri1 ri2 ri3 ri4 ri5 rhl
  replace Bt := Aside0.mk (blk_below Bt.out FB.out)
  replace Br := Aside0.mk (blk_below Br.out FB.out)
  replace St := Aside0.mk (St.out.below FB.out)
  replace Sr := Aside0.mk (Sr.out.below FB.out)
  replace HB := Aside0.mk (below_step HB.out FB.out)
  rw [goneE] at hR
  obtain ⟨gA, gc, rfl, gl, gC⟩ := Kd.R_reads hR
  have Rg := Aside0.mk gC
  clear hR gC
  clear hb FB
  have ti0 := blk_cell Bt.out 0
  have ti1 := blk_cell Bt.out 1
  have ti2 := blk_cell Bt.out 2
  have ti3 := blk_cell Bt.out 3
  have ti4 := blk_cell Bt.out 4
  have ti5 := blk_cell Bt.out 5
  simp only [List.getElem?_toArray, List.getElem?_cons_zero, List.getElem?_cons_succ] at ti0 ti1 ti2 ti3 ti4 ti5
  have thl := blk_lt Bt.out
  have ri0 := blk_cell Br.out 0
  have ri1 := blk_cell Br.out 1
  have ri2 := blk_cell Br.out 2
  have ri3 := blk_cell Br.out 3
  have ri4 := blk_cell Br.out 4
  have ri5 := blk_cell Br.out 5
  simp only [List.getElem?_toArray, List.getElem?_cons_zero, List.getElem?_cons_succ] at ri0 ri1 ri2 ri3 ri4 ri5
  have rhl := blk_lt Br.out
  go_wp2_with fail
  refine Calls.mono (ints_calls [1, 2, 3, 4, 5] [1, 2, 3, 4, 5] ?hC gl ?hD (Nat.le_refl _) 10 (by kernel_rfl)) ?_
  case hC => exact Kd.C_below Rg.out (below_alloc (Below.refl _ _) _)
  case hD => exact ids_C _ [1, 2, 3, 4, 5] (by decide)
  rintro e w32 ⟨rfl, hb⟩
  have FB : Aside0 (Below w31.heap.size w31 w32) := by first | exact ⟨below_step (Below.refl _ _) hb⟩ | exact ⟨below_step (below_alloc (Below.refl _ _) _) hb⟩ | exact ⟨below_step (below_alloc (below_alloc (Below.refl _ _) _) _) hb⟩ | exact ⟨below_step (below_drew (Below.refl _ _)) hb⟩ | exact ⟨below_step (below_alloc (below_drew (Below.refl _ _)) _) hb⟩
  clear ti0 ti1 ti2 ti3 ti4 ti5 thl ri0 ri1 ri2 ri3 ri4 ri5 rhl
  replace Bt := Aside0.mk (blk_below Bt.out FB.out)
  replace Br := Aside0.mk (blk_below Br.out FB.out)
  replace St := Aside0.mk (St.out.below FB.out)
  replace Sr := Aside0.mk (Sr.out.below FB.out)
  replace Rg := Aside0.mk (Kd.C_below Rg.out FB.out)
  replace HB := Aside0.mk (below_step HB.out FB.out)
  clear hb FB
  have ti0 := blk_cell Bt.out 0
  have ti1 := blk_cell Bt.out 1
  have ti2 := blk_cell Bt.out 2
  have ti3 := blk_cell Bt.out 3
  have ti4 := blk_cell Bt.out 4
  have ti5 := blk_cell Bt.out 5
  simp only [List.getElem?_toArray, List.getElem?_cons_zero, List.getElem?_cons_succ] at ti0 ti1 ti2 ti3 ti4 ti5
  have thl := blk_lt Bt.out
  have ri0 := blk_cell Br.out 0
  have ri1 := blk_cell Br.out 1
  have ri2 := blk_cell Br.out 2
  have ri3 := blk_cell Br.out 3
  have ri4 := blk_cell Br.out 4
  have ri5 := blk_cell Br.out 5
  simp only [List.getElem?_toArray, List.getElem?_cons_zero, List.getElem?_cons_succ] at ri0 ri1 ri2 ri3 ri4 ri5
  have rhl := blk_lt Br.out
  go_wp2_with fail
  refine Calls.mono (gone_calls (s := towerS) (s2 := towerS) ?hst tower_fit ?hst2 tower_fit) ?_
  case hst => first | exact St.out | exact St.out.below (below_alloc (Below.refl _ _) _) | exact St.out.below (below_alloc (below_alloc (Below.refl _ _) _) _) | exact St.out.below (below_drew (Below.refl _ _)) | exact St.out.below (below_alloc (below_drew (Below.refl _ _)) _)
  case hst2 => first | exact St.out | exact St.out.below (below_alloc (Below.refl _ _) _) | exact St.out.below (below_alloc (below_alloc (Below.refl _ _) _) _) | exact St.out.below (below_drew (Below.refl _ _)) | exact St.out.below (below_alloc (below_drew (Below.refl _ _)) _)
  rintro e w33 ⟨hv, rfl, hR, hb⟩
  have FB : Aside0 (Below w32.heap.size w32 w33) := by first | exact ⟨below_step (Below.refl _ _) hb⟩ | exact ⟨below_step (below_alloc (Below.refl _ _) _) hb⟩ | exact ⟨below_step (below_alloc (below_alloc (Below.refl _ _) _) _) hb⟩ | exact ⟨below_step (below_drew (Below.refl _ _)) hb⟩ | exact ⟨below_step (below_alloc (below_drew (Below.refl _ _)) _) hb⟩
  clear ti0 ti1 ti2 ti3 ti4 ti5 thl ri0 ri1 ri2 ri3 ri4 ri5 rhl
  replace Bt := Aside0.mk (blk_below Bt.out FB.out)
  replace Br := Aside0.mk (blk_below Br.out FB.out)
  replace St := Aside0.mk (St.out.below FB.out)
  replace Sr := Aside0.mk (Sr.out.below FB.out)
  replace Rg := Aside0.mk (Kd.C_below Rg.out FB.out)
  replace HB := Aside0.mk (below_step HB.out FB.out)
  rw [goneT] at hR
  obtain ⟨hA, hc, rfl, hl, hC⟩ := Kd.R_reads hR
  have Rh := Aside0.mk hC
  clear hR hC
  clear hb FB
  have ti0 := blk_cell Bt.out 0
  have ti1 := blk_cell Bt.out 1
  have ti2 := blk_cell Bt.out 2
  have ti3 := blk_cell Bt.out 3
  have ti4 := blk_cell Bt.out 4
  have ti5 := blk_cell Bt.out 5
  simp only [List.getElem?_toArray, List.getElem?_cons_zero, List.getElem?_cons_succ] at ti0 ti1 ti2 ti3 ti4 ti5
  have thl := blk_lt Bt.out
  have ri0 := blk_cell Br.out 0
  have ri1 := blk_cell Br.out 1
  have ri2 := blk_cell Br.out 2
  have ri3 := blk_cell Br.out 3
  have ri4 := blk_cell Br.out 4
  have ri5 := blk_cell Br.out 5
  simp only [List.getElem?_toArray, List.getElem?_cons_zero, List.getElem?_cons_succ] at ri0 ri1 ri2 ri3 ri4 ri5
  have rhl := blk_lt Br.out
  go_wp2_with fail
  refine Calls.mono (gone_calls (s := emptyS) (s2 := towerS) (st_empty _) empty_fit ?hst2 tower_fit) ?_
  case hst2 => first | exact St.out | exact St.out.below (below_alloc (Below.refl _ _) _) | exact St.out.below (below_alloc (below_alloc (Below.refl _ _) _) _) | exact St.out.below (below_drew (Below.refl _ _)) | exact St.out.below (below_alloc (below_drew (Below.refl _ _)) _)
  rintro e w34 ⟨mv, rfl, hR, hb⟩
  have FB : Aside0 (Below w33.heap.size w33 w34) := by first | exact ⟨below_step (Below.refl _ _) hb⟩ | exact ⟨below_step (below_alloc (Below.refl _ _) _) hb⟩ | exact ⟨below_step (below_alloc (below_alloc (Below.refl _ _) _) _) hb⟩ | exact ⟨below_step (below_drew (Below.refl _ _)) hb⟩ | exact ⟨below_step (below_alloc (below_drew (Below.refl _ _)) _) hb⟩
  clear ti0 ti1 ti2 ti3 ti4 ti5 thl ri0 ri1 ri2 ri3 ri4 ri5 rhl
  replace Bt := Aside0.mk (blk_below Bt.out FB.out)
  replace Br := Aside0.mk (blk_below Br.out FB.out)
  replace St := Aside0.mk (St.out.below FB.out)
  replace Sr := Aside0.mk (Sr.out.below FB.out)
  replace Rg := Aside0.mk (Kd.C_below Rg.out FB.out)
  replace Rh := Aside0.mk (Kd.C_below Rh.out FB.out)
  replace HB := Aside0.mk (below_step HB.out FB.out)
  rw [goneF] at hR
  obtain ⟨mA, mc, rfl, ml, mC⟩ := Kd.R_reads hR
  have Rm := Aside0.mk mC
  clear hR mC
  clear hb FB
  have ti0 := blk_cell Bt.out 0
  have ti1 := blk_cell Bt.out 1
  have ti2 := blk_cell Bt.out 2
  have ti3 := blk_cell Bt.out 3
  have ti4 := blk_cell Bt.out 4
  have ti5 := blk_cell Bt.out 5
  simp only [List.getElem?_toArray, List.getElem?_cons_zero, List.getElem?_cons_succ] at ti0 ti1 ti2 ti3 ti4 ti5
  have thl := blk_lt Bt.out
  have ri0 := blk_cell Br.out 0
  have ri1 := blk_cell Br.out 1
  have ri2 := blk_cell Br.out 2
  have ri3 := blk_cell Br.out 3
  have ri4 := blk_cell Br.out 4
  have ri5 := blk_cell Br.out 5
  simp only [List.getElem?_toArray, List.getElem?_cons_zero, List.getElem?_cons_succ] at ri0 ri1 ri2 ri3 ri4 ri5
  have rhl := blk_lt Br.out
  go_wp2
  go_ret
  exact ⟨rfl, HB.out⟩
end Go.Proofs.Ythonmfcollafkaa.P
