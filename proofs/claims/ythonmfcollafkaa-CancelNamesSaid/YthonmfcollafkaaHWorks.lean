import Derived.Test.YthonmfcollafkaaUWorks
/- callboardlaw21.works. -/
namespace Go.Proofs.Ythonmfcollafkaa.P
open Go.RowKit Go.Proofs.YthonmfcollafkaaW.PrintWords Go.Proofs.YthonmfcollafkaaW.PrintLast Go.Proofs.YthonmfcollafkaaW.PrintMore
set_option linter.unusedVariables false
set_option linter.unusedSimpArgs false
theorem gone_list (s : Stt) (a : Int) (l : List Int) (ht : There s.items a) (h0 : a ∈ l) (hc : ∀ it ∈ s.items, it.f1 ∈ l → it.f0 ∈ l) (hs : ∀ x ∈ l, x = a ∨ Desc s.items a x) : takeS s a = cutL s l l := cut_L s (gone_of _ a l ht h0 hc hs) (gone_of _ a l ht h0 hc hs)
theorem below_list (s : Stt) (a : Int) (l : List Int) (ht : There s.items a) (ha : a ∉ l) (hc : ∀ it ∈ s.items, it.f1 ∈ a :: l → it.f0 ∈ a :: l) (hs : ∀ x ∈ l, Desc s.items a x) : clearS s a = cutL s l l := by
  have h : ∀ x, Below' s.items a x ↔ x ∈ l := by
    intro x
    have hg := gone_of s.items a (a :: l) ht List.mem_cons_self hc (fun y hy => (List.mem_cons.1 hy).imp id (hs y)) x
    constructor
    · rintro ⟨h1, h2, h3⟩
      exact (List.mem_cons.1 (hg.1 ⟨h1, .inr h2⟩)).resolve_left h3
    · intro hx
      exact ⟨ht, hs x hx, fun e => ha (e ▸ hx)⟩
  exact cut_L s h h
theorem kid_of {its : List S43} (it : S43) (h : it ∈ its) (hne : it.f0 ≠ it.f1) : kidOf its it.f1 it.f0 := ⟨it, h, rfl, rfl, hne⟩
theorem k12 : kidOf towerS.items 1 2 := kid_of (its := towerS.items) ⟨2, 1, 2, ⟨#[]⟩, 0, 0, 0, ⟨#[]⟩⟩ (by simp [towerS]) (by decide)
theorem k23 : kidOf towerS.items 2 3 := kid_of (its := towerS.items) ⟨3, 2, 1, ⟨#[]⟩, 0, 0, 0, ⟨#[]⟩⟩ (by simp [towerS]) (by decide)
theorem k34' : kidOf towerS.items 3 4 := kid_of (its := towerS.items) ⟨4, 3, 2, ⟨#[]⟩, 0, 0, 0, ⟨#[]⟩⟩ (by simp [towerS]) (by decide)
theorem k15 : kidOf towerS.items 1 5 := kid_of (its := towerS.items) ⟨5, 1, 2, ⟨#[]⟩, 0, 0, 0, ⟨#[]⟩⟩ (by simp [towerS]) (by decide)
theorem there_of' {its : List S43} {a : Int} (h : (its.any fun x => x.f0 == a) = true) : There its a := by
  obtain ⟨x, hx, he⟩ := List.any_eq_true.1 h
  exact ⟨x, hx, by simpa using he⟩
theorem not_there {its : List S43} {a : Int} (h : (its.any fun x => x.f0 == a) = false) : ¬ There its a := by
  rintro ⟨x, hx, he⟩
  have := List.any_eq_false.1 h x hx
  simp [he] at this
theorem take2 : takeS towerS 2 = cutL towerS [2, 3, 4] [2, 3, 4] := gone_list towerS 2 [2, 3, 4] (there_of' (by decide)) (by decide) (by decide) (by
  intro x hx
  simp only [List.mem_cons, List.not_mem_nil, or_false] at hx
  rcases hx with rfl | rfl | rfl
  · exact .inl rfl
  · exact .inr (.kid k23)
  · exact .inr (.step (.kid k23) k34'))
theorem clear3 : clearS towerS 3 = cutL towerS [4] [4] := below_list towerS 3 [4] (there_of' (by decide)) (by decide) (by decide) (by
  intro x hx
  simp only [List.mem_cons, List.not_mem_nil, or_false] at hx
  subst hx
  exact .kid k34')
theorem take9 : takeS towerS 9 = towerS := take_not _ _ (not_there (by decide))
theorem fit_cut4 : Fit (cutL towerS [4] [4]) := ⟨by decide, by decide, by decide, by decide, by decide⟩
theorem sorted_eq (l : List Int) (h : l.Pairwise (fun a b => decide (a ≤ b) = true)) : sortL l = l := List.mergeSort_of_pairwise h
theorem gone4 : Lib.compact (sortL (goneL towerS.items (cutL towerS [4] [4]).items)) = [4] := by
  have e : goneL towerS.items (cutL towerS [4] [4]).items = [4] := by decide
  rw [e, sorted_eq [4] (by decide)]
  decide
set_option maxHeartbeats 8000000 in
set_option maxRecDepth 100000 in
theorem works_calls (w : World) : Calls Try.prog 43 #[] w fun e w' => e = .returned (.bool true) ∧ Below w.heap.size w w' := by
  have hu := Try.underlying27
  have HB := Aside0.mk (Below.refl w.heap.size w)
  go_enter Try.func43, Try.ntmps43
  go_wp2_with fail
  refine Calls.mono (tower_calls _) ?_
  rintro e w1 ⟨tv, rfl, hS, hb⟩
  have FB : Aside0 (Below w.heap.size w w1) := by first | exact ⟨below_step (Below.refl _ _) hb⟩ | exact ⟨below_step (below_alloc (Below.refl _ _) _) hb⟩ | exact ⟨below_step (below_alloc (below_alloc (Below.refl _ _) _) _) hb⟩ | exact ⟨below_step (below_drew (Below.refl _ _)) hb⟩ | exact ⟨below_step (below_alloc (below_drew (Below.refl _ _)) _) hb⟩
  replace HB := Aside0.mk (below_step HB.out FB.out)
  obtain ⟨tA2, tc2, tA3, tc3, tA4, tc4, tA5, tc5, rfl, _⟩ := id hS
  have St := Aside0.mk hS
  clear hS
  clear hb FB
  go_wp2_with fail
  refine Calls.mono (clear_calls (s := towerS) ?hst tower_fit 3 (by decide)) ?_
  case hst => first | exact St.out | exact St.out.below (below_alloc (Below.refl _ _) _) | exact St.out.below (below_alloc (below_alloc (Below.refl _ _) _) _) | exact St.out.below (below_drew (Below.refl _ _)) | exact St.out.below (below_alloc (below_drew (Below.refl _ _)) _)
  rintro e w2 ⟨uv, rfl, hS, hb⟩
  have FB : Aside0 (Below w1.heap.size w1 w2) := by first | exact ⟨below_step (Below.refl _ _) hb⟩ | exact ⟨below_step (below_alloc (Below.refl _ _) _) hb⟩ | exact ⟨below_step (below_alloc (below_alloc (Below.refl _ _) _) _) hb⟩ | exact ⟨below_step (below_drew (Below.refl _ _)) hb⟩ | exact ⟨below_step (below_alloc (below_drew (Below.refl _ _)) _) hb⟩
  have Bt : Aside0 (w2.heap[w1.heap.size]? = some (.cells #[.int .i64 (towerS).clk, .int .i64 (towerS).nxt, .slice tA2 (towerS).defs.length tc2, .slice tA3 (towerS).items.length tc3, .slice tA4 (towerS).cells.length tc4, .slice tA5 (towerS).wats.length tc5] 27 (0, 0))) := ⟨blk_below (blk_new w1 _) hb⟩
  replace St := Aside0.mk (St.out.below FB.out)
  replace HB := Aside0.mk (below_step HB.out FB.out)
  rw [clear3] at hS
  obtain ⟨uA2, uc2, uA3, uc3, uA4, uc4, uA5, uc5, rfl, _⟩ := id hS
  have Su := Aside0.mk hS
  clear hS
  clear hb FB
  have ti0 := blk_cell Bt.out 0
  have ti1 := blk_cell Bt.out 1
  have ti2 := blk_cell Bt.out 2
  have ti3 := blk_cell Bt.out 3
  have ti4 := blk_cell Bt.out 4
  have ti5 := blk_cell Bt.out 5
  simp only [List.getElem?_toArray, List.getElem?_cons_zero, List.getElem?_cons_succ] at ti0 ti1 ti2 ti3 ti4 ti5
  have thl := blk_lt Bt.out
  go_wp2_with fail
  refine Calls.mono (take_calls (s := towerS) ?hst tower_fit 2 (by decide)) ?_
  case hst => first | exact St.out | exact St.out.below (below_alloc (Below.refl _ _) _) | exact St.out.below (below_alloc (below_alloc (Below.refl _ _) _) _) | exact St.out.below (below_drew (Below.refl _ _)) | exact St.out.below (below_alloc (below_drew (Below.refl _ _)) _)
  rintro e w3 ⟨av, rfl, hS, hb⟩
  have FB : Aside0 (Below w2.heap.size w2 w3) := by first | exact ⟨below_step (Below.refl _ _) hb⟩ | exact ⟨below_step (below_alloc (Below.refl _ _) _) hb⟩ | exact ⟨below_step (below_alloc (below_alloc (Below.refl _ _) _) _) hb⟩ | exact ⟨below_step (below_drew (Below.refl _ _)) hb⟩ | exact ⟨below_step (below_alloc (below_drew (Below.refl _ _)) _) hb⟩
  clear ti0 ti1 ti2 ti3 ti4 ti5 thl
  replace Bt := Aside0.mk (blk_below Bt.out FB.out)
  have Bu : Aside0 (w3.heap[w2.heap.size]? = some (.cells #[.int .i64 (cutL towerS [4] [4]).clk, .int .i64 (cutL towerS [4] [4]).nxt, .slice uA2 (cutL towerS [4] [4]).defs.length uc2, .slice uA3 (cutL towerS [4] [4]).items.length uc3, .slice uA4 (cutL towerS [4] [4]).cells.length uc4, .slice uA5 (cutL towerS [4] [4]).wats.length uc5] 27 (0, 0))) := ⟨blk_below (blk_new w2 _) hb⟩
  replace St := Aside0.mk (St.out.below FB.out)
  replace Su := Aside0.mk (Su.out.below FB.out)
  replace HB := Aside0.mk (below_step HB.out FB.out)
  rw [take2] at hS
  obtain ⟨aA2, ac2, aA3, ac3, aA4, ac4, aA5, ac5, rfl, _⟩ := id hS
  have Sa := Aside0.mk hS
  clear hS
  clear hb FB
  have ti0 := blk_cell Bt.out 0
  have ti1 := blk_cell Bt.out 1
  have ti2 := blk_cell Bt.out 2
  have ti3 := blk_cell Bt.out 3
  have ti4 := blk_cell Bt.out 4
  have ti5 := blk_cell Bt.out 5
  simp only [List.getElem?_toArray, List.getElem?_cons_zero, List.getElem?_cons_succ] at ti0 ti1 ti2 ti3 ti4 ti5
  have thl := blk_lt Bt.out
  have ui0 := blk_cell Bu.out 0
  have ui1 := blk_cell Bu.out 1
  have ui2 := blk_cell Bu.out 2
  have ui3 := blk_cell Bu.out 3
  have ui4 := blk_cell Bu.out 4
  have ui5 := blk_cell Bu.out 5
  simp only [List.getElem?_toArray, List.getElem?_cons_zero, List.getElem?_cons_succ] at ui0 ui1 ui2 ui3 ui4 ui5
  have uhl := blk_lt Bu.out
  go_wp2_with fail
  refine Calls.mono (left_calls (s := cutL towerS [2, 3, 4] [2, 3, 4]) ?hst [1, 5] ?hC (Nat.le_refl _) 20 (by kernel_rfl)) ?_
  case hst => first | exact Sa.out | exact Sa.out.below (below_alloc (Below.refl _ _) _) | exact Sa.out.below (below_alloc (below_alloc (Below.refl _ _) _) _) | exact Sa.out.below (below_drew (Below.refl _ _)) | exact Sa.out.below (below_alloc (below_drew (Below.refl _ _)) _)
  case hC => exact ids_C _ [1, 5] (by decide)
  rintro e w4 ⟨rfl, hb⟩
  have FB : Aside0 (Below w3.heap.size w3 w4) := by first | exact ⟨below_step (Below.refl _ _) hb⟩ | exact ⟨below_step (below_alloc (Below.refl _ _) _) hb⟩ | exact ⟨below_step (below_alloc (below_alloc (Below.refl _ _) _) _) hb⟩ | exact ⟨below_step (below_drew (Below.refl _ _)) hb⟩ | exact ⟨below_step (below_alloc (below_drew (Below.refl _ _)) _) hb⟩
  clear ti0 ti1 ti2 ti3 ti4 ti5 thl ui0 ui1 ui2 ui3 ui4 ui5 uhl
  replace Bt := Aside0.mk (blk_below Bt.out FB.out)
  replace Bu := Aside0.mk (blk_below Bu.out FB.out)
  replace St := Aside0.mk (St.out.below FB.out)
  replace Su := Aside0.mk (Su.out.below FB.out)
  replace Sa := Aside0.mk (Sa.out.below FB.out)
  replace HB := Aside0.mk (below_step HB.out FB.out)
  clear hb FB
  have ti0 := blk_cell Bt.out 0
  have ti1 := blk_cell Bt.out 1
  have ti2 := blk_cell Bt.out 2
  have ti3 := blk_cell Bt.out 3
  have ti4 := blk_cell Bt.out 4
  have ti5 := blk_cell Bt.out 5
  simp only [List.getElem?_toArray, List.getElem?_cons_zero, List.getElem?_cons_succ] at ti0 ti1 ti2 ti3 ti4 ti5
  have thl := blk_lt Bt.out
  have ui0 := blk_cell Bu.out 0
  have ui1 := blk_cell Bu.out 1
  have ui2 := blk_cell Bu.out 2
  have ui3 := blk_cell Bu.out 3
  have ui4 := blk_cell Bu.out 4
  have ui5 := blk_cell Bu.out 5
  simp only [List.getElem?_toArray, List.getElem?_cons_zero, List.getElem?_cons_succ] at ui0 ui1 ui2 ui3 ui4 ui5
  have uhl := blk_lt Bu.out
  go_wp2_with fail
  refine Calls.mono (left_calls (s := cutL towerS [4] [4]) ?hst [1, 2, 3, 5] ?hC (Nat.le_refl _) 20 (by kernel_rfl)) ?_
  case hst => first | exact Su.out | exact Su.out.below (below_alloc (Below.refl _ _) _) | exact Su.out.below (below_alloc (below_alloc (Below.refl _ _) _) _) | exact Su.out.below (below_drew (Below.refl _ _)) | exact Su.out.below (below_alloc (below_drew (Below.refl _ _)) _)
  case hC => exact ids_C _ [1, 2, 3, 5] (by decide)
  rintro e w5 ⟨rfl, hb⟩
  have FB : Aside0 (Below w4.heap.size w4 w5) := by first | exact ⟨below_step (Below.refl _ _) hb⟩ | exact ⟨below_step (below_alloc (Below.refl _ _) _) hb⟩ | exact ⟨below_step (below_alloc (below_alloc (Below.refl _ _) _) _) hb⟩ | exact ⟨below_step (below_drew (Below.refl _ _)) hb⟩ | exact ⟨below_step (below_alloc (below_drew (Below.refl _ _)) _) hb⟩
  clear ti0 ti1 ti2 ti3 ti4 ti5 thl ui0 ui1 ui2 ui3 ui4 ui5 uhl
  replace Bt := Aside0.mk (blk_below Bt.out FB.out)
  replace Bu := Aside0.mk (blk_below Bu.out FB.out)
  replace St := Aside0.mk (St.out.below FB.out)
  replace Su := Aside0.mk (Su.out.below FB.out)
  replace Sa := Aside0.mk (Sa.out.below FB.out)
  replace HB := Aside0.mk (below_step HB.out FB.out)
  clear hb FB
  have ti0 := blk_cell Bt.out 0
  have ti1 := blk_cell Bt.out 1
  have ti2 := blk_cell Bt.out 2
  have ti3 := blk_cell Bt.out 3
  have ti4 := blk_cell Bt.out 4
  have ti5 := blk_cell Bt.out 5
  simp only [List.getElem?_toArray, List.getElem?_cons_zero, List.getElem?_cons_succ] at ti0 ti1 ti2 ti3 ti4 ti5
  have thl := blk_lt Bt.out
  have ui0 := blk_cell Bu.out 0
  have ui1 := blk_cell Bu.out 1
  have ui2 := blk_cell Bu.out 2
  have ui3 := blk_cell Bu.out 3
  have ui4 := blk_cell Bu.out 4
  have ui5 := blk_cell Bu.out 5
  simp only [List.getElem?_toArray, List.getElem?_cons_zero, List.getElem?_cons_succ] at ui0 ui1 ui2 ui3 ui4 ui5
  have uhl := blk_lt Bu.out
  go_wp2_with fail
  refine Calls.mono (gone_calls (s := towerS) (s2 := cutL towerS [4] [4]) ?hst tower_fit ?hst2 fit_cut4) ?_
  case hst => first | exact St.out | exact St.out.below (below_alloc (Below.refl _ _) _) | exact St.out.below (below_alloc (below_alloc (Below.refl _ _) _) _) | exact St.out.below (below_drew (Below.refl _ _)) | exact St.out.below (below_alloc (below_drew (Below.refl _ _)) _)
  case hst2 => first | exact Su.out | exact Su.out.below (below_alloc (Below.refl _ _) _) | exact Su.out.below (below_alloc (below_alloc (Below.refl _ _) _) _) | exact Su.out.below (below_drew (Below.refl _ _)) | exact Su.out.below (below_alloc (below_drew (Below.refl _ _)) _)
  rintro e w6 ⟨gv, rfl, hR, hb⟩
  have FB : Aside0 (Below w5.heap.size w5 w6) := by first | exact ⟨below_step (Below.refl _ _) hb⟩ | exact ⟨below_step (below_alloc (Below.refl _ _) _) hb⟩ | exact ⟨below_step (below_alloc (below_alloc (Below.refl _ _) _) _) hb⟩ | exact ⟨below_step (below_drew (Below.refl _ _)) hb⟩ | exact ⟨below_step (below_alloc (below_drew (Below.refl _ _)) _) hb⟩
  clear ti0 ti1 ti2 ti3 ti4 ti5 thl ui0 ui1 ui2 ui3 ui4 ui5 uhl
  replace Bt := Aside0.mk (blk_below Bt.out FB.out)
  replace Bu := Aside0.mk (blk_below Bu.out FB.out)
  replace St := Aside0.mk (St.out.below FB.out)
  replace Su := Aside0.mk (Su.out.below FB.out)
  replace Sa := Aside0.mk (Sa.out.below FB.out)
  replace HB := Aside0.mk (below_step HB.out FB.out)
  rw [gone4] at hR
  obtain ⟨gA, gc, rfl, gl, gC⟩ := Kd.R_reads hR
  have Rg := Aside0.mk gC
  clear hR gC
  clear hb FB
  have ti0 := blk_cell Bt.out 0
  have ti1 := blk_cell Bt.out 1
  have ti2 := blk_cell Bt.out 2
  have ti3 := blk_cell Bt.out 3
  have ti4 := blk_cell Bt.out 4
  have ti5 := blk_cell Bt.out 5
  simp only [List.getElem?_toArray, List.getElem?_cons_zero, List.getElem?_cons_succ] at ti0 ti1 ti2 ti3 ti4 ti5
  have thl := blk_lt Bt.out
  have ui0 := blk_cell Bu.out 0
  have ui1 := blk_cell Bu.out 1
  have ui2 := blk_cell Bu.out 2
  have ui3 := blk_cell Bu.out 3
  have ui4 := blk_cell Bu.out 4
  have ui5 := blk_cell Bu.out 5
  simp only [List.getElem?_toArray, List.getElem?_cons_zero, List.getElem?_cons_succ] at ui0 ui1 ui2 ui3 ui4 ui5
  have uhl := blk_lt Bu.out
  go_wp2_with fail
  refine Calls.mono (ints_calls [4] [4] ?hC gl ?hD (Nat.le_refl _) 5 (by kernel_rfl)) ?_
  case hC => exact Kd.C_below Rg.out (below_alloc (Below.refl _ _) _)
  case hD => exact ids_C _ [4] (by decide)
  rintro e w7 ⟨rfl, hb⟩
  have FB : Aside0 (Below w6.heap.size w6 w7) := by first | exact ⟨below_step (Below.refl _ _) hb⟩ | exact ⟨below_step (below_alloc (Below.refl _ _) _) hb⟩ | exact ⟨below_step (below_alloc (below_alloc (Below.refl _ _) _) _) hb⟩ | exact ⟨below_step (below_drew (Below.refl _ _)) hb⟩ | exact ⟨below_step (below_alloc (below_drew (Below.refl _ _)) _) hb⟩
  clear ti0 ti1 ti2 ti3 ti4 ti5 thl ui0 ui1 ui2 ui3 ui4 ui5 uhl
  replace Bt := Aside0.mk (blk_below Bt.out FB.out)
  replace Bu := Aside0.mk (blk_below Bu.out FB.out)
  replace St := Aside0.mk (St.out.below FB.out)
  replace Su := Aside0.mk (Su.out.below FB.out)
  replace Sa := Aside0.mk (Sa.out.below FB.out)
  replace Rg := Aside0.mk (Kd.C_below Rg.out FB.out)
  replace HB := Aside0.mk (below_step HB.out FB.out)
  clear hb FB
  have ti0 := blk_cell Bt.out 0
  have ti1 := blk_cell Bt.out 1
  have ti2 := blk_cell Bt.out 2
  have ti3 := blk_cell Bt.out 3
  have ti4 := blk_cell Bt.out 4
  have ti5 := blk_cell Bt.out 5
  simp only [List.getElem?_toArray, List.getElem?_cons_zero, List.getElem?_cons_succ] at ti0 ti1 ti2 ti3 ti4 ti5
  have thl := blk_lt Bt.out
  have ui0 := blk_cell Bu.out 0
  have ui1 := blk_cell Bu.out 1
  have ui2 := blk_cell Bu.out 2
  have ui3 := blk_cell Bu.out 3
  have ui4 := blk_cell Bu.out 4
  have ui5 := blk_cell Bu.out 5
  simp only [List.getElem?_toArray, List.getElem?_cons_zero, List.getElem?_cons_succ] at ui0 ui1 ui2 ui3 ui4 ui5
  have uhl := blk_lt Bu.out
  go_wp2_with fail
  refine Calls.mono (take_calls (s := towerS) ?hst tower_fit 9 (by decide)) ?_
  case hst => first | exact St.out | exact St.out.below (below_alloc (Below.refl _ _) _) | exact St.out.below (below_alloc (below_alloc (Below.refl _ _) _) _) | exact St.out.below (below_drew (Below.refl _ _)) | exact St.out.below (below_alloc (below_drew (Below.refl _ _)) _)
  rintro e w8 ⟨bv, rfl, hS, hb⟩
  have FB : Aside0 (Below w7.heap.size w7 w8) := by first | exact ⟨below_step (Below.refl _ _) hb⟩ | exact ⟨below_step (below_alloc (Below.refl _ _) _) hb⟩ | exact ⟨below_step (below_alloc (below_alloc (Below.refl _ _) _) _) hb⟩ | exact ⟨below_step (below_drew (Below.refl _ _)) hb⟩ | exact ⟨below_step (below_alloc (below_drew (Below.refl _ _)) _) hb⟩
  clear ti0 ti1 ti2 ti3 ti4 ti5 thl ui0 ui1 ui2 ui3 ui4 ui5 uhl
  replace Bt := Aside0.mk (blk_below Bt.out FB.out)
  replace Bu := Aside0.mk (blk_below Bu.out FB.out)
  replace St := Aside0.mk (St.out.below FB.out)
  replace Su := Aside0.mk (Su.out.below FB.out)
  replace Sa := Aside0.mk (Sa.out.below FB.out)
  replace Rg := Aside0.mk (Kd.C_below Rg.out FB.out)
  replace HB := Aside0.mk (below_step HB.out FB.out)
  rw [take9] at hS
  obtain ⟨bA2, bc2, bA3, bc3, bA4, bc4, bA5, bc5, rfl, _⟩ := id hS
  have Sb := Aside0.mk hS
  clear hS
  clear hb FB
  have ti0 := blk_cell Bt.out 0
  have ti1 := blk_cell Bt.out 1
  have ti2 := blk_cell Bt.out 2
  have ti3 := blk_cell Bt.out 3
  have ti4 := blk_cell Bt.out 4
  have ti5 := blk_cell Bt.out 5
  simp only [List.getElem?_toArray, List.getElem?_cons_zero, List.getElem?_cons_succ] at ti0 ti1 ti2 ti3 ti4 ti5
  have thl := blk_lt Bt.out
  have ui0 := blk_cell Bu.out 0
  have ui1 := blk_cell Bu.out 1
  have ui2 := blk_cell Bu.out 2
  have ui3 := blk_cell Bu.out 3
  have ui4 := blk_cell Bu.out 4
  have ui5 := blk_cell Bu.out 5
  simp only [List.getElem?_toArray, List.getElem?_cons_zero, List.getElem?_cons_succ] at ui0 ui1 ui2 ui3 ui4 ui5
  have uhl := blk_lt Bu.out
  go_wp2_with fail
  refine Calls.mono (left_calls (s := towerS) ?hst [1, 2, 3, 4, 5] ?hC (Nat.le_refl _) 20 (by kernel_rfl)) ?_
  case hst => first | exact Sb.out | exact Sb.out.below (below_alloc (Below.refl _ _) _) | exact Sb.out.below (below_alloc (below_alloc (Below.refl _ _) _) _) | exact Sb.out.below (below_drew (Below.refl _ _)) | exact Sb.out.below (below_alloc (below_drew (Below.refl _ _)) _)
  case hC => exact ids_C _ [1, 2, 3, 4, 5] (by decide)
  rintro e w9 ⟨rfl, hb⟩
  have FB : Aside0 (Below w8.heap.size w8 w9) := by first | exact ⟨below_step (Below.refl _ _) hb⟩ | exact ⟨below_step (below_alloc (Below.refl _ _) _) hb⟩ | exact ⟨below_step (below_alloc (below_alloc (Below.refl _ _) _) _) hb⟩ | exact ⟨below_step (below_drew (Below.refl _ _)) hb⟩ | exact ⟨below_step (below_alloc (below_drew (Below.refl _ _)) _) hb⟩
  clear ti0 ti1 ti2 ti3 ti4 ti5 thl ui0 ui1 ui2 ui3 ui4 ui5 uhl
  replace Bt := Aside0.mk (blk_below Bt.out FB.out)
  replace Bu := Aside0.mk (blk_below Bu.out FB.out)
  replace St := Aside0.mk (St.out.below FB.out)
  replace Su := Aside0.mk (Su.out.below FB.out)
  replace Sa := Aside0.mk (Sa.out.below FB.out)
  replace Sb := Aside0.mk (Sb.out.below FB.out)
  replace Rg := Aside0.mk (Kd.C_below Rg.out FB.out)
  replace HB := Aside0.mk (below_step HB.out FB.out)
  clear hb FB
  have ti0 := blk_cell Bt.out 0
  have ti1 := blk_cell Bt.out 1
  have ti2 := blk_cell Bt.out 2
  have ti3 := blk_cell Bt.out 3
  have ti4 := blk_cell Bt.out 4
  have ti5 := blk_cell Bt.out 5
  simp only [List.getElem?_toArray, List.getElem?_cons_zero, List.getElem?_cons_succ] at ti0 ti1 ti2 ti3 ti4 ti5
  have thl := blk_lt Bt.out
  have ui0 := blk_cell Bu.out 0
  have ui1 := blk_cell Bu.out 1
  have ui2 := blk_cell Bu.out 2
  have ui3 := blk_cell Bu.out 3
  have ui4 := blk_cell Bu.out 4
  have ui5 := blk_cell Bu.out 5
  simp only [List.getElem?_toArray, List.getElem?_cons_zero, List.getElem?_cons_succ] at ui0 ui1 ui2 ui3 ui4 ui5
  have uhl := blk_lt Bu.out
  go_wp2_with fail
  refine Calls.mono (left_calls (s := towerS) ?hst [1, 2, 3, 4, 5] ?hC (Nat.le_refl _) 20 (by kernel_rfl)) ?_
  case hst => first | exact St.out | exact St.out.below (below_alloc (Below.refl _ _) _) | exact St.out.below (below_alloc (below_alloc (Below.refl _ _) _) _) | exact St.out.below (below_drew (Below.refl _ _)) | exact St.out.below (below_alloc (below_drew (Below.refl _ _)) _)
  case hC => exact ids_C _ [1, 2, 3, 4, 5] (by decide)
  rintro e w10 ⟨rfl, hb⟩
  have FB : Aside0 (Below w9.heap.size w9 w10) := by first | exact ⟨below_step (Below.refl _ _) hb⟩ | exact ⟨below_step (below_alloc (Below.refl _ _) _) hb⟩ | exact ⟨below_step (below_alloc (below_alloc (Below.refl _ _) _) _) hb⟩ | exact ⟨below_step (below_drew (Below.refl _ _)) hb⟩ | exact ⟨below_step (below_alloc (below_drew (Below.refl _ _)) _) hb⟩
  clear ti0 ti1 ti2 ti3 ti4 ti5 thl ui0 ui1 ui2 ui3 ui4 ui5 uhl
  replace Bt := Aside0.mk (blk_below Bt.out FB.out)
  replace Bu := Aside0.mk (blk_below Bu.out FB.out)
  replace St := Aside0.mk (St.out.below FB.out)
  replace Su := Aside0.mk (Su.out.below FB.out)
  replace Sa := Aside0.mk (Sa.out.below FB.out)
  replace Sb := Aside0.mk (Sb.out.below FB.out)
  replace Rg := Aside0.mk (Kd.C_below Rg.out FB.out)
  replace HB := Aside0.mk (below_step HB.out FB.out)
  clear hb FB
  have ti0 := blk_cell Bt.out 0
  have ti1 := blk_cell Bt.out 1
  have ti2 := blk_cell Bt.out 2
  have ti3 := blk_cell Bt.out 3
  have ti4 := blk_cell Bt.out 4
  have ti5 := blk_cell Bt.out 5
  simp only [List.getElem?_toArray, List.getElem?_cons_zero, List.getElem?_cons_succ] at ti0 ti1 ti2 ti3 ti4 ti5
  have thl := blk_lt Bt.out
  have ui0 := blk_cell Bu.out 0
  have ui1 := blk_cell Bu.out 1
  have ui2 := blk_cell Bu.out 2
  have ui3 := blk_cell Bu.out 3
  have ui4 := blk_cell Bu.out 4
  have ui5 := blk_cell Bu.out 5
  simp only [List.getElem?_toArray, List.getElem?_cons_zero, List.getElem?_cons_succ] at ui0 ui1 ui2 ui3 ui4 ui5
  have uhl := blk_lt Bu.out
  go_wp2
  go_ret
  exact ⟨rfl, HB.out⟩
end Go.Proofs.Ythonmfcollafkaa.P
