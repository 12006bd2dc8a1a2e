import Derived.Test.YthonmfcollafkaaUGone
import Derived.Test.YthonmfcollafkaaPx8
import Derived.Test.YthonmfcollafkaaPx32
/- arena.Find, arena.Kids: what they answer, in few words; a state in memory. -/
namespace Go.Proofs.Ythonmfcollafkaa.P
open Go.RowKit Go.Proofs.YthonmfcollafkaaW.PrintWords Go.Proofs.YthonmfcollafkaaW.PrintLast Go.Proofs.YthonmfcollafkaaW.PrintMore
set_option linter.unusedVariables false
set_option linter.unusedSimpArgs false

/-- A state that lies in memory. -/
def St (w : World) (v : Value) (s : Stt) : Prop :=
  ∃ A2 c2 A3 c3 A4 c4 A5 c5, v = .agg #[.int .i64 s.clk, .int .i64 s.nxt, .slice A2 s.defs.length c2, .slice A3 s.items.length c3, .slice A4 s.cells.length c4, .slice A5 s.wats.length c5] ∧ Kd.C k34 w A2 s.defs.length s.defs ∧ s.defs.length ≤ c2 ∧ Kd.C k43 w A3 s.items.length s.items ∧ s.items.length ≤ c3 ∧ Kd.C k129 w A4 s.cells.length s.cells ∧ s.cells.length ≤ c4 ∧ Kd.C k132 w A5 s.wats.length s.wats ∧ s.wats.length ≤ c5
theorem St.below {w w' : World} {v : Value} {s : Stt} (h : St w v s) (hb : Below w.heap.size w w') : St w' v s := by
  obtain ⟨A2, c2, A3, c3, A4, c4, A5, c5, rfl, h2, k2, h3, k3, h4, k4, h5, k5⟩ := h
  exact ⟨A2, c2, A3, c3, A4, c4, A5, c5, rfl, Kd.C_below h2 hb, k2, Kd.C_below h3 hb, k3, Kd.C_below h4 hb, k4, Kd.C_below h5 hb, k5⟩
/-- .. of which the rows are no longer than a statement's, and the numbers are numbers. -/
structure Fit (s : Stt) : Prop where
  items : s.items.length ≤ 1000000
  cells : s.cells.length ≤ 1000000
  wats : s.wats.length ≤ 1000000
  ids : ∀ x ∈ s.items, (Lit.int .i64 x.f0).wf = true
  on : ∀ x ∈ s.wats, (Lit.int .i64 x.f1).wf = true
theorem Fit.cut {s : Stt} (h : Fit s) (p q : Int → Prop) : Fit (cut s p q) :=
  ⟨Nat.le_trans (List.length_filter_le _ _) h.items, Nat.le_trans (List.length_filter_le _ _) h.cells, Nat.le_trans (List.length_filter_le _ _) h.wats, fun x hx => h.ids x (List.mem_filter.1 hx).1, fun x hx => h.on x (List.mem_filter.1 hx).1⟩

theorem mem_sortL {l : List Int} {x : Int} : x ∈ sortL l ↔ x ∈ l := by unfold sortL; exact List.mem_mergeSort
theorem mem_compact {l : List Int} {x : Int} : x ∈ Lib.compact l ↔ x ∈ l := by
  unfold Lib.compact Lib.compactUpTo
  rw [List.mem_map]
  constructor
  · rintro ⟨j, hj, rfl⟩
    have hl : j < l.length := by simpa using (List.mem_filter.1 hj).1
    rw [getElem!_pos _ _ (by simpa using hl)]
    simp
  · intro hx
    have hex : ∃ y ∈ l, (y == x) = true := ⟨x, hx, by simp⟩
    have hlt := List.findIdx_lt_length_of_exists hex
    have he : l[l.findIdx (fun y => y == x)] = x := by simpa using List.findIdx_getElem (w := hlt)
    refine ⟨_, List.mem_filter.2 ⟨List.mem_range.2 hlt, ?_⟩, ?_⟩
    · unfold Lib.keeps
      by_cases h0 : l.findIdx (fun y => y == x) = 0
      · simp [h0]
      · have hp : l.findIdx (fun y => y == x) - 1 < l.findIdx (fun y => y == x) := by omega
        have hn := List.not_of_lt_findIdx hp
        have h1 : ¬ l[l.findIdx (fun y => y == x) - 1] = x := by simpa using hn
        refine decide_eq_true (Or.inr ?_)
        rw [getElem!_pos _ _ (by simpa using hlt), getElem!_pos _ _ (by simp; omega)]
        simp only [List.getElem_toArray, he]
        exact fun e => h1 e.symm
    · rw [getElem!_pos _ _ (by simpa using hlt)]
      simpa using he
theorem wrap_up {i : Int} {n : Nat} (h0 : 0 ≤ i) (h : i < (n : Int)) (hn : n ≤ 1000000) : wrap64 (i + 1) = i + 1 := by
  unfold wrap64
  omega
theorem kids_l0 (its : List S43) (y : Int) (hn : its.length ≤ 1000000) : ∀ (d i : Nat) (out : List Int), d + i = its.length → out.length ≤ i →
    arena_Kids.l0 (d + 1) y out its (its.length : Int) (i : Int) = (slices_Sort_int_int.f (out ++ ((its.drop i).filter (fun t => decide (t.f1 = y) && !decide (t.f0 = y))).map (fun t => t.f0))).bind fun t => (slices_Compact_int_int.f t).bind some := by
  intro d
  induction d with
  | zero =>
    intro i out h1 h2
    rw [arena_Kids.l0, if_neg (by omega), List.drop_of_length_le (by omega)]
    simp
  | succ d ih =>
    intro i out h1 h2
    have hlt : i < its.length := by omega
    have hrd : rd_T43 its (i : Int) = its[i] := by unfold rd_T43; simp [List.getD_eq_getElem?_getD, hlt]
    have hw : wrap64 ((i : Int) + 1) = ((i + 1 : Nat) : Int) := by rw [wrap_up (n := its.length) (by omega) (by omega) hn]; omega
    rw [arena_Kids.l0, if_pos (by omega), if_pos (by omega), if_pos (by omega), hrd, hw, List.drop_eq_getElem_cons hlt, List.filter_cons]
    by_cases e1 : its[i].f1 = y
    · rw [if_pos e1]
      by_cases e0 : its[i].f0 = y
      · rw [if_pos e0, ih (i + 1) out (by omega) (by omega), if_neg (by simp [e0])]
      · rw [if_neg e0, if_pos (by omega), ih (i + 1) (out ++ [its[i].f0]) (by omega) (by simp; omega), if_pos (by simp [e0, e1])]
        simp
    · rw [if_neg e1, ih (i + 1) out (by omega) (by omega), if_neg (by simp [e1])]
theorem kids_f (its : List S43) (y : Int) (hn : its.length ≤ 1000000) (a b : Int) (l2 : List S34) (l4 : List S129) (l5 : List S132) : ∃ k r, arena_Kids.f k a b l2 its l4 l5 y = some r ∧ (∀ x, x ∈ r ↔ kidOf its y x) ∧ r.length ≤ 1000000 := by
  have h := kids_l0 its y hn its.length 0 [] (by omega) (Nat.le_refl _)
  have hl : ((its.filter (fun t => decide (t.f1 = y) && !decide (t.f0 = y))).map (fun t => t.f0)).length ≤ its.length := by rw [List.length_map]; exact List.length_filter_le _ _
  have hs := sortL_len ((its.filter (fun t => decide (t.f1 = y) && !decide (t.f0 = y))).map (fun t => t.f0))
  have hc := compact_len (sortL ((its.filter (fun t => decide (t.f1 = y) && !decide (t.f0 = y))).map (fun t => t.f0)))
  refine ⟨its.length + 1, Lib.compact (sortL ((its.filter (fun t => decide (t.f1 = y) && !decide (t.f0 = y))).map (fun t => t.f0))), ?_, fun x => ?_, by omega⟩
  · unfold arena_Kids.f
    have e : (0 : Int) = ((0 : Nat) : Int) := rfl
    rw [e, h, List.drop_zero, List.nil_append]
    unfold slices_Sort_int_int.f
    rw [if_pos (by omega), Option.bind_some]
    unfold slices_Compact_int_int.f
    rw [if_pos (by omega)]; rfl
  · rw [mem_compact, mem_sortL, List.mem_map]
    constructor
    · rintro ⟨it, hm, rfl⟩
      have := List.mem_filter.1 hm
      have h2 := this.2
      simp only [Bool.and_eq_true, decide_eq_true_eq, Bool.not_eq_true', decide_eq_false_iff_not] at h2
      exact ⟨it, this.1, h2.1, rfl, h2.2⟩
    · rintro ⟨it, hm, h1, rfl, h3⟩
      exact ⟨it, List.mem_filter.2 ⟨hm, by simp [h1, h3]⟩, rfl⟩
/-- arena.Kids of a state. -/
theorem kids_calls {w : World} {v : Value} {s : Stt} (hS : St w v s) (hF : Fit s) (y : Int) : Calls Try.prog 51 #[v, .int .i64 y] w fun e w' => ∃ v' r, e = .returned v' ∧ Kd.R (Kd.int .i64) 3 w' w.heap.size (fun _ => True) v' r ∧ (∀ x, x ∈ r ↔ kidOf s.items y x) ∧ r.length ≤ 1000000 ∧ Below w.heap.size w w' := by
  obtain ⟨A2, c2, A3, c3, A4, c4, A5, c5, rfl, h2, k2, h3, k3, h4, k4, h5, k5⟩ := hS
  obtain ⟨k, r, hr, hm, hl⟩ := kids_f s.items y hF.items s.clk s.nxt s.defs s.cells s.wats
  refine (arena_Kids.calls k s.clk s.nxt A2 c2 s.defs A3 c3 s.items A4 c4 s.cells A5 c5 s.wats y r w h2 k2 h3 k3 h4 k4 h5 k5 hr).mono ?_
  rintro e w' ⟨v0, rfl, ho, hb⟩
  exact ⟨v0, r, rfl, ho, hm, hl, hb⟩
def agg43 (x : S43) : Value := .agg #[.int .i64 x.f0, .int .i64 x.f1, .int .u8 x.f2, .string x.f3, .int .i64 x.f4, .int .i64 x.f5, .int .u8 x.f6, .string x.f7]
def findI (its : List S43) (id : Int) : Option S43 := its.find? (fun x => x.f0 == id)
theorem findI_there {its : List S43} {id : Int} : There its id ↔ (findI its id).isSome = true := by
  unfold findI There
  rw [List.find?_isSome]
  simp
theorem findI_id {its : List S43} {id : Int} {x : S43} (h : findI its id = some x) : x.f0 = id ∧ x ∈ its := by
  unfold findI at h
  exact ⟨by simpa using List.find?_some h, List.mem_of_find?_eq_some h⟩
theorem findI_at {its : List S43} {id : Int} (x : S43) (h : findI its id = some x) : ∃ j : Nat, idxI (fun t : S43 => t.f0 == id) its = (j : Int) ∧ ∃ hj : j < its.length, its[j] = x := by
  unfold findI at h
  have hex : ∃ y ∈ its, (y.f0 == id) = true := ⟨x, List.mem_of_find?_eq_some h, by simpa using List.find?_some h⟩
  have hlt := List.findIdx_lt_length_of_exists hex
  refine ⟨its.findIdx (fun t => t.f0 == id), ?_, hlt, ?_⟩
  · unfold idxI; rw [if_pos hlt]
  · have := List.find?_eq_some_iff_getElem.1 h
    obtain ⟨hp, i, hi, he, hn⟩ := this
    have e : its.findIdx (fun t => t.f0 == id) = i := (List.findIdx_eq hi).2 ⟨by rw [he]; exact hp, fun j hj => by simpa using hn j hj⟩
    simp only [e, he]
theorem findI_none {its : List S43} {id : Int} (h : findI its id = none) : idxI (fun t : S43 => t.f0 == id) its = -1 := by
  unfold findI at h
  exact idxI_none _ _ (fun j hj => by
    have := List.find?_eq_none.1 h its[j] (List.getElem_mem hj)
    simpa using this)
def z43' : S43 := ⟨0, 0, 0, ⟨#[]⟩, 0, 0, 0, ⟨#[]⟩⟩
/-- arena.Find of a state. -/
theorem find_calls {w : World} {v : Value} {s : Stt} (hS : St w v s) (hF : Fit s) (id : Int) : Calls Try.prog 16 #[v, .int .i64 id] w fun e w' => e = .returned (.tuple #[agg43 ((findI s.items id).getD z43'), .bool (findI s.items id).isSome]) ∧ Below w.heap.size w w' := by
  obtain ⟨A2, c2, A3, c3, A4, c4, A5, c5, rfl, h2, k2, h3, k3, h4, k4, h5, k5⟩ := hS
  have hl := hF.items
  refine arena_Find.calls s.clk s.nxt A2 c2 s.defs A3 c3 s.items A4 c4 s.cells A5 c5 s.wats id _ _ _ _ _ _ _ _ _ w h2 k2 h3 k3 h4 k4 h5 k5 ?_
  unfold arena_Find.f arena_place.f
  rw [if_pos (by omega), Option.bind_some]
  cases hf : findI s.items id with
  | none =>
    rw [findI_none hf]
    rfl
  | some x =>
    obtain ⟨j, hj, hlt, rfl⟩ := findI_at x hf
    have hrd : rd_T43 s.items (j : Int) = s.items[j] := by unfold rd_T43; simp [List.getD_eq_getElem?_getD, hlt]
    rw [hj, if_neg (by omega), if_pos (by omega), if_pos (by omega), hrd]
    rfl
end Go.Proofs.Ythonmfcollafkaa.P
