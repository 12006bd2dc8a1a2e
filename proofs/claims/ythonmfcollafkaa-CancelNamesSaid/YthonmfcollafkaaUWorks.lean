import Derived.Test.YthonmfcollafkaaHClear
import Derived.Test.YthonmfcollafkaaPx46
import Derived.Test.YthonmfcollafkaaPx47
import Derived.Test.YthonmfcollafkaaPx51
import Derived.Test.YthonmfcollafkaaPx62
import Derived.Test.YthonmfcollafkaaPx9
/- The examples of the laws of cancel: contracts in few words. -/
namespace Go.Proofs.Ythonmfcollafkaa.P
open Go.RowKit Go.Proofs.YthonmfcollafkaaW.PrintWords Go.Proofs.YthonmfcollafkaaW.PrintLast Go.Proofs.YthonmfcollafkaaW.PrintMore
set_option linter.unusedVariables false
set_option linter.unusedSimpArgs false

theorem find_f (a b : Int) (l2 : List S34) (its : List S43) (l4 : List S129) (l5 : List S132) (hl : its.length ≤ 1000000000) (id : Int) : arena_Find.f a b l2 its l4 l5 id = some (((findI its id).getD z43').f0, ((findI its id).getD z43').f1, ((findI its id).getD z43').f2, ((findI its id).getD z43').f3, ((findI its id).getD z43').f4, ((findI its id).getD z43').f5, ((findI its id).getD z43').f6, ((findI its id).getD z43').f7, (findI its id).isSome) := by
  unfold arena_Find.f arena_place.f
  rw [if_pos (by omega), Option.bind_some]
  cases hf : findI its id with
  | none =>
    rw [findI_none hf]
    rfl
  | some x =>
    obtain ⟨j, hj, hlt, rfl⟩ := findI_at x hf
    have hrd : rd_T43 its (j : Int) = its[j] := by unfold rd_T43; simp [List.getD_eq_getElem?_getD, hlt]
    rw [hj, if_neg (by omega), if_pos (by omega), if_pos (by omega), hrd]
    rfl
def goneL (a b : List S43) : List Int := (a.filter (fun t => !(findI b t.f0).isSome)).map (fun t => t.f0)
theorem gone_l0 (its its2 : List S43) (hn : its.length ≤ 1000000) (hn2 : its2.length ≤ 1000000) (a b : Int) (l2 : List S34) (l4 : List S129) (l5 : List S132) : ∀ (d i : Nat) (out : List Int), d + i = its.length → out.length ≤ i →
    cancel_Gone.l0 (d + 1) out its (its.length : Int) (i : Int) a b l2 its2 l4 l5 = (slices_Sort_int_int.f (out ++ goneL (its.drop i) its2)).bind fun t => (slices_Compact_int_int.f t).bind some := by
  intro d
  induction d with
  | zero =>
    intro i out h1 h2
    rw [cancel_Gone.l0, if_neg (by omega), List.drop_of_length_le (by omega)]
    simp [goneL]
  | succ d ih =>
    intro i out h1 h2
    have hlt : i < its.length := by omega
    have hrd : rd_T43 its (i : Int) = its[i] := by unfold rd_T43; simp [List.getD_eq_getElem?_getD, hlt]
    have hw : wrap64 ((i : Int) + 1) = ((i + 1 : Nat) : Int) := by rw [wrap_up (n := its.length) (by omega) (by omega) hn]; omega
    rw [cancel_Gone.l0, if_pos (by omega), if_pos (by omega), if_pos (by omega), hrd, hw, find_f _ _ _ _ _ _ (by omega), Option.bind_some, List.drop_eq_getElem_cons hlt]
    unfold goneL at ih ⊢
    rw [List.filter_cons]
    cases hs : (findI its2 its[i].f0).isSome with
    | true =>
      simp only [hs, if_true, Bool.not_true, Bool.false_eq_true, if_false]
      rw [ih (i + 1) out (by omega) (by omega)]
    | false =>
      simp only [hs, if_true, Bool.not_false, Bool.false_eq_true, if_false]
      rw [if_pos (by omega), ih (i + 1) (out ++ [its[i].f0]) (by omega) (by simp; omega)]
      simp
theorem goneL_len (a b : List S43) : (goneL a b).length ≤ a.length := by unfold goneL; rw [List.length_map]; exact List.length_filter_le _ _
/-- cancel.Gone of two states. -/
theorem gone_calls {w : World} {v v2 : Value} {s s2 : Stt} (hS : St w v s) (hF : Fit s) (hS2 : St w v2 s2) (hF2 : Fit s2) : Calls Try.prog 47 #[v, v2] w fun e w' => ∃ v', e = .returned v' ∧ kI.R 3 w' w.heap.size (fun _ => True) v' (Lib.compact (sortL (goneL s.items s2.items))) ∧ Below w.heap.size w w' := by
  obtain ⟨A2, c2, A3, c3, A4, c4, A5, c5, rfl, h2, k2, h3, k3, h4, k4, h5, k5⟩ := hS
  obtain ⟨B2, d2, B3, d3, B4, d4, B5, d5, rfl, g2, m2, g3, m3, g4, m4, g5, m5⟩ := hS2
  have hn := hF.items
  have hg := goneL_len s.items s2.items
  have hs := sortL_len (goneL s.items s2.items)
  refine cancel_Gone.calls (s.items.length + 1) s.clk s.nxt A2 c2 s.defs A3 c3 s.items A4 c4 s.cells A5 c5 s.wats s2.clk s2.nxt B2 d2 s2.defs B3 d3 s2.items B4 d4 s2.cells B5 d5 s2.wats _ w h2 k2 h3 k3 h4 k4 h5 k5 g2 m2 g3 m3 g4 m4 g5 m5 ?_
  unfold cancel_Gone.f
  have e : (0 : Int) = ((0 : Nat) : Int) := rfl
  rw [e, gone_l0 s.items s2.items hF.items hF2.items s2.clk s2.nxt s2.defs s2.cells s2.wats s.items.length 0 [] (by omega) (Nat.le_refl _), List.drop_zero, List.nil_append]
  unfold slices_Sort_int_int.f
  rw [if_pos (by omega), Option.bind_some]
  unfold slices_Compact_int_int.f
  rw [if_pos (by omega)]; rfl
/-- A state in which just some items, their cells, and the watches of some, are not. -/
def cutL (s : Stt) (l m : List Int) : Stt := { s with items := s.items.filter (fun x => !decide (x.f0 ∈ l)), cells := s.cells.filter (fun x => !decide (x.f0 ∈ l)), wats := s.wats.filter (fun x => !decide (x.f1 ∈ m)) }
theorem cut_L (s : Stt) {p q : Int → Prop} {l m : List Int} (h : ∀ x, p x ↔ x ∈ l) (h' : ∀ x, q x ↔ x ∈ m) : cut s p q = cutL s l m := by
  unfold cut cutL
  simp only [Stt.mk.injEq, true_and]
  refine ⟨?_, ?_, ?_⟩ <;> (apply List.filter_congr; intro x _; simp [h, h'])
def towerS : Stt := ⟨7, 9, [], [⟨1, 0, 1, ⟨#[]⟩, -1, 0, 0, ⟨#[]⟩⟩, ⟨2, 1, 2, ⟨#[]⟩, 0, 0, 0, ⟨#[]⟩⟩, ⟨3, 2, 1, ⟨#[]⟩, 0, 0, 0, ⟨#[]⟩⟩, ⟨4, 3, 2, ⟨#[]⟩, 0, 0, 0, ⟨#[]⟩⟩, ⟨5, 1, 2, ⟨#[]⟩, 0, 0, 0, ⟨#[]⟩⟩],
  [⟨1, ⟨#[120]⟩, ⟨0, 0, ⟨#[]⟩⟩⟩, ⟨2, ⟨#[120]⟩, ⟨0, 0, ⟨#[]⟩⟩⟩, ⟨3, ⟨#[120]⟩, ⟨0, 0, ⟨#[]⟩⟩⟩, ⟨4, ⟨#[120]⟩, ⟨0, 0, ⟨#[]⟩⟩⟩, ⟨5, ⟨#[120]⟩, ⟨0, 0, ⟨#[]⟩⟩⟩],
  [⟨11, 1, 0, 0, ⟨#[]⟩, 0, false⟩, ⟨12, 2, 0, 0, ⟨#[]⟩, 0, false⟩, ⟨13, 3, 0, 0, ⟨#[]⟩, 0, false⟩, ⟨14, 4, 0, 0, ⟨#[]⟩, 0, false⟩, ⟨15, 5, 0, 0, ⟨#[]⟩, 0, false⟩]⟩
theorem tower_f : callboardlaw21_tower.f 10 = some (7, 9, towerS.defs, towerS.items, towerS.cells, towerS.wats) := by kernel_rfl
theorem tower_calls (w : World) : Calls Try.prog 52 #[] w fun e w' => ∃ v, e = .returned v ∧ St w' v towerS ∧ Below w.heap.size w w' := by
  refine (callboardlaw21_tower.calls 10 7 9 towerS.defs towerS.items towerS.cells towerS.wats w tower_f).mono ?_
  rintro e w' ⟨v2, v3, v4, v5, rfl, r2, r3, r4, r5, hb⟩
  obtain ⟨A2, c2, rfl, i2, j2⟩ := Kd.R_reads r2
  exact ⟨_, rfl, st_of (s := towerS) j2 i2 r3 r4 r5, hb⟩
theorem tower_fit : Fit towerS := ⟨by decide, by decide, by decide, by decide, by decide⟩
theorem left_calls {w : World} {v : Value} {s : Stt} (hS : St w v s) {A : Option Addr} {c : Nat} (ids : List Int) (hC : kI.C w A ids.length ids) (hc : ids.length ≤ c) (k : Nat) (h : callboardlaw21_left.f k s.clk s.nxt s.defs s.items s.cells s.wats ids = some true) : Calls Try.prog 55 #[v, .slice A ids.length c] w fun e w' => e = .returned (.bool true) ∧ Below w.heap.size w w' := by
  obtain ⟨A2, c2, A3, c3, A4, c4, A5, c5, rfl, h2, k2, h3, k3, h4, k4, h5, k5⟩ := hS
  exact callboardlaw21_left.calls k s.clk s.nxt A2 c2 s.defs A3 c3 s.items A4 c4 s.cells A5 c5 s.wats A c ids true w h2 k2 h3 k3 h4 k4 h5 k5 hC hc h ⟨rfl⟩
theorem watched_calls {w : World} {v : Value} {s : Stt} (hS : St w v s) {A : Option Addr} {c : Nat} (ids : List Int) (hC : kI.C w A ids.length ids) (hc : ids.length ≤ c) (k : Nat) (h : callboardlaw21_watched.f k s.clk s.nxt s.defs s.items s.cells s.wats ids = some true) : Calls Try.prog 53 #[v, .slice A ids.length c] w fun e w' => e = .returned (.bool true) ∧ Below w.heap.size w w' := by
  obtain ⟨A2, c2, A3, c3, A4, c4, A5, c5, rfl, h2, k2, h3, k3, h4, k4, h5, k5⟩ := hS
  exact callboardlaw21_watched.calls k s.clk s.nxt A2 c2 s.defs A3 c3 s.items A4 c4 s.cells A5 c5 s.wats A c ids true w h2 k2 h3 k3 h4 k4 h5 k5 hC hc h ⟨rfl⟩
theorem ints_calls {w : World} {A B : Option Addr} {c d : Nat} (l m : List Int) (hC : kI.C w A l.length l) (hc : l.length ≤ c) (hD : kI.C w B m.length m) (hd : m.length ≤ d) (k : Nat) (h : callboardref05_Ints.f k l m = some true) : Calls Try.prog 35 #[.slice A l.length c, .slice B m.length d] w fun e w' => e = .returned (.bool true) ∧ Below w.heap.size w w' :=
  (callboardref05_Ints.calls k A c l B d m true w hC hc hD hd h ⟨rfl⟩).mono fun e w' ⟨he, hd⟩ => ⟨he, hd.below⟩
theorem ids_C (W : World) (l : List Int) (hl : l.length ≤ 1000) : kI.C (W.alloc (.cells (nums .i64 l).toArray 3 (0, 0))) (some ⟨W.heap.size, 0, none⟩) l.length l := by
  have h : kI.R 3 (W.alloc (.cells (nums .i64 l).toArray 3 (0, 0))) 0 (fun _ => True) (.slice (some ⟨W.heap.size, 0, none⟩) l.length l.length) l := Kd.R_of_own (own_lit W 0 3 .i64 l (Nat.zero_le _) (by omega)) (fun _ _ => trivial)
  exact (Kd.Q_reads' (Kd.Q_of_R h)).2.2
end Go.Proofs.Ythonmfcollafkaa.P
