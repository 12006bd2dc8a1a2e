import Derived.Test.YthonmfcollafkaaHIdx
import Derived.Lib.SliceRun
import Derived.Laws.CopyRow
import Derived.Laws.CopyOwn
import Derived.Deep.MidRow
import Derived.Deep.RegionLaw
/- Rows of elements of several cells, of the call's own, told as their cells; what is left of them when some go. -/
namespace Go.Proofs.Ythonmfcollafkaa.P
open Go.RowKit Go.Proofs.YthonmfcollafkaaW.PrintWords Go.Proofs.YthonmfcollafkaaW.PrintLast Go.Proofs.YthonmfcollafkaaW.PrintMore
set_option linter.unusedVariables false
set_option linter.unusedSimpArgs false

/-- How a kind's elements stand as cells. -/
structure Enc {α : Type} (d : Kd α) (sz : Nat) (enc : α → List Value) : Prop where
  size : d.sz = sz
  len : ∀ x, (enc x).length = sz
  one : ∀ x, ∀ v ∈ enc x, v.oneCell' = true
  openM : ∀ {w : World} {base : Nat} {ok : Nat → Prop} {x : α} {cs : List Value}, d.M w base ok x cs → cs = enc x
  mkM : ∀ (w : World) (base : Nat) (ok : Nat → Prop) (x : α), d.M w base ok x (enc x)
def cellsOf {α : Type} (enc : α → List Value) (l : List α) : List Value := l.flatMap enc
section
variable {α : Type} {d : Kd α} {sz : Nat} {enc : α → List Value}
theorem cellsOf_append (l m : List α) : cellsOf enc (l ++ m) = cellsOf enc l ++ cellsOf enc m := by unfold cellsOf; rw [List.flatMap_append]
theorem cellsOf_len (h : Enc d sz enc) (l : List α) : (cellsOf enc l).length = l.length * sz := by
  unfold cellsOf
  induction l with
  | nil => simp
  | cons x l ih => rw [List.flatMap_cons, List.length_append, ih, h.len, List.length_cons, Nat.succ_mul]; omega
theorem cellsOf_one (h : Enc d sz enc) (l : List α) : ∀ v ∈ cellsOf enc l, v.oneCell' = true := by
  intro v hv
  obtain ⟨x, _, hx⟩ := List.mem_flatMap.1 hv
  exact h.one x v hx
theorem cellsOf_take (h : Enc d sz enc) (l : List α) (i : Nat) : (cellsOf enc l).take (i * sz) = cellsOf enc (l.take i) := by
  by_cases hi : i ≤ l.length
  · have e : cellsOf enc l = cellsOf enc (l.take i) ++ cellsOf enc (l.drop i) := by rw [← cellsOf_append, List.take_append_drop]
    have hl : (cellsOf enc (l.take i)).length = i * sz := by rw [cellsOf_len h, List.length_take, Nat.min_eq_left hi]
    rw [e, ← hl, List.take_left]
  · rw [List.take_of_length_le (by rw [cellsOf_len h]; exact Nat.mul_le_mul_right _ (by omega)), List.take_of_length_le (by omega)]
theorem cellsOf_drop (h : Enc d sz enc) (l : List α) (i : Nat) : (cellsOf enc l).drop (i * sz) = cellsOf enc (l.drop i) := by
  by_cases hi : i ≤ l.length
  · have e : cellsOf enc l = cellsOf enc (l.take i) ++ cellsOf enc (l.drop i) := by rw [← cellsOf_append, List.take_append_drop]
    have hl : (cellsOf enc (l.take i)).length = i * sz := by rw [cellsOf_len h, List.length_take, Nat.min_eq_left hi]
    rw [e, ← hl, List.drop_left]
  · rw [List.drop_of_length_le (by rw [cellsOf_len h]; exact Nat.mul_le_mul_right _ (by omega)), List.drop_of_length_le (by omega)]; rfl
theorem reps_cellsOf (h : Enc d sz enc) {w : World} {base : Nat} {ok : Nat → Prop} : ∀ (l : List α) (inner : List Value), Reps (d.M w base ok) sz l inner → inner = cellsOf enc l := by
  intro l
  induction l with
  | nil => intro inner hr; exact List.eq_nil_of_length_eq_zero (by simpa using hr.1)
  | cons x l ih =>
    intro inner hr
    have h0 := h.openM (hr.2 0 x rfl)
    have h1 := ih (inner.drop sz) ⟨by rw [List.length_drop, hr.1, List.length_cons, Nat.succ_mul]; omega, fun j p hj => by
      have := hr.2 (j + 1) p (by simpa using hj)
      rwa [List.drop_drop, show sz + j * sz = (j + 1) * sz from by rw [Nat.succ_mul]; omega]⟩
    rw [← List.take_append_drop sz inner, h1]
    simp only [Nat.zero_mul, List.drop_zero] at h0
    rw [h0]; rfl
theorem cellsOf_reps (h : Enc d sz enc) (w : World) (base : Nat) (ok : Nat → Prop) (l : List α) : Reps (d.M w base ok) sz l (cellsOf enc l) := by
  refine ⟨cellsOf_len h l, fun j p hj => ?_⟩
  rw [cellsOf_drop h]
  obtain ⟨hlt, rfl⟩ := List.getElem?_eq_some_iff.1 hj
  rw [List.drop_eq_getElem_cons hlt]
  unfold cellsOf
  rw [List.flatMap_cons, List.take_left' (h.len _)]
  exact h.mkM _ _ _ _
theorem own_of_row (h : Enc d sz enc) {e : Nat} {w : World} {base : Nat} {ok : Nat → Prop} {v : Value} {xs : List α} (hr : d.R e w base ok v xs) : w.ownsRow base e sz v xs.length (cellsOf enc xs) := by
  obtain ⟨_, inner, ho, hp⟩ := hr
  rw [h.size] at ho hp
  rw [← reps_cellsOf h xs inner hp]; exact ho
theorem row_of_own (h : Enc d sz enc) {e : Nat} {w : World} {base n : Nat} {v : Value} {xs : List α} (hn : xs.length = n) (ho : w.ownsRow base e sz v n (cellsOf enc xs)) : d.R e w base (fun _ => True) v xs := by
  subst hn
  refine ⟨fun _ _ => trivial, cellsOf enc xs, ?_, ?_⟩
  · rw [h.size]; exact ho
  · rw [h.size]; exact cellsOf_reps h _ _ _ _
/-- The cells of one element of a row. -/
theorem elem_cells (h : Enc d sz enc) {w : World} {b : Nat} {cur : Array Value} {e : TypeId} {j : Nat} {x : α} {l : List α} {m : Nat} (hb : w.heap[b]? = some (.cells cur e (0, 0))) (hx : (cur.toList.drop (j * sz)).take (m * sz) = cellsOf enc (x :: l)) (q : Nat) (u : Value) (hq : (enc x)[q]? = some u) : w.cell? ⟨b, j * sz + q, none⟩ = some u := by
  have hlt : q < sz := by
    have := (List.getElem?_eq_some_iff.1 hq).1
    rw [h.len] at this
    exact this
  have h1 : (cellsOf enc (x :: l))[q]? = some u := by
    unfold cellsOf
    rw [List.flatMap_cons, List.getElem?_append_left (by rw [h.len]; exact hlt)]
    exact hq
  rw [← hx, List.getElem?_take] at h1
  split at h1
  · rw [List.getElem?_drop] at h1
    rw [blk_cell hb, ← Array.getElem?_toList]
    exact h1
  · cases h1
/-- While elements go: j have been looked at, i are kept. -/
structure DInv (sz : Nat) (enc : α → List Value) (p : α → Bool) (xs : List α) (c i j : Nat) (cur : List Value) : Prop where
  size : cur.length = c * sz
  cap : xs.length ≤ c
  at_ : j ≤ xs.length
  kept : i = ((xs.take j).filter fun x => !p x).length
  low : cur.take (i * sz) = cellsOf enc ((xs.take j).filter fun x => !p x)
  high : (cur.drop (j * sz)).take ((xs.length - j) * sz) = cellsOf enc (xs.drop j)
theorem DInv.le {p : α → Bool} {xs : List α} {c i j : Nat} {cur : List Value} (h : DInv sz enc p xs c i j cur) : i ≤ j := by
  have := List.length_filter_le (fun x => !p x) (xs.take j)
  rw [← h.kept, List.length_take] at this
  omega
theorem DInv.start (he : Enc d sz enc) {p : α → Bool} {xs : List α} {c i : Nat} {cur : List Value} (hs : cur.length = c * sz) (hc : xs.length ≤ c) (ht : cur.take (xs.length * sz) = cellsOf enc xs) (hi : i < xs.length) (hp : p xs[i] = true) (hn : ∀ j, (hj : j < xs.length) → j < i → p xs[j] = false) : DInv sz enc p xs c i (i + 1) cur := by
  have e0 : (xs.take i).filter (fun x => !p x) = xs.take i := List.filter_eq_self.2 (fun x hx => by
    obtain ⟨j, hj, rfl⟩ := List.getElem_of_mem hx
    rw [List.length_take] at hj
    rw [List.getElem_take, hn j (by omega) (by omega)]; rfl)
  have e : (xs.take (i + 1)).filter (fun x => !p x) = xs.take i := by
    rw [List.take_succ_eq_append_getElem hi, List.filter_append, e0]; simp [hp]
  refine ⟨hs, hc, by omega, by rw [e, List.length_take]; omega, ?_, ?_⟩
  · rw [e, ← cellsOf_take he, ← ht, List.take_take, Nat.min_eq_left (Nat.mul_le_mul_right _ (by omega))]
  · rw [← cellsOf_drop he, ← ht, List.drop_take, Nat.mul_sub_right_distrib]
theorem DInv.gone (he : Enc d sz enc) {p : α → Bool} {xs : List α} {c i j : Nat} {cur : List Value} (h : DInv sz enc p xs c i j cur) (hj : j < xs.length) (hp : p xs[j] = true) : DInv sz enc p xs c i (j + 1) cur := by
  have e : (xs.take (j + 1)).filter (fun x => !p x) = (xs.take j).filter (fun x => !p x) := by
    rw [List.take_succ_eq_append_getElem hj, List.filter_append]; simp [hp]
  refine ⟨h.size, h.cap, by omega, by rw [e]; exact h.kept, by rw [e]; exact h.low, ?_⟩
  have h1 := h.high
  have h2 : ((cur.drop (j * sz)).take ((xs.length - j) * sz)).drop sz = (cellsOf enc (xs.drop j)).drop sz := by rw [h1]
  rw [List.drop_take, List.drop_drop, show (cellsOf enc (xs.drop j)).drop sz = cellsOf enc (xs.drop (j + 1)) from by
    have := cellsOf_drop he (xs.drop j) 1
    rwa [Nat.one_mul, List.drop_drop] at this] at h2
  rw [show (j + 1) * sz = j * sz + sz from by rw [Nat.succ_mul], show (xs.length - (j + 1)) * sz = (xs.length - j) * sz - sz from by rw [show xs.length - (j + 1) = xs.length - j - 1 from by omega, Nat.mul_sub_right_distrib, Nat.one_mul]]
  exact h2
theorem DInv.stay (he : Enc d sz enc) {p : α → Bool} {xs : List α} {c i j : Nat} {cur cur' : List Value} (h : DInv sz enc p xs c i j cur) (hj : j < xs.length) (hp : p xs[j] = false) (hc : cur' = cur.take (i * sz) ++ enc xs[j] ++ cur.drop (i * sz + (enc xs[j]).length)) : DInv sz enc p xs c (i + 1) (j + 1) cur' := by
  have e : (xs.take (j + 1)).filter (fun x => !p x) = (xs.take j).filter (fun x => !p x) ++ [xs[j]] := by
    rw [List.take_succ_eq_append_getElem hj, List.filter_append]; simp [hp]
  have hle := h.le
  have hm1 : (i + 1) * sz ≤ (j + 1) * sz := Nat.mul_le_mul_right _ (by omega)
  have hm2 : (j + 1) * sz ≤ c * sz := Nat.mul_le_mul_right _ (by have := h.cap; omega)
  have hs1 : (i + 1) * sz = i * sz + sz := Nat.succ_mul _ _
  have hs2 : (j + 1) * sz = j * sz + sz := Nat.succ_mul _ _
  have hl := h.size
  have hen := he.len xs[j]
  have hlt : (cur.take (i * sz)).length = i * sz := by rw [List.length_take]; omega
  refine ⟨?_, h.cap, by omega, by rw [e, List.length_append, ← h.kept]; rfl, ?_, ?_⟩
  · rw [hc]; simp only [List.length_append, List.length_take, List.length_drop, hen]; omega
  · rw [e, cellsOf_append, ← h.low, hc, hs1]
    have : (cur.take (i * sz) ++ enc xs[j]).length = i * sz + sz := by rw [List.length_append, hlt, hen]
    rw [← this, List.take_left]
    unfold cellsOf; simp
  · have hnil : ∀ l : List α, l.filter (fun x => !(fun _ => true) x) = [] := fun l => List.filter_eq_nil_iff.2 (by simp)
    have hg := (DInv.gone (p := fun _ => true) he (xs := xs) (c := c) (i := 0) (j := j) (cur := cur) ⟨hl, h.cap, h.at_, by rw [hnil]; rfl, by rw [hnil]; simp [cellsOf], h.high⟩ hj rfl).high
    rw [← hg, hc, List.drop_append, List.drop_eq_nil_of_le (by rw [List.length_append, hlt, hen]; omega), List.nil_append, List.length_append, hlt, hen, List.drop_drop]
    congr 2
    omega
theorem DInv.done {p : α → Bool} {xs : List α} {c i : Nat} {cur : List Value} (h : DInv sz enc p xs c i xs.length cur) : i = (xs.filter fun x => !p x).length ∧ cur.take (i * sz) = cellsOf enc (xs.filter fun x => !p x) := by
  have h1 := h.kept
  have h2 := h.low
  rw [List.take_length] at h1 h2
  exact ⟨h1, h2⟩
end
/-- clear, over elements of several cells. -/
theorem run_clear_rows {P : Program} (w : World) (sT ty elem : TypeId) (zv : Value) (b o m c : Nat) (hm : 0 < m) (hu : P.underlying sT = some (.slice elem)) (hz : ∀ w, (zeroValue elem).run P w = .ok zv w)
    (hc : ∀ j, j < (Builtin.zeroCells zv.cells m).size → (w.cell? ⟨b, o + j, none⟩).isSome = true) (hf : ∀ j, j < (Builtin.zeroCells zv.cells m).size → w.frozen? ⟨b, o + j, none⟩ = false) (h1 : ∀ v ∈ (Builtin.zeroCells zv.cells m).toList, v.oneCell' = true) :
    (Builtin.clear_ #[sT] ty #[.slice (some ⟨b, o, none⟩) m c]).run P w = .ok (.tuple #[]) (w.setCells b o (Builtin.zeroCells zv.cells m).toList) := by
  have hst := run_storeCells_cells (P := P) b o (Builtin.zeroCells zv.cells m).toList 0 w (by simpa using hc) (by simpa using hf) h1
  simp only [Nat.add_zero] at hst
  obtain ⟨q, rfl⟩ : ∃ q, m = q + 1 := ⟨m - 1, by omega⟩
  simp [Builtin.clear_, run_underlying hu, hz, hst]
end Go.Proofs.Ythonmfcollafkaa.P
