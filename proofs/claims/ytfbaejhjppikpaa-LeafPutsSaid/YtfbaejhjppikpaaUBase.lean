import Derived.Test.YtfbaejhjppikpaaPx5
import Derived.Test.YtfbaejhjppikpaaPx13
import Derived.Test.YtfbaejhjppikpaaPx16
import Derived.Test.YtfbaejhjppikpaaHEncode
/- Plain laws that every statement of the layer leans on: the examples hold; what is too great; a node as the program has it. -/
namespace Go.Proofs.Ytfbaejhjppikpaa.P
open Go.RowKit Go.Proofs.YtfbaejhjppikpaaW.PrintWords Go.Proofs.YtfbaejhjppikpaaW.PrintLast Go.Proofs.YtfbaejhjppikpaaW.PrintMore

theorem le_more {α : Type} {f : Nat → Option α} (hm : ∀ k, LeO (f k) (f (k + 1))) {k0 : Nat} {r : α} (h : f k0 = some r) : ∀ k, k0 ≤ k → f k = some r := by
  intro k hk
  induction k with
  | zero => rw [show k0 = 0 from by omega] at h; exact h
  | succ k ih =>
    by_cases e : k0 = k + 1
    · exact e ▸ h
    · exact hm k _ (ih (by omega))
theorem awake_tells : ∀ k, 20 ≤ k → callboardlaw06_awake.f k = some true :=
  le_more callboardlaw06_awake.mono (k0 := 20) (by decide +kernel)

theorem rdE5 (l : List S75) (i : Nat) (h : i < l.length) : rd_T75 l (i : Int) = l[i] := by unfold rd_T75; simp [List.getD_eq_getElem?_getD, h]
theorem rdB6 (l : List S76) (i : Nat) (h : i < l.length) : rd_T76 l (i : Int) = l[i] := by unfold rd_T76; simp [List.getD_eq_getElem?_getD, h]
def bigE (x : S75) : Bool := decide (300 < x.f0.size) || decide (300 < x.f1.size)
def bigB (x : S76) : Bool := decide (300 < x.f0.size)
def largeB (l : List S75) (m : List S76) : Bool := (decide (200 < l.length) || decide (200 < m.length)) || ((l.any bigE) || (m.any bigB))
theorem large_l1 (a : Bool) (l : List S75) (m : List S76) (hm : m.length ≤ 200) : ∀ (d i k : Nat), i + d = m.length → callboardlaw06_large.l1 (d + (k + 1)) (i : Int) a l m = some ((m.drop i).any bigB) := by
  intro d
  induction d with
  | zero =>
    intro i k h
    rw [show 0 + (k + 1) = k + 1 from by omega]
    simp only [callboardlaw06_large.l1]
    rw [if_neg (by omega), List.drop_eq_nil_of_le (by omega)]; rfl
  | succ d ih =>
    intro i k h
    obtain ⟨q, hq⟩ : ∃ q, q = d + (k + 1) := ⟨_, rfl⟩
    rw [show d + 1 + (k + 1) = q + 1 from by omega]
    simp only [callboardlaw06_large.l1]
    have hi : i < m.length := by omega
    rw [if_pos (by omega), if_pos (by omega), wrap_nat i (by omega), hq, ih (i + 1) k (by omega), rdB6 m i hi, List.drop_eq_getElem_cons hi, List.any_cons]
    unfold bigB
    by_cases c : 300 < m[i].f0.size
    · rw [if_pos (by omega)]; simp [c]
    · rw [if_neg (by omega)]; simp [c]
theorem large_l0 (a : Bool) (l : List S75) (m : List S76) (hl : l.length ≤ 200) : ∀ (d i k : Nat), i + d = l.length → callboardlaw06_large.l0 (d + (k + 1)) (i : Int) a l m = if (l.drop i).any bigE then some true else callboardlaw06_large.l1 k 0 a l m := by
  intro d
  induction d with
  | zero =>
    intro i k h
    rw [show 0 + (k + 1) = k + 1 from by omega]
    simp only [callboardlaw06_large.l0]
    rw [if_neg (by omega), List.drop_eq_nil_of_le (by omega)]; rfl
  | succ d ih =>
    intro i k h
    obtain ⟨q, hq⟩ : ∃ q, q = d + (k + 1) := ⟨_, rfl⟩
    rw [show d + 1 + (k + 1) = q + 1 from by omega]
    simp only [callboardlaw06_large.l0]
    have hi : i < l.length := by omega
    rw [if_pos (by omega), if_pos (by omega), wrap_nat i (by omega), hq, ih (i + 1) k (by omega), rdE5 l i hi, List.drop_eq_getElem_cons hi, List.any_cons]
    unfold bigE
    by_cases c : 300 < l[i].f0.size
    · rw [if_pos (by omega)]; simp [c]
    · rw [if_neg (by omega)]
      by_cases c2 : 300 < l[i].f1.size
      · rw [if_pos (by omega)]; simp [c2]
      · rw [if_neg (by omega)]; simp [c, c2]
theorem large_tells (a : Bool) (l : List S75) (m : List S76) : ∀ k, 5000 ≤ k → callboardlaw06_large.f k a l m = some (largeB l m) := by
  intro k hk
  unfold callboardlaw06_large.f largeB
  obtain ⟨q, rfl⟩ : ∃ q, k = q + 1 := ⟨k - 1, by omega⟩
  by_cases h1 : (l.length : Int) > 200
  · rw [if_pos h1]
    have : 200 < l.length := by omega
    simp [callboardlaw06_large.j0, this]
  · rw [if_neg h1]
    have h1' : decide (200 < l.length) = false := decide_eq_false (by omega)
    by_cases h2 : (m.length : Int) > 200
    · have : 200 < m.length := by omega
      have h2'' : decide ((m.length : Int) > 200) = true := decide_eq_true h2
      rw [h2'']
      simp [callboardlaw06_large.j0, this]
    · have h2' : decide (200 < m.length) = false := decide_eq_false (by omega)
      have h2'' : decide ((m.length : Int) > 200) = false := decide_eq_false h2
      rw [h2'', h1', h2']
      simp only [callboardlaw06_large.j0, Bool.false_eq_true, if_false, Bool.false_or]
      obtain ⟨p, hp⟩ : ∃ p, q = l.length + ((m.length + (p + 1)) + 1) := ⟨q - l.length - m.length - 2, by omega⟩
      rw [hp]
      have e0 := large_l0 a l m (by omega) l.length 0 (m.length + (p + 1)) (by omega)
      have e1 := large_l1 a l m (by omega) m.length 0 p (by omega)
      simp only [Int.natCast_zero, List.drop_zero] at e0 e1
      rw [e0, e1]
      by_cases ho : l.any bigE = true
      · rw [if_pos ho, ho]; rfl
      · rw [if_neg ho]; rw [show l.any bigE = false from by simpa using ho]; rfl

/-- An entry, a branch, as the program has it. -/
def toE (x : S75) : S47 := ⟨x.f0, x.f1⟩
def toB (x : S76) : S36 := ⟨x.f0, x.f1⟩
theorem entries_l0 (l : List S75) (hl : l.length ≤ 1000000) : ∀ (d i k : Nat) (out : List S47), i + d = l.length → out.length ≤ i → callboardlaw06_entries.l0 (d + (k + 1)) l out (i : Int) = some (out ++ (l.drop i).map toE) := by
  intro d
  induction d with
  | zero =>
    intro i k out h ho
    rw [show 0 + (k + 1) = k + 1 from by omega]
    simp only [callboardlaw06_entries.l0]
    rw [if_neg (by omega), List.drop_eq_nil_of_le (by omega)]; simp
  | succ d ih =>
    intro i k out h ho
    obtain ⟨q, hq⟩ : ∃ q, q = d + (k + 1) := ⟨_, rfl⟩
    rw [show d + 1 + (k + 1) = q + 1 from by omega]
    simp only [callboardlaw06_entries.l0]
    have hi : i < l.length := by omega
    rw [if_pos (by omega), if_pos (by omega), if_pos (by omega), wrap_nat i (by omega), hq, ih (i + 1) k _ (by omega) (by simp; omega), rdE5 l i hi, List.drop_eq_getElem_cons hi, List.map_cons, List.append_assoc, List.singleton_append]
    rfl
theorem branches_l0 (l : List S76) (hl : l.length ≤ 1000000) : ∀ (d i k : Nat) (out : List S36), i + d = l.length → out.length ≤ i → callboardlaw06_branches.l0 (d + (k + 1)) l out (i : Int) = some (out ++ (l.drop i).map toB) := by
  intro d
  induction d with
  | zero =>
    intro i k out h ho
    rw [show 0 + (k + 1) = k + 1 from by omega]
    simp only [callboardlaw06_branches.l0]
    rw [if_neg (by omega), List.drop_eq_nil_of_le (by omega)]; simp
  | succ d ih =>
    intro i k out h ho
    obtain ⟨q, hq⟩ : ∃ q, q = d + (k + 1) := ⟨_, rfl⟩
    rw [show d + 1 + (k + 1) = q + 1 from by omega]
    simp only [callboardlaw06_branches.l0]
    have hi : i < l.length := by omega
    rw [if_pos (by omega), if_pos (by omega), if_pos (by omega), wrap_nat i (by omega), hq, ih (i + 1) k _ (by omega) (by simp; omega), rdB6 l i hi, List.drop_eq_getElem_cons hi, List.map_cons, List.append_assoc, List.singleton_append]
    rfl
theorem given_tells (a : Bool) (l : List S75) (m : List S76) (hl : l.length ≤ 1000) (hm : m.length ≤ 1000) : ∀ k, 5000 ≤ k → callboardlaw06_given.f k a l m = some (a, l.map toE, m.map toB) := by
  intro k hk
  unfold callboardlaw06_given.f callboardlaw06_entries.f callboardlaw06_branches.f
  obtain ⟨q, hq⟩ : ∃ q, k = l.length + (q + 1) := ⟨k - l.length - 1, by omega⟩
  obtain ⟨p, hp⟩ : ∃ p, k = m.length + (p + 1) := ⟨k - m.length - 1, by omega⟩
  have h1 := entries_l0 l (by omega) l.length 0 q [] (by omega) (by simp)
  have h2 := branches_l0 m (by omega) m.length 0 p [] (by omega) (by simp)
  simp only [Int.natCast_zero, List.drop_zero, List.nil_append] at h1 h2
  rw [← hq] at h1
  rw [← hp] at h2
  rw [h1, h2]; rfl

/-- What a node that is not too great is like. -/
theorem small_given (l : List S75) (m : List S76) (h : largeB l m = false) : l.length ≤ 200 ∧ m.length ≤ 200 ∧ (∀ x ∈ l.map toE, x.f0.size ≤ 300 ∧ x.f1.size ≤ 300) ∧ (∀ x ∈ m.map toB, x.f0.size ≤ 300) ∧ Small (l.map toE) (m.map toB) := by
  unfold largeB at h
  simp only [Bool.or_eq_false_iff, decide_eq_false_iff_not] at h
  obtain ⟨⟨h1, h2⟩, h3, h4⟩ := h
  have a1 : ∀ x ∈ l.map toE, x.f0.size ≤ 300 ∧ x.f1.size ≤ 300 := by
    intro x hx
    obtain ⟨y, hy, rfl⟩ := List.mem_map.1 hx
    have := List.any_eq_false.1 h3 y hy
    unfold bigE at this
    simp at this
    simp only [toE]; omega
  have a2 : ∀ x ∈ m.map toB, x.f0.size ≤ 300 := by
    intro x hx
    obtain ⟨y, hy, rfl⟩ := List.mem_map.1 hx
    have := List.any_eq_false.1 h4 y hy
    unfold bigB at this
    simp at this
    simp only [toB]; omega
  refine ⟨by omega, by omega, a1, a2, ⟨by simp; omega, by simp; omega, fun x hx => ?_, fun x hx => ?_⟩⟩
  · have := a1 x hx; omega
  · have := a2 x hx; omega
theorem smallB_of (l : List S47) (m : List S36) (h : Small l m) : smallB l m = true := by
  unfold smallB
  simp only [Bool.and_eq_true, decide_eq_true_eq, List.all_eq_true]
  exact ⟨h.l_len, h.m_len, fun x hx => h.l_all x hx, fun x hx => h.m_all x hx⟩
theorem may_tells' (a : Bool) (l : List S47) (m : List S36) (h : Small l m) : ∀ k, 5000 ≤ k → leaf_May.f k a l m = some (mayB a l m) := by
  intro k hk
  have := h.l_len
  have := h.m_len
  exact may_tells a l m (by omega) (by omega) k (by omega)
theorem size_tells' (a : Bool) (l : List S47) (m : List S36) (h : Small l m) : ∀ k, 5000 ≤ k → leaf_Size.f k a l m = some (sizeN l m) := by
  intro k hk
  have := h.l_len
  have := h.m_len
  exact size_tells a l m h k (by omega)
theorem fits_tells' (a : Bool) (l : List S47) (m : List S36) (h : Small l m) : ∀ k, 5000 ≤ k → leaf_Fits.f k a l m = some (decide (sizeN l m ≤ 254)) := by
  intro k hk
  have := h.l_len
  have := h.m_len
  exact fits_tells a l m h k (by omega)
end Go.Proofs.Ytfbaejhjppikpaa.P
