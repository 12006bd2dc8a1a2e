import Derived.Test.YtfbaejhjppikpaaPx21
import Derived.Test.YtfbaejhjppikpaaUBase
/- The plain law of leaf.Same. -/
namespace Go.Proofs.Ytfbaejhjppikpaa.P
open Go.RowKit Go.Proofs.YtfbaejhjppikpaaW.PrintWords Go.Proofs.YtfbaejhjppikpaaW.PrintLast Go.Proofs.YtfbaejhjppikpaaW.PrintMore

theorem rdE7 (l : List S47) (i : Nat) (h : i < l.length) : rd_T47 l (i : Int) = l[i] := by unfold rd_T47; simp [List.getD_eq_getElem?_getD, h]
theorem rdB7 (l : List S36) (i : Nat) (h : i < l.length) : rd_T36 l (i : Int) = l[i] := by unfold rd_T36; simp [List.getD_eq_getElem?_getD, h]
theorem bytes_list_inj {s t : ByteArray} (h : s.toList = t.toList) : s = t := by
  rw [ByteArray.toList_eq, ByteArray.toList_eq] at h
  exact ByteArray.ext (Array.toList_inj.1 h)
theorem S47_eq {x y : S47} : x = y ↔ x.f0.toList = y.f0.toList ∧ x.f1.toList = y.f1.toList := by
  constructor
  · rintro rfl; exact ⟨rfl, rfl⟩
  · rintro ⟨h1, h2⟩
    cases x; cases y
    simp only at h1 h2
    rw [bytes_list_inj h1, bytes_list_inj h2]
theorem S36_eq {x y : S36} : x = y ↔ x.f0.toList = y.f0.toList ∧ x.f1 = y.f1 := by
  constructor
  · rintro rfl; exact ⟨rfl, rfl⟩
  · rintro ⟨h1, h2⟩
    cases x; cases y
    simp only at h1 h2
    rw [bytes_list_inj h1, h2]
instance : DecidableEq S47 := fun _ _ => decidable_of_iff _ S47_eq.symm
instance : DecidableEq S36 := fun _ _ => decidable_of_iff _ S36_eq.symm
theorem drop_eq_iff {α : Type} (l m : List α) (i : Nat) (h1 : i < l.length) (h2 : i < m.length) : l.drop i = m.drop i ↔ l[i] = m[i] ∧ l.drop (i + 1) = m.drop (i + 1) := by
  rw [List.drop_eq_getElem_cons h1, List.drop_eq_getElem_cons h2, List.cons.injEq]
theorem entries_same_l0 (l m : List S47) (h : l.length = m.length) (hl : l.length ≤ 1000000) : ∀ (d i k : Nat), i + d = l.length → leaf_Entry_45.l0 (d + (k + 1)) l m (l.length : Int) (i : Int) = some (decide (l.drop i = m.drop i)) := by
  intro d
  induction d with
  | zero =>
    intro i k hi
    rw [show 0 + (k + 1) = k + 1 from by omega]
    simp only [leaf_Entry_45.l0]
    rw [if_neg (by omega), List.drop_eq_nil_of_le (by omega), List.drop_eq_nil_of_le (by omega)]; simp
  | succ d ih =>
    intro i k hi
    obtain ⟨q, hq⟩ : ∃ q, q = d + (k + 1) := ⟨_, rfl⟩
    rw [show d + 1 + (k + 1) = q + 1 from by omega]
    simp only [leaf_Entry_45.l0]
    have h1 : i < l.length := by omega
    have h2 : i < m.length := by omega
    rw [if_pos (by omega), if_pos (by omega), if_pos (by omega), if_pos (by omega), wrap_nat i (by omega), hq, ih (i + 1) k (by omega), rdE7 l i h1, rdE7 m i h2]
    have e := drop_eq_iff l m i h1 h2
    by_cases c : l[i] = m[i]
    · have c' := S47_eq.1 c
      rw [if_neg (by simp [c'.1, c'.2])]
      congr 1
      exact decide_eq_decide.2 ⟨fun h => e.2 ⟨c, h⟩, fun h => (e.1 h).2⟩
    · rw [if_pos ?_]
      · congr 1
        symm
        exact decide_eq_false (fun h => c (e.1 h).1)
      · simp only [Bool.or_eq_true, Bool.not_eq_true', beq_eq_false_iff_ne]
        by_cases c2 : l[i].f0.toList = m[i].f0.toList
        · right; exact fun c3 => c (S47_eq.2 ⟨c2, c3⟩)
        · left; exact c2
theorem branches_same_l0 (l m : List S36) (h : l.length = m.length) (hl : l.length ≤ 1000000) : ∀ (d i k : Nat), i + d = l.length → leaf_Branch_46.l0 (d + (k + 1)) l m (l.length : Int) (i : Int) = some (decide (l.drop i = m.drop i)) := by
  intro d
  induction d with
  | zero =>
    intro i k hi
    rw [show 0 + (k + 1) = k + 1 from by omega]
    simp only [leaf_Branch_46.l0]
    rw [if_neg (by omega), List.drop_eq_nil_of_le (by omega), List.drop_eq_nil_of_le (by omega)]; simp
  | succ d ih =>
    intro i k hi
    obtain ⟨q, hq⟩ : ∃ q, q = d + (k + 1) := ⟨_, rfl⟩
    rw [show d + 1 + (k + 1) = q + 1 from by omega]
    simp only [leaf_Branch_46.l0]
    have h1 : i < l.length := by omega
    have h2 : i < m.length := by omega
    rw [if_pos (by omega), if_pos (by omega), if_pos (by omega), if_pos (by omega), wrap_nat i (by omega), hq, ih (i + 1) k (by omega), rdB7 l i h1, rdB7 m i h2]
    have e := drop_eq_iff l m i h1 h2
    by_cases c : l[i] = m[i]
    · have c' := S36_eq.1 c
      rw [if_neg (by simp [c'.1, c'.2])]
      congr 1
      exact decide_eq_decide.2 ⟨fun h => e.2 ⟨c, h⟩, fun h => (e.1 h).2⟩
    · rw [if_pos ?_]
      · congr 1
        symm
        exact decide_eq_false (fun h => c (e.1 h).1)
      · simp only [Bool.or_eq_true, Bool.not_eq_true', beq_eq_false_iff_ne]
        by_cases c2 : l[i].f0.toList = m[i].f0.toList
        · right; exact fun c3 => c (S36_eq.2 ⟨c2, c3⟩)
        · left; exact c2
theorem entries_same (l m : List S47) (hl : l.length ≤ 1000) (k : Nat) (hk : 5000 ≤ k) : leaf_Entry_45.f k l m = some (decide (l = m)) := by
  unfold leaf_Entry_45.f
  by_cases h : (l.length : Int) = (m.length : Int)
  · rw [if_pos h]
    obtain ⟨q, rfl⟩ : ∃ q, k = l.length + (q + 1) := ⟨k - l.length - 1, by omega⟩
    have := entries_same_l0 l m (by omega) (by omega) l.length 0 q (by omega)
    simpa using this
  · rw [if_neg h]
    congr 1; symm
    exact decide_eq_false (fun e => h (by rw [e]))
theorem branches_same (l m : List S36) (hl : l.length ≤ 1000) (k : Nat) (hk : 5000 ≤ k) : leaf_Branch_46.f k l m = some (decide (l = m)) := by
  unfold leaf_Branch_46.f
  by_cases h : (l.length : Int) = (m.length : Int)
  · rw [if_pos h]
    obtain ⟨q, rfl⟩ : ∃ q, k = l.length + (q + 1) := ⟨k - l.length - 1, by omega⟩
    have := branches_same_l0 l m (by omega) (by omega) l.length 0 q (by omega)
    simpa using this
  · rw [if_neg h]
    congr 1; symm
    exact decide_eq_false (fun e => h (by rw [e]))
def sameN (a : Bool) (l : List S47) (m : List S36) (a' : Bool) (l' : List S47) (m' : List S36) : Bool := decide (a = a' ∧ l = l' ∧ m = m')
theorem same_tells (a : Bool) (l : List S47) (m : List S36) (a' : Bool) (l' : List S47) (m' : List S36) (h1 : l.length ≤ 1000) (h2 : m.length ≤ 1000) (k : Nat) (hk : 5000 ≤ k) : leaf_Same.f k a l m a' l' m' = some (sameN a l m a' l' m') := by
  unfold leaf_Same.f sameN
  rw [entries_same l l' h1 k hk, branches_same m m' h2 k hk]
  by_cases c1 : a = a'
  · rw [if_pos (by simp [c1])]
    by_cases c2 : l = l'
    · simp [c1, c2]
    · simp [c1, c2]
  · rw [if_neg (by simpa using c1)]; simp [c1]
end Go.Proofs.Ytfbaejhjppikpaa.P
