import Derived.Test.YtfbaejhjppikpaaPx8
/- The plain law of leaf.May: what the printed function answers, in the words okE, okB. -/
namespace Go.Proofs.Ytfbaejhjppikpaa.P
open Go.RowKit Go.Proofs.YtfbaejhjppikpaaW.PrintWords Go.Proofs.YtfbaejhjppikpaaW.PrintLast Go.Proofs.YtfbaejhjppikpaaW.PrintMore

def keyE (l : List S47) (i : Nat) : List UInt8 := (rd_T47 l (i : Int)).f0.toList
def keyB (l : List S36) (i : Nat) : List UInt8 := (rd_T36 l (i : Int)).f0.toList
/-- May an entry stand at this place? -/
def okE (l : List S47) (i : Nat) : Bool :=
  !(keyE l i).isEmpty && decide ((rd_T47 l (i : Int)).f0.size ≤ 24) && decide ((rd_T47 l (i : Int)).f1.size ≤ 100) && (decide (i = 0) || Op.bytesLess (keyE l (i - 1)) (keyE l i))
def okB (l : List S36) (i : Nat) : Bool :=
  decide ((rd_T36 l (i : Int)).f0.size ≤ 24) && decide (2 ≤ (rd_T36 l (i : Int)).f1) && decide ((rd_T36 l (i : Int)).f1 < 1024) && (decide (i = 0) || Op.bytesLess (keyB l (i - 1)) (keyB l i))
/-- p holds at the d places from i on. -/
def allFrom (p : Nat → Bool) : Nat → Nat → Bool
  | _, 0 => true
  | i, d + 1 => p i && allFrom p (i + 1) d
theorem allFrom_iff (p : Nat → Bool) : ∀ d i, allFrom p i d = true ↔ ∀ j, i ≤ j → j < i + d → p j = true := by
  intro d
  induction d with
  | zero => intro i; simp only [allFrom, true_iff]; intro j h1 h2; omega
  | succ d ih =>
    intro i
    simp only [allFrom, Bool.and_eq_true, ih]
    constructor
    · rintro ⟨h, h'⟩ j h1 h2
      by_cases e : j = i
      · exact e ▸ h
      · exact h' j (by omega) (by omega)
    · intro h
      exact ⟨h i (by omega) (by omega), fun j h1 h2 => h j (by omega) (by omega)⟩
def mayB (a : Bool) (l : List S47) (m : List S36) : Bool := (if a then m.isEmpty else l.isEmpty) && (allFrom (okE l) 0 l.length && allFrom (okB m) 0 m.length)

theorem wrap_nat (i : Nat) (h : i ≤ 1000000000000) : wrap64 ((i : Int) + 1) = ((i + 1 : Nat) : Int) := by unfold wrap64; omega
theorem wrap_pred (i : Nat) (h : i ≤ 1000000000000) (h0 : 0 < i) : wrap64 ((i : Int) - 1) = ((i - 1 : Nat) : Int) := by unfold wrap64; omega

theorem may_one {X : Option Bool} (l : List S47) (i : Nat) (hi : i < l.length) (hl : l.length ≤ 1000000000000) :
    (if ((rd_T47 l (i : Int)).f0).toList = ([] : List UInt8) then (some false) else (if (((rd_T47 l (i : Int)).f0).size : Int) > 24 then (some false) else (if (((rd_T47 l (i : Int)).f1).size : Int) > 100 then (some false) else (if (i : Int) > 0 then (if 0 ≤ (wrap64 ((i : Int) - 1)) then (if (wrap64 ((i : Int) - 1)) < (l.length : Int) then (if ((Op.bytesLess (((rd_T47 l (wrap64 ((i : Int) - 1))).f0).toList) (((rd_T47 l (i : Int)).f0).toList)) = true) then X else (some false)) else (none)) else (none)) else X)))) = if okE l i then X else some false := by
  unfold okE keyE
  by_cases c1 : ((rd_T47 l (i : Int)).f0).toList = ([] : List UInt8)
  · rw [if_pos c1]; simp [c1]
  rw [if_neg c1]
  by_cases c2 : (((rd_T47 l (i : Int)).f0).size : Int) > 24
  · rw [if_pos c2]; have : ¬ ((rd_T47 l (i : Int)).f0).size ≤ 24 := by omega
    simp [this]
  rw [if_neg c2]
  by_cases c3 : (((rd_T47 l (i : Int)).f1).size : Int) > 100
  · rw [if_pos c3]; have : ¬ ((rd_T47 l (i : Int)).f1).size ≤ 100 := by omega
    simp [this]
  rw [if_neg c3]
  have d1 : (((rd_T47 l (i : Int)).f0).toList).isEmpty = false := by rw [Bool.eq_false_iff]; exact fun h => c1 (List.isEmpty_iff.1 h)
  have d2 : decide (((rd_T47 l (i : Int)).f0).size ≤ 24) = true := decide_eq_true (by omega)
  have d3 : decide (((rd_T47 l (i : Int)).f1).size ≤ 100) = true := decide_eq_true (by omega)
  rw [d1, d2, d3]
  by_cases h0 : i = 0
  · subst h0; simp
  · rw [if_pos (by omega), wrap_pred i (by omega) (by omega), if_pos (by omega), if_pos (by omega)]
    simp [h0]
theorem mayB_one {X : Option Bool} (l : List S36) (i : Nat) (hi : i < l.length) (hl : l.length ≤ 1000000000000) :
    (if (((rd_T36 l (i : Int)).f0).size : Int) > 24 then (some false) else (if ((rd_T36 l (i : Int)).f1) < 2 then (some false) else (if ((rd_T36 l (i : Int)).f1) ≥ 1024 then (some false) else (if (i : Int) > 0 then (if 0 ≤ (wrap64 ((i : Int) - 1)) then (if (wrap64 ((i : Int) - 1)) < (l.length : Int) then (if ((Op.bytesLess (((rd_T36 l (wrap64 ((i : Int) - 1))).f0).toList) (((rd_T36 l (i : Int)).f0).toList)) = true) then X else (some false)) else (none)) else (none)) else X)))) = if okB l i then X else some false := by
  unfold okB keyB
  by_cases c2 : (((rd_T36 l (i : Int)).f0).size : Int) > 24
  · rw [if_pos c2]; have : ¬ ((rd_T36 l (i : Int)).f0).size ≤ 24 := by omega
    simp [this]
  rw [if_neg c2]
  by_cases c3 : (rd_T36 l (i : Int)).f1 < 2
  · rw [if_pos c3]; have : ¬ 2 ≤ (rd_T36 l (i : Int)).f1 := by omega
    simp [this]
  rw [if_neg c3]
  by_cases c4 : (rd_T36 l (i : Int)).f1 ≥ 1024
  · rw [if_pos c4]; have : ¬ (rd_T36 l (i : Int)).f1 < 1024 := by omega
    simp [this]
  rw [if_neg c4]
  have d2 : decide (((rd_T36 l (i : Int)).f0).size ≤ 24) = true := decide_eq_true (by omega)
  have d3 : decide (2 ≤ (rd_T36 l (i : Int)).f1) = true := decide_eq_true (by omega)
  have d4 : decide ((rd_T36 l (i : Int)).f1 < 1024) = true := decide_eq_true (by omega)
  rw [d2, d3, d4]
  by_cases h0 : i = 0
  · subst h0; simp
  · rw [if_pos (by omega), wrap_pred i (by omega) (by omega), if_pos (by omega), if_pos (by omega)]
    simp [h0]

theorem may_l1 (a : Bool) (l : List S47) (m : List S36) (hm : m.length ≤ 1000000000000) : ∀ (d i k : Nat), i + d = m.length → leaf_May.l1 (d + (k + 1)) m (m.length : Int) (i : Int) a l m = some (allFrom (okB m) i d) := by
  intro d
  induction d with
  | zero =>
    intro i k h
    rw [show 0 + (k + 1) = k + 1 from by omega]
    simp only [leaf_May.l1, allFrom]
    rw [if_neg (by omega)]
  | succ d ih =>
    intro i k h
    obtain ⟨q, hq⟩ : ∃ q, q = d + (k + 1) := ⟨_, rfl⟩
    rw [show d + 1 + (k + 1) = q + 1 from by omega]
    simp only [leaf_May.l1]
    rw [if_pos (by omega), if_pos (by omega), if_pos (by omega), mayB_one m i (by omega) hm, wrap_nat i (by omega), hq, ih (i + 1) k (by omega)]
    simp only [allFrom]
    cases okB m i <;> simp
theorem may_l0 (a : Bool) (l : List S47) (m : List S36) (hl : l.length ≤ 1000000000000) : ∀ (d i k : Nat), i + d = l.length → leaf_May.l0 (d + (k + 1)) l (l.length : Int) (i : Int) a l m = if allFrom (okE l) i d then leaf_May.l1 k m (m.length : Int) 0 a l m else some false := by
  intro d
  induction d with
  | zero =>
    intro i k h
    rw [show 0 + (k + 1) = k + 1 from by omega]
    simp only [leaf_May.l0, allFrom]
    rw [if_neg (by omega)]; rfl
  | succ d ih =>
    intro i k h
    obtain ⟨q, hq⟩ : ∃ q, q = d + (k + 1) := ⟨_, rfl⟩
    rw [show d + 1 + (k + 1) = q + 1 from by omega]
    simp only [leaf_May.l0]
    rw [if_pos (by omega), if_pos (by omega), if_pos (by omega), may_one l i (by omega) hl, wrap_nat i (by omega), hq, ih (i + 1) k (by omega)]
    simp only [allFrom]
    by_cases ho : okE l i = true <;> simp [ho]
/-- What leaf.May answers. -/
theorem may_tells (a : Bool) (l : List S47) (m : List S36) (hl : l.length ≤ 1000000000000) (hm : m.length ≤ 1000000000000) : ∀ k, l.length + m.length + 3 ≤ k → leaf_May.f k a l m = some (mayB a l m) := by
  intro k hk
  obtain ⟨k, rfl⟩ : ∃ q, k = q + 1 := ⟨k - 1, by omega⟩
  have H : leaf_May.l0 k l (l.length : Int) 0 a l m = some (allFrom (okE l) 0 l.length && allFrom (okB m) 0 m.length) := by
    obtain ⟨q, hq⟩ : ∃ q, k = l.length + ((m.length + (q + 1)) + 1) := ⟨k - l.length - m.length - 2, by omega⟩
    rw [hq]
    have h0 := may_l0 a l m hl l.length 0 (m.length + (q + 1)) (by omega)
    have h1 := may_l1 a l m hm m.length 0 q (by omega)
    simp only [Int.natCast_zero] at h0 h1
    rw [h0, h1]
    by_cases ho : allFrom (okE l) 0 l.length = true <;> simp [ho]
  have hj : ∀ b, leaf_May.j0 (k + 1) b a l m = if b then some false else some (allFrom (okE l) 0 l.length && allFrom (okB m) 0 m.length) := by
    intro b
    simp only [leaf_May.j0]
    rw [H]
  unfold leaf_May.f mayB
  cases a with
  | true =>
    simp only [if_true, hj]
    cases m with
    | nil => simp
    | cons x m => rw [if_pos (by simp)]; simp
  | false =>
    simp only [Bool.false_eq_true, if_false, hj]
    cases l with
    | nil => simp
    | cons x l => simp
end Go.Proofs.Ytfbaejhjppikpaa.P
