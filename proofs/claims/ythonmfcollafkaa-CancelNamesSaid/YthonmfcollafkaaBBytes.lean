import Derived.WalkLawsBesides
import Derived.Lib.Bytealg
/- The order of byte strings: plain facts. -/
set_option linter.unusedSimpArgs false
namespace Go.Proofs.YthonmfcollafkaaB
open Go

theorem u8_cases (a b : UInt8) : a < b ∨ a = b ∨ b < a := by
  rcases Nat.lt_trichotomy a.toNat b.toNat with h | h | h
  · exact .inl (UInt8.lt_iff_toNat_lt.2 h)
  · exact .inr (.inl (UInt8.toNat_inj.1 h))
  · exact .inr (.inr (UInt8.lt_iff_toNat_lt.2 h))
theorem u8_irrefl (a : UInt8) : ¬ a < a := fun h => Nat.lt_irrefl _ (UInt8.lt_iff_toNat_lt.1 h)
theorem u8_asymm {a b : UInt8} (h : a < b) : ¬ b < a := fun h' => Nat.lt_asymm (UInt8.lt_iff_toNat_lt.1 h) (UInt8.lt_iff_toNat_lt.1 h')
theorem u8_trans {a b c : UInt8} (h : a < b) (h' : b < c) : a < c := UInt8.lt_iff_toNat_lt.2 (Nat.lt_trans (UInt8.lt_iff_toNat_lt.1 h) (UInt8.lt_iff_toNat_lt.1 h'))

/-- How two byte strings stand is told by compareBytes. -/
theorem less_cmp : ∀ x y : List UInt8, Op.bytesLess x y = decide (Lib.compareBytes x y < 0)
  | [], [] => rfl
  | [], _ :: _ => rfl
  | _ :: _, [] => rfl
  | a :: x, b :: y => by
    simp only [Op.bytesLess, Lib.compareBytes]
    rcases u8_cases a b with h | rfl | h
    · simp [h]
    · simp [u8_irrefl, less_cmp x y]
    · have h1 := u8_asymm h
      have h2 : ¬ a = b := by rintro rfl; exact u8_irrefl _ h
      simp [h, h1, h2]
theorem cmp_zero : ∀ x y : List UInt8, Lib.compareBytes x y = 0 ↔ x = y
  | [], [] => by simp [Lib.compareBytes]
  | [], _ :: _ => by simp [Lib.compareBytes]
  | _ :: _, [] => by simp [Lib.compareBytes]
  | a :: x, b :: y => by
    simp only [Lib.compareBytes]
    rcases u8_cases a b with h | rfl | h
    · have h2 : ¬ a = b := by rintro rfl; exact u8_irrefl _ h
      simp [h, h2]
    · simp [u8_irrefl, cmp_zero x y]
    · have h1 := u8_asymm h
      have h2 : ¬ a = b := by rintro rfl; exact u8_irrefl _ h
      simp [h, h1, h2]
theorem cmp_anti : ∀ x y : List UInt8, Lib.compareBytes y x = - Lib.compareBytes x y
  | [], [] => rfl
  | [], _ :: _ => rfl
  | _ :: _, [] => rfl
  | a :: x, b :: y => by
    simp only [Lib.compareBytes]
    rcases u8_cases a b with h | rfl | h
    · simp [h, u8_asymm h]
    · simp [u8_irrefl, cmp_anti x y]
    · simp [h, u8_asymm h]
theorem less_irrefl (x : List UInt8) : Op.bytesLess x x = false := by rw [less_cmp, (cmp_zero x x).2 rfl]; rfl
theorem less_trans : ∀ {x y z : List UInt8}, Op.bytesLess x y = true → Op.bytesLess y z = true → Op.bytesLess x z = true
  | x, [], z => fun h _ => by cases x <;> simp [Op.bytesLess] at h
  | [], _ :: _, [] => fun _ h => by simp [Op.bytesLess] at h
  | [], _ :: _, _ :: _ => fun _ _ => rfl
  | _ :: _, _ :: _, [] => fun _ h => by simp [Op.bytesLess] at h
  | a :: x, b :: y, c :: z => fun h h' => by
    simp only [Op.bytesLess, Bool.or_eq_true, Bool.and_eq_true, decide_eq_true_eq, beq_iff_eq] at h h' ⊢
    rcases h with h | ⟨rfl, h⟩
    · rcases h' with h' | ⟨rfl, h'⟩
      · exact .inl (u8_trans h h')
      · exact .inl h
    · rcases h' with h' | ⟨rfl, h'⟩
      · exact .inl h'
      · exact .inr ⟨rfl, less_trans h h'⟩
/-- 'not less and not the same': greater. -/
theorem less_swap (x y : List UInt8) : (!Op.bytesLess x y && !(x == y)) = Op.bytesLess y x := by
  rw [less_cmp, less_cmp, cmp_anti x y]
  rcases Int.lt_trichotomy (Lib.compareBytes x y) 0 with h | h | h
  · simp [h]; omega
  · have e := (cmp_zero x y).1 h
    subst e
    simp [h]
  · have e : ¬ x = y := fun e => by have := (cmp_zero x y).2 e; omega
    have h1 : ¬ Lib.compareBytes x y < 0 := by omega
    have h2 : - Lib.compareBytes x y < 0 := by omega
    have h3 : (x == y) = false := by simpa using e
    rw [decide_eq_false h1, decide_eq_true h2, h3]; rfl
/-- 'less, or the same': not greater. -/
theorem less_or (x y : List UInt8) : (Op.bytesLess x y || (x == y)) = !Op.bytesLess y x := by
  rw [← less_swap x y]; cases Op.bytesLess x y <;> cases (x == y) <;> rfl
theorem less_total (x y : List UInt8) (h : Op.bytesLess x y = false) (hne : x ≠ y) : Op.bytesLess y x = true := by
  rw [← less_swap, h]; simp [hne]
theorem less_asymm {x y : List UInt8} (h : Op.bytesLess x y = true) : Op.bytesLess y x = false := by
  cases e : Op.bytesLess y x with
  | false => rfl
  | true => have := less_trans h e; rw [less_irrefl] at this; cases this
end Go.Proofs.YthonmfcollafkaaB
