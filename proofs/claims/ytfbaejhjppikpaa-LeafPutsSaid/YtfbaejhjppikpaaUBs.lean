import Derived.Test.YtfbaejhjppikpaaHBs
/- The binary search finds its place. -/
namespace Go.Proofs.Ytfbaejhjppikpaa.P
open Go.RowKit Go.Proofs.YtfbaejhjppikpaaW.PrintWords Go.Proofs.YtfbaejhjppikpaaW.PrintLast Go.Proofs.YtfbaejhjppikpaaW.PrintMore
/-- The binary search, where what holds ahead of a place holds at all places ahead: below the answer it holds, from it on it does not. -/
theorem bsAt_spec (p : Nat → Bool) (n : Nat) (hp : ∀ i j, i ≤ j → j < n → p j = true → p i = true) : ∀ (f i j : Nat), i ≤ j → j ≤ n → j - i ≤ f → (∀ q, q < i → p q = true) → (∀ q, j ≤ q → q < n → p q = false) → (∀ q, q < bsAt p f i j → p q = true) ∧ (∀ q, bsAt p f i j ≤ q → q < n → p q = false) := by
  intro f
  induction f with
  | zero =>
    intro i j h1 h2 h3 h4 h5
    have : i = j := by omega
    subst this
    exact ⟨h4, h5⟩
  | succ f ih =>
    intro i j h1 h2 h3 h4 h5
    simp only [bsAt]
    by_cases hlt : i < j
    · rw [if_pos hlt]
      by_cases hc : p ((i + j) / 2) = true
      · rw [if_pos hc]
        exact ih _ _ (by omega) h2 (by omega) (fun q hq => hp q _ (by omega) (by omega) hc) h5
      · rw [if_neg hc]
        exact ih _ _ (by omega) (by omega) (by omega) h4 (fun q hq hn => by
          cases e : p q with
          | false => rfl
          | true => exact absurd (hp _ _ hq hn e) hc)
    · rw [if_neg hlt]
      have : i = j := by omega
      subst this
      exact ⟨h4, h5⟩

end Go.Proofs.Ytfbaejhjppikpaa.P
