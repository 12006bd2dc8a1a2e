import Derived.Test.YtfbaejhjppikpaaPx0
import Derived.Lib.Bytealg
import Derived.Lib.Slices
import Derived.Lib.Strings
namespace Go.Proofs.Ytfbaejhjppikpaa.P
open Go.RowKit Go.Proofs.YtfbaejhjppikpaaW.PrintWords Go.Proofs.YtfbaejhjppikpaaW.PrintLast Go.Proofs.YtfbaejhjppikpaaW.PrintMore
set_option linter.unusedVariables false
set_option linter.unusedSimpArgs false

/-- The binary search over a test of places: f rounds at most. -/
def bsAt (p : Nat → Bool) : Nat → Nat → Nat → Nat
  | 0, i, _ => i
  | f + 1, i, j => if i < j then (if p ((i + j) / 2) then bsAt p f ((i + j) / 2 + 1) j else bsAt p f i ((i + j) / 2)) else i
theorem bsAt_done (p : Nat → Bool) (f i j : Nat) (h : ¬ i < j) : bsAt p f i j = i := by cases f <;> simp [bsAt, h]
/-- More rounds than the distance change nothing. -/
theorem bsAt_more (p : Nat → Bool) : ∀ (f g i j : Nat), j - i ≤ f → j - i ≤ g → bsAt p f i j = bsAt p g i j := by
  intro f
  induction f with
  | zero => intro g i j h _; rw [bsAt_done p 0 i j (by omega), bsAt_done p g i j (by omega)]
  | succ f ih =>
    intro g i j h h'
    by_cases hlt : i < j
    · cases g with
      | zero => omega
      | succ g =>
        simp only [bsAt, if_pos hlt]
        cases p ((i + j) / 2) with
        | true => simp only [if_true]; exact ih g _ _ (by omega) (by omega)
        | false => simp only [Bool.false_eq_true, if_false]; exact ih g _ _ (by omega) (by omega)
    · rw [bsAt_done p _ i j hlt, bsAt_done p _ i j hlt]
theorem bsAt_step (p : Nat → Bool) (i j : Nat) (h : i < j) : bsAt p (j - i) i j = if p ((i + j) / 2) then bsAt p (j - ((i + j) / 2 + 1)) ((i + j) / 2 + 1) j else bsAt p ((i + j) / 2 - i) i ((i + j) / 2) := by
  obtain ⟨f, hf⟩ : ∃ f, j - i = f + 1 := ⟨j - i - 1, by omega⟩
  rw [hf]
  simp only [bsAt, if_pos h]
  cases p ((i + j) / 2) with
  | true => simp only [if_true]; exact bsAt_more p _ _ _ _ (by omega) (by omega)
  | false => simp only [Bool.false_eq_true, if_false]; exact bsAt_more p _ _ _ _ (by omega) (by omega)
theorem bsAt_range (p : Nat → Bool) : ∀ (f i j : Nat), i ≤ j → j - i ≤ f → i ≤ bsAt p f i j ∧ bsAt p f i j ≤ j := by
  intro f
  induction f with
  | zero => intro i j h h'; simp only [bsAt]; omega
  | succ f ih =>
    intro i j h h'
    simp only [bsAt]
    split
    · split
      · have := ih ((i + j) / 2 + 1) j (by omega) (by omega); omega
      · have := ih i ((i + j) / 2) (by omega) (by omega); omega
    · omega

set_option maxHeartbeats 1000000 in
theorem CompareString55 (a b : ByteArray) (w : World) :
    Calls Try.prog 55 #[.string a, .string b] w fun e w' => e = .returned (.int .i64 (Lib.compareBytes a.data.toList b.data.toList)) ∧ w = w' := by
  go_enter Try.func55, Try.ntmps55
  go_wp2_with (fail)
  rw [run_callFunc_extern Try.func61 (by kernel_rfl) (by kernel_rfl) (by kernel_rfl) (e := Extern.BytealgCompare.compare) (by kernel_rfl), Lib.run_compareString]
  simp only [Result.andThen]
  rw [Oper.upon_value]
  go_wp2
  go_ret
  exact ⟨rfl, rfl⟩

set_option maxHeartbeats 1000000 in
theorem Compare41 (a b : ByteArray) (w : World) :
    Calls Try.prog 41 #[.string a, .string b] w fun e w' => e = .returned (.int .i64 (Lib.compareBytes a.data.toList b.data.toList)) ∧ w = w' := by
  go_enter Try.func41, Try.ntmps41
  go_wp2_with (go_at_call 55; refine (CompareString55 _ _ _).mono ?_; rintro e w' ⟨rfl, rfl⟩)
  go_ret
  exact ⟨rfl, rfl⟩

set_option maxHeartbeats 1000000 in
theorem cmp40 (a : ByteArray) (p : Int) (b : ByteArray) (w : World) :
    Calls Try.prog 40 #[.agg #[.string a, .int .i64 p], .string b] w fun e w' => e = .returned (.int .i64 (Lib.compareBytes a.data.toList b.data.toList)) ∧ Below w.heap.size w w' := by
  have hu36 := Try.underlying36
  go_enter Try.func40, Try.ntmps40
  go_wp2_with (go_at_call 41; refine (Compare41 _ _ _).mono ?_; rintro e w' ⟨rfl, rfl⟩)
  go_ret
  exact ⟨rfl, (Below.refl _ _).alloc (Nat.le_refl _) _⟩

end Go.Proofs.Ytfbaejhjppikpaa.P
