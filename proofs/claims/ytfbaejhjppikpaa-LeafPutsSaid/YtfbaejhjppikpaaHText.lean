import Derived.Test.YtfbaejhjppikpaaPx0
import Derived.Outline
import Derived.WalkSpells
import Derived.IntWalk
namespace Go.Proofs.Ytfbaejhjppikpaa.P
open Go.RowKit Go.Proofs.YtfbaejhjppikpaaW.PrintWords Go.Proofs.YtfbaejhjppikpaaW.PrintLast Go.Proofs.YtfbaejhjppikpaaW.PrintMore
set_option linter.unusedVariables false
set_option linter.unusedSimpArgs false

/-- All blocks of w stay, but B, and one row's. -/
def Chg (w w' : World) (B : Nat) (row : Option Nat) : Prop := w.heap.size ≤ w'.heap.size ∧ ∀ k, k < w.heap.size → k ≠ B → some k ≠ row → w'.heap[k]? = w.heap[k]?
abbrev RowU (w : World) (base : Nat) (v : Value) (xs : List Int) : Prop := Kd.R (Kd.int .u8) 5 w base (fun _ => True) v xs
theorem rowU_ne {w : World} {base B : Nat} {v : Value} {xs : List Int} {c : Array Value} (ho : RowU w base v xs) (hb : w.heap[B]? = some (.cells c 45 (0, 0))) : some B ≠ v.ownBlock := Kd.R_ne ho hb (by decide)

theorem own_slice' {w : World} {base n : Nat} {e : TypeId} {size : Nat} {v : Value} {xs : List Value} (h : w.ownsRow base e size v n xs) : ∃ A n' c, Aside0 (n' = n) ∧ v = .slice A n' c := by
  obtain ⟨A, c, e⟩ := own_slice h
  exact ⟨A, n, c, ⟨rfl⟩, e⟩
theorem text_blk {B : Nat} {v v1 : Value} {xs ys : List Int} {b b1 : Nat} {w w1 w2 : World} (hbk : w.heap[B]? = some (.cells #[v] 45 (0, 0))) (ho : RowU w b v xs) (ho1 : RowU w1 b1 v1 ys) (hg1 : w.grownBy w1 v.ownBlock) (hg2 : w1.grownBy w2 v1.ownBlock) (hat : v1.ownBlock = v.ownBlock ∨ ∃ b, v1.ownBlock = some b ∧ w.heap.size ≤ b) : w2.heap[B]? = some (.cells #[v] 45 (0, 0)) := by
  have h1 : w1.heap[B]? = some (.cells #[v] 45 (0, 0)) := (hg1.block B (blk_lt hbk) (rowU_ne ho hbk)).trans hbk
  exact (hg2.block B (blk_lt h1) (rowU_ne ho1 h1)).trans h1
theorem text_cell {B : Nat} {v v1 : Value} {xs ys : List Int} {b b1 : Nat} {w w1 w2 : World} (hc : w.cell? ⟨B, 0, none⟩ = some v) (hbk : w.heap[B]? = some (.cells #[v] 45 (0, 0))) (ho : RowU w b v xs) (ho1 : RowU w1 b1 v1 ys) (hg1 : w.grownBy w1 v.ownBlock) (hg2 : w1.grownBy w2 v1.ownBlock) (hat : v1.ownBlock = v.ownBlock ∨ ∃ b, v1.ownBlock = some b ∧ w.heap.size ≤ b) : w2.cell? ⟨B, 0, none⟩ = some v := by
  rw [blk_cell (text_blk hbk ho ho1 hg1 hg2 hat) 0]; rfl
theorem text_frozen {B : Nat} {v v1 : Value} {xs ys : List Int} {b b1 : Nat} {w w1 w2 : World} (hbk : w.heap[B]? = some (.cells #[v] 45 (0, 0))) (ho : RowU w b v xs) (ho1 : RowU w1 b1 v1 ys) (hg1 : w.grownBy w1 v.ownBlock) (hg2 : w1.grownBy w2 v1.ownBlock) (hat : v1.ownBlock = v.ownBlock ∨ ∃ b, v1.ownBlock = some b ∧ w.heap.size ≤ b) : w2.frozen? ⟨B, 0, none⟩ = false :=
  blk_frozen (text_blk hbk ho ho1 hg1 hg2 hat) 0

set_option maxHeartbeats 2000000 in
set_option maxRecDepth 100000 in
theorem text42 (B : Nat) (v : Value) (xs : List Int) (s : ByteArray) (w0 w : World) (hbk : w.heap[B]? = some (.cells #[v] 45 (0, 0))) (ho : RowU w w0.heap.size v xs) (HB : Below w0.heap.size w0 w) (hB : w0.heap.size ≤ B) (hl : xs.length + s.size ≤ 100000000) :
    Calls Try.prog 42 #[.string s, .pointer (some ⟨B, 0, none⟩)] w fun e w' => ∃ v', e = .returned (.tuple #[]) ∧ w'.heap[B]? = some (.cells #[v'] 45 (0, 0)) ∧ RowU w' w0.heap.size v' (xs ++ [IntKind.u8.wrap (s.size : Int)] ++ bytesOf s) ∧ Below w0.heap.size w0 w' ∧ Chg w w' B v.ownBlock := by
  have hc := blk_cell hbk 0
  simp at hc
  have HO := Aside0.mk ho
  have HK := Aside0.mk hbk
  have HBB := Aside0.mk HB
  clear ho hbk HB
  go_enter Try.func42, Try.ntmps42
  go_wp2_with (first | ((with_reducible refine gate_builtin (b := .append) (xs := #[.tmp 3, .tmp 7]) rfl ?_); go_must (at_builtin; refine Kd.R_append (Kd.int .u8) (w0 := w0) w0.heap.size rfl (.tmp 3) (.tmp 7) 45 5 (.int .u8 0) 1 rfl Try.underlying45 info5 rfl (by decide) (by omega) v xs (IntKind.u8.wrap (s.size : Int)) [.int .u8 (IntKind.u8.wrap (s.size : Int))] (fun _ => True) (fun _ => False) rfl rfl rfl (fun _ h => h.elim) (fun _ _ => trivial) HO.out HBB.out HBB.out.size (by omega) ?_; intro v1 w1 ho1 hb1 hg1 hat1; have HO1 := Aside0.mk ho1; have HB1 := Aside0.mk hb1; have HG1 := Aside0.mk hg1; have HA1 := Aside0.mk hat1; clear ho1 hb1 hg1 hat1)) | ((with_reducible refine gate_builtin (b := .append) (xs := #[.tmp 8, .tmp 9]) rfl ?_); go_must (at_builtin; refine print_append_str (w0 := w0) w0.heap.size rfl (.tmp 8) (.tmp 9) 45 9 5 rfl Try.underlying45 Try.underlying9 info5 v1 (xs ++ [IntKind.u8.wrap (s.size : Int)]) s rfl rfl ?aO HB1.out HB1.out.size ?aL ?_; (case aO => exact Kd.own_of_R HO1.out); (case aL => simp; omega); intro v2 w2 ho2 hb2 hg2; obtain ⟨A2, n2, c2, hn2, rfl⟩ := own_slice' ho2; have HO2 := Aside0.mk ho2; have HB2 := Aside0.mk hb2; have HG2 := Aside0.mk hg2; clear ho2 hb2 hg2; have hc2 : w2.cell? ⟨B, 0, none⟩ = some v := text_cell hc HK.out HO.out HO1.out HG1.out HG2.out HA1.out; have hf2 : w2.frozen? ⟨B, 0, none⟩ = false := text_frozen HK.out HO.out HO1.out HG1.out HG2.out HA1.out)))
  go_end0
  have hk2 := text_blk HK.out HO.out HO1.out HG1.out HG2.out HA1.out
  have hr2 : RowU w2 w0.heap.size _ (xs ++ [IntKind.u8.wrap (s.size : Int)] ++ bytesOf s) := Kd.R_of_own HO2.out (fun _ _ => trivial)
  refine ⟨_, rfl, blk_put hk2 0 _ rfl, Kd.R_set hr2 hk2 (by decide) 0 _, below_set HB2.out hB, ?_⟩
  refine ⟨by have := HG1.out.size; have := HG2.out.size; simp [World.setCell]; omega, fun k hk hkB hkr => ?_⟩
  have hlt : k < w1.heap.size := Nat.lt_of_lt_of_le hk HG1.out.size
  have hne : some k ≠ v1.ownBlock := by
    rcases HA1.out with h | ⟨b, h, hb⟩
    · rw [h]; exact hkr
    · rw [h]; intro e; injection e with e; omega
  exact (Below.heap_setCell w2 ⟨B, 0, none⟩ _ k hkB).trans ((HG2.out.block k hlt hne).trans (HG1.out.block k hk hkr))
end Go.Proofs.Ytfbaejhjppikpaa.P
