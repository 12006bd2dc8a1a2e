import Derived.Test.YtfbaejhjppikpaaWMore
import Derived.WalkLawsBesides
import Derived.Lib.Bytealg
import Derived.Test.YtfbaejhjppikpaaProg
import Derived.Below
import Derived.Deep.Draws
import Derived.Deep.AppendLies
import Derived.Maps.AppendAt
import Derived.OwnWalk
import Derived.Laws.BytesArg
import Derived.Laws.MakeOwn
import Derived.Laws.OwnMore
import Derived.Deep.OwnRows
import Derived.Tactics
import Derived.Lib.ConvBytes
import Derived.Laws.Slices
import Derived.WalkKit
import Derived.KernelRfl
import Derived.RowKit3
import Derived.Deep.LoopGhost
import Derived.Deep.QuietTactic
import Derived.BigQuiet
import Derived.WideLaws
import Derived.Deep.DeepCutAuto
import Derived.Deep.CutBlock
import Derived.Deep.RegionHeld3
import Derived.Laws.Rows
import Derived.Lib.AppendStr
import Derived.ArgAppend
import Derived.Laws.IdiomCopy
import Derived.OrdersHeld
import Derived.Laws.BitsLemmas
import Derived.RowKit
import Derived.Test.YtfbaejhjppikpaaWWords
import Derived.Test.YtfbaejhjppikpaaWLast
import Derived.Test.YtfbaejhjppikpaaWTab
import Derived.Test.YtfbaejhjppikpaaWQPut
import Derived.Test.YtfbaejhjppikpaaWApart
import Derived.Test.YtfbaejhjppikpaaWArr
import Derived.Test.YtfbaejhjppikpaaWZeros
import Derived.Test.YtfbaejhjppikpaaWFoot
import Derived.Test.YtfbaejhjppikpaaWKept
import Derived.Test.YtfbaejhjppikpaaWShare
import Derived.Test.YtfbaejhjppikpaaWN
import Derived.Test.YtfbaejhjppikpaaWFootNe
import Derived.Test.YtfbaejhjppikpaaWEqStruct
import Derived.Test.YtfbaejhjppikpaaWRepsOne
import Derived.Test.YtfbaejhjppikpaaWGuard
import Derived.Test.YtfbaejhjppikpaaWNEv
import Derived.Lib.Slices
import Derived.Lib.Strings
import Derived.IntWalk
import Derived.Outline
import Derived.WalkSpells
import Derived.Lib.SliceRun
import Derived.Laws.CopyRow
import Derived.Laws.CopyOwn
import Derived.Shelf.Spec.SlicesInsertGrow
import Derived.Deep.RegionLaw
import Derived.Lib.LazyBuf
/- Short words for what the printed walks say again and again. -/
namespace Go.Proofs.Ytfbaejhjppikpaa.P
open Go.RowKit Go.Proofs.YtfbaejhjppikpaaW.PrintWords Go.Proofs.YtfbaejhjppikpaaW.PrintLast Go.Proofs.YtfbaejhjppikpaaW.PrintMore
abbrev Y := true
abbrev N := false
/-- A row's fact, in a world that has drawn or made more. -/
theorem kr {P Q : Prop} (h : Aside0 P) (f : P → Q := by (intro h_; (with_reducible repeat (first | apply Kd.R_alloc | apply Kd.R_drewN | apply Kd.R_drew)); exact h_)) : Q := f h.out
/-- A block's fact. -/
theorem kb {P Q : Prop} (h : Aside0 P) (f : P → Q := by (intro h_; (with_reducible repeat (first | refine blk_drewN ?_ _ | refine blk_drew ?_ | refine blk_alloc ?_ _)); exact h_)) : Q := f h.out
/-- Nothing that was there before has changed. -/
theorem kl {P Q : Prop} (h : Aside0 P) (f : P → Q := by (intro h_; repeat (first | (with_reducible first | exact h_ | apply below_alloc | apply pw_below_drewN | apply below_drew1) | (with_reducible refine below_set ?_ (Aside0.out (by assumption))) | exact h_))) : Q := f h.out
/-- What a row reads as. -/
theorem kc {P Q : Prop} (h : P) (f : P → Q := by (intro h_; repeat (first | exact h_ | (with_reducible refine Kd.C_alloc ?_ _) | (with_reducible refine Kd.C_drewN ?_ _) | (with_reducible refine Kd.C_drew ?_)))) : Q := f h
theorem bc {w : World} {g : Nat} {t : TypeId} {cs : Array Value} {v : Value} (h : Aside0 (w.heap[g]? = some (.cells cs t (0, 0)))) (i : Nat) (e : cs[i]? = some v := by rfl) : w.cell? ⟨g, i, none⟩ = some v := (blk_cell h.out i).trans e
theorem bb {W0 W w2 : World} {g : Nat} {o : Obj} (h : Aside0 (W0.heap[g]? = some o)) (hb : Below W.heap.size W w2) (f : W0.heap[g]? = some o → W.heap[g]? = some o := by (intro h_; (with_reducible repeat (first | refine blk_drewN ?_ _ | refine blk_drew ?_ | refine blk_alloc ?_ _)); exact h_)) : Aside0 (w2.heap[g]? = some o) := ⟨blk_below (f h.out) hb⟩
theorem bl {W0 W : World} {g : Nat} {o : Obj} (h : Aside0 (W0.heap[g]? = some o)) (f : W0.heap[g]? = some o → W.heap[g]? = some o := by (intro h_; (with_reducible repeat (first | refine blk_drewN ?_ _ | refine blk_drew ?_ | refine blk_alloc ?_ _)); exact h_)) : g < W.heap.size := blk_lt (f h.out)
theorem kf {P Q R : Prop} (n : Aside0 R) (h : Aside0 P) (f : R → P → Q := by (intro n_ h_; (repeat (first | (with_reducible first | refine blk_drewN ?_ _ | refine blk_drew ?_ | refine blk_alloc ?_ _) | (refine blk_far ?_ n_ _))); exact h_)) : Q := f n.out h.out
theorem bf {R : Prop} {W0 W w2 : World} {g : Nat} {o : Obj} (n : Aside0 R) (h : Aside0 (W0.heap[g]? = some o)) (hb : Below W.heap.size W w2) (f : R → W0.heap[g]? = some o → W.heap[g]? = some o := by (intro n_ h_; (repeat (first | (with_reducible first | refine blk_drewN ?_ _ | refine blk_drew ?_ | refine blk_alloc ?_ _) | (refine blk_far ?_ n_ _))); exact h_)) : Aside0 (w2.heap[g]? = some o) := ⟨blk_below (f n.out h.out) hb⟩
theorem rb {α : Type} {K : Kd α} {e : TypeId} {W0 W w2 : World} {base : Nat} {ok : Nat → Prop} {v : Value} {xs : List α} (h : Aside0 (K.R e W0 base ok v xs)) (hb : Below W.heap.size W w2) (f : K.R e W0 base ok v xs → K.R e W base ok v xs := by (intro h_; (with_reducible repeat (first | apply Kd.R_alloc | apply Kd.R_drewN | apply Kd.R_drew)); exact h_)) : Aside0 (K.R e w2 base ok v xs) := ⟨Kd.R_below (f h.out) hb⟩
end Go.Proofs.Ytfbaejhjppikpaa.P
/- The order of byte strings: plain facts. -/
set_option linter.unusedSimpArgs false
namespace Go.Proofs.YtfbaejhjppikpaaB
open Go

theorem u8_cases (a b : UInt8) : a < b ∨ a = b ∨ b < a := by
  rcases Nat.lt_trichotomy a.toNat b.toNat with h | h | h
  · exact .inl (UInt8.lt_iff_toNat_lt.2 h)
  · exact .inr (.inl (UInt8.toNat_inj.1 h))
  · exact .inr (.inr (UInt8.lt_iff_toNat_lt.2 h))
theorem u8_irrefl (a : UInt8) : ¬ a < a := fun h => Nat.lt_irrefl _ (UInt8.lt_iff_toNat_lt.1 h)
theorem u8_asymm {a b : UInt8} (h : a < b) : ¬ b < a := fun h' => Nat.lt_asymm (UInt8.lt_iff_toNat_lt.1 h) (UInt8.lt_iff_toNat_lt.1 h')
theorem u8_trans {a b c : UInt8} (h : a < b) (h' : b < c) : a < c := UInt8.lt_iff_toNat_lt.2 (Nat.lt_trans (UInt8.lt_iff_toNat_lt.1 h) (UInt8.lt_iff_toNat_lt.1 h'))

/-- How two byte strings stand is told by compareBytes. -/
theorem less_cmp : ∀ x y : List UInt8, Op.bytesLess x y = decide (Lib.compareBytes x y < 0)
  | [], [] => rfl
  | [], _ :: _ => rfl
  | _ :: _, [] => rfl
  | a :: x, b :: y => by
    simp only [Op.bytesLess, Lib.compareBytes]
    rcases u8_cases a b with h | rfl | h
    · simp [h]
    · simp [u8_irrefl, less_cmp x y]
    · have h1 := u8_asymm h
      have h2 : ¬ a = b := by rintro rfl; exact u8_irrefl _ h
      simp [h, h1, h2]
theorem cmp_zero : ∀ x y : List UInt8, Lib.compareBytes x y = 0 ↔ x = y
  | [], [] => by simp [Lib.compareBytes]
  | [], _ :: _ => by simp [Lib.compareBytes]
  | _ :: _, [] => by simp [Lib.compareBytes]
  | a :: x, b :: y => by
    simp only [Lib.compareBytes]
    rcases u8_cases a b with h | rfl | h
    · have h2 : ¬ a = b := by rintro rfl; exact u8_irrefl _ h
      simp [h, h2]
    · simp [u8_irrefl, cmp_zero x y]
    · have h1 := u8_asymm h
      have h2 : ¬ a = b := by rintro rfl; exact u8_irrefl _ h
      simp [h, h1, h2]
theorem cmp_anti : ∀ x y : List UInt8, Lib.compareBytes y x = - Lib.compareBytes x y
  | [], [] => rfl
  | [], _ :: _ => rfl
  | _ :: _, [] => rfl
  | a :: x, b :: y => by
    simp only [Lib.compareBytes]
    rcases u8_cases a b with h | rfl | h
    · simp [h, u8_asymm h]
    · simp [u8_irrefl, cmp_anti x y]
    · simp [h, u8_asymm h]
theorem less_irrefl (x : List UInt8) : Op.bytesLess x x = false := by rw [less_cmp, (cmp_zero x x).2 rfl]; rfl
theorem less_trans : ∀ {x y z : List UInt8}, Op.bytesLess x y = true → Op.bytesLess y z = true → Op.bytesLess x z = true
  | x, [], z => fun h _ => by cases x <;> simp [Op.bytesLess] at h
  | [], _ :: _, [] => fun _ h => by simp [Op.bytesLess] at h
  | [], _ :: _, _ :: _ => fun _ _ => rfl
  | _ :: _, _ :: _, [] => fun _ h => by simp [Op.bytesLess] at h
  | a :: x, b :: y, c :: z => fun h h' => by
    simp only [Op.bytesLess, Bool.or_eq_true, Bool.and_eq_true, decide_eq_true_eq, beq_iff_eq] at h h' ⊢
    rcases h with h | ⟨rfl, h⟩
    · rcases h' with h' | ⟨rfl, h'⟩
      · exact .inl (u8_trans h h')
      · exact .inl h
    · rcases h' with h' | ⟨rfl, h'⟩
      · exact .inl h'
      · exact .inr ⟨rfl, less_trans h h'⟩
/-- 'not less and not the same': greater. -/
theorem less_swap (x y : List UInt8) : (!Op.bytesLess x y && !(x == y)) = Op.bytesLess y x := by
  rw [less_cmp, less_cmp, cmp_anti x y]
  rcases Int.lt_trichotomy (Lib.compareBytes x y) 0 with h | h | h
  · simp [h]; omega
  · have e := (cmp_zero x y).1 h
    subst e
    simp [h]
  · have e : ¬ x = y := fun e => by have := (cmp_zero x y).2 e; omega
    have h1 : ¬ Lib.compareBytes x y < 0 := by omega
    have h2 : - Lib.compareBytes x y < 0 := by omega
    have h3 : (x == y) = false := by simpa using e
    rw [decide_eq_false h1, decide_eq_true h2, h3]; rfl
/-- 'less, or the same': not greater. -/
theorem less_or (x y : List UInt8) : (Op.bytesLess x y || (x == y)) = !Op.bytesLess y x := by
  rw [← less_swap x y]; cases Op.bytesLess x y <;> cases (x == y) <;> rfl
theorem less_total (x y : List UInt8) (h : Op.bytesLess x y = false) (hne : x ≠ y) : Op.bytesLess y x = true := by
  rw [← less_swap, h]; simp [hne]
theorem less_asymm {x y : List UInt8} (h : Op.bytesLess x y = true) : Op.bytesLess y x = false := by
  cases e : Op.bytesLess y x with
  | false => rfl
  | true => have := less_trans h e; rw [less_irrefl] at this; cases this
end Go.Proofs.YtfbaejhjppikpaaB
-- GENERATED by wip/gen.py (this session's own driver of a mended copy of the printer). Not trusted: Lean checks it.
namespace Go.Proofs.Ytfbaejhjppikpaa.P
open Go.RowKit Go.Proofs.YtfbaejhjppikpaaW.PrintWords Go.Proofs.YtfbaejhjppikpaaW.PrintLast Go.Proofs.YtfbaejhjppikpaaW.PrintMore
attribute [local go_sem] Go.Proofs.YtfbaejhjppikpaaB.less_swap Go.Proofs.YtfbaejhjppikpaaB.less_or max2_int min2_int max_two min_two max_three min_three max_four min_four   -- for this text's walks alone
set_option linter.unusedVariables false
set_option linter.unusedSimpArgs false



def errW : Option Int → Value
 | none => .nilIface
 | some c => .iface 0 (.int .i64 c)
theorem errW_none : errW none = .nilIface := rfl
theorem errW_some (c : Int) : errW (some c) = .iface 0 (.int .i64 c) := rfl

theorem info3 : (Try.prog.info? 3).map (fun i => (i.zero, i.size, i.bytes)) = some (some (.int .i64 0), 1, 8) := by kernel_rfl
theorem info5 : (Try.prog.info? 5).map (fun i => (i.zero, i.size, i.bytes)) = some (some (.int .u8 0), 1, 1) := by kernel_rfl
theorem info31 : (Try.prog.info? 31).map (fun i => (i.zero, i.size, i.bytes)) = some (some (.agg #[(.bool false), (.slice none 0 0), (.slice none 0 0)]), 3, 56) := by kernel_rfl
theorem info36 : (Try.prog.info? 36).map (fun i => (i.zero, i.size, i.bytes)) = some (some (.agg #[(.string ⟨#[]⟩), (.int .i64 0)]), 2, 24) := by kernel_rfl
theorem info47 : (Try.prog.info? 47).map (fun i => (i.zero, i.size, i.bytes)) = some (some (.agg #[(.string ⟨#[]⟩), (.string ⟨#[]⟩)]), 2, 32) := by kernel_rfl
theorem info51 : (Try.prog.info? 51).map (fun i => (i.zero, i.size, i.bytes)) = some (some (.agg #[(.string ⟨#[]⟩), (.int .i64 0)]), 2, 24) := by kernel_rfl
theorem info75 : (Try.prog.info? 75).map (fun i => (i.zero, i.size, i.bytes)) = some (some (.agg #[(.string ⟨#[]⟩), (.string ⟨#[]⟩)]), 2, 32) := by kernel_rfl
theorem info76 : (Try.prog.info? 76).map (fun i => (i.zero, i.size, i.bytes)) = some (some (.agg #[(.string ⟨#[]⟩), (.int .i64 0)]), 2, 24) := by kernel_rfl
-- the values' own types
/-! #### struct type 75 -/
structure S75 where
 f0 : ByteArray
 f1 : ByteArray
def z75 : S75 := ⟨(⟨#[]⟩ : ByteArray), (⟨#[]⟩ : ByteArray)⟩
def k75 : Kd S75 := Kd.iso (Kd.pair Kd.string Kd.string) (fun x : S75 => (x.f0, x.f1))
theorem k75_open {w : World} {x : S75} {cs : List Value} (h : k75.K w x cs) : cs = [.string x.f0, .string x.f1] := by
 obtain ⟨_, _, rfl, rfl, rfl⟩ := h
 exact rfl
theorem k75_openM {w : World} {base : Nat} {ok : Nat → Prop} {x : S75} {cs : List Value} (h : k75.M w base ok x cs) : cs = [.string x.f0, .string x.f1] := by
 obtain ⟨_, _, rfl, rfl, rfl⟩ := h
 exact rfl
theorem k75_mk (w : World) (x : S75)  : k75.K w x [.string x.f0, .string x.f1] := ⟨[.string x.f0], [.string x.f1], rfl, rfl, rfl⟩
theorem k75_mkM (w : World) (base : Nat) (ok : Nat → Prop) (x : S75)  : k75.M w base ok x [.string x.f0, .string x.f1] := ⟨[.string x.f0], [.string x.f1], rfl, rfl, rfl⟩
theorem k75_mkF (W : World) (ok : Nat → Prop) (x : S75) : Kd.FK k75 W ok x [.string x.f0, .string x.f1] := fun W2 _ => k75_mk W2 x
def rd_T75 (xs : List S75) (i : Int) : S75 := xs.getD i.toNat z75
theorem at_T75 {w : World} {A : Option Addr} {n : Nat} {xs : List S75} (h : Kd.C k75 w A n xs) (i : Int) (h0 : 0 ≤ i) (h1 : i < n) : ∃ ad , A = some ad ∧ w.cell? (ad.add (i.toNat * 2)) = some (.string (rd_T75 xs i).f0) ∧ w.cell? ⟨(ad.add (i.toNat * 2)).block, (ad.add (i.toNat * 2)).off + 1, none⟩ = some (.string (rd_T75 xs i).f1) := by
 obtain ⟨ad, c, e, _, hK, hc0⟩ := Kd.C_get h z75 i h0 h1
 have hc : ∀ j u, c[j]? = some u → w.cell? (ad.add (i.toNat * 2 + j)) = some u := hc0
 obtain rfl := k75_open hK
 exact ⟨ad, e, hc 0 _ rfl, by rw [← add_field _ _ 1 (by omega)]; exact hc 1 _ rfl⟩

/-! #### struct type 76 -/
structure S76 where
 f0 : ByteArray
 f1 : Int
def z76 : S76 := ⟨(⟨#[]⟩ : ByteArray), (0 : Int)⟩
def k76 : Kd S76 := Kd.iso (Kd.pair Kd.string (Kd.int .i64)) (fun x : S76 => (x.f0, x.f1))
theorem k76_open {w : World} {x : S76} {cs : List Value} (h : k76.K w x cs) : cs = [.string x.f0, .int .i64 x.f1] := by
 obtain ⟨_, _, rfl, rfl, rfl⟩ := h
 exact rfl
theorem k76_openM {w : World} {base : Nat} {ok : Nat → Prop} {x : S76} {cs : List Value} (h : k76.M w base ok x cs) : cs = [.string x.f0, .int .i64 x.f1] := by
 obtain ⟨_, _, rfl, rfl, rfl⟩ := h
 exact rfl
theorem k76_mk (w : World) (x : S76)  : k76.K w x [.string x.f0, .int .i64 x.f1] := ⟨[.string x.f0], [.int .i64 x.f1], rfl, rfl, rfl⟩
theorem k76_mkM (w : World) (base : Nat) (ok : Nat → Prop) (x : S76)  : k76.M w base ok x [.string x.f0, .int .i64 x.f1] := ⟨[.string x.f0], [.int .i64 x.f1], rfl, rfl, rfl⟩
theorem k76_mkF (W : World) (ok : Nat → Prop) (x : S76) : Kd.FK k76 W ok x [.string x.f0, .int .i64 x.f1] := fun W2 _ => k76_mk W2 x
def rd_T76 (xs : List S76) (i : Int) : S76 := xs.getD i.toNat z76
theorem at_T76 {w : World} {A : Option Addr} {n : Nat} {xs : List S76} (h : Kd.C k76 w A n xs) (i : Int) (h0 : 0 ≤ i) (h1 : i < n) : ∃ ad , A = some ad ∧ w.cell? (ad.add (i.toNat * 2)) = some (.string (rd_T76 xs i).f0) ∧ w.cell? ⟨(ad.add (i.toNat * 2)).block, (ad.add (i.toNat * 2)).off + 1, none⟩ = some (.int .i64 (rd_T76 xs i).f1) := by
 obtain ⟨ad, c, e, _, hK, hc0⟩ := Kd.C_get h z76 i h0 h1
 have hc : ∀ j u, c[j]? = some u → w.cell? (ad.add (i.toNat * 2 + j)) = some u := hc0
 obtain rfl := k76_open hK
 exact ⟨ad, e, hc 0 _ rfl, by rw [← add_field _ _ 1 (by omega)]; exact hc 1 _ rfl⟩

/-! #### struct type 36 -/
structure S36 where
 f0 : ByteArray
 f1 : Int
def z36 : S36 := ⟨(⟨#[]⟩ : ByteArray), (0 : Int)⟩
def k36 : Kd S36 := Kd.iso (Kd.pair Kd.string (Kd.int .i64)) (fun x : S36 => (x.f0, x.f1))
theorem k36_open {w : World} {x : S36} {cs : List Value} (h : k36.K w x cs) : cs = [.string x.f0, .int .i64 x.f1] := by
 obtain ⟨_, _, rfl, rfl, rfl⟩ := h
 exact rfl
theorem k36_openM {w : World} {base : Nat} {ok : Nat → Prop} {x : S36} {cs : List Value} (h : k36.M w base ok x cs) : cs = [.string x.f0, .int .i64 x.f1] := by
 obtain ⟨_, _, rfl, rfl, rfl⟩ := h
 exact rfl
theorem k36_mk (w : World) (x : S36)  : k36.K w x [.string x.f0, .int .i64 x.f1] := ⟨[.string x.f0], [.int .i64 x.f1], rfl, rfl, rfl⟩
theorem k36_mkM (w : World) (base : Nat) (ok : Nat → Prop) (x : S36)  : k36.M w base ok x [.string x.f0, .int .i64 x.f1] := ⟨[.string x.f0], [.int .i64 x.f1], rfl, rfl, rfl⟩
theorem k36_mkF (W : World) (ok : Nat → Prop) (x : S36) : Kd.FK k36 W ok x [.string x.f0, .int .i64 x.f1] := fun W2 _ => k36_mk W2 x
def rd_T36 (xs : List S36) (i : Int) : S36 := xs.getD i.toNat z36
theorem at_T36 {w : World} {A : Option Addr} {n : Nat} {xs : List S36} (h : Kd.C k36 w A n xs) (i : Int) (h0 : 0 ≤ i) (h1 : i < n) : ∃ ad , A = some ad ∧ w.cell? (ad.add (i.toNat * 2)) = some (.string (rd_T36 xs i).f0) ∧ w.cell? ⟨(ad.add (i.toNat * 2)).block, (ad.add (i.toNat * 2)).off + 1, none⟩ = some (.int .i64 (rd_T36 xs i).f1) := by
 obtain ⟨ad, c, e, _, hK, hc0⟩ := Kd.C_get h z36 i h0 h1
 have hc : ∀ j u, c[j]? = some u → w.cell? (ad.add (i.toNat * 2 + j)) = some u := hc0
 obtain rfl := k36_open hK
 exact ⟨ad, e, hc 0 _ rfl, by rw [← add_field _ _ 1 (by omega)]; exact hc 1 _ rfl⟩

/-! #### struct type 47 -/
structure S47 where
 f0 : ByteArray
 f1 : ByteArray
def z47 : S47 := ⟨(⟨#[]⟩ : ByteArray), (⟨#[]⟩ : ByteArray)⟩
def k47 : Kd S47 := Kd.iso (Kd.pair Kd.string Kd.string) (fun x : S47 => (x.f0, x.f1))
theorem k47_open {w : World} {x : S47} {cs : List Value} (h : k47.K w x cs) : cs = [.string x.f0, .string x.f1] := by
 obtain ⟨_, _, rfl, rfl, rfl⟩ := h
 exact rfl
theorem k47_openM {w : World} {base : Nat} {ok : Nat → Prop} {x : S47} {cs : List Value} (h : k47.M w base ok x cs) : cs = [.string x.f0, .string x.f1] := by
 obtain ⟨_, _, rfl, rfl, rfl⟩ := h
 exact rfl
theorem k47_mk (w : World) (x : S47)  : k47.K w x [.string x.f0, .string x.f1] := ⟨[.string x.f0], [.string x.f1], rfl, rfl, rfl⟩
theorem k47_mkM (w : World) (base : Nat) (ok : Nat → Prop) (x : S47)  : k47.M w base ok x [.string x.f0, .string x.f1] := ⟨[.string x.f0], [.string x.f1], rfl, rfl, rfl⟩
theorem k47_mkF (W : World) (ok : Nat → Prop) (x : S47) : Kd.FK k47 W ok x [.string x.f0, .string x.f1] := fun W2 _ => k47_mk W2 x
def rd_T47 (xs : List S47) (i : Int) : S47 := xs.getD i.toNat z47
theorem at_T47 {w : World} {A : Option Addr} {n : Nat} {xs : List S47} (h : Kd.C k47 w A n xs) (i : Int) (h0 : 0 ≤ i) (h1 : i < n) : ∃ ad , A = some ad ∧ w.cell? (ad.add (i.toNat * 2)) = some (.string (rd_T47 xs i).f0) ∧ w.cell? ⟨(ad.add (i.toNat * 2)).block, (ad.add (i.toNat * 2)).off + 1, none⟩ = some (.string (rd_T47 xs i).f1) := by
 obtain ⟨ad, c, e, _, hK, hc0⟩ := Kd.C_get h z47 i h0 h1
 have hc : ∀ j u, c[j]? = some u → w.cell? (ad.add (i.toNat * 2 + j)) = some u := hc0
 obtain rfl := k47_open hK
 exact ⟨ad, e, hc 0 _ rfl, by rw [← add_field _ _ 1 (by omega)]; exact hc 1 _ rfl⟩

def rd_L7 (xs : List (List S47)) (i : Int) : (List S47) := xs.getD i.toNat ([] : List S47)
theorem at_L7 {w : World} {A : Option Addr} {n : Nat} {xs : List (List S47)} (h : Kd.C (Kd.slice 47 k47) w A n xs) (i : Int) (h0 : 0 ≤ i) (h1 : i < n) : ∃ ad A0 c0, A = some ad ∧ w.cell? (ad.add i.toNat) = some (.slice A0 (rd_L7 xs i).length c0) ∧ (rd_L7 xs i).length ≤ c0 ∧ k47.C w A0 (rd_L7 xs i).length (rd_L7 xs i) := by
 obtain ⟨ad, c, e, _, hK, hc0⟩ := Kd.C_get h ([] : List S47) i h0 h1
 have hc : ∀ j u, c[j]? = some u → w.cell? (ad.add (i.toNat * 1 + j)) = some u := hc0
 obtain ⟨A0, c0, rfl, l0, g0⟩ := hK
 exact ⟨ad, A0, c0, e, by have hq := hc 0 _ rfl; rwa [Nat.mul_one, Nat.add_zero] at hq, l0, g0⟩

def rd_L8 (xs : List (List S36)) (i : Int) : (List S36) := xs.getD i.toNat ([] : List S36)
theorem at_L8 {w : World} {A : Option Addr} {n : Nat} {xs : List (List S36)} (h : Kd.C (Kd.slice 36 k36) w A n xs) (i : Int) (h0 : 0 ≤ i) (h1 : i < n) : ∃ ad A0 c0, A = some ad ∧ w.cell? (ad.add i.toNat) = some (.slice A0 (rd_L8 xs i).length c0) ∧ (rd_L8 xs i).length ≤ c0 ∧ k36.C w A0 (rd_L8 xs i).length (rd_L8 xs i) := by
 obtain ⟨ad, c, e, _, hK, hc0⟩ := Kd.C_get h ([] : List S36) i h0 h1
 have hc : ∀ j u, c[j]? = some u → w.cell? (ad.add (i.toNat * 1 + j)) = some u := hc0
 obtain ⟨A0, c0, rfl, l0, g0⟩ := hK
 exact ⟨ad, A0, c0, e, by have hq := hc 0 _ rfl; rwa [Nat.mul_one, Nat.add_zero] at hq, l0, g0⟩

/-! #### struct type 31 -/
structure S31 where
 f0 : Bool
 f1 : (List S47)
 f2 : (List S36)
def z31 : S31 := ⟨false, ([] : List S47), ([] : List S36)⟩
def k31 : Kd S31 := Kd.iso (Kd.pair Kd.bool (Kd.pair (Kd.slice 47 k47) (Kd.slice 36 k36))) (fun x : S31 => (x.f0, x.f1, x.f2))
theorem k31_open {w : World} {x : S31} {cs : List Value} (h : k31.K w x cs) : ∃ A1 c1 A2 c2, cs = [.bool x.f0, .slice A1 x.f1.length c1, .slice A2 x.f2.length c2] ∧ x.f1.length ≤ c1 ∧ k47.C w A1 x.f1.length x.f1 ∧ x.f2.length ≤ c2 ∧ k36.C w A2 x.f2.length x.f2 := by
 obtain ⟨_, _, rfl, rfl, ⟨_, _, rfl, ⟨A1, c1, rfl, l1, g1⟩, ⟨A2, c2, rfl, l2, g2⟩⟩⟩ := h
 exact ⟨A1, c1, A2, c2, rfl, l1, g1, l2, g2⟩
theorem k31_openM {w : World} {base : Nat} {ok : Nat → Prop} {x : S31} {cs : List Value} (h : k31.M w base ok x cs) : ∃ v1 v2, cs = [.bool x.f0, v1, v2] ∧ k47.R 47 w base ok v1 x.f1 ∧ k36.R 36 w base ok v2 x.f2 := by
 obtain ⟨_, _, rfl, rfl, ⟨_, _, rfl, ⟨v1, rfl, g1⟩, ⟨v2, rfl, g2⟩⟩⟩ := h
 exact ⟨v1, v2, rfl, g1, g2⟩
theorem k31_mk (w : World) (x : S31) {A1 : Option Addr} {c1 : Nat} (l1 : x.f1.length ≤ c1) (g1 : k47.C w A1 x.f1.length x.f1) {A2 : Option Addr} {c2 : Nat} (l2 : x.f2.length ≤ c2) (g2 : k36.C w A2 x.f2.length x.f2) : k31.K w x [.bool x.f0, .slice A1 x.f1.length c1, .slice A2 x.f2.length c2] := ⟨[.bool x.f0], [.slice A1 x.f1.length c1, .slice A2 x.f2.length c2], rfl, rfl, ⟨[.slice A1 x.f1.length c1], [.slice A2 x.f2.length c2], rfl, ⟨A1, c1, rfl, l1, g1⟩, ⟨A2, c2, rfl, l2, g2⟩⟩⟩
theorem k31_mkM (w : World) (base : Nat) (ok : Nat → Prop) (x : S31) {v1 : Value} (g1 : k47.R 47 w base ok v1 x.f1) {v2 : Value} (g2 : k36.R 36 w base ok v2 x.f2) : k31.M w base ok x [.bool x.f0, v1, v2] := ⟨[.bool x.f0], [v1, v2], rfl, rfl, ⟨[v1], [v2], rfl, ⟨v1, rfl, g1⟩, ⟨v2, rfl, g2⟩⟩⟩
theorem k31_openF {W : World} {ok : Nat → Prop} {x : S31} {cs : List Value} (h : Kd.FK k31 W ok x cs) : ∃ A1 c1 A2 c2, cs = [.bool x.f0, .slice A1 x.f1.length c1, .slice A2 x.f2.length c2] ∧ x.f1.length ≤ c1 ∧ Kd.F k47 W ok A1 x.f1.length x.f1 ∧ x.f2.length ≤ c2 ∧ Kd.F k36 W ok A2 x.f2.length x.f2 := by
 obtain ⟨A1, c1, A2, c2, rfl, l1, _, l2, _⟩ := k31_open (Kd.FK_now h)
 exact ⟨A1, c1, A2, c2, rfl, l1, (fun W' hW => by obtain ⟨A1_, c1_, A2_, c2_, he, l1_, g1_, l2_, g2_⟩ := k31_open (h W' hW); injection (Option.some.inj (show some (Value.slice A1 x.f1.length c1) = some (Value.slice A1_ x.f1.length c1_) from congrArg (fun l => l[1]?) he)) with ha_ _ _; rw [ha_]; exact g1_), l2, (fun W' hW => by obtain ⟨A1_, c1_, A2_, c2_, he, l1_, g1_, l2_, g2_⟩ := k31_open (h W' hW); injection (Option.some.inj (show some (Value.slice A2 x.f2.length c2) = some (Value.slice A2_ x.f2.length c2_) from congrArg (fun l => l[2]?) he)) with ha_ _ _; rw [ha_]; exact g2_)⟩
theorem k31_mkF (W : World) (ok : Nat → Prop) (x : S31) {A1 : Option Addr} {c1 : Nat} (l1 : x.f1.length ≤ c1) (g1 : Kd.F k47 W ok A1 x.f1.length x.f1) {A2 : Option Addr} {c2 : Nat} (l2 : x.f2.length ≤ c2) (g2 : Kd.F k36 W ok A2 x.f2.length x.f2) : Kd.FK k31 W ok x [.bool x.f0, .slice A1 x.f1.length c1, .slice A2 x.f2.length c2] := fun W2 hW => k31_mk W2 x l1 (g1 W2 hW) l2 (g2 W2 hW)
def rd_T31 (xs : List S31) (i : Int) : S31 := xs.getD i.toNat z31
theorem at_T31 {w : World} {A : Option Addr} {n : Nat} {xs : List S31} (h : Kd.C k31 w A n xs) (i : Int) (h0 : 0 ≤ i) (h1 : i < n) : ∃ ad A1 c1 A2 c2, A = some ad ∧ w.cell? (ad.add (i.toNat * 3)) = some (.bool (rd_T31 xs i).f0) ∧ w.cell? ⟨(ad.add (i.toNat * 3)).block, (ad.add (i.toNat * 3)).off + 1, none⟩ = some (.slice A1 (rd_T31 xs i).f1.length c1) ∧ w.cell? ⟨(ad.add (i.toNat * 3)).block, (ad.add (i.toNat * 3)).off + 2, none⟩ = some (.slice A2 (rd_T31 xs i).f2.length c2) ∧ (rd_T31 xs i).f1.length ≤ c1 ∧ k47.C w A1 (rd_T31 xs i).f1.length (rd_T31 xs i).f1 ∧ (rd_T31 xs i).f2.length ≤ c2 ∧ k36.C w A2 (rd_T31 xs i).f2.length (rd_T31 xs i).f2 := by
 obtain ⟨ad, c, e, _, hK, hc0⟩ := Kd.C_get h z31 i h0 h1
 have hc : ∀ j u, c[j]? = some u → w.cell? (ad.add (i.toNat * 3 + j)) = some u := hc0
 obtain ⟨A1, c1, A2, c2, rfl, l1, g1, l2, g2⟩ := k31_open hK
 exact ⟨ad, A1, c1, A2, c2, e, hc 0 _ rfl, by rw [← add_field _ _ 1 (by omega)]; exact hc 1 _ rfl, by rw [← add_field _ _ 2 (by omega)]; exact hc 2 _ rfl, l1, g1, l2, g2⟩

/-! #### struct type 51 -/
structure S51 where
 f0 : ByteArray
 f1 : Int
def z51 : S51 := ⟨(⟨#[]⟩ : ByteArray), (0 : Int)⟩
def k51 : Kd S51 := Kd.iso (Kd.pair Kd.string (Kd.int .i64)) (fun x : S51 => (x.f0, x.f1))
theorem k51_open {w : World} {x : S51} {cs : List Value} (h : k51.K w x cs) : cs = [.string x.f0, .int .i64 x.f1] := by
 obtain ⟨_, _, rfl, rfl, rfl⟩ := h
 exact rfl
theorem k51_openM {w : World} {base : Nat} {ok : Nat → Prop} {x : S51} {cs : List Value} (h : k51.M w base ok x cs) : cs = [.string x.f0, .int .i64 x.f1] := by
 obtain ⟨_, _, rfl, rfl, rfl⟩ := h
 exact rfl
theorem k51_mk (w : World) (x : S51)  : k51.K w x [.string x.f0, .int .i64 x.f1] := ⟨[.string x.f0], [.int .i64 x.f1], rfl, rfl, rfl⟩
theorem k51_mkM (w : World) (base : Nat) (ok : Nat → Prop) (x : S51)  : k51.M w base ok x [.string x.f0, .int .i64 x.f1] := ⟨[.string x.f0], [.int .i64 x.f1], rfl, rfl, rfl⟩
theorem k51_mkF (W : World) (ok : Nat → Prop) (x : S51) : Kd.FK k51 W ok x [.string x.f0, .int .i64 x.f1] := fun W2 _ => k51_mk W2 x
def rd_T51 (xs : List S51) (i : Int) : S51 := xs.getD i.toNat z51
theorem at_T51 {w : World} {A : Option Addr} {n : Nat} {xs : List S51} (h : Kd.C k51 w A n xs) (i : Int) (h0 : 0 ≤ i) (h1 : i < n) : ∃ ad , A = some ad ∧ w.cell? (ad.add (i.toNat * 2)) = some (.string (rd_T51 xs i).f0) ∧ w.cell? ⟨(ad.add (i.toNat * 2)).block, (ad.add (i.toNat * 2)).off + 1, none⟩ = some (.int .i64 (rd_T51 xs i).f1) := by
 obtain ⟨ad, c, e, _, hK, hc0⟩ := Kd.C_get h z51 i h0 h1
 have hc : ∀ j u, c[j]? = some u → w.cell? (ad.add (i.toNat * 2 + j)) = some u := hc0
 obtain rfl := k51_open hK
 exact ⟨ad, e, hc 0 _ rfl, by rw [← add_field _ _ 1 (by omega)]; exact hc 1 _ rfl⟩

end Go.Proofs.Ytfbaejhjppikpaa.P
-- GENERATED by wip/gen.py (this session's own driver of a mended copy of the printer). Not trusted: Lean checks it.
namespace Go.Proofs.Ytfbaejhjppikpaa.P
open Go.RowKit Go.Proofs.YtfbaejhjppikpaaW.PrintWords Go.Proofs.YtfbaejhjppikpaaW.PrintLast Go.Proofs.YtfbaejhjppikpaaW.PrintMore
attribute [local go_sem] Go.Proofs.YtfbaejhjppikpaaB.less_swap Go.Proofs.YtfbaejhjppikpaaB.less_or max2_int min2_int max_two min_two max_three min_three max_four min_four   -- for this text's walks alone
set_option linter.unusedVariables false
set_option linter.unusedSimpArgs false

/-! ### leaf_May: function 13 -/
mutual
def leaf_May.j0 : Nat → Bool → Bool → List (S47) → List (S36) → Option (Bool)
 | 0, _, _, _, _ => none
 | k + 1, x25, x106000, x106001, x106002 => if x25 = true then (some false) else (leaf_May.l0 k x106001 (x106001.length : Int) 0 x106000 x106001 x106002)
def leaf_May.l0 : Nat → List (S47) → Int → Int → Bool → List (S47) → List (S36) → Option (Bool)
 | 0, _, _, _, _, _, _ => none
 | k + 1, x27, x28, x29, x106000, x106001, x106002 => if x29 < x28 then (if 0 ≤ x29 then (if x29 < (x27.length : Int) then (if ((rd_T47 x27 x29).f0).toList = ([] : List UInt8) then (some false) else (if (((rd_T47 x27 x29).f0).size : Int) > 24 then (some false) else (if (((rd_T47 x27 x29).f1).size : Int) > 100 then (some false) else (if x29 > 0 then (if 0 ≤ (wrap64 (x29 - 1)) then (if (wrap64 (x29 - 1)) < (x106001.length : Int) then (if ((Op.bytesLess (((rd_T47 x106001 (wrap64 (x29 - 1))).f0).toList) (((rd_T47 x27 x29).f0).toList)) = true) then (leaf_May.l0 k x27 x28 (wrap64 (x29 + 1)) x106000 x106001 x106002) else (some false)) else (none)) else (none)) else (leaf_May.l0 k x27 x28 (wrap64 (x29 + 1)) x106000 x106001 x106002))))) else (none)) else (none)) else (leaf_May.l1 k x106002 (x106002.length : Int) 0 x106000 x106001 x106002)
def leaf_May.l1 : Nat → List (S36) → Int → Int → Bool → List (S47) → List (S36) → Option (Bool)
 | 0, _, _, _, _, _, _ => none
 | k + 1, x67, x68, x69, x106000, x106001, x106002 => if x69 < x68 then (if 0 ≤ x69 then (if x69 < (x67.length : Int) then (if (((rd_T36 x67 x69).f0).size : Int) > 24 then (some false) else (if ((rd_T36 x67 x69).f1) < 2 then (some false) else (if ((rd_T36 x67 x69).f1) ≥ 1024 then (some false) else (if x69 > 0 then (if 0 ≤ (wrap64 (x69 - 1)) then (if (wrap64 (x69 - 1)) < (x106002.length : Int) then (if ((Op.bytesLess (((rd_T36 x106002 (wrap64 (x69 - 1))).f0).toList) (((rd_T36 x67 x69).f0).toList)) = true) then (leaf_May.l1 k x67 x68 (wrap64 (x69 + 1)) x106000 x106001 x106002) else (some false)) else (none)) else (none)) else (leaf_May.l1 k x67 x68 (wrap64 (x69 + 1)) x106000 x106001 x106002))))) else (none)) else (none)) else (some true)
end
def leaf_May.f (k : Nat) (a0_0 : Bool) (l0_1 : List (S47)) (l0_2 : List (S36)) : Option (Bool) := if a0_0 = true then (if (l0_2.length : Int) > 0 then (leaf_May.j0 k true a0_0 l0_1 l0_2) else (leaf_May.j0 k false a0_0 l0_1 l0_2)) else (leaf_May.j0 k (decide ((l0_1.length : Int) > 0)) a0_0 l0_1 l0_2)
theorem leaf_May.mono_l : ∀ k, (∀ y0 y1 y2 y3, LeO (leaf_May.j0 k y0 y1 y2 y3) (leaf_May.j0 (k + 1) y0 y1 y2 y3)) ∧ (∀ y0 y1 y2 y3 y4 y5, LeO (leaf_May.l0 k y0 y1 y2 y3 y4 y5) (leaf_May.l0 (k + 1) y0 y1 y2 y3 y4 y5)) ∧ (∀ y0 y1 y2 y3 y4 y5, LeO (leaf_May.l1 k y0 y1 y2 y3 y4 y5) (leaf_May.l1 (k + 1) y0 y1 y2 y3 y4 y5))
 | 0 => ⟨fun _ _ _ _ r h => by simp [leaf_May.j0] at h, fun _ _ _ _ _ _ r h => by simp [leaf_May.l0] at h, fun _ _ _ _ _ _ r h => by simp [leaf_May.l1] at h⟩
 | k + 1 => by
  obtain ⟨ih0, ih1, ih2⟩ := leaf_May.mono_l k
  refine ⟨?_, ?_, ?_⟩
  ·intro y0 y1 y2 y3
   unfold leaf_May.j0
   repeat' first
   | (with_reducible exact ih0 _ _ _ _)
   | (with_reducible exact ih1 _ _ _ _ _ _)
   | (with_reducible exact ih2 _ _ _ _ _ _)
   | (with_reducible exact LeO.refl _)
   | (with_reducible exact LeO.none _)
   | (with_reducible refine LeO.ite ?_ ?_)
   | (with_reducible refine LeO.bind ?_ (fun _ => ?_))
   | exact ih0 _ _ _ _
   | exact ih1 _ _ _ _ _ _
   | exact ih2 _ _ _ _ _ _
   | exact LeO.none _
   | refine LeO.ite ?_ ?_
   | refine LeO.bind ?_ (fun _ => ?_)
  ·intro y0 y1 y2 y3 y4 y5
   unfold leaf_May.l0
   repeat' first
   | (with_reducible exact ih0 _ _ _ _)
   | (with_reducible exact ih1 _ _ _ _ _ _)
   | (with_reducible exact ih2 _ _ _ _ _ _)
   | (with_reducible exact LeO.refl _)
   | (with_reducible exact LeO.none _)
   | (with_reducible refine LeO.ite ?_ ?_)
   | (with_reducible refine LeO.bind ?_ (fun _ => ?_))
   | exact ih0 _ _ _ _
   | exact ih1 _ _ _ _ _ _
   | exact ih2 _ _ _ _ _ _
   | exact LeO.none _
   | refine LeO.ite ?_ ?_
   | refine LeO.bind ?_ (fun _ => ?_)
  ·intro y0 y1 y2 y3 y4 y5
   unfold leaf_May.l1
   repeat' first
   | (with_reducible exact ih0 _ _ _ _)
   | (with_reducible exact ih1 _ _ _ _ _ _)
   | (with_reducible exact ih2 _ _ _ _ _ _)
   | (with_reducible exact LeO.refl _)
   | (with_reducible exact LeO.none _)
   | (with_reducible refine LeO.ite ?_ ?_)
   | (with_reducible refine LeO.bind ?_ (fun _ => ?_))
   | exact ih0 _ _ _ _
   | exact ih1 _ _ _ _ _ _
   | exact ih2 _ _ _ _ _ _
   | exact LeO.none _
   | refine LeO.ite ?_ ?_
   | refine LeO.bind ?_ (fun _ => ?_)
theorem leaf_May.mono : ∀ a0 a1 a2 k, LeO (leaf_May.f k a0 a1 a2) (leaf_May.f (k + 1) a0 a1 a2) := by
 intro a0 a1 a2 k
 obtain ⟨ih0, ih1, ih2⟩ := leaf_May.mono_l k
 unfold leaf_May.f
 repeat' first
   | (with_reducible exact ih0 _ _ _ _)
   | (with_reducible exact ih1 _ _ _ _ _ _)
   | (with_reducible exact ih2 _ _ _ _ _ _)
   | (with_reducible exact LeO.refl _)
   | (with_reducible exact LeO.none _)
   | (with_reducible refine LeO.ite ?_ ?_)
   | (with_reducible refine LeO.bind ?_ (fun _ => ?_))
   | exact ih0 _ _ _ _
   | exact ih1 _ _ _ _ _ _
   | exact ih2 _ _ _ _ _ _
   | exact LeO.none _
   | refine LeO.ite ?_ ?_
   | refine LeO.bind ?_ (fun _ => ?_)
set_option maxHeartbeats 8000000 in
set_option maxRecDepth 100000 in
theorem leaf_May.calls (k : Nat) (a0_0 : Bool) (A0_1 : Option Addr) (c0_1 : Nat) (l0_1 : List (S47)) (A0_2 : Option Addr) (c0_2 : Nat) (l0_2 : List (S36)) (r : Bool) (w : World) (hr0_1 : Kd.C k47 w A0_1 l0_1.length l0_1) (hc0_1 : l0_1.length ≤ c0_1) (hr0_2 : Kd.C k36 w A0_2 l0_2.length l0_2) (hc0_2 : l0_2.length ≤ c0_2) (h : leaf_May.f k a0_0 l0_1 l0_2 = some r) :
  Calls Try.prog 13 #[.agg #[.bool a0_0, .slice A0_1 l0_1.length c0_1, .slice A0_2 l0_2.length c0_2]] w fun e w' => e = .returned (.bool r) ∧ Below w.heap.size w w' := by
 have hu31 := Try.underlying31
 have hu47 := Try.underlying47
 have hu36 := Try.underlying36
 have HR0_1 := Aside0.mk hr0_1
 have HC0_1 := Aside0.mk hc0_1
 clear hr0_1 hc0_1
 have HR0_2 := Aside0.mk hr0_2
 have HC0_2 := Aside0.mk hc0_2
 clear hr0_2 hc0_2
 have HB := Aside0.mk (Below.refl w.heap.size w)
 have H : (if a0_0 = true then (if (l0_2.length : Int) > 0 then (leaf_May.j0 k true a0_0 l0_1 l0_2) else (leaf_May.j0 k false a0_0 l0_1 l0_2)) else (leaf_May.j0 k (decide ((l0_1.length : Int) > 0)) a0_0 l0_1 l0_2)) = some r := h
 clear h
 have HC2 := Aside0.mk H
 clear H
 go_enter Try.func13, Try.ntmps13
 go_upto_region 1 with (first | ((with_reducible refine gate_dst (N := 1) rfl ?_); (try (refine gate_guard (by rfl) ?_; dsimp only)); refine box_event ?hg (N := 1) ?hd (cs := #[.bool a0_0, .slice A0_1 l0_1.length c0_1, .slice A0_2 l0_2.length c0_2]) (t := 31) ?hr ?_; (case hd => rfl); (case hg => rfl); (case hr => first | (go_simp; done) | (go_simp; rfl)); intro gb105 hg w3 hbox hb; have BK105 := Aside0.mk (hbox); have GW105 := Aside0.mk ((by rw [hg]; exact (below_size (kl HB)) : w.heap.size ≤ gb105)); have GE105 := Aside0.mk ((by rw [hg]; exact (below_size (kl HB)) : w.heap.size ≤ gb105)); replace HB := Aside0.mk (below_step (kl HB) hb); clear hb hbox hg))
 repeat (go_quiet (fail); go_upto_region 1 with (first | ((with_reducible refine gate_dst (N := 1) rfl ?_); (try (refine gate_guard (by rfl) ?_; dsimp only)); refine box_event ?hg (N := 1) ?hd (cs := #[.bool a0_0, .slice A0_1 l0_1.length c0_1, .slice A0_2 l0_2.length c0_2]) (t := 31) ?hr ?_; (case hd => rfl); (case hg => rfl); (case hr => first | (go_simp; done) | (go_simp; rfl)); intro gb105 hg w3 hbox hb; have BK105 := Aside0.mk (hbox); have GW105 := Aside0.mk ((by rw [hg]; exact (below_size (kl HB)) : w.heap.size ≤ gb105)); have GE105 := Aside0.mk ((by rw [hg]; exact (below_size (kl HB)) : w.heap.size ≤ gb105)); replace HB := Aside0.mk (below_step (kl HB) hb); clear hb hbox hg)))
 (try simp only [Act.put, List.setIfInBounds_toArray, List.set_cons_zero, List.set_cons_succ])
 go_cut [25] (fun v25 wc => ∃ (kq : Nat) (x25_1 : Bool), v25 = .bool x25_1 ∧ Aside0 (leaf_May.j0 kq x25_1 a0_0 l0_1 l0_2 = some r) ∧ Aside0 (kq ≤ k) ∧ Aside0 (wc.heap[gb105]? = some (.cells #[.bool a0_0, (.slice A0_1 l0_1.length c0_1), (.slice A0_2 l0_2.length c0_2)] 31 (0, 0))) ∧ Aside0 (Below w.heap.size w wc))
 case first =>
  have H := HC2.out
  clear HC2
  by_cases c4 : a0_0 = true
  ·subst c4
   have H1 : (if (l0_2.length : Int) > 0 then (leaf_May.j0 k true true l0_1 l0_2) else (leaf_May.j0 k false true l0_1 l0_2)) = some r := by rw [if_pos rfl] at H; exact H
   clear H
   have H := H1
   clear H1
   by_cases c5 : (l0_2.length : Int) > 0
   ·rw [if_pos c5] at H
    have c5b0 : decide (0 < (l0_2.length : Int)) = true := decide_eq_true c5
    have c5b1 : decide (0 < l0_2.length) = true := decide_eq_true (by omega)
    clear c5
    (first | rw [c5b0] | (simp only [i64_w, i32_w]; rw [c5b0]) | skip)
    have H' := Aside0.mk H
    clear H
    have hcz6_0 : w3.cell? ⟨gb105, 0, none⟩ = some (.bool true) := bc BK105 0
    have hcz6_1 : w3.cell? ⟨gb105, 1, none⟩ = some (.slice A0_1 l0_1.length c0_1) := bc BK105 1
    have hcz6_2 : w3.cell? ⟨gb105, 2, none⟩ = some (.slice A0_2 l0_2.length c0_2) := bc BK105 2
    have hfz6_0 := blk_frozen BK105.out 0
    have hfz6_1 := blk_frozen BK105.out 1
    have hfz6_2 := blk_frozen BK105.out 2
    go_wp2
    repeat (go_quiet (fail); try go_wp2)
    go_meet
    case rel => exact ⟨_, (true), (by first | rfl | (simp; done) | (simp [*]; done)), H', ⟨by first | omega | exact Nat.le_refl _⟩, ⟨kb BK105⟩, ⟨kl HB⟩⟩
   ·rw [if_neg c5] at H
    have c5b0 : decide (0 < (l0_2.length : Int)) = false := decide_eq_false c5
    have c5b1 : decide (0 < l0_2.length) = false := decide_eq_false (by omega)
    clear c5
    (first | rw [c5b0] | (simp only [i64_w, i32_w]; rw [c5b0]) | skip)
    have H' := Aside0.mk H
    clear H
    have hcz7_0 : w3.cell? ⟨gb105, 0, none⟩ = some (.bool true) := bc BK105 0
    have hcz7_1 : w3.cell? ⟨gb105, 1, none⟩ = some (.slice A0_1 l0_1.length c0_1) := bc BK105 1
    have hcz7_2 : w3.cell? ⟨gb105, 2, none⟩ = some (.slice A0_2 l0_2.length c0_2) := bc BK105 2
    have hfz7_0 := blk_frozen BK105.out 0
    have hfz7_1 := blk_frozen BK105.out 1
    have hfz7_2 := blk_frozen BK105.out 2
    go_wp2
    repeat (go_quiet (fail); try go_wp2)
    go_meet
    case rel => exact ⟨_, (false), (by first | rfl | (simp; done) | (simp [*]; done)), H', ⟨by first | omega | exact Nat.le_refl _⟩, ⟨kb BK105⟩, ⟨kl HB⟩⟩
  ·replace c4 := Bool.eq_false_iff.mpr c4
   subst c4
   have H1 : (leaf_May.j0 k (decide ((l0_1.length : Int) > 0)) false l0_1 l0_2) = some r := by rw [if_neg (show ¬ (false = true) by decide)] at H; exact H
   clear H
   have H := H1
   clear H1
   have H' := Aside0.mk H
   clear H
   have hcz8_0 : w3.cell? ⟨gb105, 0, none⟩ = some (.bool false) := bc BK105 0
   have hcz8_1 : w3.cell? ⟨gb105, 1, none⟩ = some (.slice A0_1 l0_1.length c0_1) := bc BK105 1
   have hcz8_2 : w3.cell? ⟨gb105, 2, none⟩ = some (.slice A0_2 l0_2.length c0_2) := bc BK105 2
   have hfz8_0 := blk_frozen BK105.out 0
   have hfz8_1 := blk_frozen BK105.out 1
   have hfz8_2 := blk_frozen BK105.out 2
   go_wp2
   repeat (go_quiet (fail); try go_wp2)
   go_meet
   case rel => exact ⟨_, (decide ((l0_1.length : Int) > 0)), (by first | rfl | (simp; done) | (simp [*]; done)), H', ⟨by first | omega | exact Nat.le_refl _⟩, ⟨kb BK105⟩, ⟨kl HB⟩⟩
 case rest =>
  clear HC2
  try clear c1
  try clear p2
  try clear c4
  try clear c5
  try clear c5b0
  try clear c5b1
  try clear hcz6_0
  try clear hcz6_1
  try clear hcz6_2
  try clear hcz7_0
  try clear hcz7_1
  try clear hcz7_2
  try clear hcz8_0
  try clear hcz8_1
  try clear hcz8_2
  try clear hfz6_0
  try clear hfz6_1
  try clear hfz6_2
  try clear hfz7_0
  try clear hfz7_1
  try clear hfz7_2
  try clear hfz8_0
  try clear hfz8_1
  try clear hfz8_2
  obtain ⟨kq, x25_1, rfl, HA, HJ1, BK105, HB⟩ := hcut
  cases kq with
  | zero => exact absurd HA.out (by simp [leaf_May.j0])
  | succ kj1 =>
   have H := HA.out
   clear HA
   simp only [leaf_May.j0] at H
   by_cases c9 : x25_1 = true
   ·subst c9
    have H1 : (some false) = some r := by rw [if_pos rfl] at H; exact H
    clear H
    have H := H1
    clear H1
    obtain rfl := Option.some.inj H
    go_wp2
    repeat (go_quiet (fail); try go_wp2)
    go_ret
    exact ⟨by first | rfl | (simp [errW_none, errW_some] <;> rfl) | (simp [*, errW_none, errW_some] <;> rfl), kl HB⟩
   ·replace c9 := Bool.eq_false_iff.mpr c9
    subst c9
    have H1 : (leaf_May.l0 kj1 l0_1 (l0_1.length : Int) 0 a0_0 l0_1 l0_2) = some r := by rw [if_neg (show ¬ (false = true) by decide)] at H; exact H
    clear H
    have H := H1
    clear H1
    have H' := Aside0.mk H
    clear H
    have hcz10_0 : wc.cell? ⟨gb105, 0, none⟩ = some (.bool a0_0) := bc BK105 0
    have hcz10_1 : wc.cell? ⟨gb105, 1, none⟩ = some (.slice A0_1 l0_1.length c0_1) := bc BK105 1
    have hcz10_2 : wc.cell? ⟨gb105, 2, none⟩ = some (.slice A0_2 l0_2.length c0_2) := bc BK105 2
    have hfz10_0 := blk_frozen BK105.out 0
    have hfz10_1 := blk_frozen BK105.out 1
    have hfz10_2 := blk_frozen BK105.out 2
    go_wp2
    repeat (go_quiet (fail); try go_wp2)
    go_loopg [29] kj1 (fun kq v29 w' => ∃ (x29_2 : Int), v29 = .int .i64 x29_2 ∧ Aside0 (leaf_May.l0 kq l0_1 (l0_1.length : Int) x29_2 a0_0 l0_1 l0_2 = some r) ∧ Aside0 (kq ≤ kj1) ∧ Aside0 (w'.heap[gb105]? = some (.cells #[.bool a0_0, (.slice A0_1 l0_1.length c0_1), (.slice A0_2 l0_2.length c0_2)] 31 (0, 0))) ∧ Aside0 (Below w.heap.size w w'))
    case atStart => exact ⟨(0), (by first | rfl | (simp; done) | (simp [*]; done)), H', ⟨Nat.le_refl _⟩, ⟨kb BK105⟩, ⟨kl HB⟩⟩
    case round =>
     clear H'
     try clear c1
     try clear p2
     try clear c4
     try clear c5
     try clear c5b0
     try clear c5b1
     try clear c9
     try clear hcz10_0
     try clear hcz10_1
     try clear hcz10_2
     try clear hcz6_0
     try clear hcz6_1
     try clear hcz6_2
     try clear hcz7_0
     try clear hcz7_1
     try clear hcz7_2
     try clear hcz8_0
     try clear hcz8_1
     try clear hcz8_2
     try clear hfz10_0
     try clear hfz10_1
     try clear hfz10_2
     try clear hfz6_0
     try clear hfz6_1
     try clear hfz6_2
     try clear hfz7_0
     try clear hfz7_1
     try clear hfz7_2
     try clear hfz8_0
     try clear hfz8_1
     try clear hfz8_2
     try clear p2
     obtain ⟨x29_2, rfl, HA, HK2, BK105, HB⟩ := hrel
     cases gk with
     | zero => exact absurd HA.out (by simp [leaf_May.l0])
     | succ k2 =>
      have H := HA.out
      clear HA
      simp only [leaf_May.l0] at H
      by_cases c11 : x29_2 < (l0_1.length : Int)
      ·rw [if_pos c11] at H
       have c11b0 : decide (x29_2 < (l0_1.length : Int)) = true := decide_eq_true c11
       clear c11
       by_cases c12 : 0 ≤ x29_2
       ·rw [if_pos c12] at H
        have c12b0 : decide (0 ≤ x29_2) = true := decide_eq_true c12
        clear c12
        by_cases c13 : x29_2 < (l0_1.length : Int)
        ·rw [if_pos c13] at H
         have c13b0 : decide (x29_2 < (l0_1.length : Int)) = true := decide_eq_true c13
         clear c13
         by_cases c14 : ((rd_T47 l0_1 x29_2).f0).toList = ([] : List UInt8)
         ·rw [if_pos c14] at H
          have c14b0 : (((rd_T47 l0_1 x29_2).f0).toList == ([] : List UInt8)) = true := by first | exact beq_iff_eq.mpr c14 | exact beq_eq_false_iff_ne.mpr c14
          have c14b1 : (((rd_T47 l0_1 x29_2).f0).toList != ([] : List UInt8)) = false := by first | exact bne_eq_false_iff_eq.mpr c14 | exact bne_iff_ne.mpr c14
          have c14b2 : ((rd_T47 l0_1 x29_2).f0).toList.isEmpty = true := by first | exact List.isEmpty_iff.mpr c14 | (rw [Bool.eq_false_iff]; exact fun h_ => c14 (List.isEmpty_iff.mp h_))
          clear c14
          obtain rfl := Option.some.inj H
          have p106 : 0 ≤ (x29_2 : Int) := of_decide_eq_true (by first | (with_reducible assumption) | assumption)
          have q106 : x29_2 < (l0_1.length : Int) := of_decide_eq_true (by first | (with_reducible assumption) | assumption)
          obtain ⟨ad106, e106, hx106_0, hx106_1⟩ := at_T47 HR0_1.out x29_2 p106 q106
          cases e106
          replace hx106_0 := (HB.out.cell (World.block_lt_of_cell? w _ hx106_0)).trans hx106_0
          replace hx106_1 := (HB.out.cell (World.block_lt_of_cell? w _ hx106_1)).trans hx106_1
          replace p106 := eq_true p106
          replace q106 := eq_true q106
          go_wp2_with (first | ((with_reducible refine gate_dst (N := 4) rfl ?_); (try (refine gate_guard (by rfl) ?_; dsimp only)); refine box_event ?hg (N := 4) ?hd (cs := #[.string (⟨#[]⟩ : ByteArray), .string (⟨#[]⟩ : ByteArray)]) (t := 47) ?hr ?_; (case hd => rfl); (case hg => rfl); (case hr => first | (go_simp; done) | (go_simp; rfl)); intro gb107 hg w15 hbox hb; have BK107 := Aside0.mk (hbox); have GW107 := Aside0.mk ((by rw [hg]; exact (below_size (kl HB)) : w.heap.size ≤ gb107)); have GE107 := Aside0.mk ((by rw [hg]; exact (below_size (kl HB)) : w.heap.size ≤ gb107)); replace HB := Aside0.mk (below_step (kl HB) hb); have NB105_107 := Aside0.mk ((by rw [hg]; exact Nat.ne_of_lt (bl BK105) : gb105 ≠ gb107)); have NB107_105 := Aside0.mk ((by rw [hg]; exact Nat.ne_of_gt (bl BK105) : gb107 ≠ gb105)); replace BK105 := bb BK105 hb; clear hb hbox hg; have hnb16 := NB107_105.out; have hnc16 := NB105_107.out; have hcz17_0 : w15.cell? ⟨gb107, 0, none⟩ = some (.string (⟨#[]⟩ : ByteArray)) := bc BK107 0; have hcz17_1 : w15.cell? ⟨gb107, 1, none⟩ = some (.string (⟨#[]⟩ : ByteArray)) := bc BK107 1; have hfz17_0 := blk_frozen BK107.out 0; have hfz17_1 := blk_frozen BK107.out 1))
          repeat (go_quiet (fail); try go_wp2_with (first | ((with_reducible refine gate_dst (N := 4) rfl ?_); (try (refine gate_guard (by rfl) ?_; dsimp only)); refine box_event ?hg (N := 4) ?hd (cs := #[.string (⟨#[]⟩ : ByteArray), .string (⟨#[]⟩ : ByteArray)]) (t := 47) ?hr ?_; (case hd => rfl); (case hg => rfl); (case hr => first | (go_simp; done) | (go_simp; rfl)); intro gb107 hg w15 hbox hb; have BK107 := Aside0.mk (hbox); have GW107 := Aside0.mk ((by rw [hg]; exact (below_size (kl HB)) : w.heap.size ≤ gb107)); have GE107 := Aside0.mk ((by rw [hg]; exact (below_size (kl HB)) : w.heap.size ≤ gb107)); replace HB := Aside0.mk (below_step (kl HB) hb); have NB105_107 := Aside0.mk ((by rw [hg]; exact Nat.ne_of_lt (bl BK105) : gb105 ≠ gb107)); have NB107_105 := Aside0.mk ((by rw [hg]; exact Nat.ne_of_gt (bl BK105) : gb107 ≠ gb105)); replace BK105 := bb BK105 hb; clear hb hbox hg; have hnb16 := NB107_105.out; have hnc16 := NB105_107.out; have hcz17_0 : w15.cell? ⟨gb107, 0, none⟩ = some (.string (⟨#[]⟩ : ByteArray)) := bc BK107 0; have hcz17_1 : w15.cell? ⟨gb107, 1, none⟩ = some (.string (⟨#[]⟩ : ByteArray)) := bc BK107 1; have hfz17_0 := blk_frozen BK107.out 0; have hfz17_1 := blk_frozen BK107.out 1)))
          go_ret
          exact ⟨by first | rfl | (simp [errW_none, errW_some] <;> rfl) | (simp [*, errW_none, errW_some] <;> rfl), kl HB⟩
         ·rw [if_neg c14] at H
          have c14b0 : (((rd_T47 l0_1 x29_2).f0).toList == ([] : List UInt8)) = false := by first | exact beq_iff_eq.mpr c14 | exact beq_eq_false_iff_ne.mpr c14
          have c14b1 : (((rd_T47 l0_1 x29_2).f0).toList != ([] : List UInt8)) = true := by first | exact bne_eq_false_iff_eq.mpr c14 | exact bne_iff_ne.mpr c14
          have c14b2 : ((rd_T47 l0_1 x29_2).f0).toList.isEmpty = false := by first | exact List.isEmpty_iff.mpr c14 | (rw [Bool.eq_false_iff]; exact fun h_ => c14 (List.isEmpty_iff.mp h_))
          by_cases c18 : (((rd_T47 l0_1 x29_2).f0).size : Int) > 24
          ·rw [if_pos c18] at H
           have c18b0 : decide (24 < (((rd_T47 l0_1 x29_2).f0).size : Int)) = true := decide_eq_true c18
           have c18b1 : decide (24 < ((rd_T47 l0_1 x29_2).f0).size) = true := decide_eq_true (by omega)
           clear c18
           obtain rfl := Option.some.inj H
           have p106 : 0 ≤ (x29_2 : Int) := of_decide_eq_true (by first | (with_reducible assumption) | assumption)
           have q106 : x29_2 < (l0_1.length : Int) := of_decide_eq_true (by first | (with_reducible assumption) | assumption)
           obtain ⟨ad106, e106, hx106_0, hx106_1⟩ := at_T47 HR0_1.out x29_2 p106 q106
           cases e106
           replace hx106_0 := (HB.out.cell (World.block_lt_of_cell? w _ hx106_0)).trans hx106_0
           replace hx106_1 := (HB.out.cell (World.block_lt_of_cell? w _ hx106_1)).trans hx106_1
           replace p106 := eq_true p106
           replace q106 := eq_true q106
           go_wp2_with (first | ((with_reducible refine gate_dst (N := 4) rfl ?_); (try (refine gate_guard (by rfl) ?_; dsimp only)); refine box_event ?hg (N := 4) ?hd (cs := #[.string (⟨#[]⟩ : ByteArray), .string (⟨#[]⟩ : ByteArray)]) (t := 47) ?hr ?_; (case hd => rfl); (case hg => rfl); (case hr => first | (go_simp; done) | (go_simp; rfl)); intro gb107 hg w19 hbox hb; have BK107 := Aside0.mk (hbox); have GW107 := Aside0.mk ((by rw [hg]; exact (below_size (kl HB)) : w.heap.size ≤ gb107)); have GE107 := Aside0.mk ((by rw [hg]; exact (below_size (kl HB)) : w.heap.size ≤ gb107)); replace HB := Aside0.mk (below_step (kl HB) hb); have NB105_107 := Aside0.mk ((by rw [hg]; exact Nat.ne_of_lt (bl BK105) : gb105 ≠ gb107)); have NB107_105 := Aside0.mk ((by rw [hg]; exact Nat.ne_of_gt (bl BK105) : gb107 ≠ gb105)); replace BK105 := bb BK105 hb; clear hb hbox hg; have hnb20 := NB107_105.out; have hnc20 := NB105_107.out; have hcz21_0 : w19.cell? ⟨gb107, 0, none⟩ = some (.string (⟨#[]⟩ : ByteArray)) := bc BK107 0; have hcz21_1 : w19.cell? ⟨gb107, 1, none⟩ = some (.string (⟨#[]⟩ : ByteArray)) := bc BK107 1; have hfz21_0 := blk_frozen BK107.out 0; have hfz21_1 := blk_frozen BK107.out 1))
           repeat (go_quiet (fail); try go_wp2_with (first | ((with_reducible refine gate_dst (N := 4) rfl ?_); (try (refine gate_guard (by rfl) ?_; dsimp only)); refine box_event ?hg (N := 4) ?hd (cs := #[.string (⟨#[]⟩ : ByteArray), .string (⟨#[]⟩ : ByteArray)]) (t := 47) ?hr ?_; (case hd => rfl); (case hg => rfl); (case hr => first | (go_simp; done) | (go_simp; rfl)); intro gb107 hg w19 hbox hb; have BK107 := Aside0.mk (hbox); have GW107 := Aside0.mk ((by rw [hg]; exact (below_size (kl HB)) : w.heap.size ≤ gb107)); have GE107 := Aside0.mk ((by rw [hg]; exact (below_size (kl HB)) : w.heap.size ≤ gb107)); replace HB := Aside0.mk (below_step (kl HB) hb); have NB105_107 := Aside0.mk ((by rw [hg]; exact Nat.ne_of_lt (bl BK105) : gb105 ≠ gb107)); have NB107_105 := Aside0.mk ((by rw [hg]; exact Nat.ne_of_gt (bl BK105) : gb107 ≠ gb105)); replace BK105 := bb BK105 hb; clear hb hbox hg; have hnb20 := NB107_105.out; have hnc20 := NB105_107.out; have hcz21_0 : w19.cell? ⟨gb107, 0, none⟩ = some (.string (⟨#[]⟩ : ByteArray)) := bc BK107 0; have hcz21_1 : w19.cell? ⟨gb107, 1, none⟩ = some (.string (⟨#[]⟩ : ByteArray)) := bc BK107 1; have hfz21_0 := blk_frozen BK107.out 0; have hfz21_1 := blk_frozen BK107.out 1)))
           go_ret
           exact ⟨by first | rfl | (simp [errW_none, errW_some] <;> rfl) | (simp [*, errW_none, errW_some] <;> rfl), kl HB⟩
          ·rw [if_neg c18] at H
           have c18b0 : decide (24 < (((rd_T47 l0_1 x29_2).f0).size : Int)) = false := decide_eq_false c18
           have c18b1 : decide (24 < ((rd_T47 l0_1 x29_2).f0).size) = false := decide_eq_false (by omega)
           clear c18
           by_cases c22 : (((rd_T47 l0_1 x29_2).f1).size : Int) > 100
           ·rw [if_pos c22] at H
            have c22b0 : decide (100 < (((rd_T47 l0_1 x29_2).f1).size : Int)) = true := decide_eq_true c22
            have c22b1 : decide (100 < ((rd_T47 l0_1 x29_2).f1).size) = true := decide_eq_true (by omega)
            clear c22
            obtain rfl := Option.some.inj H
            have p106 : 0 ≤ (x29_2 : Int) := of_decide_eq_true (by first | (with_reducible assumption) | assumption)
            have q106 : x29_2 < (l0_1.length : Int) := of_decide_eq_true (by first | (with_reducible assumption) | assumption)
            obtain ⟨ad106, e106, hx106_0, hx106_1⟩ := at_T47 HR0_1.out x29_2 p106 q106
            cases e106
            replace hx106_0 := (HB.out.cell (World.block_lt_of_cell? w _ hx106_0)).trans hx106_0
            replace hx106_1 := (HB.out.cell (World.block_lt_of_cell? w _ hx106_1)).trans hx106_1
            replace p106 := eq_true p106
            replace q106 := eq_true q106
            go_wp2_with (first | ((with_reducible refine gate_dst (N := 4) rfl ?_); (try (refine gate_guard (by rfl) ?_; dsimp only)); refine box_event ?hg (N := 4) ?hd (cs := #[.string (⟨#[]⟩ : ByteArray), .string (⟨#[]⟩ : ByteArray)]) (t := 47) ?hr ?_; (case hd => rfl); (case hg => rfl); (case hr => first | (go_simp; done) | (go_simp; rfl)); intro gb107 hg w23 hbox hb; have BK107 := Aside0.mk (hbox); have GW107 := Aside0.mk ((by rw [hg]; exact (below_size (kl HB)) : w.heap.size ≤ gb107)); have GE107 := Aside0.mk ((by rw [hg]; exact (below_size (kl HB)) : w.heap.size ≤ gb107)); replace HB := Aside0.mk (below_step (kl HB) hb); have NB105_107 := Aside0.mk ((by rw [hg]; exact Nat.ne_of_lt (bl BK105) : gb105 ≠ gb107)); have NB107_105 := Aside0.mk ((by rw [hg]; exact Nat.ne_of_gt (bl BK105) : gb107 ≠ gb105)); replace BK105 := bb BK105 hb; clear hb hbox hg; have hnb24 := NB107_105.out; have hnc24 := NB105_107.out; have hcz25_0 : w23.cell? ⟨gb107, 0, none⟩ = some (.string (⟨#[]⟩ : ByteArray)) := bc BK107 0; have hcz25_1 : w23.cell? ⟨gb107, 1, none⟩ = some (.string (⟨#[]⟩ : ByteArray)) := bc BK107 1; have hfz25_0 := blk_frozen BK107.out 0; have hfz25_1 := blk_frozen BK107.out 1))
            repeat (go_quiet (fail); try go_wp2_with (first | ((with_reducible refine gate_dst (N := 4) rfl ?_); (try (refine gate_guard (by rfl) ?_; dsimp only)); refine box_event ?hg (N := 4) ?hd (cs := #[.string (⟨#[]⟩ : ByteArray), .string (⟨#[]⟩ : ByteArray)]) (t := 47) ?hr ?_; (case hd => rfl); (case hg => rfl); (case hr => first | (go_simp; done) | (go_simp; rfl)); intro gb107 hg w23 hbox hb; have BK107 := Aside0.mk (hbox); have GW107 := Aside0.mk ((by rw [hg]; exact (below_size (kl HB)) : w.heap.size ≤ gb107)); have GE107 := Aside0.mk ((by rw [hg]; exact (below_size (kl HB)) : w.heap.size ≤ gb107)); replace HB := Aside0.mk (below_step (kl HB) hb); have NB105_107 := Aside0.mk ((by rw [hg]; exact Nat.ne_of_lt (bl BK105) : gb105 ≠ gb107)); have NB107_105 := Aside0.mk ((by rw [hg]; exact Nat.ne_of_gt (bl BK105) : gb107 ≠ gb105)); replace BK105 := bb BK105 hb; clear hb hbox hg; have hnb24 := NB107_105.out; have hnc24 := NB105_107.out; have hcz25_0 : w23.cell? ⟨gb107, 0, none⟩ = some (.string (⟨#[]⟩ : ByteArray)) := bc BK107 0; have hcz25_1 : w23.cell? ⟨gb107, 1, none⟩ = some (.string (⟨#[]⟩ : ByteArray)) := bc BK107 1; have hfz25_0 := blk_frozen BK107.out 0; have hfz25_1 := blk_frozen BK107.out 1)))
            go_ret
            exact ⟨by first | rfl | (simp [errW_none, errW_some] <;> rfl) | (simp [*, errW_none, errW_some] <;> rfl), kl HB⟩
           ·rw [if_neg c22] at H
            have c22b0 : decide (100 < (((rd_T47 l0_1 x29_2).f1).size : Int)) = false := decide_eq_false c22
            have c22b1 : decide (100 < ((rd_T47 l0_1 x29_2).f1).size) = false := decide_eq_false (by omega)
            clear c22
            by_cases c26 : x29_2 > 0
            ·rw [if_pos c26] at H
             have c26b0 : decide (0 < x29_2) = true := decide_eq_true c26
             clear c26
             obtain ⟨ji27, hji27⟩ : ∃ j_ : Int, (wrap64 (x29_2 - 1)) = j_ := ⟨_, rfl⟩
             replace H : (if 0 ≤ (ji27) then (if (ji27) < (l0_1.length : Int) then (if ((Op.bytesLess (((rd_T47 l0_1 (ji27)).f0).toList) (((rd_T47 l0_1 x29_2).f0).toList)) = true) then (leaf_May.l0 k2 l0_1 (l0_1.length : Int) (wrap64 (x29_2 + 1)) a0_0 l0_1 l0_2) else (some false)) else (none)) else (none)) = some r := by first | (rw [hji27] at H; exact H) | (simp only [hji27] at H ⊢; exact H)
             have hji27w : (IntKind.i64.wrap (x29_2 - 1)) = ji27 := (i64_w _).trans hji27
             by_cases c28 : 0 ≤ (ji27)
             ·rw [if_pos c28] at H
              have c28b0 : decide (0 ≤ (ji27)) = true := decide_eq_true c28
              clear c28
              by_cases c29 : (ji27) < (l0_1.length : Int)
              ·rw [if_pos c29] at H
               have c29b0 : decide ((ji27) < (l0_1.length : Int)) = true := decide_eq_true c29
               clear c29
               by_cases c30 : ((Op.bytesLess (((rd_T47 l0_1 (ji27)).f0).toList) (((rd_T47 l0_1 x29_2).f0).toList)) = true)
               ·rw [if_pos c30] at H
                have c30b0 : (Op.bytesLess (((rd_T47 l0_1 (ji27)).f0).toList) (((rd_T47 l0_1 x29_2).f0).toList)) = true := c30
                clear c30
                have H' := Aside0.mk H
                clear H
                have p106 : 0 ≤ (x29_2 : Int) := of_decide_eq_true (by first | (with_reducible assumption) | assumption)
                have q106 : x29_2 < (l0_1.length : Int) := of_decide_eq_true (by first | (with_reducible assumption) | assumption)
                obtain ⟨ad106, e106, hx106_0, hx106_1⟩ := at_T47 HR0_1.out x29_2 p106 q106
                cases e106
                replace hx106_0 := (HB.out.cell (World.block_lt_of_cell? w _ hx106_0)).trans hx106_0
                replace hx106_1 := (HB.out.cell (World.block_lt_of_cell? w _ hx106_1)).trans hx106_1
                replace p106 := eq_true p106
                replace q106 := eq_true q106
                go_wp2_with (first | ((with_reducible refine gate_dst (N := 4) rfl ?_); (try (refine gate_guard (by rfl) ?_; dsimp only)); refine box_event ?hg (N := 4) ?hd (cs := #[.string (⟨#[]⟩ : ByteArray), .string (⟨#[]⟩ : ByteArray)]) (t := 47) ?hr ?_; (case hd => rfl); (case hg => rfl); (case hr => first | (go_simp; done) | (go_simp; rfl)); intro gb107 hg w31 hbox hb; have BK107 := Aside0.mk (hbox); have GW107 := Aside0.mk ((by rw [hg]; exact (below_size (kl HB)) : w.heap.size ≤ gb107)); have GE107 := Aside0.mk ((by rw [hg]; exact (below_size (kl HB)) : w.heap.size ≤ gb107)); replace HB := Aside0.mk (below_step (kl HB) hb); have NB105_107 := Aside0.mk ((by rw [hg]; exact Nat.ne_of_lt (bl BK105) : gb105 ≠ gb107)); have NB107_105 := Aside0.mk ((by rw [hg]; exact Nat.ne_of_gt (bl BK105) : gb107 ≠ gb105)); replace BK105 := bb BK105 hb; clear hb hbox hg; have hnb32 := NB107_105.out; have hnc32 := NB105_107.out; have hcz33_0 : w31.cell? ⟨gb107, 0, none⟩ = some (.string (⟨#[]⟩ : ByteArray)) := bc BK107 0; have hcz33_1 : w31.cell? ⟨gb107, 1, none⟩ = some (.string (⟨#[]⟩ : ByteArray)) := bc BK107 1; have hfz33_0 := blk_frozen BK107.out 0; have hfz33_1 := blk_frozen BK107.out 1; have hcz34_0 : w31.cell? ⟨gb105, 0, none⟩ = some (.bool a0_0) := bc BK105 0; have hcz34_1 : w31.cell? ⟨gb105, 1, none⟩ = some (.slice (some ad106) l0_1.length c0_1) := bc BK105 1; have hcz34_2 : w31.cell? ⟨gb105, 2, none⟩ = some (.slice A0_2 l0_2.length c0_2) := bc BK105 2; have hfz34_0 := blk_frozen BK105.out 0; have hfz34_1 := blk_frozen BK105.out 1; have hfz34_2 := blk_frozen BK105.out 2; have p108 : 0 ≤ ((ji27) : Int) := of_decide_eq_true (by first | (with_reducible assumption) | assumption); have q108 : (ji27) < (l0_1.length : Int) := of_decide_eq_true (by first | (with_reducible assumption) | assumption); obtain ⟨ad108, e108, hx108_0, hx108_1⟩ := at_T47 HR0_1.out (ji27) p108 q108; obtain rfl : ad106 = ad108 := (by injection e108); have hn108_0 : ad106.block ≠ gb107 := Nat.ne_of_lt (Nat.lt_of_lt_of_le (by have := World.block_lt_of_cell? _ _ hx108_0; first | rwa [add_block] at this | exact this) GW107.out); have hn108_1 : ad106.block ≠ gb107 := Nat.ne_of_lt (Nat.lt_of_lt_of_le (by have := World.block_lt_of_cell? _ _ hx108_0; first | rwa [add_block] at this | exact this) GW107.out); replace hx108_0 := (HB.out.cell (World.block_lt_of_cell? w _ hx108_0)).trans hx108_0; replace hx108_1 := (HB.out.cell (World.block_lt_of_cell? w _ hx108_1)).trans hx108_1; replace hx108_0 := (cell_far (p := ⟨gb107, 0, none⟩) (by first | (rw [add_block]; exact hn108_0) | (show (Addr.add _ _).block ≠ _; rw [add_block]; exact hn108_0) | exact hn108_0) (.string ((rd_T47 l0_1 x29_2).f0))).trans hx108_0; replace hx108_1 := (cell_far (p := ⟨gb107, 0, none⟩) (by first | (rw [add_block]; exact hn108_0) | (show (Addr.add _ _).block ≠ _; rw [add_block]; exact hn108_0) | exact hn108_0) (.string ((rd_T47 l0_1 x29_2).f0))).trans hx108_1; replace hx108_0 := (cell_far (p := ⟨gb107, 1, none⟩) (by first | (rw [add_block]; exact hn108_1) | (show (Addr.add _ _).block ≠ _; rw [add_block]; exact hn108_1) | exact hn108_1) (.string ((rd_T47 l0_1 x29_2).f1))).trans hx108_0; replace hx108_1 := (cell_far (p := ⟨gb107, 1, none⟩) (by first | (rw [add_block]; exact hn108_1) | (show (Addr.add _ _).block ≠ _; rw [add_block]; exact hn108_1) | exact hn108_1) (.string ((rd_T47 l0_1 x29_2).f1))).trans hx108_1; (try have hy108_0 := fun (n_ : Nat) => (show ((((w31.drewN n_).setCell ⟨gb107, 0, none⟩ (.string ((rd_T47 l0_1 x29_2).f0))).setCell ⟨gb107, 1, none⟩ (.string ((rd_T47 l0_1 x29_2).f1)))).cell? _ = some _ from hx108_0)); (try have hy108_1 := fun (n_ : Nat) => (show ((((w31.drewN n_).setCell ⟨gb107, 0, none⟩ (.string ((rd_T47 l0_1 x29_2).f0))).setCell ⟨gb107, 1, none⟩ (.string ((rd_T47 l0_1 x29_2).f1)))).cell? _ = some _ from hx108_1)); clear hn108_0; clear hn108_1; replace p108 := eq_true p108; replace q108 := eq_true q108))
                repeat (go_quiet (fail); try go_wp2_with (first | ((with_reducible refine gate_dst (N := 4) rfl ?_); (try (refine gate_guard (by rfl) ?_; dsimp only)); refine box_event ?hg (N := 4) ?hd (cs := #[.string (⟨#[]⟩ : ByteArray), .string (⟨#[]⟩ : ByteArray)]) (t := 47) ?hr ?_; (case hd => rfl); (case hg => rfl); (case hr => first | (go_simp; done) | (go_simp; rfl)); intro gb107 hg w31 hbox hb; have BK107 := Aside0.mk (hbox); have GW107 := Aside0.mk ((by rw [hg]; exact (below_size (kl HB)) : w.heap.size ≤ gb107)); have GE107 := Aside0.mk ((by rw [hg]; exact (below_size (kl HB)) : w.heap.size ≤ gb107)); replace HB := Aside0.mk (below_step (kl HB) hb); have NB105_107 := Aside0.mk ((by rw [hg]; exact Nat.ne_of_lt (bl BK105) : gb105 ≠ gb107)); have NB107_105 := Aside0.mk ((by rw [hg]; exact Nat.ne_of_gt (bl BK105) : gb107 ≠ gb105)); replace BK105 := bb BK105 hb; clear hb hbox hg; have hnb32 := NB107_105.out; have hnc32 := NB105_107.out; have hcz33_0 : w31.cell? ⟨gb107, 0, none⟩ = some (.string (⟨#[]⟩ : ByteArray)) := bc BK107 0; have hcz33_1 : w31.cell? ⟨gb107, 1, none⟩ = some (.string (⟨#[]⟩ : ByteArray)) := bc BK107 1; have hfz33_0 := blk_frozen BK107.out 0; have hfz33_1 := blk_frozen BK107.out 1; have hcz34_0 : w31.cell? ⟨gb105, 0, none⟩ = some (.bool a0_0) := bc BK105 0; have hcz34_1 : w31.cell? ⟨gb105, 1, none⟩ = some (.slice (some ad106) l0_1.length c0_1) := bc BK105 1; have hcz34_2 : w31.cell? ⟨gb105, 2, none⟩ = some (.slice A0_2 l0_2.length c0_2) := bc BK105 2; have hfz34_0 := blk_frozen BK105.out 0; have hfz34_1 := blk_frozen BK105.out 1; have hfz34_2 := blk_frozen BK105.out 2; have p108 : 0 ≤ ((ji27) : Int) := of_decide_eq_true (by first | (with_reducible assumption) | assumption); have q108 : (ji27) < (l0_1.length : Int) := of_decide_eq_true (by first | (with_reducible assumption) | assumption); obtain ⟨ad108, e108, hx108_0, hx108_1⟩ := at_T47 HR0_1.out (ji27) p108 q108; obtain rfl : ad106 = ad108 := (by injection e108); have hn108_0 : ad106.block ≠ gb107 := Nat.ne_of_lt (Nat.lt_of_lt_of_le (by have := World.block_lt_of_cell? _ _ hx108_0; first | rwa [add_block] at this | exact this) GW107.out); have hn108_1 : ad106.block ≠ gb107 := Nat.ne_of_lt (Nat.lt_of_lt_of_le (by have := World.block_lt_of_cell? _ _ hx108_0; first | rwa [add_block] at this | exact this) GW107.out); replace hx108_0 := (HB.out.cell (World.block_lt_of_cell? w _ hx108_0)).trans hx108_0; replace hx108_1 := (HB.out.cell (World.block_lt_of_cell? w _ hx108_1)).trans hx108_1; replace hx108_0 := (cell_far (p := ⟨gb107, 0, none⟩) (by first | (rw [add_block]; exact hn108_0) | (show (Addr.add _ _).block ≠ _; rw [add_block]; exact hn108_0) | exact hn108_0) (.string ((rd_T47 l0_1 x29_2).f0))).trans hx108_0; replace hx108_1 := (cell_far (p := ⟨gb107, 0, none⟩) (by first | (rw [add_block]; exact hn108_0) | (show (Addr.add _ _).block ≠ _; rw [add_block]; exact hn108_0) | exact hn108_0) (.string ((rd_T47 l0_1 x29_2).f0))).trans hx108_1; replace hx108_0 := (cell_far (p := ⟨gb107, 1, none⟩) (by first | (rw [add_block]; exact hn108_1) | (show (Addr.add _ _).block ≠ _; rw [add_block]; exact hn108_1) | exact hn108_1) (.string ((rd_T47 l0_1 x29_2).f1))).trans hx108_0; replace hx108_1 := (cell_far (p := ⟨gb107, 1, none⟩) (by first | (rw [add_block]; exact hn108_1) | (show (Addr.add _ _).block ≠ _; rw [add_block]; exact hn108_1) | exact hn108_1) (.string ((rd_T47 l0_1 x29_2).f1))).trans hx108_1; (try have hy108_0 := fun (n_ : Nat) => (show ((((w31.drewN n_).setCell ⟨gb107, 0, none⟩ (.string ((rd_T47 l0_1 x29_2).f0))).setCell ⟨gb107, 1, none⟩ (.string ((rd_T47 l0_1 x29_2).f1)))).cell? _ = some _ from hx108_0)); (try have hy108_1 := fun (n_ : Nat) => (show ((((w31.drewN n_).setCell ⟨gb107, 0, none⟩ (.string ((rd_T47 l0_1 x29_2).f0))).setCell ⟨gb107, 1, none⟩ (.string ((rd_T47 l0_1 x29_2).f1)))).cell? _ = some _ from hx108_1)); clear hn108_0; clear hn108_1; replace p108 := eq_true p108; replace q108 := eq_true q108)))
                go_roundg k2
                case measure => have := HJ1.out; have := HK2.out; omega
                case rel => exact ⟨(wrap64 (x29_2 + 1)), (by first | rfl | (simp; done) | (simp [*]; done)), H', ⟨by have := HJ1.out; have := HK2.out; omega⟩, ⟨kf NB105_107 BK105⟩, ⟨kl HB⟩⟩
               ·rw [if_neg c30] at H
                have c30b0 : (Op.bytesLess (((rd_T47 l0_1 (ji27)).f0).toList) (((rd_T47 l0_1 x29_2).f0).toList)) = false := by simpa using c30
                clear c30
                obtain rfl := Option.some.inj H
                have p106 : 0 ≤ (x29_2 : Int) := of_decide_eq_true (by first | (with_reducible assumption) | assumption)
                have q106 : x29_2 < (l0_1.length : Int) := of_decide_eq_true (by first | (with_reducible assumption) | assumption)
                obtain ⟨ad106, e106, hx106_0, hx106_1⟩ := at_T47 HR0_1.out x29_2 p106 q106
                cases e106
                replace hx106_0 := (HB.out.cell (World.block_lt_of_cell? w _ hx106_0)).trans hx106_0
                replace hx106_1 := (HB.out.cell (World.block_lt_of_cell? w _ hx106_1)).trans hx106_1
                replace p106 := eq_true p106
                replace q106 := eq_true q106
                go_wp2_with (first | ((with_reducible refine gate_dst (N := 4) rfl ?_); (try (refine gate_guard (by rfl) ?_; dsimp only)); refine box_event ?hg (N := 4) ?hd (cs := #[.string (⟨#[]⟩ : ByteArray), .string (⟨#[]⟩ : ByteArray)]) (t := 47) ?hr ?_; (case hd => rfl); (case hg => rfl); (case hr => first | (go_simp; done) | (go_simp; rfl)); intro gb107 hg w35 hbox hb; have BK107 := Aside0.mk (hbox); have GW107 := Aside0.mk ((by rw [hg]; exact (below_size (kl HB)) : w.heap.size ≤ gb107)); have GE107 := Aside0.mk ((by rw [hg]; exact (below_size (kl HB)) : w.heap.size ≤ gb107)); replace HB := Aside0.mk (below_step (kl HB) hb); have NB105_107 := Aside0.mk ((by rw [hg]; exact Nat.ne_of_lt (bl BK105) : gb105 ≠ gb107)); have NB107_105 := Aside0.mk ((by rw [hg]; exact Nat.ne_of_gt (bl BK105) : gb107 ≠ gb105)); replace BK105 := bb BK105 hb; clear hb hbox hg; have hnb36 := NB107_105.out; have hnc36 := NB105_107.out; have hcz37_0 : w35.cell? ⟨gb107, 0, none⟩ = some (.string (⟨#[]⟩ : ByteArray)) := bc BK107 0; have hcz37_1 : w35.cell? ⟨gb107, 1, none⟩ = some (.string (⟨#[]⟩ : ByteArray)) := bc BK107 1; have hfz37_0 := blk_frozen BK107.out 0; have hfz37_1 := blk_frozen BK107.out 1; have hcz38_0 : w35.cell? ⟨gb105, 0, none⟩ = some (.bool a0_0) := bc BK105 0; have hcz38_1 : w35.cell? ⟨gb105, 1, none⟩ = some (.slice (some ad106) l0_1.length c0_1) := bc BK105 1; have hcz38_2 : w35.cell? ⟨gb105, 2, none⟩ = some (.slice A0_2 l0_2.length c0_2) := bc BK105 2; have hfz38_0 := blk_frozen BK105.out 0; have hfz38_1 := blk_frozen BK105.out 1; have hfz38_2 := blk_frozen BK105.out 2; have p108 : 0 ≤ ((ji27) : Int) := of_decide_eq_true (by first | (with_reducible assumption) | assumption); have q108 : (ji27) < (l0_1.length : Int) := of_decide_eq_true (by first | (with_reducible assumption) | assumption); obtain ⟨ad108, e108, hx108_0, hx108_1⟩ := at_T47 HR0_1.out (ji27) p108 q108; obtain rfl : ad106 = ad108 := (by injection e108); have hn108_0 : ad106.block ≠ gb107 := Nat.ne_of_lt (Nat.lt_of_lt_of_le (by have := World.block_lt_of_cell? _ _ hx108_0; first | rwa [add_block] at this | exact this) GW107.out); have hn108_1 : ad106.block ≠ gb107 := Nat.ne_of_lt (Nat.lt_of_lt_of_le (by have := World.block_lt_of_cell? _ _ hx108_0; first | rwa [add_block] at this | exact this) GW107.out); replace hx108_0 := (HB.out.cell (World.block_lt_of_cell? w _ hx108_0)).trans hx108_0; replace hx108_1 := (HB.out.cell (World.block_lt_of_cell? w _ hx108_1)).trans hx108_1; replace hx108_0 := (cell_far (p := ⟨gb107, 0, none⟩) (by first | (rw [add_block]; exact hn108_0) | (show (Addr.add _ _).block ≠ _; rw [add_block]; exact hn108_0) | exact hn108_0) (.string ((rd_T47 l0_1 x29_2).f0))).trans hx108_0; replace hx108_1 := (cell_far (p := ⟨gb107, 0, none⟩) (by first | (rw [add_block]; exact hn108_0) | (show (Addr.add _ _).block ≠ _; rw [add_block]; exact hn108_0) | exact hn108_0) (.string ((rd_T47 l0_1 x29_2).f0))).trans hx108_1; replace hx108_0 := (cell_far (p := ⟨gb107, 1, none⟩) (by first | (rw [add_block]; exact hn108_1) | (show (Addr.add _ _).block ≠ _; rw [add_block]; exact hn108_1) | exact hn108_1) (.string ((rd_T47 l0_1 x29_2).f1))).trans hx108_0; replace hx108_1 := (cell_far (p := ⟨gb107, 1, none⟩) (by first | (rw [add_block]; exact hn108_1) | (show (Addr.add _ _).block ≠ _; rw [add_block]; exact hn108_1) | exact hn108_1) (.string ((rd_T47 l0_1 x29_2).f1))).trans hx108_1; (try have hy108_0 := fun (n_ : Nat) => (show ((((w35.drewN n_).setCell ⟨gb107, 0, none⟩ (.string ((rd_T47 l0_1 x29_2).f0))).setCell ⟨gb107, 1, none⟩ (.string ((rd_T47 l0_1 x29_2).f1)))).cell? _ = some _ from hx108_0)); (try have hy108_1 := fun (n_ : Nat) => (show ((((w35.drewN n_).setCell ⟨gb107, 0, none⟩ (.string ((rd_T47 l0_1 x29_2).f0))).setCell ⟨gb107, 1, none⟩ (.string ((rd_T47 l0_1 x29_2).f1)))).cell? _ = some _ from hx108_1)); clear hn108_0; clear hn108_1; replace p108 := eq_true p108; replace q108 := eq_true q108))
                repeat (go_quiet (fail); try go_wp2_with (first | ((with_reducible refine gate_dst (N := 4) rfl ?_); (try (refine gate_guard (by rfl) ?_; dsimp only)); refine box_event ?hg (N := 4) ?hd (cs := #[.string (⟨#[]⟩ : ByteArray), .string (⟨#[]⟩ : ByteArray)]) (t := 47) ?hr ?_; (case hd => rfl); (case hg => rfl); (case hr => first | (go_simp; done) | (go_simp; rfl)); intro gb107 hg w35 hbox hb; have BK107 := Aside0.mk (hbox); have GW107 := Aside0.mk ((by rw [hg]; exact (below_size (kl HB)) : w.heap.size ≤ gb107)); have GE107 := Aside0.mk ((by rw [hg]; exact (below_size (kl HB)) : w.heap.size ≤ gb107)); replace HB := Aside0.mk (below_step (kl HB) hb); have NB105_107 := Aside0.mk ((by rw [hg]; exact Nat.ne_of_lt (bl BK105) : gb105 ≠ gb107)); have NB107_105 := Aside0.mk ((by rw [hg]; exact Nat.ne_of_gt (bl BK105) : gb107 ≠ gb105)); replace BK105 := bb BK105 hb; clear hb hbox hg; have hnb36 := NB107_105.out; have hnc36 := NB105_107.out; have hcz37_0 : w35.cell? ⟨gb107, 0, none⟩ = some (.string (⟨#[]⟩ : ByteArray)) := bc BK107 0; have hcz37_1 : w35.cell? ⟨gb107, 1, none⟩ = some (.string (⟨#[]⟩ : ByteArray)) := bc BK107 1; have hfz37_0 := blk_frozen BK107.out 0; have hfz37_1 := blk_frozen BK107.out 1; have hcz38_0 : w35.cell? ⟨gb105, 0, none⟩ = some (.bool a0_0) := bc BK105 0; have hcz38_1 : w35.cell? ⟨gb105, 1, none⟩ = some (.slice (some ad106) l0_1.length c0_1) := bc BK105 1; have hcz38_2 : w35.cell? ⟨gb105, 2, none⟩ = some (.slice A0_2 l0_2.length c0_2) := bc BK105 2; have hfz38_0 := blk_frozen BK105.out 0; have hfz38_1 := blk_frozen BK105.out 1; have hfz38_2 := blk_frozen BK105.out 2; have p108 : 0 ≤ ((ji27) : Int) := of_decide_eq_true (by first | (with_reducible assumption) | assumption); have q108 : (ji27) < (l0_1.length : Int) := of_decide_eq_true (by first | (with_reducible assumption) | assumption); obtain ⟨ad108, e108, hx108_0, hx108_1⟩ := at_T47 HR0_1.out (ji27) p108 q108; obtain rfl : ad106 = ad108 := (by injection e108); have hn108_0 : ad106.block ≠ gb107 := Nat.ne_of_lt (Nat.lt_of_lt_of_le (by have := World.block_lt_of_cell? _ _ hx108_0; first | rwa [add_block] at this | exact this) GW107.out); have hn108_1 : ad106.block ≠ gb107 := Nat.ne_of_lt (Nat.lt_of_lt_of_le (by have := World.block_lt_of_cell? _ _ hx108_0; first | rwa [add_block] at this | exact this) GW107.out); replace hx108_0 := (HB.out.cell (World.block_lt_of_cell? w _ hx108_0)).trans hx108_0; replace hx108_1 := (HB.out.cell (World.block_lt_of_cell? w _ hx108_1)).trans hx108_1; replace hx108_0 := (cell_far (p := ⟨gb107, 0, none⟩) (by first | (rw [add_block]; exact hn108_0) | (show (Addr.add _ _).block ≠ _; rw [add_block]; exact hn108_0) | exact hn108_0) (.string ((rd_T47 l0_1 x29_2).f0))).trans hx108_0; replace hx108_1 := (cell_far (p := ⟨gb107, 0, none⟩) (by first | (rw [add_block]; exact hn108_0) | (show (Addr.add _ _).block ≠ _; rw [add_block]; exact hn108_0) | exact hn108_0) (.string ((rd_T47 l0_1 x29_2).f0))).trans hx108_1; replace hx108_0 := (cell_far (p := ⟨gb107, 1, none⟩) (by first | (rw [add_block]; exact hn108_1) | (show (Addr.add _ _).block ≠ _; rw [add_block]; exact hn108_1) | exact hn108_1) (.string ((rd_T47 l0_1 x29_2).f1))).trans hx108_0; replace hx108_1 := (cell_far (p := ⟨gb107, 1, none⟩) (by first | (rw [add_block]; exact hn108_1) | (show (Addr.add _ _).block ≠ _; rw [add_block]; exact hn108_1) | exact hn108_1) (.string ((rd_T47 l0_1 x29_2).f1))).trans hx108_1; (try have hy108_0 := fun (n_ : Nat) => (show ((((w35.drewN n_).setCell ⟨gb107, 0, none⟩ (.string ((rd_T47 l0_1 x29_2).f0))).setCell ⟨gb107, 1, none⟩ (.string ((rd_T47 l0_1 x29_2).f1)))).cell? _ = some _ from hx108_0)); (try have hy108_1 := fun (n_ : Nat) => (show ((((w35.drewN n_).setCell ⟨gb107, 0, none⟩ (.string ((rd_T47 l0_1 x29_2).f0))).setCell ⟨gb107, 1, none⟩ (.string ((rd_T47 l0_1 x29_2).f1)))).cell? _ = some _ from hx108_1)); clear hn108_0; clear hn108_1; replace p108 := eq_true p108; replace q108 := eq_true q108)))
                go_ret
                exact ⟨by first | rfl | (simp [errW_none, errW_some] <;> rfl) | (simp only [← hji27]; first | rfl | (simp [errW_none, errW_some] <;> rfl)) | (simp [*, errW_none, errW_some] <;> rfl), kl HB⟩
              ·rw [if_neg c29] at H
               exact absurd H (by simp)
             ·rw [if_neg c28] at H
              exact absurd H (by simp)
            ·rw [if_neg c26] at H
             have c26b0 : decide (0 < x29_2) = false := decide_eq_false c26
             clear c26
             have H' := Aside0.mk H
             clear H
             have p106 : 0 ≤ (x29_2 : Int) := of_decide_eq_true (by first | (with_reducible assumption) | assumption)
             have q106 : x29_2 < (l0_1.length : Int) := of_decide_eq_true (by first | (with_reducible assumption) | assumption)
             obtain ⟨ad106, e106, hx106_0, hx106_1⟩ := at_T47 HR0_1.out x29_2 p106 q106
             cases e106
             replace hx106_0 := (HB.out.cell (World.block_lt_of_cell? w _ hx106_0)).trans hx106_0
             replace hx106_1 := (HB.out.cell (World.block_lt_of_cell? w _ hx106_1)).trans hx106_1
             replace p106 := eq_true p106
             replace q106 := eq_true q106
             go_wp2_with (first | ((with_reducible refine gate_dst (N := 4) rfl ?_); (try (refine gate_guard (by rfl) ?_; dsimp only)); refine box_event ?hg (N := 4) ?hd (cs := #[.string (⟨#[]⟩ : ByteArray), .string (⟨#[]⟩ : ByteArray)]) (t := 47) ?hr ?_; (case hd => rfl); (case hg => rfl); (case hr => first | (go_simp; done) | (go_simp; rfl)); intro gb107 hg w39 hbox hb; have BK107 := Aside0.mk (hbox); have GW107 := Aside0.mk ((by rw [hg]; exact (below_size (kl HB)) : w.heap.size ≤ gb107)); have GE107 := Aside0.mk ((by rw [hg]; exact (below_size (kl HB)) : w.heap.size ≤ gb107)); replace HB := Aside0.mk (below_step (kl HB) hb); have NB105_107 := Aside0.mk ((by rw [hg]; exact Nat.ne_of_lt (bl BK105) : gb105 ≠ gb107)); have NB107_105 := Aside0.mk ((by rw [hg]; exact Nat.ne_of_gt (bl BK105) : gb107 ≠ gb105)); replace BK105 := bb BK105 hb; clear hb hbox hg; have hnb40 := NB107_105.out; have hnc40 := NB105_107.out; have hcz41_0 : w39.cell? ⟨gb107, 0, none⟩ = some (.string (⟨#[]⟩ : ByteArray)) := bc BK107 0; have hcz41_1 : w39.cell? ⟨gb107, 1, none⟩ = some (.string (⟨#[]⟩ : ByteArray)) := bc BK107 1; have hfz41_0 := blk_frozen BK107.out 0; have hfz41_1 := blk_frozen BK107.out 1))
             repeat (go_quiet (fail); try go_wp2_with (first | ((with_reducible refine gate_dst (N := 4) rfl ?_); (try (refine gate_guard (by rfl) ?_; dsimp only)); refine box_event ?hg (N := 4) ?hd (cs := #[.string (⟨#[]⟩ : ByteArray), .string (⟨#[]⟩ : ByteArray)]) (t := 47) ?hr ?_; (case hd => rfl); (case hg => rfl); (case hr => first | (go_simp; done) | (go_simp; rfl)); intro gb107 hg w39 hbox hb; have BK107 := Aside0.mk (hbox); have GW107 := Aside0.mk ((by rw [hg]; exact (below_size (kl HB)) : w.heap.size ≤ gb107)); have GE107 := Aside0.mk ((by rw [hg]; exact (below_size (kl HB)) : w.heap.size ≤ gb107)); replace HB := Aside0.mk (below_step (kl HB) hb); have NB105_107 := Aside0.mk ((by rw [hg]; exact Nat.ne_of_lt (bl BK105) : gb105 ≠ gb107)); have NB107_105 := Aside0.mk ((by rw [hg]; exact Nat.ne_of_gt (bl BK105) : gb107 ≠ gb105)); replace BK105 := bb BK105 hb; clear hb hbox hg; have hnb40 := NB107_105.out; have hnc40 := NB105_107.out; have hcz41_0 : w39.cell? ⟨gb107, 0, none⟩ = some (.string (⟨#[]⟩ : ByteArray)) := bc BK107 0; have hcz41_1 : w39.cell? ⟨gb107, 1, none⟩ = some (.string (⟨#[]⟩ : ByteArray)) := bc BK107 1; have hfz41_0 := blk_frozen BK107.out 0; have hfz41_1 := blk_frozen BK107.out 1)))
             go_roundg k2
             case measure => have := HJ1.out; have := HK2.out; omega
             case rel => exact ⟨(wrap64 (x29_2 + 1)), (by first | rfl | (simp; done) | (simp [*]; done)), H', ⟨by have := HJ1.out; have := HK2.out; omega⟩, ⟨kf NB105_107 BK105⟩, ⟨kl HB⟩⟩
        ·rw [if_neg c13] at H
         exact absurd H (by simp)
       ·rw [if_neg c12] at H
        exact absurd H (by simp)
      ·rw [if_neg c11] at H
       have c11b0 : decide (x29_2 < (l0_1.length : Int)) = false := decide_eq_false c11
       clear c11
       have H' := Aside0.mk H
       clear H
       have hcz42_0 : wr.cell? ⟨gb105, 0, none⟩ = some (.bool a0_0) := bc BK105 0
       have hcz42_1 : wr.cell? ⟨gb105, 1, none⟩ = some (.slice A0_1 l0_1.length c0_1) := bc BK105 1
       have hcz42_2 : wr.cell? ⟨gb105, 2, none⟩ = some (.slice A0_2 l0_2.length c0_2) := bc BK105 2
       have hfz42_0 := blk_frozen BK105.out 0
       have hfz42_1 := blk_frozen BK105.out 1
       have hfz42_2 := blk_frozen BK105.out 2
       go_wp2
       repeat (go_quiet (fail); try go_wp2)
       go_loopg [69] k2 (fun kq v69 w' => ∃ (x69_3 : Int), v69 = .int .i64 x69_3 ∧ Aside0 (leaf_May.l1 kq l0_2 (l0_2.length : Int) x69_3 a0_0 l0_1 l0_2 = some r) ∧ Aside0 (kq ≤ k2) ∧ Aside0 (w'.heap[gb105]? = some (.cells #[.bool a0_0, (.slice A0_1 l0_1.length c0_1), (.slice A0_2 l0_2.length c0_2)] 31 (0, 0))) ∧ Aside0 (Below w.heap.size w w'))
       case atStart => exact ⟨(0), (by first | rfl | (simp; done) | (simp [*]; done)), H', ⟨Nat.le_refl _⟩, ⟨kb BK105⟩, ⟨kl HB⟩⟩
       case round =>
        clear H'
        try clear c1
        try clear p1
        try clear q1
        try clear hx1
        try clear c2
        try clear p2
        try clear c3
        try clear c4
        try clear c5
        try clear c5b0
        try clear c5b1
        try clear p6
        try clear c9
        try clear p10
        try clear q10
        try clear hx10
        try clear c11
        try clear c11b0
        try clear c12
        try clear c12b0
        try clear c13
        try clear c13b0
        try clear c14
        try clear c14b0
        try clear c14b1
        try clear c14b2
        try clear c16
        try clear c18
        try clear c18b0
        try clear c18b1
        try clear c20
        try clear c22
        try clear c22b0
        try clear c22b1
        try clear c24
        try clear c26
        try clear c26b0
        try clear c28
        try clear c28b0
        try clear c29
        try clear c29b0
        try clear c30
        try clear c30b0
        try clear c32
        try clear c36
        try clear c40
        try clear hcz10_0
        try clear hcz10_1
        try clear hcz10_2
        try clear hcz17_0
        try clear hcz17_1
        try clear hcz21_0
        try clear hcz21_1
        try clear hcz25_0
        try clear hcz25_1
        try clear hcz33_0
        try clear hcz33_1
        try clear hcz34_0
        try clear hcz34_1
        try clear hcz34_2
        try clear hcz37_0
        try clear hcz37_1
        try clear hcz38_0
        try clear hcz38_1
        try clear hcz38_2
        try clear hcz41_0
        try clear hcz41_1
        try clear hcz42_0
        try clear hcz42_1
        try clear hcz42_2
        try clear hcz6_0
        try clear hcz6_1
        try clear hcz6_2
        try clear hcz7_0
        try clear hcz7_1
        try clear hcz7_2
        try clear hcz8_0
        try clear hcz8_1
        try clear hcz8_2
        try clear hfz10_0
        try clear hfz10_1
        try clear hfz10_2
        try clear hfz17_0
        try clear hfz17_1
        try clear hfz21_0
        try clear hfz21_1
        try clear hfz25_0
        try clear hfz25_1
        try clear hfz33_0
        try clear hfz33_1
        try clear hfz34_0
        try clear hfz34_1
        try clear hfz34_2
        try clear hfz37_0
        try clear hfz37_1
        try clear hfz38_0
        try clear hfz38_1
        try clear hfz38_2
        try clear hfz41_0
        try clear hfz41_1
        try clear hfz42_0
        try clear hfz42_1
        try clear hfz42_2
        try clear hfz6_0
        try clear hfz6_1
        try clear hfz6_2
        try clear hfz7_0
        try clear hfz7_1
        try clear hfz7_2
        try clear hfz8_0
        try clear hfz8_1
        try clear hfz8_2
        try clear hx106_0
        try clear hx106_1
        try clear hx108_0
        try clear hx108_1
        try clear p106
        try clear p108
        try clear p2
        try clear q106
        try clear q108
        obtain ⟨x69_3, rfl, HA, HK3, BK105, HB⟩ := hrel
        cases gk with
        | zero => exact absurd HA.out (by simp [leaf_May.l1])
        | succ k3 =>
         have H := HA.out
         clear HA
         simp only [leaf_May.l1] at H
         by_cases c43 : x69_3 < (l0_2.length : Int)
         ·rw [if_pos c43] at H
          have c43b0 : decide (x69_3 < (l0_2.length : Int)) = true := decide_eq_true c43
          clear c43
          by_cases c44 : 0 ≤ x69_3
          ·rw [if_pos c44] at H
           have c44b0 : decide (0 ≤ x69_3) = true := decide_eq_true c44
           clear c44
           by_cases c45 : x69_3 < (l0_2.length : Int)
           ·rw [if_pos c45] at H
            have c45b0 : decide (x69_3 < (l0_2.length : Int)) = true := decide_eq_true c45
            clear c45
            by_cases c46 : (((rd_T36 l0_2 x69_3).f0).size : Int) > 24
            ·rw [if_pos c46] at H
             have c46b0 : decide (24 < (((rd_T36 l0_2 x69_3).f0).size : Int)) = true := decide_eq_true c46
             have c46b1 : decide (24 < ((rd_T36 l0_2 x69_3).f0).size) = true := decide_eq_true (by omega)
             clear c46
             obtain rfl := Option.some.inj H
             have p109 : 0 ≤ (x69_3 : Int) := of_decide_eq_true (by first | (with_reducible assumption) | assumption)
             have q109 : x69_3 < (l0_2.length : Int) := of_decide_eq_true (by first | (with_reducible assumption) | assumption)
             obtain ⟨ad109, e109, hx109_0, hx109_1⟩ := at_T36 HR0_2.out x69_3 p109 q109
             cases e109
             replace hx109_0 := (HB.out.cell (World.block_lt_of_cell? w _ hx109_0)).trans hx109_0
             replace hx109_1 := (HB.out.cell (World.block_lt_of_cell? w _ hx109_1)).trans hx109_1
             replace p109 := eq_true p109
             replace q109 := eq_true q109
             go_wp2_with (first | ((with_reducible refine gate_dst (N := 6) rfl ?_); (try (refine gate_guard (by rfl) ?_; dsimp only)); refine box_event ?hg (N := 6) ?hd (cs := #[.string (⟨#[]⟩ : ByteArray), .int .i64 0]) (t := 36) ?hr ?_; (case hd => rfl); (case hg => rfl); (case hr => first | (go_simp; done) | (go_simp; rfl)); intro gb110 hg w47 hbox hb; have BK110 := Aside0.mk (hbox); have GW110 := Aside0.mk ((by rw [hg]; exact (below_size (kl HB)) : w.heap.size ≤ gb110)); have GE110 := Aside0.mk ((by rw [hg]; exact (below_size (kl HB)) : w.heap.size ≤ gb110)); replace HB := Aside0.mk (below_step (kl HB) hb); have NB105_110 := Aside0.mk ((by rw [hg]; exact Nat.ne_of_lt (bl BK105) : gb105 ≠ gb110)); have NB110_105 := Aside0.mk ((by rw [hg]; exact Nat.ne_of_gt (bl BK105) : gb110 ≠ gb105)); replace BK105 := bb BK105 hb; clear hb hbox hg; have hnb48 := NB110_105.out; have hnc48 := NB105_110.out; have hcz49_0 : w47.cell? ⟨gb110, 0, none⟩ = some (.string (⟨#[]⟩ : ByteArray)) := bc BK110 0; have hcz49_1 : w47.cell? ⟨gb110, 1, none⟩ = some (.int .i64 0) := bc BK110 1; have hfz49_0 := blk_frozen BK110.out 0; have hfz49_1 := blk_frozen BK110.out 1))
             repeat (go_quiet (fail); try go_wp2_with (first | ((with_reducible refine gate_dst (N := 6) rfl ?_); (try (refine gate_guard (by rfl) ?_; dsimp only)); refine box_event ?hg (N := 6) ?hd (cs := #[.string (⟨#[]⟩ : ByteArray), .int .i64 0]) (t := 36) ?hr ?_; (case hd => rfl); (case hg => rfl); (case hr => first | (go_simp; done) | (go_simp; rfl)); intro gb110 hg w47 hbox hb; have BK110 := Aside0.mk (hbox); have GW110 := Aside0.mk ((by rw [hg]; exact (below_size (kl HB)) : w.heap.size ≤ gb110)); have GE110 := Aside0.mk ((by rw [hg]; exact (below_size (kl HB)) : w.heap.size ≤ gb110)); replace HB := Aside0.mk (below_step (kl HB) hb); have NB105_110 := Aside0.mk ((by rw [hg]; exact Nat.ne_of_lt (bl BK105) : gb105 ≠ gb110)); have NB110_105 := Aside0.mk ((by rw [hg]; exact Nat.ne_of_gt (bl BK105) : gb110 ≠ gb105)); replace BK105 := bb BK105 hb; clear hb hbox hg; have hnb48 := NB110_105.out; have hnc48 := NB105_110.out; have hcz49_0 : w47.cell? ⟨gb110, 0, none⟩ = some (.string (⟨#[]⟩ : ByteArray)) := bc BK110 0; have hcz49_1 : w47.cell? ⟨gb110, 1, none⟩ = some (.int .i64 0) := bc BK110 1; have hfz49_0 := blk_frozen BK110.out 0; have hfz49_1 := blk_frozen BK110.out 1)))
             go_ret
             exact ⟨by first | rfl | (simp [errW_none, errW_some] <;> rfl) | (simp [*, errW_none, errW_some] <;> rfl), kl HB⟩
            ·rw [if_neg c46] at H
             have c46b0 : decide (24 < (((rd_T36 l0_2 x69_3).f0).size : Int)) = false := decide_eq_false c46
             have c46b1 : decide (24 < ((rd_T36 l0_2 x69_3).f0).size) = false := decide_eq_false (by omega)
             clear c46
             by_cases c50 : ((rd_T36 l0_2 x69_3).f1) < 2
             ·rw [if_pos c50] at H
              have c50b0 : decide (((rd_T36 l0_2 x69_3).f1) < 2) = true := decide_eq_true c50
              clear c50
              obtain rfl := Option.some.inj H
              have p109 : 0 ≤ (x69_3 : Int) := of_decide_eq_true (by first | (with_reducible assumption) | assumption)
              have q109 : x69_3 < (l0_2.length : Int) := of_decide_eq_true (by first | (with_reducible assumption) | assumption)
              obtain ⟨ad109, e109, hx109_0, hx109_1⟩ := at_T36 HR0_2.out x69_3 p109 q109
              cases e109
              replace hx109_0 := (HB.out.cell (World.block_lt_of_cell? w _ hx109_0)).trans hx109_0
              replace hx109_1 := (HB.out.cell (World.block_lt_of_cell? w _ hx109_1)).trans hx109_1
              replace p109 := eq_true p109
              replace q109 := eq_true q109
              go_wp2_with (first | ((with_reducible refine gate_dst (N := 6) rfl ?_); (try (refine gate_guard (by rfl) ?_; dsimp only)); refine box_event ?hg (N := 6) ?hd (cs := #[.string (⟨#[]⟩ : ByteArray), .int .i64 0]) (t := 36) ?hr ?_; (case hd => rfl); (case hg => rfl); (case hr => first | (go_simp; done) | (go_simp; rfl)); intro gb110 hg w51 hbox hb; have BK110 := Aside0.mk (hbox); have GW110 := Aside0.mk ((by rw [hg]; exact (below_size (kl HB)) : w.heap.size ≤ gb110)); have GE110 := Aside0.mk ((by rw [hg]; exact (below_size (kl HB)) : w.heap.size ≤ gb110)); replace HB := Aside0.mk (below_step (kl HB) hb); have NB105_110 := Aside0.mk ((by rw [hg]; exact Nat.ne_of_lt (bl BK105) : gb105 ≠ gb110)); have NB110_105 := Aside0.mk ((by rw [hg]; exact Nat.ne_of_gt (bl BK105) : gb110 ≠ gb105)); replace BK105 := bb BK105 hb; clear hb hbox hg; have hnb52 := NB110_105.out; have hnc52 := NB105_110.out; have hcz53_0 : w51.cell? ⟨gb110, 0, none⟩ = some (.string (⟨#[]⟩ : ByteArray)) := bc BK110 0; have hcz53_1 : w51.cell? ⟨gb110, 1, none⟩ = some (.int .i64 0) := bc BK110 1; have hfz53_0 := blk_frozen BK110.out 0; have hfz53_1 := blk_frozen BK110.out 1))
              repeat (go_quiet (fail); try go_wp2_with (first | ((with_reducible refine gate_dst (N := 6) rfl ?_); (try (refine gate_guard (by rfl) ?_; dsimp only)); refine box_event ?hg (N := 6) ?hd (cs := #[.string (⟨#[]⟩ : ByteArray), .int .i64 0]) (t := 36) ?hr ?_; (case hd => rfl); (case hg => rfl); (case hr => first | (go_simp; done) | (go_simp; rfl)); intro gb110 hg w51 hbox hb; have BK110 := Aside0.mk (hbox); have GW110 := Aside0.mk ((by rw [hg]; exact (below_size (kl HB)) : w.heap.size ≤ gb110)); have GE110 := Aside0.mk ((by rw [hg]; exact (below_size (kl HB)) : w.heap.size ≤ gb110)); replace HB := Aside0.mk (below_step (kl HB) hb); have NB105_110 := Aside0.mk ((by rw [hg]; exact Nat.ne_of_lt (bl BK105) : gb105 ≠ gb110)); have NB110_105 := Aside0.mk ((by rw [hg]; exact Nat.ne_of_gt (bl BK105) : gb110 ≠ gb105)); replace BK105 := bb BK105 hb; clear hb hbox hg; have hnb52 := NB110_105.out; have hnc52 := NB105_110.out; have hcz53_0 : w51.cell? ⟨gb110, 0, none⟩ = some (.string (⟨#[]⟩ : ByteArray)) := bc BK110 0; have hcz53_1 : w51.cell? ⟨gb110, 1, none⟩ = some (.int .i64 0) := bc BK110 1; have hfz53_0 := blk_frozen BK110.out 0; have hfz53_1 := blk_frozen BK110.out 1)))
              go_ret
              exact ⟨by first | rfl | (simp [errW_none, errW_some] <;> rfl) | (simp [*, errW_none, errW_some] <;> rfl), kl HB⟩
             ·rw [if_neg c50] at H
              have c50b0 : decide (((rd_T36 l0_2 x69_3).f1) < 2) = false := decide_eq_false c50
              clear c50
              by_cases c54 : ((rd_T36 l0_2 x69_3).f1) ≥ 1024
              ·rw [if_pos c54] at H
               have c54b0 : decide (1024 ≤ ((rd_T36 l0_2 x69_3).f1)) = true := decide_eq_true c54
               clear c54
               obtain rfl := Option.some.inj H
               have p109 : 0 ≤ (x69_3 : Int) := of_decide_eq_true (by first | (with_reducible assumption) | assumption)
               have q109 : x69_3 < (l0_2.length : Int) := of_decide_eq_true (by first | (with_reducible assumption) | assumption)
               obtain ⟨ad109, e109, hx109_0, hx109_1⟩ := at_T36 HR0_2.out x69_3 p109 q109
               cases e109
               replace hx109_0 := (HB.out.cell (World.block_lt_of_cell? w _ hx109_0)).trans hx109_0
               replace hx109_1 := (HB.out.cell (World.block_lt_of_cell? w _ hx109_1)).trans hx109_1
               replace p109 := eq_true p109
               replace q109 := eq_true q109
               go_wp2_with (first | ((with_reducible refine gate_dst (N := 6) rfl ?_); (try (refine gate_guard (by rfl) ?_; dsimp only)); refine box_event ?hg (N := 6) ?hd (cs := #[.string (⟨#[]⟩ : ByteArray), .int .i64 0]) (t := 36) ?hr ?_; (case hd => rfl); (case hg => rfl); (case hr => first | (go_simp; done) | (go_simp; rfl)); intro gb110 hg w55 hbox hb; have BK110 := Aside0.mk (hbox); have GW110 := Aside0.mk ((by rw [hg]; exact (below_size (kl HB)) : w.heap.size ≤ gb110)); have GE110 := Aside0.mk ((by rw [hg]; exact (below_size (kl HB)) : w.heap.size ≤ gb110)); replace HB := Aside0.mk (below_step (kl HB) hb); have NB105_110 := Aside0.mk ((by rw [hg]; exact Nat.ne_of_lt (bl BK105) : gb105 ≠ gb110)); have NB110_105 := Aside0.mk ((by rw [hg]; exact Nat.ne_of_gt (bl BK105) : gb110 ≠ gb105)); replace BK105 := bb BK105 hb; clear hb hbox hg; have hnb56 := NB110_105.out; have hnc56 := NB105_110.out; have hcz57_0 : w55.cell? ⟨gb110, 0, none⟩ = some (.string (⟨#[]⟩ : ByteArray)) := bc BK110 0; have hcz57_1 : w55.cell? ⟨gb110, 1, none⟩ = some (.int .i64 0) := bc BK110 1; have hfz57_0 := blk_frozen BK110.out 0; have hfz57_1 := blk_frozen BK110.out 1))
               repeat (go_quiet (fail); try go_wp2_with (first | ((with_reducible refine gate_dst (N := 6) rfl ?_); (try (refine gate_guard (by rfl) ?_; dsimp only)); refine box_event ?hg (N := 6) ?hd (cs := #[.string (⟨#[]⟩ : ByteArray), .int .i64 0]) (t := 36) ?hr ?_; (case hd => rfl); (case hg => rfl); (case hr => first | (go_simp; done) | (go_simp; rfl)); intro gb110 hg w55 hbox hb; have BK110 := Aside0.mk (hbox); have GW110 := Aside0.mk ((by rw [hg]; exact (below_size (kl HB)) : w.heap.size ≤ gb110)); have GE110 := Aside0.mk ((by rw [hg]; exact (below_size (kl HB)) : w.heap.size ≤ gb110)); replace HB := Aside0.mk (below_step (kl HB) hb); have NB105_110 := Aside0.mk ((by rw [hg]; exact Nat.ne_of_lt (bl BK105) : gb105 ≠ gb110)); have NB110_105 := Aside0.mk ((by rw [hg]; exact Nat.ne_of_gt (bl BK105) : gb110 ≠ gb105)); replace BK105 := bb BK105 hb; clear hb hbox hg; have hnb56 := NB110_105.out; have hnc56 := NB105_110.out; have hcz57_0 : w55.cell? ⟨gb110, 0, none⟩ = some (.string (⟨#[]⟩ : ByteArray)) := bc BK110 0; have hcz57_1 : w55.cell? ⟨gb110, 1, none⟩ = some (.int .i64 0) := bc BK110 1; have hfz57_0 := blk_frozen BK110.out 0; have hfz57_1 := blk_frozen BK110.out 1)))
               go_ret
               exact ⟨by first | rfl | (simp [errW_none, errW_some] <;> rfl) | (simp [*, errW_none, errW_some] <;> rfl), kl HB⟩
              ·rw [if_neg c54] at H
               have c54b0 : decide (1024 ≤ ((rd_T36 l0_2 x69_3).f1)) = false := decide_eq_false c54
               clear c54
               by_cases c58 : x69_3 > 0
               ·rw [if_pos c58] at H
                have c58b0 : decide (0 < x69_3) = true := decide_eq_true c58
                clear c58
                obtain ⟨ji59, hji59⟩ : ∃ j_ : Int, (wrap64 (x69_3 - 1)) = j_ := ⟨_, rfl⟩
                replace H : (if 0 ≤ (ji59) then (if (ji59) < (l0_2.length : Int) then (if ((Op.bytesLess (((rd_T36 l0_2 (ji59)).f0).toList) (((rd_T36 l0_2 x69_3).f0).toList)) = true) then (leaf_May.l1 k3 l0_2 (l0_2.length : Int) (wrap64 (x69_3 + 1)) a0_0 l0_1 l0_2) else (some false)) else (none)) else (none)) = some r := by first | (rw [hji59] at H; exact H) | (simp only [hji59] at H ⊢; exact H)
                have hji59w : (IntKind.i64.wrap (x69_3 - 1)) = ji59 := (i64_w _).trans hji59
                by_cases c60 : 0 ≤ (ji59)
                ·rw [if_pos c60] at H
                 have c60b0 : decide (0 ≤ (ji59)) = true := decide_eq_true c60
                 clear c60
                 by_cases c61 : (ji59) < (l0_2.length : Int)
                 ·rw [if_pos c61] at H
                  have c61b0 : decide ((ji59) < (l0_2.length : Int)) = true := decide_eq_true c61
                  clear c61
                  by_cases c62 : ((Op.bytesLess (((rd_T36 l0_2 (ji59)).f0).toList) (((rd_T36 l0_2 x69_3).f0).toList)) = true)
                  ·rw [if_pos c62] at H
                   have c62b0 : (Op.bytesLess (((rd_T36 l0_2 (ji59)).f0).toList) (((rd_T36 l0_2 x69_3).f0).toList)) = true := c62
                   clear c62
                   have H' := Aside0.mk H
                   clear H
                   have p109 : 0 ≤ (x69_3 : Int) := of_decide_eq_true (by first | (with_reducible assumption) | assumption)
                   have q109 : x69_3 < (l0_2.length : Int) := of_decide_eq_true (by first | (with_reducible assumption) | assumption)
                   obtain ⟨ad109, e109, hx109_0, hx109_1⟩ := at_T36 HR0_2.out x69_3 p109 q109
                   cases e109
                   replace hx109_0 := (HB.out.cell (World.block_lt_of_cell? w _ hx109_0)).trans hx109_0
                   replace hx109_1 := (HB.out.cell (World.block_lt_of_cell? w _ hx109_1)).trans hx109_1
                   replace p109 := eq_true p109
                   replace q109 := eq_true q109
                   go_wp2_with (first | ((with_reducible refine gate_dst (N := 6) rfl ?_); (try (refine gate_guard (by rfl) ?_; dsimp only)); refine box_event ?hg (N := 6) ?hd (cs := #[.string (⟨#[]⟩ : ByteArray), .int .i64 0]) (t := 36) ?hr ?_; (case hd => rfl); (case hg => rfl); (case hr => first | (go_simp; done) | (go_simp; rfl)); intro gb110 hg w63 hbox hb; have BK110 := Aside0.mk (hbox); have GW110 := Aside0.mk ((by rw [hg]; exact (below_size (kl HB)) : w.heap.size ≤ gb110)); have GE110 := Aside0.mk ((by rw [hg]; exact (below_size (kl HB)) : w.heap.size ≤ gb110)); replace HB := Aside0.mk (below_step (kl HB) hb); have NB105_110 := Aside0.mk ((by rw [hg]; exact Nat.ne_of_lt (bl BK105) : gb105 ≠ gb110)); have NB110_105 := Aside0.mk ((by rw [hg]; exact Nat.ne_of_gt (bl BK105) : gb110 ≠ gb105)); replace BK105 := bb BK105 hb; clear hb hbox hg; have hnb64 := NB110_105.out; have hnc64 := NB105_110.out; have hcz65_0 : w63.cell? ⟨gb110, 0, none⟩ = some (.string (⟨#[]⟩ : ByteArray)) := bc BK110 0; have hcz65_1 : w63.cell? ⟨gb110, 1, none⟩ = some (.int .i64 0) := bc BK110 1; have hfz65_0 := blk_frozen BK110.out 0; have hfz65_1 := blk_frozen BK110.out 1; have hcz66_0 : w63.cell? ⟨gb105, 0, none⟩ = some (.bool a0_0) := bc BK105 0; have hcz66_1 : w63.cell? ⟨gb105, 1, none⟩ = some (.slice A0_1 l0_1.length c0_1) := bc BK105 1; have hcz66_2 : w63.cell? ⟨gb105, 2, none⟩ = some (.slice (some ad109) l0_2.length c0_2) := bc BK105 2; have hfz66_0 := blk_frozen BK105.out 0; have hfz66_1 := blk_frozen BK105.out 1; have hfz66_2 := blk_frozen BK105.out 2; have p111 : 0 ≤ ((ji59) : Int) := of_decide_eq_true (by first | (with_reducible assumption) | assumption); have q111 : (ji59) < (l0_2.length : Int) := of_decide_eq_true (by first | (with_reducible assumption) | assumption); obtain ⟨ad111, e111, hx111_0, hx111_1⟩ := at_T36 HR0_2.out (ji59) p111 q111; obtain rfl : ad109 = ad111 := (by injection e111); have hn111_0 : ad109.block ≠ gb110 := Nat.ne_of_lt (Nat.lt_of_lt_of_le (by have := World.block_lt_of_cell? _ _ hx111_0; first | rwa [add_block] at this | exact this) GW110.out); have hn111_1 : ad109.block ≠ gb110 := Nat.ne_of_lt (Nat.lt_of_lt_of_le (by have := World.block_lt_of_cell? _ _ hx111_0; first | rwa [add_block] at this | exact this) GW110.out); replace hx111_0 := (HB.out.cell (World.block_lt_of_cell? w _ hx111_0)).trans hx111_0; replace hx111_1 := (HB.out.cell (World.block_lt_of_cell? w _ hx111_1)).trans hx111_1; replace hx111_0 := (cell_far (p := ⟨gb110, 0, none⟩) (by first | (rw [add_block]; exact hn111_0) | (show (Addr.add _ _).block ≠ _; rw [add_block]; exact hn111_0) | exact hn111_0) (.string ((rd_T36 l0_2 x69_3).f0))).trans hx111_0; replace hx111_1 := (cell_far (p := ⟨gb110, 0, none⟩) (by first | (rw [add_block]; exact hn111_0) | (show (Addr.add _ _).block ≠ _; rw [add_block]; exact hn111_0) | exact hn111_0) (.string ((rd_T36 l0_2 x69_3).f0))).trans hx111_1; replace hx111_0 := (cell_far (p := ⟨gb110, 1, none⟩) (by first | (rw [add_block]; exact hn111_1) | (show (Addr.add _ _).block ≠ _; rw [add_block]; exact hn111_1) | exact hn111_1) (.int .i64 ((rd_T36 l0_2 x69_3).f1))).trans hx111_0; replace hx111_1 := (cell_far (p := ⟨gb110, 1, none⟩) (by first | (rw [add_block]; exact hn111_1) | (show (Addr.add _ _).block ≠ _; rw [add_block]; exact hn111_1) | exact hn111_1) (.int .i64 ((rd_T36 l0_2 x69_3).f1))).trans hx111_1; (try have hy111_0 := fun (n_ : Nat) => (show ((((w63.drewN n_).setCell ⟨gb110, 0, none⟩ (.string ((rd_T36 l0_2 x69_3).f0))).setCell ⟨gb110, 1, none⟩ (.int .i64 ((rd_T36 l0_2 x69_3).f1)))).cell? _ = some _ from hx111_0)); (try have hy111_1 := fun (n_ : Nat) => (show ((((w63.drewN n_).setCell ⟨gb110, 0, none⟩ (.string ((rd_T36 l0_2 x69_3).f0))).setCell ⟨gb110, 1, none⟩ (.int .i64 ((rd_T36 l0_2 x69_3).f1)))).cell? _ = some _ from hx111_1)); clear hn111_0; clear hn111_1; replace p111 := eq_true p111; replace q111 := eq_true q111))
                   repeat (go_quiet (fail); try go_wp2_with (first | ((with_reducible refine gate_dst (N := 6) rfl ?_); (try (refine gate_guard (by rfl) ?_; dsimp only)); refine box_event ?hg (N := 6) ?hd (cs := #[.string (⟨#[]⟩ : ByteArray), .int .i64 0]) (t := 36) ?hr ?_; (case hd => rfl); (case hg => rfl); (case hr => first | (go_simp; done) | (go_simp; rfl)); intro gb110 hg w63 hbox hb; have BK110 := Aside0.mk (hbox); have GW110 := Aside0.mk ((by rw [hg]; exact (below_size (kl HB)) : w.heap.size ≤ gb110)); have GE110 := Aside0.mk ((by rw [hg]; exact (below_size (kl HB)) : w.heap.size ≤ gb110)); replace HB := Aside0.mk (below_step (kl HB) hb); have NB105_110 := Aside0.mk ((by rw [hg]; exact Nat.ne_of_lt (bl BK105) : gb105 ≠ gb110)); have NB110_105 := Aside0.mk ((by rw [hg]; exact Nat.ne_of_gt (bl BK105) : gb110 ≠ gb105)); replace BK105 := bb BK105 hb; clear hb hbox hg; have hnb64 := NB110_105.out; have hnc64 := NB105_110.out; have hcz65_0 : w63.cell? ⟨gb110, 0, none⟩ = some (.string (⟨#[]⟩ : ByteArray)) := bc BK110 0; have hcz65_1 : w63.cell? ⟨gb110, 1, none⟩ = some (.int .i64 0) := bc BK110 1; have hfz65_0 := blk_frozen BK110.out 0; have hfz65_1 := blk_frozen BK110.out 1; have hcz66_0 : w63.cell? ⟨gb105, 0, none⟩ = some (.bool a0_0) := bc BK105 0; have hcz66_1 : w63.cell? ⟨gb105, 1, none⟩ = some (.slice A0_1 l0_1.length c0_1) := bc BK105 1; have hcz66_2 : w63.cell? ⟨gb105, 2, none⟩ = some (.slice (some ad109) l0_2.length c0_2) := bc BK105 2; have hfz66_0 := blk_frozen BK105.out 0; have hfz66_1 := blk_frozen BK105.out 1; have hfz66_2 := blk_frozen BK105.out 2; have p111 : 0 ≤ ((ji59) : Int) := of_decide_eq_true (by first | (with_reducible assumption) | assumption); have q111 : (ji59) < (l0_2.length : Int) := of_decide_eq_true (by first | (with_reducible assumption) | assumption); obtain ⟨ad111, e111, hx111_0, hx111_1⟩ := at_T36 HR0_2.out (ji59) p111 q111; obtain rfl : ad109 = ad111 := (by injection e111); have hn111_0 : ad109.block ≠ gb110 := Nat.ne_of_lt (Nat.lt_of_lt_of_le (by have := World.block_lt_of_cell? _ _ hx111_0; first | rwa [add_block] at this | exact this) GW110.out); have hn111_1 : ad109.block ≠ gb110 := Nat.ne_of_lt (Nat.lt_of_lt_of_le (by have := World.block_lt_of_cell? _ _ hx111_0; first | rwa [add_block] at this | exact this) GW110.out); replace hx111_0 := (HB.out.cell (World.block_lt_of_cell? w _ hx111_0)).trans hx111_0; replace hx111_1 := (HB.out.cell (World.block_lt_of_cell? w _ hx111_1)).trans hx111_1; replace hx111_0 := (cell_far (p := ⟨gb110, 0, none⟩) (by first | (rw [add_block]; exact hn111_0) | (show (Addr.add _ _).block ≠ _; rw [add_block]; exact hn111_0) | exact hn111_0) (.string ((rd_T36 l0_2 x69_3).f0))).trans hx111_0; replace hx111_1 := (cell_far (p := ⟨gb110, 0, none⟩) (by first | (rw [add_block]; exact hn111_0) | (show (Addr.add _ _).block ≠ _; rw [add_block]; exact hn111_0) | exact hn111_0) (.string ((rd_T36 l0_2 x69_3).f0))).trans hx111_1; replace hx111_0 := (cell_far (p := ⟨gb110, 1, none⟩) (by first | (rw [add_block]; exact hn111_1) | (show (Addr.add _ _).block ≠ _; rw [add_block]; exact hn111_1) | exact hn111_1) (.int .i64 ((rd_T36 l0_2 x69_3).f1))).trans hx111_0; replace hx111_1 := (cell_far (p := ⟨gb110, 1, none⟩) (by first | (rw [add_block]; exact hn111_1) | (show (Addr.add _ _).block ≠ _; rw [add_block]; exact hn111_1) | exact hn111_1) (.int .i64 ((rd_T36 l0_2 x69_3).f1))).trans hx111_1; (try have hy111_0 := fun (n_ : Nat) => (show ((((w63.drewN n_).setCell ⟨gb110, 0, none⟩ (.string ((rd_T36 l0_2 x69_3).f0))).setCell ⟨gb110, 1, none⟩ (.int .i64 ((rd_T36 l0_2 x69_3).f1)))).cell? _ = some _ from hx111_0)); (try have hy111_1 := fun (n_ : Nat) => (show ((((w63.drewN n_).setCell ⟨gb110, 0, none⟩ (.string ((rd_T36 l0_2 x69_3).f0))).setCell ⟨gb110, 1, none⟩ (.int .i64 ((rd_T36 l0_2 x69_3).f1)))).cell? _ = some _ from hx111_1)); clear hn111_0; clear hn111_1; replace p111 := eq_true p111; replace q111 := eq_true q111)))
                   go_roundg k3
                   case measure => have := HJ1.out; have := HK2.out; have := HK3.out; omega
                   case rel => exact ⟨(wrap64 (x69_3 + 1)), (by first | rfl | (simp; done) | (simp [*]; done)), H', ⟨by have := HJ1.out; have := HK2.out; have := HK3.out; omega⟩, ⟨kf NB105_110 BK105⟩, ⟨kl HB⟩⟩
                  ·rw [if_neg c62] at H
                   have c62b0 : (Op.bytesLess (((rd_T36 l0_2 (ji59)).f0).toList) (((rd_T36 l0_2 x69_3).f0).toList)) = false := by simpa using c62
                   clear c62
                   obtain rfl := Option.some.inj H
                   have p109 : 0 ≤ (x69_3 : Int) := of_decide_eq_true (by first | (with_reducible assumption) | assumption)
                   have q109 : x69_3 < (l0_2.length : Int) := of_decide_eq_true (by first | (with_reducible assumption) | assumption)
                   obtain ⟨ad109, e109, hx109_0, hx109_1⟩ := at_T36 HR0_2.out x69_3 p109 q109
                   cases e109
                   replace hx109_0 := (HB.out.cell (World.block_lt_of_cell? w _ hx109_0)).trans hx109_0
                   replace hx109_1 := (HB.out.cell (World.block_lt_of_cell? w _ hx109_1)).trans hx109_1
                   replace p109 := eq_true p109
                   replace q109 := eq_true q109
                   go_wp2_with (first | ((with_reducible refine gate_dst (N := 6) rfl ?_); (try (refine gate_guard (by rfl) ?_; dsimp only)); refine box_event ?hg (N := 6) ?hd (cs := #[.string (⟨#[]⟩ : ByteArray), .int .i64 0]) (t := 36) ?hr ?_; (case hd => rfl); (case hg => rfl); (case hr => first | (go_simp; done) | (go_simp; rfl)); intro gb110 hg w67 hbox hb; have BK110 := Aside0.mk (hbox); have GW110 := Aside0.mk ((by rw [hg]; exact (below_size (kl HB)) : w.heap.size ≤ gb110)); have GE110 := Aside0.mk ((by rw [hg]; exact (below_size (kl HB)) : w.heap.size ≤ gb110)); replace HB := Aside0.mk (below_step (kl HB) hb); have NB105_110 := Aside0.mk ((by rw [hg]; exact Nat.ne_of_lt (bl BK105) : gb105 ≠ gb110)); have NB110_105 := Aside0.mk ((by rw [hg]; exact Nat.ne_of_gt (bl BK105) : gb110 ≠ gb105)); replace BK105 := bb BK105 hb; clear hb hbox hg; have hnb68 := NB110_105.out; have hnc68 := NB105_110.out; have hcz69_0 : w67.cell? ⟨gb110, 0, none⟩ = some (.string (⟨#[]⟩ : ByteArray)) := bc BK110 0; have hcz69_1 : w67.cell? ⟨gb110, 1, none⟩ = some (.int .i64 0) := bc BK110 1; have hfz69_0 := blk_frozen BK110.out 0; have hfz69_1 := blk_frozen BK110.out 1; have hcz70_0 : w67.cell? ⟨gb105, 0, none⟩ = some (.bool a0_0) := bc BK105 0; have hcz70_1 : w67.cell? ⟨gb105, 1, none⟩ = some (.slice A0_1 l0_1.length c0_1) := bc BK105 1; have hcz70_2 : w67.cell? ⟨gb105, 2, none⟩ = some (.slice (some ad109) l0_2.length c0_2) := bc BK105 2; have hfz70_0 := blk_frozen BK105.out 0; have hfz70_1 := blk_frozen BK105.out 1; have hfz70_2 := blk_frozen BK105.out 2; have p111 : 0 ≤ ((ji59) : Int) := of_decide_eq_true (by first | (with_reducible assumption) | assumption); have q111 : (ji59) < (l0_2.length : Int) := of_decide_eq_true (by first | (with_reducible assumption) | assumption); obtain ⟨ad111, e111, hx111_0, hx111_1⟩ := at_T36 HR0_2.out (ji59) p111 q111; obtain rfl : ad109 = ad111 := (by injection e111); have hn111_0 : ad109.block ≠ gb110 := Nat.ne_of_lt (Nat.lt_of_lt_of_le (by have := World.block_lt_of_cell? _ _ hx111_0; first | rwa [add_block] at this | exact this) GW110.out); have hn111_1 : ad109.block ≠ gb110 := Nat.ne_of_lt (Nat.lt_of_lt_of_le (by have := World.block_lt_of_cell? _ _ hx111_0; first | rwa [add_block] at this | exact this) GW110.out); replace hx111_0 := (HB.out.cell (World.block_lt_of_cell? w _ hx111_0)).trans hx111_0; replace hx111_1 := (HB.out.cell (World.block_lt_of_cell? w _ hx111_1)).trans hx111_1; replace hx111_0 := (cell_far (p := ⟨gb110, 0, none⟩) (by first | (rw [add_block]; exact hn111_0) | (show (Addr.add _ _).block ≠ _; rw [add_block]; exact hn111_0) | exact hn111_0) (.string ((rd_T36 l0_2 x69_3).f0))).trans hx111_0; replace hx111_1 := (cell_far (p := ⟨gb110, 0, none⟩) (by first | (rw [add_block]; exact hn111_0) | (show (Addr.add _ _).block ≠ _; rw [add_block]; exact hn111_0) | exact hn111_0) (.string ((rd_T36 l0_2 x69_3).f0))).trans hx111_1; replace hx111_0 := (cell_far (p := ⟨gb110, 1, none⟩) (by first | (rw [add_block]; exact hn111_1) | (show (Addr.add _ _).block ≠ _; rw [add_block]; exact hn111_1) | exact hn111_1) (.int .i64 ((rd_T36 l0_2 x69_3).f1))).trans hx111_0; replace hx111_1 := (cell_far (p := ⟨gb110, 1, none⟩) (by first | (rw [add_block]; exact hn111_1) | (show (Addr.add _ _).block ≠ _; rw [add_block]; exact hn111_1) | exact hn111_1) (.int .i64 ((rd_T36 l0_2 x69_3).f1))).trans hx111_1; (try have hy111_0 := fun (n_ : Nat) => (show ((((w67.drewN n_).setCell ⟨gb110, 0, none⟩ (.string ((rd_T36 l0_2 x69_3).f0))).setCell ⟨gb110, 1, none⟩ (.int .i64 ((rd_T36 l0_2 x69_3).f1)))).cell? _ = some _ from hx111_0)); (try have hy111_1 := fun (n_ : Nat) => (show ((((w67.drewN n_).setCell ⟨gb110, 0, none⟩ (.string ((rd_T36 l0_2 x69_3).f0))).setCell ⟨gb110, 1, none⟩ (.int .i64 ((rd_T36 l0_2 x69_3).f1)))).cell? _ = some _ from hx111_1)); clear hn111_0; clear hn111_1; replace p111 := eq_true p111; replace q111 := eq_true q111))
                   repeat (go_quiet (fail); try go_wp2_with (first | ((with_reducible refine gate_dst (N := 6) rfl ?_); (try (refine gate_guard (by rfl) ?_; dsimp only)); refine box_event ?hg (N := 6) ?hd (cs := #[.string (⟨#[]⟩ : ByteArray), .int .i64 0]) (t := 36) ?hr ?_; (case hd => rfl); (case hg => rfl); (case hr => first | (go_simp; done) | (go_simp; rfl)); intro gb110 hg w67 hbox hb; have BK110 := Aside0.mk (hbox); have GW110 := Aside0.mk ((by rw [hg]; exact (below_size (kl HB)) : w.heap.size ≤ gb110)); have GE110 := Aside0.mk ((by rw [hg]; exact (below_size (kl HB)) : w.heap.size ≤ gb110)); replace HB := Aside0.mk (below_step (kl HB) hb); have NB105_110 := Aside0.mk ((by rw [hg]; exact Nat.ne_of_lt (bl BK105) : gb105 ≠ gb110)); have NB110_105 := Aside0.mk ((by rw [hg]; exact Nat.ne_of_gt (bl BK105) : gb110 ≠ gb105)); replace BK105 := bb BK105 hb; clear hb hbox hg; have hnb68 := NB110_105.out; have hnc68 := NB105_110.out; have hcz69_0 : w67.cell? ⟨gb110, 0, none⟩ = some (.string (⟨#[]⟩ : ByteArray)) := bc BK110 0; have hcz69_1 : w67.cell? ⟨gb110, 1, none⟩ = some (.int .i64 0) := bc BK110 1; have hfz69_0 := blk_frozen BK110.out 0; have hfz69_1 := blk_frozen BK110.out 1; have hcz70_0 : w67.cell? ⟨gb105, 0, none⟩ = some (.bool a0_0) := bc BK105 0; have hcz70_1 : w67.cell? ⟨gb105, 1, none⟩ = some (.slice A0_1 l0_1.length c0_1) := bc BK105 1; have hcz70_2 : w67.cell? ⟨gb105, 2, none⟩ = some (.slice (some ad109) l0_2.length c0_2) := bc BK105 2; have hfz70_0 := blk_frozen BK105.out 0; have hfz70_1 := blk_frozen BK105.out 1; have hfz70_2 := blk_frozen BK105.out 2; have p111 : 0 ≤ ((ji59) : Int) := of_decide_eq_true (by first | (with_reducible assumption) | assumption); have q111 : (ji59) < (l0_2.length : Int) := of_decide_eq_true (by first | (with_reducible assumption) | assumption); obtain ⟨ad111, e111, hx111_0, hx111_1⟩ := at_T36 HR0_2.out (ji59) p111 q111; obtain rfl : ad109 = ad111 := (by injection e111); have hn111_0 : ad109.block ≠ gb110 := Nat.ne_of_lt (Nat.lt_of_lt_of_le (by have := World.block_lt_of_cell? _ _ hx111_0; first | rwa [add_block] at this | exact this) GW110.out); have hn111_1 : ad109.block ≠ gb110 := Nat.ne_of_lt (Nat.lt_of_lt_of_le (by have := World.block_lt_of_cell? _ _ hx111_0; first | rwa [add_block] at this | exact this) GW110.out); replace hx111_0 := (HB.out.cell (World.block_lt_of_cell? w _ hx111_0)).trans hx111_0; replace hx111_1 := (HB.out.cell (World.block_lt_of_cell? w _ hx111_1)).trans hx111_1; replace hx111_0 := (cell_far (p := ⟨gb110, 0, none⟩) (by first | (rw [add_block]; exact hn111_0) | (show (Addr.add _ _).block ≠ _; rw [add_block]; exact hn111_0) | exact hn111_0) (.string ((rd_T36 l0_2 x69_3).f0))).trans hx111_0; replace hx111_1 := (cell_far (p := ⟨gb110, 0, none⟩) (by first | (rw [add_block]; exact hn111_0) | (show (Addr.add _ _).block ≠ _; rw [add_block]; exact hn111_0) | exact hn111_0) (.string ((rd_T36 l0_2 x69_3).f0))).trans hx111_1; replace hx111_0 := (cell_far (p := ⟨gb110, 1, none⟩) (by first | (rw [add_block]; exact hn111_1) | (show (Addr.add _ _).block ≠ _; rw [add_block]; exact hn111_1) | exact hn111_1) (.int .i64 ((rd_T36 l0_2 x69_3).f1))).trans hx111_0; replace hx111_1 := (cell_far (p := ⟨gb110, 1, none⟩) (by first | (rw [add_block]; exact hn111_1) | (show (Addr.add _ _).block ≠ _; rw [add_block]; exact hn111_1) | exact hn111_1) (.int .i64 ((rd_T36 l0_2 x69_3).f1))).trans hx111_1; (try have hy111_0 := fun (n_ : Nat) => (show ((((w67.drewN n_).setCell ⟨gb110, 0, none⟩ (.string ((rd_T36 l0_2 x69_3).f0))).setCell ⟨gb110, 1, none⟩ (.int .i64 ((rd_T36 l0_2 x69_3).f1)))).cell? _ = some _ from hx111_0)); (try have hy111_1 := fun (n_ : Nat) => (show ((((w67.drewN n_).setCell ⟨gb110, 0, none⟩ (.string ((rd_T36 l0_2 x69_3).f0))).setCell ⟨gb110, 1, none⟩ (.int .i64 ((rd_T36 l0_2 x69_3).f1)))).cell? _ = some _ from hx111_1)); clear hn111_0; clear hn111_1; replace p111 := eq_true p111; replace q111 := eq_true q111)))
                   go_ret
                   exact ⟨by first | rfl | (simp [errW_none, errW_some] <;> rfl) | (simp only [← hji59]; first | rfl | (simp [errW_none, errW_some] <;> rfl)) | (simp [*, errW_none, errW_some] <;> rfl), kl HB⟩
                 ·rw [if_neg c61] at H
                  exact absurd H (by simp)
                ·rw [if_neg c60] at H
                 exact absurd H (by simp)
               ·rw [if_neg c58] at H
                have c58b0 : decide (0 < x69_3) = false := decide_eq_false c58
                clear c58
                have H' := Aside0.mk H
                clear H
                have p109 : 0 ≤ (x69_3 : Int) := of_decide_eq_true (by first | (with_reducible assumption) | assumption)
                have q109 : x69_3 < (l0_2.length : Int) := of_decide_eq_true (by first | (with_reducible assumption) | assumption)
                obtain ⟨ad109, e109, hx109_0, hx109_1⟩ := at_T36 HR0_2.out x69_3 p109 q109
                cases e109
                replace hx109_0 := (HB.out.cell (World.block_lt_of_cell? w _ hx109_0)).trans hx109_0
                replace hx109_1 := (HB.out.cell (World.block_lt_of_cell? w _ hx109_1)).trans hx109_1
                replace p109 := eq_true p109
                replace q109 := eq_true q109
                go_wp2_with (first | ((with_reducible refine gate_dst (N := 6) rfl ?_); (try (refine gate_guard (by rfl) ?_; dsimp only)); refine box_event ?hg (N := 6) ?hd (cs := #[.string (⟨#[]⟩ : ByteArray), .int .i64 0]) (t := 36) ?hr ?_; (case hd => rfl); (case hg => rfl); (case hr => first | (go_simp; done) | (go_simp; rfl)); intro gb110 hg w71 hbox hb; have BK110 := Aside0.mk (hbox); have GW110 := Aside0.mk ((by rw [hg]; exact (below_size (kl HB)) : w.heap.size ≤ gb110)); have GE110 := Aside0.mk ((by rw [hg]; exact (below_size (kl HB)) : w.heap.size ≤ gb110)); replace HB := Aside0.mk (below_step (kl HB) hb); have NB105_110 := Aside0.mk ((by rw [hg]; exact Nat.ne_of_lt (bl BK105) : gb105 ≠ gb110)); have NB110_105 := Aside0.mk ((by rw [hg]; exact Nat.ne_of_gt (bl BK105) : gb110 ≠ gb105)); replace BK105 := bb BK105 hb; clear hb hbox hg; have hnb72 := NB110_105.out; have hnc72 := NB105_110.out; have hcz73_0 : w71.cell? ⟨gb110, 0, none⟩ = some (.string (⟨#[]⟩ : ByteArray)) := bc BK110 0; have hcz73_1 : w71.cell? ⟨gb110, 1, none⟩ = some (.int .i64 0) := bc BK110 1; have hfz73_0 := blk_frozen BK110.out 0; have hfz73_1 := blk_frozen BK110.out 1))
                repeat (go_quiet (fail); try go_wp2_with (first | ((with_reducible refine gate_dst (N := 6) rfl ?_); (try (refine gate_guard (by rfl) ?_; dsimp only)); refine box_event ?hg (N := 6) ?hd (cs := #[.string (⟨#[]⟩ : ByteArray), .int .i64 0]) (t := 36) ?hr ?_; (case hd => rfl); (case hg => rfl); (case hr => first | (go_simp; done) | (go_simp; rfl)); intro gb110 hg w71 hbox hb; have BK110 := Aside0.mk (hbox); have GW110 := Aside0.mk ((by rw [hg]; exact (below_size (kl HB)) : w.heap.size ≤ gb110)); have GE110 := Aside0.mk ((by rw [hg]; exact (below_size (kl HB)) : w.heap.size ≤ gb110)); replace HB := Aside0.mk (below_step (kl HB) hb); have NB105_110 := Aside0.mk ((by rw [hg]; exact Nat.ne_of_lt (bl BK105) : gb105 ≠ gb110)); have NB110_105 := Aside0.mk ((by rw [hg]; exact Nat.ne_of_gt (bl BK105) : gb110 ≠ gb105)); replace BK105 := bb BK105 hb; clear hb hbox hg; have hnb72 := NB110_105.out; have hnc72 := NB105_110.out; have hcz73_0 : w71.cell? ⟨gb110, 0, none⟩ = some (.string (⟨#[]⟩ : ByteArray)) := bc BK110 0; have hcz73_1 : w71.cell? ⟨gb110, 1, none⟩ = some (.int .i64 0) := bc BK110 1; have hfz73_0 := blk_frozen BK110.out 0; have hfz73_1 := blk_frozen BK110.out 1)))
                go_roundg k3
                case measure => have := HJ1.out; have := HK2.out; have := HK3.out; omega
                case rel => exact ⟨(wrap64 (x69_3 + 1)), (by first | rfl | (simp; done) | (simp [*]; done)), H', ⟨by have := HJ1.out; have := HK2.out; have := HK3.out; omega⟩, ⟨kf NB105_110 BK105⟩, ⟨kl HB⟩⟩
           ·rw [if_neg c45] at H
            exact absurd H (by simp)
          ·rw [if_neg c44] at H
           exact absurd H (by simp)
         ·rw [if_neg c43] at H
          have c43b0 : decide (x69_3 < (l0_2.length : Int)) = false := decide_eq_false c43
          clear c43
          obtain rfl := Option.some.inj H
          go_wp2
          repeat (go_quiet (fail); try go_wp2)
          go_ret
          exact ⟨by first | rfl | (simp [errW_none, errW_some] <;> rfl) | (simp [*, errW_none, errW_some] <;> rfl), kl HB⟩

end Go.Proofs.Ytfbaejhjppikpaa.P
-- GENERATED by wip/gen.py (this session's own driver of a mended copy of the printer). Not trusted: Lean checks it.
namespace Go.Proofs.Ytfbaejhjppikpaa.P
open Go.RowKit Go.Proofs.YtfbaejhjppikpaaW.PrintWords Go.Proofs.YtfbaejhjppikpaaW.PrintLast Go.Proofs.YtfbaejhjppikpaaW.PrintMore
attribute [local go_sem] Go.Proofs.YtfbaejhjppikpaaB.less_swap Go.Proofs.YtfbaejhjppikpaaB.less_or max2_int min2_int max_two min_two max_three min_three max_four min_four   -- for this text's walks alone
set_option linter.unusedVariables false
set_option linter.unusedSimpArgs false

/-! ### leaf_sizes: function 47 -/
mutual
def leaf_sizes.l0 : Nat → List Int → List (S47) → Int → Int → Bool → List (S47) → List (S36) → Option (List Int)
 | 0, _, _, _, _, _, _, _ => none
 | k + 1, x3, x9, x10, x11, x113000, x113001, x113002 => if x11 < x10 then (if 0 ≤ x11 then (if x11 < (x9.length : Int) then (if x3.length < 17592186044416 then (leaf_sizes.l0 k (x3 ++ [wrap64 ((wrap64 (2 + (((rd_T47 x9 x11).f0).size : Int))) + (((rd_T47 x9 x11).f1).size : Int))]) x9 x10 (wrap64 (x11 + 1)) x113000 x113001 x113002) else (none)) else (none)) else (none)) else (leaf_sizes.l1 k x3 x113002 (x113002.length : Int) 0)
def leaf_sizes.l1 : Nat → List Int → List (S36) → Int → Int → Option (List Int)
 | 0, _, _, _, _ => none
 | k + 1, x3, x28, x29, x30 => if x30 < x29 then (if 0 ≤ x30 then (if x30 < (x28.length : Int) then (if x3.length < 17592186044416 then (leaf_sizes.l1 k (x3 ++ [wrap64 (3 + (((rd_T36 x28 x30).f0).size : Int))]) x28 x29 (wrap64 (x30 + 1))) else (none)) else (none)) else (none)) else (some x3)
end
def leaf_sizes.f (k : Nat) (a0_0 : Bool) (l0_1 : List (S47)) (l0_2 : List (S36)) : Option (List Int) := leaf_sizes.l0 k ([] : List Int) l0_1 (l0_1.length : Int) 0 a0_0 l0_1 l0_2
theorem leaf_sizes.mono_l : ∀ k, (∀ y0 y1 y2 y3 y4 y5 y6, LeO (leaf_sizes.l0 k y0 y1 y2 y3 y4 y5 y6) (leaf_sizes.l0 (k + 1) y0 y1 y2 y3 y4 y5 y6)) ∧ (∀ y0 y1 y2 y3, LeO (leaf_sizes.l1 k y0 y1 y2 y3) (leaf_sizes.l1 (k + 1) y0 y1 y2 y3))
 | 0 => ⟨fun _ _ _ _ _ _ _ r h => by simp [leaf_sizes.l0] at h, fun _ _ _ _ r h => by simp [leaf_sizes.l1] at h⟩
 | k + 1 => by
  obtain ⟨ih0, ih1⟩ := leaf_sizes.mono_l k
  refine ⟨?_, ?_⟩
  ·intro y0 y1 y2 y3 y4 y5 y6
   unfold leaf_sizes.l0
   repeat' first
   | (with_reducible exact ih0 _ _ _ _ _ _ _)
   | (with_reducible exact ih1 _ _ _ _)
   | (with_reducible exact LeO.refl _)
   | (with_reducible exact LeO.none _)
   | (with_reducible refine LeO.ite ?_ ?_)
   | (with_reducible refine LeO.bind ?_ (fun _ => ?_))
   | exact ih0 _ _ _ _ _ _ _
   | exact ih1 _ _ _ _
   | exact LeO.none _
   | refine LeO.ite ?_ ?_
   | refine LeO.bind ?_ (fun _ => ?_)
  ·intro y0 y1 y2 y3
   unfold leaf_sizes.l1
   repeat' first
   | (with_reducible exact ih0 _ _ _ _ _ _ _)
   | (with_reducible exact ih1 _ _ _ _)
   | (with_reducible exact LeO.refl _)
   | (with_reducible exact LeO.none _)
   | (with_reducible refine LeO.ite ?_ ?_)
   | (with_reducible refine LeO.bind ?_ (fun _ => ?_))
   | exact ih0 _ _ _ _ _ _ _
   | exact ih1 _ _ _ _
   | exact LeO.none _
   | refine LeO.ite ?_ ?_
   | refine LeO.bind ?_ (fun _ => ?_)
theorem leaf_sizes.mono : ∀ a0 a1 a2 k, LeO (leaf_sizes.f k a0 a1 a2) (leaf_sizes.f (k + 1) a0 a1 a2) := by
 intro a0 a1 a2 k
 obtain ⟨ih0, ih1⟩ := leaf_sizes.mono_l k
 unfold leaf_sizes.f
 repeat' first
   | (with_reducible exact ih0 _ _ _ _ _ _ _)
   | (with_reducible exact ih1 _ _ _ _)
   | (with_reducible exact LeO.refl _)
   | (with_reducible exact LeO.none _)
   | (with_reducible refine LeO.ite ?_ ?_)
   | (with_reducible refine LeO.bind ?_ (fun _ => ?_))
   | exact ih0 _ _ _ _ _ _ _
   | exact ih1 _ _ _ _
   | exact LeO.none _
   | refine LeO.ite ?_ ?_
   | refine LeO.bind ?_ (fun _ => ?_)
set_option maxHeartbeats 8000000 in
set_option maxRecDepth 100000 in
theorem leaf_sizes.calls (k : Nat) (a0_0 : Bool) (A0_1 : Option Addr) (c0_1 : Nat) (l0_1 : List (S47)) (A0_2 : Option Addr) (c0_2 : Nat) (l0_2 : List (S36)) (r : List Int) (w : World) (hr0_1 : Kd.C k47 w A0_1 l0_1.length l0_1) (hc0_1 : l0_1.length ≤ c0_1) (hr0_2 : Kd.C k36 w A0_2 l0_2.length l0_2) (hc0_2 : l0_2.length ≤ c0_2) (h : leaf_sizes.f k a0_0 l0_1 l0_2 = some r) :
  Calls Try.prog 47 #[.agg #[.bool a0_0, .slice A0_1 l0_1.length c0_1, .slice A0_2 l0_2.length c0_2]] w fun e w' => ∃ v0_ : Value, e = .returned (v0_) ∧ Kd.R (Kd.int .i64) 3 w' w.heap.size (fun _ => True) v0_ r ∧ Below w.heap.size w w' := by
 have hu31 := Try.underlying31
 have hu47 := Try.underlying47
 have hu36 := Try.underlying36
 have HR0_1 := Aside0.mk hr0_1
 have HC0_1 := Aside0.mk hc0_1
 clear hr0_1 hc0_1
 have HR0_2 := Aside0.mk hr0_2
 have HC0_2 := Aside0.mk hc0_2
 clear hr0_2 hc0_2
 have HB := Aside0.mk (Below.refl w.heap.size w)
 have H : (leaf_sizes.l0 k ([] : List Int) l0_1 (l0_1.length : Int) 0 a0_0 l0_1 l0_2) = some r := h
 clear h
 have H' := Aside0.mk H
 clear H
 go_enter Try.func47, Try.ntmps47
 go_wp2_with (first | ((with_reducible refine gate_dst (N := 1) rfl ?_); refine box_event ?hg (N := 1) ?hd (cs := #[.bool a0_0, .slice A0_1 l0_1.length c0_1, .slice A0_2 l0_2.length c0_2]) (t := 31) ?hr ?_; (case hd => rfl); (case hg => rfl); (case hr => first | (go_simp; done) | (go_simp; rfl)); intro gb112 hg w2 hbox hb; have BK112 := Aside0.mk (hbox); have GW112 := Aside0.mk ((by rw [hg]; exact (below_size (kl HB)) : w.heap.size ≤ gb112)); have GE112 := Aside0.mk ((by rw [hg]; exact (below_size (kl HB)) : w.heap.size ≤ gb112)); replace HB := Aside0.mk (below_step (kl HB) hb); clear hb hbox hg; have hcz3_0 : w2.cell? ⟨gb112, 0, none⟩ = some (.bool a0_0) := bc BK112 0; have hcz3_1 : w2.cell? ⟨gb112, 1, none⟩ = some (.slice A0_1 l0_1.length c0_1) := bc BK112 1; have hcz3_2 : w2.cell? ⟨gb112, 2, none⟩ = some (.slice A0_2 l0_2.length c0_2) := bc BK112 2; have hfz3_0 := blk_frozen BK112.out 0; have hfz3_1 := blk_frozen BK112.out 1; have hfz3_2 := blk_frozen BK112.out 2))
 go_loopg [3, 11] k (fun kq v3 v11 w' => ∃ (x3_1 : List Int) (x11_1 : Int), v11 = .int .i64 x11_1 ∧ Aside0 (leaf_sizes.l0 kq x3_1 l0_1 (l0_1.length : Int) x11_1 a0_0 l0_1 l0_2 = some r) ∧ Aside0 (kq ≤ k) ∧ Aside0 (Kd.R (Kd.int .i64) 3 w' w.heap.size (fun _ => True) v3 x3_1) ∧ Aside0 (w'.heap[gb112]? = some (.cells #[.bool a0_0, (.slice A0_1 l0_1.length c0_1), (.slice A0_2 l0_2.length c0_2)] 31 (0, 0))) ∧ Aside0 (Below w.heap.size w w'))
 case atStart => exact ⟨(([] : List Int)), (0), (by first | rfl | (simp; done) | (simp [*]; done)), H', ⟨Nat.le_refl _⟩, ⟨by first | exact Kd.R_nil _ _ _ _ _ | exact Kd.N_nil _ _ _ _ _ | exact Kd.V_nil _ _ _ _ _ | exact Kd.Q_nil _ _ _ _ _ | exact Kd.S_nil _ _ _ _ _⟩, ⟨kb BK112⟩, ⟨kl HB⟩⟩
 case round =>
  clear H'
  try clear p2
  try clear hcz3_0
  try clear hcz3_1
  try clear hcz3_2
  try clear hfz3_0
  try clear hfz3_1
  try clear hfz3_2
  obtain ⟨x3_1, x11_1, rfl, HA, HK1, HO_3, BK112, HB⟩ := hrel
  cases gk with
  | zero => exact absurd HA.out (by simp [leaf_sizes.l0])
  | succ k1 =>
   have H := HA.out
   clear HA
   simp only [leaf_sizes.l0] at H
   by_cases c4 : x11_1 < (l0_1.length : Int)
   ·rw [if_pos c4] at H
    have c4b0 : decide (x11_1 < (l0_1.length : Int)) = true := decide_eq_true c4
    clear c4
    by_cases c5 : 0 ≤ x11_1
    ·rw [if_pos c5] at H
     have c5b0 : decide (0 ≤ x11_1) = true := decide_eq_true c5
     clear c5
     by_cases c6 : x11_1 < (l0_1.length : Int)
     ·rw [if_pos c6] at H
      have c6b0 : decide (x11_1 < (l0_1.length : Int)) = true := decide_eq_true c6
      clear c6
      by_cases c7 : x3_1.length < 17592186044416
      ·rw [if_pos c7] at H
       have LMc7 := Aside0.mk c7
       clear c7
       obtain ⟨y115, hy115⟩ : ∃ y_ : List Int, y_ = (x3_1 ++ [wrap64 ((wrap64 (2 + (((rd_T47 l0_1 x11_1).f0).size : Int))) + (((rd_T47 l0_1 x11_1).f1).size : Int))]) := ⟨_, rfl⟩
       replace H : (leaf_sizes.l0 k1 y115 l0_1 (l0_1.length : Int) (wrap64 (x11_1 + 1)) a0_0 l0_1 l0_2) = some r := by first | (rw [hy115]; with_reducible exact H) | (have H2_ := (Option.bind_some _ _).symm.trans H; rw [hy115]; with_reducible exact H2_) | (have H2_ := (Option.bind_some _ _).symm.trans H; with_reducible exact H2_) | with_reducible exact H | (rw [hy115]; exact H) | exact H
       have Ny115 := Aside0.mk hy115
       clear hy115
       have H' := Aside0.mk H
       clear H
       have p113 : 0 ≤ (x11_1 : Int) := of_decide_eq_true (by first | (with_reducible assumption) | assumption)
       have q113 : x11_1 < (l0_1.length : Int) := of_decide_eq_true (by first | (with_reducible assumption) | assumption)
       obtain ⟨ad113, e113, hx113_0, hx113_1⟩ := at_T47 HR0_1.out x11_1 p113 q113
       cases e113
       replace hx113_0 := (HB.out.cell (World.block_lt_of_cell? w _ hx113_0)).trans hx113_0
       replace hx113_1 := (HB.out.cell (World.block_lt_of_cell? w _ hx113_1)).trans hx113_1
       replace p113 := eq_true p113
       replace q113 := eq_true q113
       go_wp2_with (first | ((with_reducible refine gate_dst (N := 5) rfl ?_); refine box_event ?hg (N := 5) ?hd (cs := #[.string (⟨#[]⟩ : ByteArray), .string (⟨#[]⟩ : ByteArray)]) (t := 47) ?hr ?_; (case hd => rfl); (case hg => rfl); (case hr => first | (go_simp; done) | (go_simp; rfl)); intro gb114 hg w8 hbox hb; replace HO_3 := rb HO_3 hb; have BK114 := Aside0.mk (hbox); have GW114 := Aside0.mk ((by rw [hg]; exact (below_size (kl HB)) : w.heap.size ≤ gb114)); have GE114 := Aside0.mk ((by rw [hg]; exact (below_size (kl HB)) : w.heap.size ≤ gb114)); replace HB := Aside0.mk (below_step (kl HB) hb); have NB112_114 := Aside0.mk ((by rw [hg]; exact Nat.ne_of_lt (bl BK112) : gb112 ≠ gb114)); have NB114_112 := Aside0.mk ((by rw [hg]; exact Nat.ne_of_gt (bl BK112) : gb114 ≠ gb112)); replace BK112 := bb BK112 hb; clear hb hbox hg; have hnb9 := NB114_112.out; have hnc9 := NB112_114.out; have hcz10_0 : w8.cell? ⟨gb114, 0, none⟩ = some (.string (⟨#[]⟩ : ByteArray)) := bc BK114 0; have hcz10_1 : w8.cell? ⟨gb114, 1, none⟩ = some (.string (⟨#[]⟩ : ByteArray)) := bc BK114 1; have hfz10_0 := blk_frozen BK114.out 0; have hfz10_1 := blk_frozen BK114.out 1) | ((with_reducible refine gate_builtin (b := .append) (xs := #[.tmp 15, .tmp 24]) rfl ?_); at_builtin; refine Kd.R_append (Kd.int .i64) (w0 := w) w.heap.size rfl (.tmp 15) (.tmp 24) 89 3 (.int .i64 0) 8 rfl Try.underlying89 info3 rfl (by decide) (by omega) u3 x3_1 (wrap64 ((wrap64 (2 + (((rd_T47 l0_1 x11_1).f0).size : Int))) + (((rd_T47 l0_1 x11_1).f1).size : Int))) [.int .i64 (wrap64 ((wrap64 (2 + (((rd_T47 l0_1 x11_1).f0).size : Int))) + (((rd_T47 l0_1 x11_1).f1).size : Int)))] (fun _ => True) (fun _ => False) rfl (by first | (go_simp; done) | (go_simp; rfl)) ?aP (fun _ hk => hk.elim) ?aF ?aO ?aB ?aS ?aL ?_; (case aP => exact rfl); (case aB => exact (kl HB)); (case aF => exact (fun _ _ => trivial)); (case aO => exact (by (with_reducible repeat (first | apply Kd.R_alloc | apply Kd.R_drewN | apply Kd.R_drew)); exact Kd.R_mono (Kd.R_far (p := ⟨gb114, 1, none⟩) (Kd.R_far (p := ⟨gb114, 0, none⟩) (Kd.R_types HO_3.out BK114.out (by decide)) (fun _ hk => hk.2) (.string ((rd_T47 l0_1 x11_1).f0))) (fun _ hk => hk.2) (.string ((rd_T47 l0_1 x11_1).f1))) (fun _ hk => trivial))); (case aS => exact (below_size (kl HB))); (case aL => have := LMc7.out; omega); intro v116 w11 ho hb hg hat; rw [← Ny115.out] at ho; replace BK112 := Aside0.mk (blk_grown (g := gb112) (o := .cells #[.bool a0_0, .slice (some ad113) l0_1.length c0_1, .slice A0_2 l0_2.length c0_2] 31 (0, 0)) (kf NB112_114 BK112) hg (Kd.R_ne HO_3.out BK112.out (by decide))); replace BK114 := Aside0.mk (blk_grown (g := gb114) (o := .cells #[.string ((rd_T47 l0_1 x11_1).f0), .string ((rd_T47 l0_1 x11_1).f1)] 47 (0, 0)) (by (with_reducible repeat (first | refine blk_drewN ?_ _ | refine blk_drew ?_ | refine blk_alloc ?_ _)); refine blk_put (cs := #[.string ((rd_T47 l0_1 x11_1).f0), .string (⟨#[]⟩ : ByteArray)]) ?_ 1 _ rfl; (with_reducible repeat (first | refine blk_drewN ?_ _ | refine blk_drew ?_ | refine blk_alloc ?_ _)); refine blk_put (cs := #[.string (⟨#[]⟩ : ByteArray), .string (⟨#[]⟩ : ByteArray)]) ?_ 0 _ rfl; (with_reducible repeat (first | refine blk_drewN ?_ _ | refine blk_drew ?_ | refine blk_alloc ?_ _)); exact BK114.out) hg (Kd.R_ne HO_3.out BK114.out (by decide))); replace HB := Aside0.mk (hb); have HO117 := Aside0.mk (ho); clear HO_3; clear ho hb hg hat))
       go_roundg k1
       case measure => have := HK1.out; omega
       case rel => exact ⟨(y115), (wrap64 (x11_1 + 1)), (by first | rfl | (simp; done) | (simp [*]; done)), H', ⟨by have := HK1.out; omega⟩, ⟨kr HO117⟩, ⟨kb BK112⟩, ⟨kl HB⟩⟩
      ·rw [if_neg c7] at H
       exact absurd H (by simp)
     ·rw [if_neg c6] at H
      exact absurd H (by simp)
    ·rw [if_neg c5] at H
     exact absurd H (by simp)
   ·rw [if_neg c4] at H
    have c4b0 : decide (x11_1 < (l0_1.length : Int)) = false := decide_eq_false c4
    clear c4
    have H' := Aside0.mk H
    clear H
    have hcz12_0 : wr.cell? ⟨gb112, 0, none⟩ = some (.bool a0_0) := bc BK112 0
    have hcz12_1 : wr.cell? ⟨gb112, 1, none⟩ = some (.slice A0_1 l0_1.length c0_1) := bc BK112 1
    have hcz12_2 : wr.cell? ⟨gb112, 2, none⟩ = some (.slice A0_2 l0_2.length c0_2) := bc BK112 2
    have hfz12_0 := blk_frozen BK112.out 0
    have hfz12_1 := blk_frozen BK112.out 1
    have hfz12_2 := blk_frozen BK112.out 2
    go_wp2
    go_loopg [3, 30] k1 (fun kq v3 v30 w' => ∃ (x3_2 : List Int) (x30_2 : Int), v30 = .int .i64 x30_2 ∧ Aside0 (leaf_sizes.l1 kq x3_2 l0_2 (l0_2.length : Int) x30_2 = some r) ∧ Aside0 (kq ≤ k1) ∧ Aside0 (Kd.R (Kd.int .i64) 3 w' w.heap.size (fun _ => True) v3 x3_2) ∧ Aside0 (w'.heap[gb112]? = some (.cells #[.bool a0_0, (.slice A0_1 l0_1.length c0_1), (.slice A0_2 l0_2.length c0_2)] 31 (0, 0))) ∧ Aside0 (Below w.heap.size w w'))
    case atStart => exact ⟨(x3_1), (0), (by first | rfl | (simp; done) | (simp [*]; done)), H', ⟨Nat.le_refl _⟩, ⟨kr HO_3⟩, ⟨kb BK112⟩, ⟨kl HB⟩⟩
    case round =>
     clear H'
     try clear p1
     try clear q1
     try clear hx1
     try clear p2
     try clear c4
     try clear c4b0
     try clear c5
     try clear c5b0
     try clear c6
     try clear c6b0
     try clear p6
     try clear c7
     try clear c9
     try clear p11
     try clear q11
     try clear hx11
     try clear hcz10_0
     try clear hcz10_1
     try clear hcz12_0
     try clear hcz12_1
     try clear hcz12_2
     try clear hcz3_0
     try clear hcz3_1
     try clear hcz3_2
     try clear hfz10_0
     try clear hfz10_1
     try clear hfz12_0
     try clear hfz12_1
     try clear hfz12_2
     try clear hfz3_0
     try clear hfz3_1
     try clear hfz3_2
     try clear hx113_0
     try clear hx113_1
     try clear p113
     try clear p2
     try clear q113
     obtain ⟨x3_2, x30_2, rfl, HA, HK2, HO_3, BK112, HB⟩ := hrel
     cases gk with
     | zero => exact absurd HA.out (by simp [leaf_sizes.l1])
     | succ k2 =>
      have H := HA.out
      clear HA
      simp only [leaf_sizes.l1] at H
      by_cases c13 : x30_2 < (l0_2.length : Int)
      ·rw [if_pos c13] at H
       have c13b0 : decide (x30_2 < (l0_2.length : Int)) = true := decide_eq_true c13
       clear c13
       by_cases c14 : 0 ≤ x30_2
       ·rw [if_pos c14] at H
        have c14b0 : decide (0 ≤ x30_2) = true := decide_eq_true c14
        clear c14
        by_cases c15 : x30_2 < (l0_2.length : Int)
        ·rw [if_pos c15] at H
         have c15b0 : decide (x30_2 < (l0_2.length : Int)) = true := decide_eq_true c15
         clear c15
         by_cases c16 : x3_2.length < 17592186044416
         ·rw [if_pos c16] at H
          have LMc16 := Aside0.mk c16
          clear c16
          obtain ⟨y120, hy120⟩ : ∃ y_ : List Int, y_ = (x3_2 ++ [wrap64 (3 + (((rd_T36 l0_2 x30_2).f0).size : Int))]) := ⟨_, rfl⟩
          replace H : (leaf_sizes.l1 k2 y120 l0_2 (l0_2.length : Int) (wrap64 (x30_2 + 1))) = some r := by first | (rw [hy120]; with_reducible exact H) | (have H2_ := (Option.bind_some _ _).symm.trans H; rw [hy120]; with_reducible exact H2_) | (have H2_ := (Option.bind_some _ _).symm.trans H; with_reducible exact H2_) | with_reducible exact H | (rw [hy120]; exact H) | exact H
          have Ny120 := Aside0.mk hy120
          clear hy120
          have H' := Aside0.mk H
          clear H
          have p118 : 0 ≤ (x30_2 : Int) := of_decide_eq_true (by first | (with_reducible assumption) | assumption)
          have q118 : x30_2 < (l0_2.length : Int) := of_decide_eq_true (by first | (with_reducible assumption) | assumption)
          obtain ⟨ad118, e118, hx118_0, hx118_1⟩ := at_T36 HR0_2.out x30_2 p118 q118
          cases e118
          replace hx118_0 := (HB.out.cell (World.block_lt_of_cell? w _ hx118_0)).trans hx118_0
          replace hx118_1 := (HB.out.cell (World.block_lt_of_cell? w _ hx118_1)).trans hx118_1
          replace p118 := eq_true p118
          replace q118 := eq_true q118
          go_wp2_with (first | ((with_reducible refine gate_dst (N := 7) rfl ?_); refine box_event ?hg (N := 7) ?hd (cs := #[.string (⟨#[]⟩ : ByteArray), .int .i64 0]) (t := 36) ?hr ?_; (case hd => rfl); (case hg => rfl); (case hr => first | (go_simp; done) | (go_simp; rfl)); intro gb119 hg w17 hbox hb; replace HO_3 := rb HO_3 hb; have BK119 := Aside0.mk (hbox); have GW119 := Aside0.mk ((by rw [hg]; exact (below_size (kl HB)) : w.heap.size ≤ gb119)); have GE119 := Aside0.mk ((by rw [hg]; exact (below_size (kl HB)) : w.heap.size ≤ gb119)); replace HB := Aside0.mk (below_step (kl HB) hb); have NB112_119 := Aside0.mk ((by rw [hg]; exact Nat.ne_of_lt (bl BK112) : gb112 ≠ gb119)); have NB119_112 := Aside0.mk ((by rw [hg]; exact Nat.ne_of_gt (bl BK112) : gb119 ≠ gb112)); replace BK112 := bb BK112 hb; clear hb hbox hg; have hnb18 := NB119_112.out; have hnc18 := NB112_119.out; have hcz19_0 : w17.cell? ⟨gb119, 0, none⟩ = some (.string (⟨#[]⟩ : ByteArray)) := bc BK119 0; have hcz19_1 : w17.cell? ⟨gb119, 1, none⟩ = some (.int .i64 0) := bc BK119 1; have hfz19_0 := blk_frozen BK119.out 0; have hfz19_1 := blk_frozen BK119.out 1) | ((with_reducible refine gate_builtin (b := .append) (xs := #[.tmp 34, .tmp 39]) rfl ?_); at_builtin; refine Kd.R_append (Kd.int .i64) (w0 := w) w.heap.size rfl (.tmp 34) (.tmp 39) 89 3 (.int .i64 0) 8 rfl Try.underlying89 info3 rfl (by decide) (by omega) u3 x3_2 (wrap64 (3 + (((rd_T36 l0_2 x30_2).f0).size : Int))) [.int .i64 (wrap64 (3 + (((rd_T36 l0_2 x30_2).f0).size : Int)))] (fun _ => True) (fun _ => False) rfl (by first | (go_simp; done) | (go_simp; rfl)) ?aP (fun _ hk => hk.elim) ?aF ?aO ?aB ?aS ?aL ?_; (case aP => exact rfl); (case aB => exact (kl HB)); (case aF => exact (fun _ _ => trivial)); (case aO => exact (by (with_reducible repeat (first | apply Kd.R_alloc | apply Kd.R_drewN | apply Kd.R_drew)); exact Kd.R_mono (Kd.R_far (p := ⟨gb119, 1, none⟩) (Kd.R_far (p := ⟨gb119, 0, none⟩) (Kd.R_types HO_3.out BK119.out (by decide)) (fun _ hk => hk.2) (.string ((rd_T36 l0_2 x30_2).f0))) (fun _ hk => hk.2) (.int .i64 ((rd_T36 l0_2 x30_2).f1))) (fun _ hk => trivial))); (case aS => exact (below_size (kl HB))); (case aL => have := LMc16.out; omega); intro v121 w20 ho hb hg hat; rw [← Ny120.out] at ho; replace BK112 := Aside0.mk (blk_grown (g := gb112) (o := .cells #[.bool a0_0, .slice A0_1 l0_1.length c0_1, .slice (some ad118) l0_2.length c0_2] 31 (0, 0)) (kf NB112_119 BK112) hg (Kd.R_ne HO_3.out BK112.out (by decide))); replace BK119 := Aside0.mk (blk_grown (g := gb119) (o := .cells #[.string ((rd_T36 l0_2 x30_2).f0), .int .i64 ((rd_T36 l0_2 x30_2).f1)] 36 (0, 0)) (by (with_reducible repeat (first | refine blk_drewN ?_ _ | refine blk_drew ?_ | refine blk_alloc ?_ _)); refine blk_put (cs := #[.string ((rd_T36 l0_2 x30_2).f0), .int .i64 0]) ?_ 1 _ rfl; (with_reducible repeat (first | refine blk_drewN ?_ _ | refine blk_drew ?_ | refine blk_alloc ?_ _)); refine blk_put (cs := #[.string (⟨#[]⟩ : ByteArray), .int .i64 0]) ?_ 0 _ rfl; (with_reducible repeat (first | refine blk_drewN ?_ _ | refine blk_drew ?_ | refine blk_alloc ?_ _)); exact BK119.out) hg (Kd.R_ne HO_3.out BK119.out (by decide))); replace HB := Aside0.mk (hb); have HO122 := Aside0.mk (ho); clear HO_3; clear ho hb hg hat))
          go_roundg k2
          case measure => have := HK1.out; have := HK2.out; omega
          case rel => exact ⟨(y120), (wrap64 (x30_2 + 1)), (by first | rfl | (simp; done) | (simp [*]; done)), H', ⟨by have := HK1.out; have := HK2.out; omega⟩, ⟨kr HO122⟩, ⟨kb BK112⟩, ⟨kl HB⟩⟩
         ·rw [if_neg c16] at H
          exact absurd H (by simp)
        ·rw [if_neg c15] at H
         exact absurd H (by simp)
       ·rw [if_neg c14] at H
        exact absurd H (by simp)
      ·rw [if_neg c13] at H
       have c13b0 : decide (x30_2 < (l0_2.length : Int)) = false := decide_eq_false c13
       clear c13
       obtain rfl := Option.some.inj H
       go_wp2
       go_ret
       exact ⟨_, by first | rfl | (simp [errW_none, errW_some] <;> rfl) | (simp [*, errW_none, errW_some] <;> rfl), kr HO_3, kl HB⟩

end Go.Proofs.Ytfbaejhjppikpaa.P
-- GENERATED by wip/gen.py (this session's own driver of a mended copy of the printer). Not trusted: Lean checks it.
namespace Go.Proofs.Ytfbaejhjppikpaa.P
open Go.RowKit Go.Proofs.YtfbaejhjppikpaaW.PrintWords Go.Proofs.YtfbaejhjppikpaaW.PrintLast Go.Proofs.YtfbaejhjppikpaaW.PrintMore
attribute [local go_sem] Go.Proofs.YtfbaejhjppikpaaB.less_swap Go.Proofs.YtfbaejhjppikpaaB.less_or max2_int min2_int max_two min_two max_three min_three max_four min_four   -- for this text's walks alone
set_option linter.unusedVariables false
set_option linter.unusedSimpArgs false

/-! ### leaf_Size: function 18 -/
def leaf_Size.l0 : Nat → Int → List Int → Int → Int → Option (Int)
 | 0, _, _, _, _ => none
 | k + 1, x3, x7, x8, x9 => if x9 < x8 then (if 0 ≤ x9 then (if x9 < (x7.length : Int) then (leaf_Size.l0 k (wrap64 (x3 + (rd x7 x9))) x7 x8 (wrap64 (x9 + 1))) else (none)) else (none)) else (some x3)
def leaf_Size.f (k : Nat) (a0_0 : Bool) (l0_1 : List (S47)) (l0_2 : List (S36)) : Option (Int) := (leaf_sizes.f k a0_0 l0_1 l0_2).bind fun t124 => (leaf_Size.l0 k 1 t124 (t124.length : Int) 0)
theorem leaf_Size.mono_l : ∀ k, (∀ y0 y1 y2 y3, LeO (leaf_Size.l0 k y0 y1 y2 y3) (leaf_Size.l0 (k + 1) y0 y1 y2 y3))
 | 0 => fun _ _ _ _ r h => by simp [leaf_Size.l0] at h
 | k + 1 => by
  have ih0 := leaf_Size.mono_l k
  ·intro y0 y1 y2 y3
   unfold leaf_Size.l0
   repeat' first
   | (with_reducible exact ih0 _ _ _ _)
   | (with_reducible exact leaf_sizes.mono _ _ _ _)
   | (with_reducible exact LeO.refl _)
   | (with_reducible exact LeO.none _)
   | (with_reducible refine LeO.ite ?_ ?_)
   | (with_reducible refine LeO.bind ?_ (fun _ => ?_))
   | exact ih0 _ _ _ _
   | exact leaf_sizes.mono _ _ _ _
   | exact LeO.none _
   | refine LeO.ite ?_ ?_
   | refine LeO.bind ?_ (fun _ => ?_)
theorem leaf_Size.mono : ∀ a0 a1 a2 k, LeO (leaf_Size.f k a0 a1 a2) (leaf_Size.f (k + 1) a0 a1 a2) := by
 intro a0 a1 a2 k
 have ih0 := leaf_Size.mono_l k
 unfold leaf_Size.f
 repeat' first
   | (with_reducible exact ih0 _ _ _ _)
   | (with_reducible exact leaf_sizes.mono _ _ _ _)
   | (with_reducible exact LeO.refl _)
   | (with_reducible exact LeO.none _)
   | (with_reducible refine LeO.ite ?_ ?_)
   | (with_reducible refine LeO.bind ?_ (fun _ => ?_))
   | exact ih0 _ _ _ _
   | exact leaf_sizes.mono _ _ _ _
   | exact LeO.none _
   | refine LeO.ite ?_ ?_
   | refine LeO.bind ?_ (fun _ => ?_)
set_option maxHeartbeats 8000000 in
set_option maxRecDepth 100000 in
theorem leaf_Size.calls (k : Nat) (a0_0 : Bool) (A0_1 : Option Addr) (c0_1 : Nat) (l0_1 : List (S47)) (A0_2 : Option Addr) (c0_2 : Nat) (l0_2 : List (S36)) (r : Int) (w : World) (hr0_1 : Kd.C k47 w A0_1 l0_1.length l0_1) (hc0_1 : l0_1.length ≤ c0_1) (hr0_2 : Kd.C k36 w A0_2 l0_2.length l0_2) (hc0_2 : l0_2.length ≤ c0_2) (h : leaf_Size.f k a0_0 l0_1 l0_2 = some r) :
  Calls Try.prog 18 #[.agg #[.bool a0_0, .slice A0_1 l0_1.length c0_1, .slice A0_2 l0_2.length c0_2]] w fun e w' => e = .returned (.int .i64 r) ∧ Below w.heap.size w w' := by
 have hu31 := Try.underlying31
 have HR0_1 := Aside0.mk hr0_1
 have HC0_1 := Aside0.mk hc0_1
 clear hr0_1 hc0_1
 have HR0_2 := Aside0.mk hr0_2
 have HC0_2 := Aside0.mk hc0_2
 clear hr0_2 hc0_2
 have HB := Aside0.mk (Below.refl w.heap.size w)
 have H : ((leaf_sizes.f k a0_0 l0_1 l0_2).bind fun t124 => (leaf_Size.l0 k 1 t124 (t124.length : Int) 0)) = some r := h
 clear h
 replace H := Option.bind_eq_some_iff.mp H
 obtain ⟨t124, A20, H⟩ := H
 replace H : (leaf_Size.l0 k 1 t124 (t124.length : Int) 0) = some r := H
 have A2 := Aside0.mk A20
 clear A20
 have H' := Aside0.mk H
 clear H
 go_enter Try.func18, Try.ntmps18
 go_wp2_with (first | ((with_reducible refine gate_dst (N := 1) rfl ?_); refine box_event ?hg (N := 1) ?hd (cs := #[.bool a0_0, .slice A0_1 l0_1.length c0_1, .slice A0_2 l0_2.length c0_2]) (t := 31) ?hr ?_; (case hd => rfl); (case hg => rfl); (case hr => first | (go_simp; done) | (go_simp; rfl)); intro gb123 hg w3 hbox hb; have BK123 := Aside0.mk (hbox); have GW123 := Aside0.mk ((by rw [hg]; exact (below_size (kl HB)) : w.heap.size ≤ gb123)); have GE123 := Aside0.mk ((by rw [hg]; exact (below_size (kl HB)) : w.heap.size ≤ gb123)); replace HB := Aside0.mk (below_step (kl HB) hb); clear hb hbox hg; have hcz4_0 : w3.cell? ⟨gb123, 0, none⟩ = some (.bool a0_0) := bc BK123 0; have hcz4_1 : w3.cell? ⟨gb123, 1, none⟩ = some (.slice A0_1 l0_1.length c0_1) := bc BK123 1; have hcz4_2 : w3.cell? ⟨gb123, 2, none⟩ = some (.slice A0_2 l0_2.length c0_2) := bc BK123 2; have hfz4_0 := blk_frozen BK123.out 0; have hfz4_1 := blk_frozen BK123.out 1; have hfz4_2 := blk_frozen BK123.out 2) | ((with_reducible refine gate_callee (f := 47) rfl ?_); refine goesL_ (some 7) rfl rfl Try.func47 (by kernel_rfl) rfl #[.agg #[.bool a0_0, .slice A0_1 l0_1.length c0_1, .slice A0_2 l0_2.length c0_2]] rfl (by (try simp only [List.map_toArray, List.map_cons, List.map_nil]); first | done | rfl | (simp only [List.length_drop, List.length_take]; rfl)) ?_; (with_reducible refine (leaf_sizes.calls k a0_0 _ _ l0_1 _ _ l0_2 t124 _ ?side1 ?side2 ?side3 ?side4 A2.out).mono ?_); (case side1 => exact kc (Kd.C_below HR0_1.out HB.out)); (case side2 => exact HC0_1.out); (case side3 => exact kc (Kd.C_below HR0_2.out HB.out)); (case side4 => exact HC0_2.out); rintro e w5 ⟨v125, rfl, ho0, hb⟩; refine ⟨_, rfl, ?_⟩; have HO126 := Aside0.mk (Kd.R_lower ho0 (below_size (kl HB))); replace BK123 := bb BK123 hb; replace HB := Aside0.mk (below_step (kl HB) hb); (try clear hb); (try clear hb2); (try clear hk); (try clear hi); (try clear ho0); obtain ⟨Ao6, co6, eo6⟩ := Kd.R_slice HO126.out; subst eo6))
 go_loopg [3, 9] k (fun kq v3 v9 w' => ∃ (x3_1 : Int) (x9_1 : Int), v3 = .int .i64 x3_1 ∧ v9 = .int .i64 x9_1 ∧ Aside0 (leaf_Size.l0 kq x3_1 t124 (t124.length : Int) x9_1 = some r) ∧ Aside0 (kq ≤ k) ∧ Aside0 (Kd.R (Kd.int .i64) 3 w' w.heap.size (fun _ => True) (.slice Ao6 t124.length co6) t124) ∧ Aside0 (w'.heap[gb123]? = some (.cells #[.bool a0_0, (.slice A0_1 l0_1.length c0_1), (.slice A0_2 l0_2.length c0_2)] 31 (0, 0))) ∧ Aside0 (Below w.heap.size w w'))
 case atStart => exact ⟨(1), (0), (by first | rfl | (simp; done) | (simp [*]; done)), (by first | rfl | (simp; done) | (simp [*]; done)), H', ⟨Nat.le_refl _⟩, ⟨kr HO126⟩, ⟨kb BK123⟩, ⟨kl HB⟩⟩
 case round =>
  clear H'
  try clear c1
  try clear p2
  try clear c4
  try clear hcz4_0
  try clear hcz4_1
  try clear hcz4_2
  try clear hfz4_0
  try clear hfz4_1
  try clear hfz4_2
  obtain ⟨x3_1, x9_1, rfl, rfl, HA, HK1, HO_7, BK123, HB⟩ := hrel
  cases gk with
  | zero => exact absurd HA.out (by simp [leaf_Size.l0])
  | succ k1 =>
   have H := HA.out
   clear HA
   simp only [leaf_Size.l0] at H
   by_cases c7 : x9_1 < (t124.length : Int)
   ·rw [if_pos c7] at H
    have c7b0 : decide (x9_1 < (t124.length : Int)) = true := decide_eq_true c7
    clear c7
    by_cases c8 : 0 ≤ x9_1
    ·rw [if_pos c8] at H
     have c8b0 : decide (0 ≤ x9_1) = true := decide_eq_true c8
     clear c8
     by_cases c9 : x9_1 < (t124.length : Int)
     ·rw [if_pos c9] at H
      have c9b0 : decide (x9_1 < (t124.length : Int)) = true := decide_eq_true c9
      clear c9
      have H' := Aside0.mk H
      clear H
      have p127 : 0 ≤ (x9_1 : Int) := of_decide_eq_true (by first | (with_reducible assumption) | assumption)
      have q127 : x9_1 < (t124.length : Int) := of_decide_eq_true (by first | (with_reducible assumption) | assumption)
      obtain ⟨ad127, e127, hx127_0⟩ := Kd.at_int (Kd.R_reads' HO_7.out).2.2 x9_1 p127 q127
      cases e127
      replace p127 := eq_true p127
      replace q127 := eq_true q127
      go_wp2
      go_roundg k1
      case measure => have := HK1.out; omega
      case rel => exact ⟨(wrap64 (x3_1 + (rd t124 x9_1))), (wrap64 (x9_1 + 1)), (by first | rfl | (simp; done) | (simp [*]; done)), (by first | rfl | (simp; done) | (simp [*]; done)), H', ⟨by have := HK1.out; omega⟩, ⟨kr HO_7⟩, ⟨kb BK123⟩, ⟨kl HB⟩⟩
     ·rw [if_neg c9] at H
      exact absurd H (by simp)
    ·rw [if_neg c8] at H
     exact absurd H (by simp)
   ·rw [if_neg c7] at H
    have c7b0 : decide (x9_1 < (t124.length : Int)) = false := decide_eq_false c7
    clear c7
    obtain rfl := Option.some.inj H
    go_wp2
    go_ret
    exact ⟨by first | rfl | (simp [errW_none, errW_some] <;> rfl) | (simp [*, errW_none, errW_some] <;> rfl), kl HB⟩

end Go.Proofs.Ytfbaejhjppikpaa.P
namespace Go.Proofs.Ytfbaejhjppikpaa.P
open Go.RowKit Go.Proofs.YtfbaejhjppikpaaW.PrintWords Go.Proofs.YtfbaejhjppikpaaW.PrintLast Go.Proofs.YtfbaejhjppikpaaW.PrintMore
set_option linter.unusedVariables false
set_option linter.unusedSimpArgs false

/-- The binary search over a test of places: f rounds at most. -/
def bsAt (p : Nat → Bool) : Nat → Nat → Nat → Nat
  | 0, i, _ => i
  | f + 1, i, j => if i < j then (if p ((i + j) / 2) then bsAt p f ((i + j) / 2 + 1) j else bsAt p f i ((i + j) / 2)) else i
theorem bsAt_done (p : Nat → Bool) (f i j : Nat) (h : ¬ i < j) : bsAt p f i j = i := by cases f <;> simp [bsAt, h]
/-- More rounds than the distance change nothing. -/
theorem bsAt_more (p : Nat → Bool) : ∀ (f g i j : Nat), j - i ≤ f → j - i ≤ g → bsAt p f i j = bsAt p g i j := by
  intro f
  induction f with
  | zero => intro g i j h _; rw [bsAt_done p 0 i j (by omega), bsAt_done p g i j (by omega)]
  | succ f ih =>
    intro g i j h h'
    by_cases hlt : i < j
    · cases g with
      | zero => omega
      | succ g =>
        simp only [bsAt, if_pos hlt]
        cases p ((i + j) / 2) with
        | true => simp only [if_true]; exact ih g _ _ (by omega) (by omega)
        | false => simp only [Bool.false_eq_true, if_false]; exact ih g _ _ (by omega) (by omega)
    · rw [bsAt_done p _ i j hlt, bsAt_done p _ i j hlt]
theorem bsAt_step (p : Nat → Bool) (i j : Nat) (h : i < j) : bsAt p (j - i) i j = if p ((i + j) / 2) then bsAt p (j - ((i + j) / 2 + 1)) ((i + j) / 2 + 1) j else bsAt p ((i + j) / 2 - i) i ((i + j) / 2) := by
  obtain ⟨f, hf⟩ : ∃ f, j - i = f + 1 := ⟨j - i - 1, by omega⟩
  rw [hf]
  simp only [bsAt, if_pos h]
  cases p ((i + j) / 2) with
  | true => simp only [if_true]; exact bsAt_more p _ _ _ _ (by omega) (by omega)
  | false => simp only [Bool.false_eq_true, if_false]; exact bsAt_more p _ _ _ _ (by omega) (by omega)
theorem bsAt_range (p : Nat → Bool) : ∀ (f i j : Nat), i ≤ j → j - i ≤ f → i ≤ bsAt p f i j ∧ bsAt p f i j ≤ j := by
  intro f
  induction f with
  | zero => intro i j h h'; simp only [bsAt]; omega
  | succ f ih =>
    intro i j h h'
    simp only [bsAt]
    split
    · split
      · have := ih ((i + j) / 2 + 1) j (by omega) (by omega); omega
      · have := ih i ((i + j) / 2) (by omega) (by omega); omega
    · omega

set_option maxHeartbeats 1000000 in
theorem CompareString55 (a b : ByteArray) (w : World) :
    Calls Try.prog 55 #[.string a, .string b] w fun e w' => e = .returned (.int .i64 (Lib.compareBytes a.data.toList b.data.toList)) ∧ w = w' := by
  go_enter Try.func55, Try.ntmps55
  go_wp2_with (fail)
  rw [run_callFunc_extern Try.func61 (by kernel_rfl) (by kernel_rfl) (by kernel_rfl) (e := Extern.BytealgCompare.compare) (by kernel_rfl), Lib.run_compareString]
  simp only [Result.andThen]
  rw [Oper.upon_value]
  go_wp2
  go_ret
  exact ⟨rfl, rfl⟩

set_option maxHeartbeats 1000000 in
theorem Compare41 (a b : ByteArray) (w : World) :
    Calls Try.prog 41 #[.string a, .string b] w fun e w' => e = .returned (.int .i64 (Lib.compareBytes a.data.toList b.data.toList)) ∧ w = w' := by
  go_enter Try.func41, Try.ntmps41
  go_wp2_with (go_at_call 55; refine (CompareString55 _ _ _).mono ?_; rintro e w' ⟨rfl, rfl⟩)
  go_ret
  exact ⟨rfl, rfl⟩

set_option maxHeartbeats 1000000 in
theorem cmp40 (a : ByteArray) (p : Int) (b : ByteArray) (w : World) :
    Calls Try.prog 40 #[.agg #[.string a, .int .i64 p], .string b] w fun e w' => e = .returned (.int .i64 (Lib.compareBytes a.data.toList b.data.toList)) ∧ Below w.heap.size w w' := by
  have hu36 := Try.underlying36
  go_enter Try.func40, Try.ntmps40
  go_wp2_with (go_at_call 41; refine (Compare41 _ _ _).mono ?_; rintro e w' ⟨rfl, rfl⟩)
  go_ret
  exact ⟨rfl, (Below.refl _ _).alloc (Nat.le_refl _) _⟩

end Go.Proofs.Ytfbaejhjppikpaa.P
namespace Go.Proofs.Ytfbaejhjppikpaa.P
open Go.RowKit Go.Proofs.YtfbaejhjppikpaaW.PrintWords Go.Proofs.YtfbaejhjppikpaaW.PrintLast Go.Proofs.YtfbaejhjppikpaaW.PrintMore
set_option linter.unusedVariables false
set_option linter.unusedSimpArgs false

/-- How the entry at place h stands to the key. -/
def cmpE (l : List S47) (key : ByteArray) (h : Nat) : Int := Lib.compareBytes (rd_T47 l (h : Int)).f0.data.toList key.data.toList
def lessE (l : List S47) (key : ByteArray) (h : Nat) : Bool := decide (cmpE l key h < 0)
def atE (l : List S47) (key : ByteArray) : Nat := bsAt (lessE l key) l.length 0 l.length
def isE (l : List S47) (key : ByteArray) : Bool := decide (atE l key < l.length) && decide (cmpE l key (atE l key) = 0)

set_option maxHeartbeats 1000000 in
theorem cmp58 (a : ByteArray) (p : ByteArray) (b : ByteArray) (w : World) :
    Calls Try.prog 58 #[.agg #[.string a, .string p], .string b] w fun e w' => e = .returned (.int .i64 (Lib.compareBytes a.data.toList b.data.toList)) ∧ Below w.heap.size w w' := by
  have hu47 := Try.underlying47
  go_enter Try.func58, Try.ntmps58
  go_wp2_with (go_at_call 41; refine (Compare41 _ _ _).mono ?_; rintro e w' ⟨rfl, rfl⟩)
  go_ret
  exact ⟨rfl, (Below.refl _ _).alloc (Nat.le_refl _) _⟩
theorem cmpE58 (l : List S47) (key : ByteArray) (h : Nat) (w : World) :
    Calls Try.prog 58 #[.agg #[.string (rd_T47 l (h : Int)).f0, .string (rd_T47 l (h : Int)).f1], .string key] w fun e w' => e = .returned (.int .i64 (cmpE l key h)) ∧ Below w.heap.size w w' :=
  cmp58 _ _ _ _

set_option maxHeartbeats 2000000 in
set_option maxRecDepth 100000 in
theorem search57 (A0 : Option Addr) (c0 : Nat) (l0 : List S47) (key : ByteArray) (w : World) (hr0 : Kd.C k47 w A0 l0.length l0) (hc0 : l0.length ≤ c0) (hlen : l0.length ≤ 1000000000000) :
    Calls Try.prog 57 #[.slice A0 l0.length c0, .string key, .func (.func 58) #[] #[]] w fun e w' => e = .returned (.tuple #[.int .i64 (atE l0 key), .bool (isE l0 key)]) ∧ Below w.heap.size w w' := by
  have hu47 := Try.underlying47
  have hm : l0.length ≤ 9223372036854775807 := hr0.2.1
  have HR := Aside0.mk hr0
  clear hr0
  have HB := Aside0.mk (Below.refl w.heap.size w)
  go_enter Try.func57, Try.ntmps57
  go_wp2
  go_loopw [9, 10] (fun v9 v10 w' => ∃ i j : Nat, v9 = .int .i64 i ∧ v10 = .int .i64 j ∧ i ≤ j ∧ j ≤ l0.length ∧ Aside0 (bsAt (lessE l0 key) (j - i) i j = atE l0 key) ∧ Aside0 (Below w.heap.size w w')) (fun v9 v10 _ => (intOf v10 - intOf v9).toNat)
  case atStart => exact ⟨0, l0.length, rfl, rfl, Nat.zero_le _, Nat.le_refl _, ⟨rfl⟩, ⟨HB.out⟩⟩
  case round =>
    obtain ⟨i, j, rfl, rfl, hij, hj, HG, HB⟩ := hrel
    have hle : i + j ≤ 2000000000000 := by omega
    by_cases hlt : i < j
    · have h1 : 0 ≤ (((i + j) / 2 : Nat) : Int) := by omega
      have h2 : (((i + j) / 2 : Nat) : Int) < (l0.length : Int) := by omega
      obtain ⟨ad, e, hx0, hx1⟩ := at_T47 HR.out _ h1 h2
      cases e
      replace hx0 := (HB.out.cell (World.block_lt_of_cell? w _ hx0)).trans hx0
      replace hx1 := (HB.out.cell (World.block_lt_of_cell? w _ hx1)).trans hx1
      simp only [Int.toNat_natCast] at hx0 hx1
      have hs := bsAt_step (lessE l0 key) i j hlt
      rw [HG.out] at hs
      have HS := Aside0.mk hs
      clear hs HG
      by_cases hq : cmpE l0 key ((i + j) / 2) < 0
      · have hl : lessE l0 key ((i + j) / 2) = true := decide_eq_true hq
        rw [hl, if_pos rfl] at HS
        have HL := Aside0.mk hl
        clear hl
        have hd : decide (cmpE l0 key ((i + j) / 2) < 0) = true := decide_eq_true hq
        go_wp2_with (go_at_call 58; refine (cmpE58 l0 key ((i + j) / 2) _).mono ?_; rintro e w1 ⟨rfl, hb⟩; replace HB := Aside0.mk (below_step HB.out hb); clear hb)
        go_roundw
        case rel => exact ⟨(i + j) / 2 + 1, j, by go_num, rfl, by omega, hj, ⟨HS.out.symm⟩, ⟨HB.out⟩⟩
        case measure => simp [intOf]; omega
      · have hl : lessE l0 key ((i + j) / 2) = false := decide_eq_false hq
        rw [hl, if_neg (by decide)] at HS
        have HL := Aside0.mk hl
        clear hl
        have hd : decide (cmpE l0 key ((i + j) / 2) < 0) = false := decide_eq_false hq
        go_wp2_with (go_at_call 58; refine (cmpE58 l0 key ((i + j) / 2) _).mono ?_; rintro e w1 ⟨rfl, hb⟩; replace HB := Aside0.mk (below_step HB.out hb); clear hb)
        go_roundw
        case rel => exact ⟨i, (i + j) / 2, rfl, by go_num, by omega, by omega, ⟨HS.out.symm⟩, ⟨HB.out⟩⟩
        case measure => simp [intOf]; omega
    · have hi : atE l0 key = i := HG.out.symm.trans (bsAt_done _ _ _ _ hlt)
      by_cases hn : i < l0.length
      · have h1 : 0 ≤ ((i : Nat) : Int) := by omega
        have h2 : ((i : Nat) : Int) < (l0.length : Int) := by omega
        obtain ⟨ad, e, hx0, hx1⟩ := at_T47 HR.out _ h1 h2
        cases e
        replace hx0 := (HB.out.cell (World.block_lt_of_cell? w _ hx0)).trans hx0
        replace hx1 := (HB.out.cell (World.block_lt_of_cell? w _ hx1)).trans hx1
        simp only [Int.toNat_natCast] at hx0 hx1
        have HI := Aside0.mk hi
        clear hi HG
        go_wp2_with (go_at_call 58; refine (cmpE58 l0 key i _).mono ?_; rintro e w1 ⟨rfl, hb⟩; replace HB := Aside0.mk (below_step HB.out hb); clear hb)
        go_ret2
        refine ⟨?_, HB.out⟩
        have e2 : isE l0 key = (cmpE l0 key i == 0) := by
          unfold isE
          rw [HI.out, decide_eq_true hn, Bool.true_and]
          by_cases hz : cmpE l0 key i = 0 <;> simp [hz]
        rw [HI.out, e2]
        rfl
      · have HI := Aside0.mk hi
        clear hi HG
        go_wp2
        go_ret2
        refine ⟨?_, HB.out⟩
        have e2 : isE l0 key = false := by
          unfold isE
          rw [HI.out, decide_eq_false hn, Bool.false_and]
        rw [HI.out, e2]
        rfl


/-- leaf.search: function 51 (by hand: it hands a function to the library's binary search). -/
def leaf_search.f (l0 : List (S47)) (a1 : ByteArray) : Option (Int × Bool) := if l0.length ≤ 1000000000000 then some ((atE l0 a1 : Int), isE l0 a1) else none
set_option maxHeartbeats 2000000 in
set_option maxRecDepth 100000 in
theorem leaf_search.calls (A0 : Option Addr) (c0 : Nat) (l0 : List (S47)) (a1 : ByteArray) (r1 : Int) (r2 : Bool) (w : World) (hr0 : Kd.C k47 w A0 l0.length l0) (hc0 : l0.length ≤ c0) (h : leaf_search.f l0 a1 = some (r1, r2)) :
    Calls Try.prog 51 #[.slice A0 l0.length c0, .string a1] w fun e w' => e = .returned (.tuple #[.int .i64 r1, .bool r2]) ∧ Below w.heap.size w w' := by
  unfold leaf_search.f at h
  by_cases hl : l0.length ≤ 1000000000000
  · rw [if_pos hl] at h
    simp only [Option.some.injEq, Prod.mk.injEq] at h
    obtain ⟨rfl, rfl⟩ := h
    have hu47 := Try.underlying47
    have HR := Aside0.mk hr0
    clear hr0
    go_enter Try.func51, Try.ntmps51
    go_wp2_with (go_at_call 57; refine (search57 _ _ _ _ _ HR.out hc0 hl).mono ?_; rintro e w1 ⟨rfl, hb⟩)
    go_ret2
    exact ⟨rfl, by assumption⟩
  · rw [if_neg hl] at h
    cases h
end Go.Proofs.Ytfbaejhjppikpaa.P
/- slices.Clone, of entries and of branches (by hand: it asks whether a slice is nil). -/
namespace Go.Proofs.Ytfbaejhjppikpaa.P
open Go.RowKit Go.Proofs.YtfbaejhjppikpaaW.PrintWords Go.Proofs.YtfbaejhjppikpaaW.PrintLast Go.Proofs.YtfbaejhjppikpaaW.PrintMore
set_option linter.unusedVariables false
set_option linter.unusedSimpArgs false

/-- slices.Clone: function 52. -/
def leaf_Entry_52.f (l0 : List (S47)) : Option ((List (S47))) := if l0.length ≤ 1000000000000 then some l0 else none
set_option maxHeartbeats 2000000 in
set_option maxRecDepth 100000 in
theorem leaf_Entry_52.calls (A0 : Option Addr) (c0 : Nat) (l0 : List (S47)) (r : List (S47)) (w : World) (hr0 : Kd.C k47 w A0 l0.length l0) (hc0 : l0.length ≤ c0) (h : leaf_Entry_52.f l0 = some r) :
    Calls Try.prog 52 #[.slice A0 l0.length c0] w fun e w' => ∃ v0_ : Value, e = .returned (v0_) ∧ Kd.R k47 47 w' w.heap.size (fun _ => True) v0_ r ∧ Below w.heap.size w w' := by
  unfold leaf_Entry_52.f at h
  by_cases hl : l0.length ≤ 1000000000000
  case neg => rw [if_neg hl] at h; cases h
  rw [if_pos hl] at h
  obtain rfl := Option.some.inj h
  have q28 : ∀ (w : World) (a : Option Addr) (n c n' c' : Nat), (binOp .eql 28 (.slice a n c) (.slice none n' c')).run Try.prog w = .ok (.bool a.isNone) w := fun w a n c n' c' => Lib.run_eql_slice_nil w _ _ a n c n' c' Try.underlying28
  cases A0 with
  | none =>
    have h0 : l0 = [] := by
      rcases Nat.eq_zero_or_pos l0.length with h0 | h0
      · exact List.eq_nil_of_length_eq_zero h0
      · obtain ⟨ad, h, _⟩ := hr0.2.2 h0
        cases h
    subst h0
    clear hr0 h
    go_enter Try.func52, Try.ntmps52
    go_wp2
    go_ret
    exact ⟨_, rfl, Kd.R_nil _ _ _ _ _, Below.refl _ _⟩
  | some A =>
    have HR := Aside0.mk hr0
    clear hr0 h
    have HB := Aside0.mk ((Below.refl w.heap.size w).alloc (Nat.le_refl _) (.cells #[] 47 (0, 0)))
    go_enter Try.func52, Try.ntmps52
    go_wp2_with (at_builtin; refine Kd.R_append_rows k47 (w0 := w) w.heap.size rfl (.tmp 5) (.tmp 6) 28 47 (.agg #[(.string ⟨#[]⟩), (.string ⟨#[]⟩)]) 32 rfl Try.underlying28 info47 rfl (by decide) (by omega) (.slice (some ⟨w.heap.size, 0, none⟩) 0 0) ([] : List (S47)) l0 _ _ _ (fun _ => True) (fun _ => False) rfl rfl ?aO ?aR (fun _ _ h => h) (fun _ h => h.elim) ?aF ?aB ?aS ?aL ?_)
    case aO => exact ⟨fun _ _ => trivial, [], World.ownsRow_made w #[] 0 (Nat.le_refl _) (Nat.zero_le _) (by simp), ⟨rfl, fun j p hj => by simp at hj⟩⟩
    case aR => exact Kd.C_below HR.out HB.out
    case aF => exact fun _ _ => trivial
    case aB => exact HB.out
    case aS => simp
    case aL => simp; omega
    intro v1 w1 ho hb hg hat
    go_wp2
    go_ret
    exact ⟨_, rfl, by simpa using ho, hb⟩
/-- slices.Clone: function 56. -/
def leaf_Branch_56.f (l0 : List (S36)) : Option ((List (S36))) := if l0.length ≤ 1000000000000 then some l0 else none
set_option maxHeartbeats 2000000 in
set_option maxRecDepth 100000 in
theorem leaf_Branch_56.calls (A0 : Option Addr) (c0 : Nat) (l0 : List (S36)) (r : List (S36)) (w : World) (hr0 : Kd.C k36 w A0 l0.length l0) (hc0 : l0.length ≤ c0) (h : leaf_Branch_56.f l0 = some r) :
    Calls Try.prog 56 #[.slice A0 l0.length c0] w fun e w' => ∃ v0_ : Value, e = .returned (v0_) ∧ Kd.R k36 36 w' w.heap.size (fun _ => True) v0_ r ∧ Below w.heap.size w w' := by
  unfold leaf_Branch_56.f at h
  by_cases hl : l0.length ≤ 1000000000000
  case neg => rw [if_neg hl] at h; cases h
  rw [if_pos hl] at h
  obtain rfl := Option.some.inj h
  have q29 : ∀ (w : World) (a : Option Addr) (n c n' c' : Nat), (binOp .eql 29 (.slice a n c) (.slice none n' c')).run Try.prog w = .ok (.bool a.isNone) w := fun w a n c n' c' => Lib.run_eql_slice_nil w _ _ a n c n' c' Try.underlying29
  cases A0 with
  | none =>
    have h0 : l0 = [] := by
      rcases Nat.eq_zero_or_pos l0.length with h0 | h0
      · exact List.eq_nil_of_length_eq_zero h0
      · obtain ⟨ad, h, _⟩ := hr0.2.2 h0
        cases h
    subst h0
    clear hr0 h
    go_enter Try.func56, Try.ntmps56
    go_wp2
    go_ret
    exact ⟨_, rfl, Kd.R_nil _ _ _ _ _, Below.refl _ _⟩
  | some A =>
    have HR := Aside0.mk hr0
    clear hr0 h
    have HB := Aside0.mk ((Below.refl w.heap.size w).alloc (Nat.le_refl _) (.cells #[] 36 (0, 0)))
    go_enter Try.func56, Try.ntmps56
    go_wp2_with (at_builtin; refine Kd.R_append_rows k36 (w0 := w) w.heap.size rfl (.tmp 5) (.tmp 6) 29 36 (.agg #[(.string ⟨#[]⟩), (.int .i64 0)]) 24 rfl Try.underlying29 info36 rfl (by decide) (by omega) (.slice (some ⟨w.heap.size, 0, none⟩) 0 0) ([] : List (S36)) l0 _ _ _ (fun _ => True) (fun _ => False) rfl rfl ?aO ?aR (fun _ _ h => h) (fun _ h => h.elim) ?aF ?aB ?aS ?aL ?_)
    case aO => exact ⟨fun _ _ => trivial, [], World.ownsRow_made w #[] 0 (Nat.le_refl _) (Nat.zero_le _) (by simp), ⟨rfl, fun j p hj => by simp at hj⟩⟩
    case aR => exact Kd.C_below HR.out HB.out
    case aF => exact fun _ _ => trivial
    case aB => exact HB.out
    case aS => simp
    case aL => simp; omega
    intro v1 w1 ho hb hg hat
    go_wp2
    go_ret
    exact ⟨_, rfl, by simpa using ho, hb⟩
end Go.Proofs.Ytfbaejhjppikpaa.P
/- A row of entries of the call's own, told as its cells. -/
namespace Go.Proofs.Ytfbaejhjppikpaa.P
open Go.RowKit Go.Proofs.YtfbaejhjppikpaaW.PrintWords Go.Proofs.YtfbaejhjppikpaaW.PrintLast Go.Proofs.YtfbaejhjppikpaaW.PrintMore
set_option linter.unusedVariables false
set_option linter.unusedSimpArgs false

def pairE (x : S47) : List Value := [.string x.f0, .string x.f1]
def cellsE (l : List S47) : List Value := l.flatMap pairE
theorem cellsE_len (l : List S47) : (cellsE l).length = l.length * 2 := by
  unfold cellsE
  induction l with
  | nil => rfl
  | cons x l ih => rw [List.flatMap_cons, List.length_append, ih]; simp [pairE]; omega
theorem cellsE_one (l : List S47) : ∀ v ∈ cellsE l, v.oneCell' = true := by
  intro v hv
  obtain ⟨x, _, hx⟩ := List.mem_flatMap.1 hv
  unfold pairE at hx
  rcases List.mem_cons.1 hx with rfl | hx
  · rfl
  · rcases List.mem_cons.1 hx with rfl | hx
    · rfl
    · cases hx
theorem cellsE_take (l : List S47) : ∀ i : Nat, (cellsE l).take (i * 2) = cellsE (l.take i) := by
  induction l with
  | nil => intro i; simp [cellsE]
  | cons x l ih =>
    intro i
    cases i with
    | zero => simp [cellsE]
    | succ i =>
      have := ih i
      simp only [cellsE, List.flatMap_cons, List.take_succ_cons, pairE] at this ⊢
      rw [show (i + 1) * 2 = i * 2 + 1 + 1 from by omega]
      simp only [List.cons_append, List.nil_append, List.take_succ_cons, this]
theorem cellsE_drop (l : List S47) : ∀ i : Nat, (cellsE l).drop (i * 2) = cellsE (l.drop i) := by
  induction l with
  | nil => intro i; simp [cellsE]
  | cons x l ih =>
    intro i
    cases i with
    | zero => simp [cellsE]
    | succ i =>
      have := ih i
      simp only [cellsE, List.flatMap_cons, List.drop_succ_cons, pairE] at this ⊢
      rw [show (i + 1) * 2 = i * 2 + 1 + 1 from by omega]
      simp only [List.cons_append, List.nil_append, List.drop_succ_cons, this]
theorem cellsE_append (l m : List S47) : cellsE (l ++ m) = cellsE l ++ cellsE m := by unfold cellsE; rw [List.flatMap_append]
theorem reps_cells {w : World} {base : Nat} {ok : Nat → Prop} : ∀ (l : List S47) (inner : List Value), Reps (k47.M w base ok) 2 l inner → inner = cellsE l := by
  intro l
  induction l with
  | nil => intro inner h; exact List.eq_nil_of_length_eq_zero (by simpa using h.1)
  | cons x l ih =>
    intro inner h
    have h0 := k47_openM (h.2 0 x rfl)
    have h1 := ih (inner.drop 2) ⟨by rw [List.length_drop, h.1]; simp; omega, fun j p hj => by
      have := h.2 (j + 1) p (by simpa using hj)
      rwa [List.drop_drop, show 2 + j * 2 = (j + 1) * 2 from by omega]⟩
    rw [← List.take_append_drop 2 inner, h1]
    simp only [Nat.zero_mul, List.drop_zero] at h0
    rw [h0]; rfl
theorem cells_reps (w : World) (base : Nat) (ok : Nat → Prop) (l : List S47) : Reps (k47.M w base ok) 2 l (cellsE l) := by
  refine ⟨cellsE_len l, fun j p hj => ?_⟩
  rw [cellsE_drop]
  obtain ⟨hlt, rfl⟩ := List.getElem?_eq_some_iff.1 hj
  rw [List.drop_eq_getElem_cons hlt]
  exact k47_mkM _ _ _ _
abbrev RowE (w : World) (base : Nat) (v : Value) (xs : List S47) : Prop := Kd.R k47 47 w base (fun _ => True) v xs
theorem rowE_own {w : World} {base : Nat} {v : Value} {xs : List S47} (h : RowE w base v xs) : w.ownsRow base 47 2 v xs.length (cellsE xs) := by
  obtain ⟨_, inner, ho, hr⟩ := h
  rw [← reps_cells xs inner hr]; exact ho
theorem own_rowE {w : World} {base n : Nat} {v : Value} {xs : List S47} (hn : xs.length = n) (h : w.ownsRow base 47 2 v n (cellsE xs)) : RowE w base v xs := by
  subst hn
  exact ⟨fun _ _ => trivial, cellsE xs, h, cells_reps _ _ _ _⟩
/-- copy, into a row, whatever the element's size. -/
theorem run_copy_rows {P : Program} (w : World) (dT sT ty elem : TypeId) (sz : Nat) (g o dLen dCap : Nat) (a : Addr) (sLen sCap : Nat) (cur : Array Value) (t : TypeId) (cs : List Value)
    (hu : P.underlying dT = some (.slice elem)) (hs : (P.info? elem).map (·.size) = some sz)
    (hg : w.heap[g]? = some (.cells cur t (0, 0))) (hn : cs.length = Nat.min sLen dLen * sz)
    (hsrc : ∀ j v, cs[j]? = some v → w.cell? (a.add j) = some v) (hfit : o + cs.length ≤ cur.size) (h1 : ∀ v ∈ cs, v.oneCell' = true) :
    (Builtin.copy_ #[dT, sT] ty #[.slice (some ⟨g, o, none⟩) dLen dCap, .slice (some a) sLen sCap]).run P w =
      .ok (goInt (Nat.min sLen dLen)) (w.setRow g (cur.toList.take o ++ cs ++ cur.toList.drop (o + cs.length)).toArray) := by
  have hl := run_loadCells_list (P := P) w a cs hsrc
  have hst := run_storeCells_at P g o t cs 0 cur w hg (by simpa using hfit) h1
  cases hq : P.info? elem with
  | none => simp [hq] at hs
  | some i =>
    have hi : i.size = sz := by simpa [hq] using hs
    simp [Builtin.copy_, run_underlying hu, Builtin.lenOf, Builtin.firstCells, sizeOf, typeInfo, hq, hi, ← hn, hl, hst]
/-- The two copies of an insertion: what the row holds then. -/
theorem shift_cells (cur : List Value) (C x : List Value) (n i c : Nat) (hc : cur.length = c * 2) (hn : n + 1 ≤ c) (hi : i ≤ n) (hC : cur.take (n * 2) = C) (hx : x.length = 2) :
    let cur1 := cur.take ((i + 1) * 2) ++ C.drop (i * 2) ++ cur.drop ((i + 1) * 2 + (C.drop (i * 2)).length)
    let cur2 := cur1.take (i * 2) ++ x ++ cur1.drop (i * 2 + x.length)
    cur1.length = c * 2 ∧ cur2.length = c * 2 ∧ cur2.take ((n + 1) * 2) = C.take (i * 2) ++ x ++ C.drop (i * 2) := by
  have hl : C.length = n * 2 := by rw [← hC, List.length_take]; omega
  have hd : (C.drop (i * 2)).length = n * 2 - i * 2 := by rw [List.length_drop, hl]
  intro cur1 cur2
  have h1 : cur1.length = c * 2 := by simp only [cur1, List.length_append, List.length_take, List.length_drop, hc, hl]; omega
  have h2 : cur2.length = c * 2 := by simp only [cur2, List.length_append, List.length_take, List.length_drop, h1, hx]; omega
  refine ⟨h1, h2, ?_⟩
  have e1 : cur1.take (i * 2) = C.take (i * 2) := by
    simp only [cur1]
    rw [List.append_assoc, List.take_append_of_le_length (by rw [List.length_take]; omega), List.take_take, ← hC, List.take_take]
    congr 1
    omega
  have e2 : cur1.drop (i * 2 + x.length) = C.drop (i * 2) ++ cur.drop ((i + 1) * 2 + (C.drop (i * 2)).length) := by
    simp only [cur1]
    rw [List.append_assoc, List.drop_append_of_le_length (by rw [List.length_take]; omega), List.drop_of_length_le (by rw [List.length_take]; omega), List.nil_append]
  simp only [cur2]
  rw [e1, e2, ← List.append_assoc]
  refine (List.take_append_of_le_length (by simp only [List.length_append, List.length_take, hl, hd, hx]; omega)).trans ?_
  exact List.take_of_length_le (by simp only [List.length_append, List.length_take, hl, hd, hx]; omega)
end Go.Proofs.Ytfbaejhjppikpaa.P
/- slices.Insert, of one entry (by hand: it asks whether slices overlap). -/
namespace Go.Proofs.Ytfbaejhjppikpaa.P
open Go.RowKit Go.Proofs.YtfbaejhjppikpaaW.PrintWords Go.Proofs.YtfbaejhjppikpaaW.PrintLast Go.Proofs.YtfbaejhjppikpaaW.PrintMore
set_option linter.unusedVariables false
set_option linter.unusedSimpArgs false

set_option maxHeartbeats 4000000 in
set_option maxRecDepth 100000 in
/-- There is room, and it is not the end: in place. -/
theorem insert_shift (b n c i g : Nat) (cur : Array Value) (C : List Value) (x : S47) (w : World) (hi : i < n) (hn : n + 1 ≤ c) (hc63 : c ≤ 9223372036854775807) (hgb : g ≠ b)
    (hb : w.heap[b]? = some (.cells cur 47 (0, 0))) (hcur : cur.size = c * 2) (hC : cur.toList.take (n * 2) = C) (hg : w.heap[g]? = some (.cells (pairE x).toArray 47 (0, 0))) (h1C : ∀ v ∈ C, v.oneCell' = true) :
    Calls Try.prog 53 #[.slice (some ⟨b, 0, none⟩) n c, .int .i64 i, .slice (some ⟨g, 0, none⟩) 1 1] w fun e w' =>
      e = .returned (.slice (some ⟨b, 0, none⟩) (n + 1) c) ∧ ∃ cur1 cur2 : Array Value, w' = (w.drew.setRow b cur1).setRow b cur2 ∧ cur2.size = c * 2 ∧ cur2.toList.take ((n + 1) * 2) = C.take (i * 2) ++ pairE x ++ C.drop (i * 2) := by
  obtain ⟨k1, k2, k3⟩ := shift_cells cur.toList C (pairE x) n i c (by rw [Array.length_toList]; exact hcur) hn (by omega) hC rfl
  have hl : C.length = n * 2 := by rw [← hC, List.length_take, Array.length_toList]; omega
  have hd : (C.drop (i * 2)).length = n * 2 - i * 2 := by rw [List.length_drop, hl]
  obtain ⟨cur1, hcur1⟩ : ∃ cur1 : Array Value, cur1 = (cur.toList.take ((i + 1) * 2) ++ C.drop (i * 2) ++ cur.toList.drop ((i + 1) * 2 + (C.drop (i * 2)).length)).toArray := ⟨_, rfl⟩
  obtain ⟨cur2, hcur2⟩ : ∃ cur2 : Array Value, cur2 = (cur1.toList.take (i * 2) ++ pairE x ++ cur1.toList.drop (i * 2 + (pairE x).length)).toArray := ⟨_, rfl⟩
  have hs : (Try.prog.info? 47).map (·.size) = some 2 := by have := info47; revert this; cases Try.prog.info? 47 with
    | none => intro h; cases h
    | some q => intro h; simp at h ⊢; exact h.2.1
  have hov : ∀ lb cb, (callFunc 59 #[.slice (some ⟨g, 0, none⟩) 1 1, .slice (some ⟨b, (i + 1) * 2, none⟩) lb cb]).run Try.prog w = .ok (.value (.bool false)) w := fun lb cb => by
    rw [run_callFunc_extern Try.func59 (by kernel_rfl) (by kernel_rfl) (by kernel_rfl) (e := Extern.SlicesOverlaps.overlaps #[28, 28] #[4]) (by kernel_rfl),
      Lib.run_overlaps_apart w 28 4 47 Try.underlying28 2 (fun w => Try.sizeOf47 w) ⟨g, 0, none⟩ ⟨b, (i + 1) * 2, none⟩ 1 1 lb cb hgb 47 47 2 (c * 2) (by simp [World.shape?, hg, pairE]) (by simp [World.shape?, hb, hcur]) (by omega) (by simp [World.frozen?, hg]) (by simp [World.frozen?, hg])]
    rfl
  have hcp1 : ∀ ty dc sc, (Builtin.copy_ #[28, 28] ty #[.slice (some ⟨b, (i + 1) * 2, none⟩) (n - i) dc, .slice (some ⟨b, i * 2, none⟩) (n + 1 - i) sc]).run Try.prog w.drew = .ok (goInt (Nat.min (n + 1 - i) (n - i))) (w.drew.setRow b cur1) := fun ty dc sc => by
    rw [hcur1]
    refine run_copy_rows w.drew 28 28 ty 47 2 b ((i + 1) * 2) (n - i) dc ⟨b, i * 2, none⟩ (n + 1 - i) sc cur 47 (C.drop (i * 2)) Try.underlying28 hs hb ?_ ?_ ?_ (fun v hv => h1C v (List.mem_of_mem_drop hv))
    · rw [hd]; simp only [Nat.min_def]; split <;> omega
    · intro j v hj
      rw [List.getElem?_drop, ← hC, List.getElem?_take] at hj
      split at hj
      · rw [Addr.add_lit, blk_cell (w := w.drew) hb]; rw [← hj, Array.getElem?_toList]
      · cases hj
    · rw [hd, hcur]; omega
  have hb1 : (w.drew.setRow b cur1).heap[b]? = some (.cells cur1 47 (0, 0)) := setRow_heap w.drew b cur cur1 47 (0, 0) hb
  have hg1 : (w.drew.setRow b cur1).heap[g]? = some (.cells (pairE x).toArray 47 (0, 0)) := (setRow_other w.drew b g cur1 hgb).trans hg
  have hcp2 : ∀ ty dc, (Builtin.copy_ #[28, 28] ty #[.slice (some ⟨b, i * 2, none⟩) (n + 1 - i) dc, .slice (some ⟨g, 0, none⟩) 1 1]).run Try.prog (w.drew.setRow b cur1) = .ok (goInt (Nat.min 1 (n + 1 - i))) ((w.drew.setRow b cur1).setRow b cur2) := fun ty dc => by
    rw [hcur2]
    refine run_copy_rows _ 28 28 ty 47 2 b (i * 2) (n + 1 - i) dc ⟨g, 0, none⟩ 1 1 cur1 47 (pairE x) Try.underlying28 hs hb1 ?_ ?_ ?_ (fun v hv => by unfold pairE at hv; rcases List.mem_cons.1 hv with rfl | hv; rfl; rcases List.mem_cons.1 hv with rfl | hv; rfl; cases hv)
    · simp only [Nat.min_def]; split <;> (simp [pairE]; try omega)
    · intro j v hj
      rw [Addr.add_lit, blk_cell hg1, Nat.zero_add, ← hj, List.getElem?_toArray]
    · have : cur1.size = c * 2 := by rw [← Array.length_toList, hcur1]; exact k1
      rw [this]; simp [pairE]; omega
  have hz2 : ¬ ((i : Int) = (n : Int)) := by omega
  have hw1 : IntKind.i64.wrap ((i : Int) + 1) = (i : Int) + 1 := by rw [IntKind.wrap_i64]; omega
  have hw2 : IntKind.i64.wrap ((n : Int) + 1) = (n : Int) + 1 := by rw [IntKind.wrap_i64]; omega
  have htn : ((i : Int) + 1).toNat = i + 1 := by omega
  have htn2 : ((n : Int) + 1).toNat = n + 1 := by omega
  have e2 : cur2.size = c * 2 := by rw [← Array.length_toList, hcur2]; simp only [List.toList_toArray]; rw [hcur1]; exact k2
  have e3 : cur2.toList.take ((n + 1) * 2) = C.take (i * 2) ++ pairE x ++ C.drop (i * 2) := by rw [hcur2, hcur1]; exact k3
  have hle : ¬ ((c : Int) < (n : Int) + 1) := by omega
  have hb2 : ¬ (c = i + 1) := by omega
  have hb4 : ¬ (c = i) := by omega
  have hin : i ≤ n := by omega
  have hin1 : i ≤ n + 1 := by omega
  have hp1 : (0 : Int) ≤ (i : Int) + 1 := by omega
  have hp2 : (i : Int) ≤ (n : Int) + 1 := by omega
  have mixed : Try.prog.follows Departure.mixedOrders = true := by kernel_rfl
  have HX := Aside0.mk (And.intro e2 e3)
  have HC := Aside0.mk hcp1
  have HD := Aside0.mk hcp2
  clear e2 e3 hcp1 hcp2 hcur1 hcur2 k1 k2 k3 hb hg hb1 hg1 hC hcur h1C hl hd
  go_enter Try.func53, Try.ntmps53
  go_wp2_with (simp only [hov])
  go_region_law_o (refine step_copy_runI rfl _ _ 28 28 rfl (.slice (some ⟨b, (i + 1) * 2, none⟩) (n - i) (c - (i + 1))) (.slice (some ⟨b, i * 2, none⟩) (n + 1 - i) (c - i)) (by simp [Act.eval, Act.put]) (by simp [Act.eval, Act.put]) (HC.out 3 (c - (i + 1)) (c - i)) ?_)
  go_wp2_with ((with_reducible refine gate_builtin (b := .copy) (xs := #[.tmp 80, .tmp 81]) rfl ?_); go_must (refine wpList_copy_runI _ rfl _ _ 28 28 rfl (.slice (some ⟨b, i * 2, none⟩) (n + 1 - i) (c - i)) (.slice (some ⟨g, 0, none⟩) 1 1) rfl rfl (HD.out 3 (c - i)) ?_))
  go_ret
  exact ⟨rfl, cur1, cur2, rfl, HX.out⟩
theorem zeroCells_len (z : Array Value) (n : Nat) : (Builtin.zeroCells z n).size = n * z.size := by simp [Builtin.zeroCells]
theorem grow_cells (row : List Value) (C x : List Value) (n i G : Nat) (hr : row.length = G * 2) (hn : n + 1 ≤ G) (hi : i ≤ n) (hl : C.length = n * 2) (hC : row.take (i * 2) = C.take (i * 2)) (hx : x.length = 2) :
    let cur1 := row.take (i * 2) ++ x ++ row.drop (i * 2 + x.length)
    let cur2 := cur1.take ((i + 1) * 2) ++ C.drop (i * 2) ++ cur1.drop ((i + 1) * 2 + (C.drop (i * 2)).length)
    cur1.length = G * 2 ∧ cur2.length = G * 2 ∧ cur2.take ((n + 1) * 2) = C.take (i * 2) ++ x ++ C.drop (i * 2) := by
  have hd : (C.drop (i * 2)).length = n * 2 - i * 2 := by rw [List.length_drop, hl]
  intro cur1 cur2
  have h1 : cur1.length = G * 2 := by simp only [cur1, List.length_append, List.length_take, List.length_drop, hr, hx]; omega
  have h2 : cur2.length = G * 2 := by simp only [cur2, List.length_append, List.length_take, List.length_drop, h1, hl]; omega
  refine ⟨h1, h2, ?_⟩
  have e1 : cur1.take ((i + 1) * 2) = C.take (i * 2) ++ x := by
    simp only [cur1]
    rw [hC]
    refine (List.take_append_of_le_length (by simp only [List.length_append, List.length_take, hl, hx]; omega)).trans ?_
    exact List.take_of_length_le (by simp only [List.length_append, List.length_take, hl, hx]; omega)
  simp only [cur2]
  rw [e1]
  refine (List.take_append_of_le_length (by simp only [List.length_append, List.length_take, hl, hd, hx]; omega)).trans ?_
  exact List.take_of_length_le (by simp only [List.length_append, List.length_take, hl, hd, hx]; omega)

set_option maxHeartbeats 4000000 in
set_option maxRecDepth 100000 in
/-- There is no room, and it is not the end: a new row. -/
theorem insert_grow (b n c i g : Nat) (cur : Array Value) (C : List Value) (x : S47) (w : World) (hi : i < n) (hnc : n ≤ c) (hn : c < n + 1) (hbig : (n + 1) * 32 ≤ 140737488355328)
    (hb : w.heap[b]? = some (.cells cur 47 (0, 0))) (hcur : cur.size = c * 2) (hC : cur.toList.take (n * 2) = C) (hg : w.heap[g]? = some (.cells (pairE x).toArray 47 (0, 0))) (h1C : ∀ v ∈ C, v.oneCell' = true) :
    Calls Try.prog 53 #[.slice (some ⟨b, 0, none⟩) n c, .int .i64 i, .slice (some ⟨g, 0, none⟩) 1 1] w fun e w' =>
      ∃ (G : Nat) (row cur1 cur2 : Array Value), e = .returned (.slice (some ⟨w.heap.size, 0, none⟩) (n + 1) G) ∧ n + 1 ≤ G ∧ G ≤ maxLen ∧ w' = (((w.alloc (.cells row 47 (0, 0))).drew.setRow w.heap.size cur1).drew).setRow w.heap.size cur2 ∧ cur2.size = G * 2 ∧ cur2.toList.take ((n + 1) * 2) = C.take (i * 2) ++ pairE x ++ C.drop (i * 2) := by
  have hl : C.length = n * 2 := by rw [← hC, List.length_take, Array.length_toList]; omega
  have hd : (C.drop (i * 2)).length = n * 2 - i * 2 := by rw [List.length_drop, hl]
  obtain ⟨i0, hi0, hzz⟩ := Option.map_eq_some_iff.1 info47
  simp only [Prod.mk.injEq] at hzz
  obtain ⟨hz0, hzs, hzb⟩ := hzz
  have hs : (Try.prog.info? 47).map (·.size) = some 2 := by rw [hi0]; simp [hzs]
  have hbw : b < w.heap.size := blk_lt hb
  have hgw : g < w.heap.size := blk_lt hg
  have hkk : (n : Int) + 1 - (i : Int) = ((n + 1 - i : Nat) : Int) := by omega
  have hik : i + (n + 1 - i) = n + 1 := by omega
  have hsrcC : ∀ (k : Nat) j v, (C.drop k)[j]? = some v → w.cell? ⟨b, k + j, none⟩ = some v := by
    intro k j v hj
    rw [List.getElem?_drop, ← hC, List.getElem?_take] at hj
    split at hj
    · rw [blk_cell hb, ← hj, Array.getElem?_toList]
    · cases hj
  have hold : (Builtin.firstCells i0.size i (.slice (some ⟨b, 0, none⟩) i c)).run Try.prog w.drew = .ok (C.take (i * 2)).toArray w.drew := by
    rw [hzs]
    refine run_firstCells_some w.drew 2 i ⟨b, 0, none⟩ i c (C.take (i * 2)) (by rw [List.length_take]; omega) (fun j v hj => ?_)
    rw [Addr.add_lit, List.getElem?_take] at *
    split at hj
    · exact hsrcC 0 j v (by simpa using hj)
    · cases hj
  obtain ⟨G, hG⟩ : ∃ G, G = grownCap w (n + 1) c 47 := ⟨_, rfl⟩
  obtain ⟨row, hrow⟩ : ∃ row : Array Value, row = (C.take (i * 2)).toArray ++ Builtin.zeroCells (Value.agg #[(.string ⟨#[]⟩), (.string ⟨#[]⟩)]).cells (n + 1 - i) ++ Builtin.zeroCells (Value.agg #[(.string ⟨#[]⟩), (.string ⟨#[]⟩)]).cells (G - (n + 1)) := ⟨_, rfl⟩
  have hrz : ∀ ty, (Builtin.append_ #[28, 3] ty #[.slice (some ⟨b, 0, none⟩) i c, .int .i64 ((n : Int) + 1 - (i : Int))]).run Try.prog w =
      .ok (.slice (some ⟨w.heap.size, 0, none⟩) (n + 1) G) (w.drew.alloc (.cells row 47)) := fun ty => by
    have h := Lib.run_append_grow_zeros w 28 3 ty 47 i0 _ .i64 .i64 Try.underlying28 Try.underlying3 hi0 hz0 (some ⟨b, 0, none⟩) i c (C.take (i * 2)) hold (n + 1 - i) (by omega) (by rw [hzs]; omega) (by omega) (by omega) (by rw [hzb]; omega) (by rw [hzb, hik]; exact growslice_fits hn hbig)
    rw [hik, ← hG, ← hrow] at h
    rw [hkk]
    exact h
  have hGn : n + 1 ≤ G := by rw [hG]; exact grownCap_ge w _ _ _
  have hGm : G ≤ maxLen := by rw [hG]; exact grownCap_le_maxLen w (n + 1) c 47 (by unfold maxLen; omega)
  have hz2 : (Value.agg #[(.string ⟨#[]⟩), (.string ⟨#[]⟩)]).cells.size = 2 := rfl
  have hrl : row.size = G * 2 := by rw [hrow]; simp only [Array.size_append, zeroCells_len, hz2, List.size_toArray, List.length_take, hl]; omega
  have hrt : row.toList.take (i * 2) = C.take (i * 2) := by
    rw [hrow]
    simp only [Array.toList_append, List.append_assoc]
    rw [List.take_append_of_le_length (by rw [List.length_take]; omega), List.take_take, Nat.min_self]
  obtain ⟨k1, k2, k3⟩ := grow_cells row.toList C (pairE x) n i G (by rw [Array.length_toList]; exact hrl) hGn (by omega) hl hrt rfl
  obtain ⟨cur1, hcur1⟩ : ∃ cur1 : Array Value, cur1 = (row.toList.take (i * 2) ++ pairE x ++ row.toList.drop (i * 2 + (pairE x).length)).toArray := ⟨_, rfl⟩
  obtain ⟨cur2, hcur2⟩ : ∃ cur2 : Array Value, cur2 = (cur1.toList.take ((i + 1) * 2) ++ C.drop (i * 2) ++ cur1.toList.drop ((i + 1) * 2 + (C.drop (i * 2)).length)).toArray := ⟨_, rfl⟩
  have hN : ((w.alloc (.cells row 47 (0, 0))).drew).heap[w.heap.size]? = some (.cells row 47 (0, 0)) := by
    show (w.heap.push (Obj.cells row 47 (0, 0)))[w.heap.size]? = _
    simp
  have hgN : ((w.alloc (.cells row 47 (0, 0))).drew).heap[g]? = some (.cells (pairE x).toArray 47 (0, 0)) := by
    show (w.heap.push (Obj.cells row 47 (0, 0)))[g]? = _
    rw [Array.getElem?_push_lt hgw, ← Array.getElem?_eq_getElem hgw]; exact hg
  have hbN : ((w.alloc (.cells row 47 (0, 0))).drew).heap[b]? = some (.cells cur 47 (0, 0)) := by
    show (w.heap.push (Obj.cells row 47 (0, 0)))[b]? = _
    rw [Array.getElem?_push_lt hbw, ← Array.getElem?_eq_getElem hbw]; exact hb
  have hcpA : ∀ ty dc, (Builtin.copy_ #[28, 28] ty #[.slice (some ⟨w.heap.size, i * 2, none⟩) (n + 1 - i) dc, .slice (some ⟨g, 0, none⟩) 1 1]).run Try.prog ((w.alloc (.cells row 47 (0, 0))).drew) = .ok (goInt (Nat.min 1 (n + 1 - i))) (((w.alloc (.cells row 47 (0, 0))).drew).setRow w.heap.size cur1) := fun ty dc => by
    rw [hcur1]
    refine run_copy_rows _ 28 28 ty 47 2 w.heap.size (i * 2) (n + 1 - i) dc ⟨g, 0, none⟩ 1 1 row 47 (pairE x) Try.underlying28 hs hN ?_ ?_ ?_ (fun v hv => by unfold pairE at hv; rcases List.mem_cons.1 hv with rfl | hv; rfl; rcases List.mem_cons.1 hv with rfl | hv; rfl; cases hv)
    · simp only [Nat.min_def]; split <;> (simp [pairE]; try omega)
    · intro j v hj
      rw [Addr.add_lit, blk_cell hgN, Nat.zero_add, ← hj, List.getElem?_toArray]
    · rw [hrl]; simp [pairE]; omega
  have hN1 : (((w.alloc (.cells row 47 (0, 0))).drew).setRow w.heap.size cur1).drew.heap[w.heap.size]? = some (.cells cur1 47 (0, 0)) := setRow_heap _ _ row cur1 47 (0, 0) hN
  have hbN1 : (((w.alloc (.cells row 47 (0, 0))).drew).setRow w.heap.size cur1).drew.heap[b]? = some (.cells cur 47 (0, 0)) := (setRow_other _ _ b cur1 (Nat.ne_of_lt hbw)).trans hbN
  have hcpB : ∀ ty dc sc, (Builtin.copy_ #[28, 28] ty #[.slice (some ⟨w.heap.size, (i + 1) * 2, none⟩) (n - i) dc, .slice (some ⟨b, i * 2, none⟩) (n - i) sc]).run Try.prog ((((w.alloc (.cells row 47 (0, 0))).drew).setRow w.heap.size cur1).drew) = .ok (goInt (Nat.min (n - i) (n - i))) (((((w.alloc (.cells row 47 (0, 0))).drew).setRow w.heap.size cur1).drew).setRow w.heap.size cur2) := fun ty dc sc => by
    rw [hcur2]
    refine run_copy_rows _ 28 28 ty 47 2 w.heap.size ((i + 1) * 2) (n - i) dc ⟨b, i * 2, none⟩ (n - i) sc cur1 47 (C.drop (i * 2)) Try.underlying28 hs hN1 ?_ ?_ ?_ (fun v hv => h1C v (List.mem_of_mem_drop hv))
    · rw [hd]; simp only [Nat.min_def]; split <;> omega
    · intro j v hj
      rw [Addr.add_lit, blk_cell hbN1]
      have := hsrcC (i * 2) j v hj
      rw [blk_cell hb] at this
      exact this
    · have : cur1.size = G * 2 := by rw [← Array.length_toList, hcur1]; exact k1
      rw [hd, this]; omega
  have hz2 : ¬ ((i : Int) = (n : Int)) := by omega
  have hw1 : IntKind.i64.wrap ((i : Int) + 1) = (i : Int) + 1 := by rw [IntKind.wrap_i64]; omega
  have hw2 : IntKind.i64.wrap ((n : Int) + 1) = (n : Int) + 1 := by rw [IntKind.wrap_i64]; omega
  have hw3 : IntKind.i64.wrap ((n : Int) + 1 - (i : Int)) = (n : Int) + 1 - (i : Int) := by rw [IntKind.wrap_i64]; omega
  have htn : ((i : Int) + 1).toNat = i + 1 := by omega
  have htn2 : ((n : Int) + 1).toNat = n + 1 := by omega
  have e2 : cur2.size = G * 2 := by rw [← Array.length_toList, hcur2]; simp only [List.toList_toArray]; rw [hcur1]; exact k2
  have e3 : cur2.toList.take ((n + 1) * 2) = C.take (i * 2) ++ pairE x ++ C.drop (i * 2) := by rw [hcur2, hcur1]; exact k3
  have hlt : (c : Int) < (n : Int) + 1 := by omega
  have hGi : ¬ (G = i) := by omega
  have hGim : ¬ (G = i + 1) := by omega
  have hci : ¬ (c = i) := by omega
  have hin : i ≤ n := by omega
  have hin1 : i ≤ n + 1 := by omega
  have hp1 : (0 : Int) ≤ (i : Int) + 1 := by omega
  have hp2 : (i : Int) ≤ (n : Int) + 1 := by omega
  have hp3 : (i : Int) ≤ (n : Int) := by omega
  have mixed : Try.prog.follows Departure.mixedOrders = true := by kernel_rfl
  have HX := Aside0.mk (And.intro e2 e3)
  have HZ := Aside0.mk hrz
  have HC := Aside0.mk hcpA
  have HD := Aside0.mk hcpB
  have HG := Aside0.mk (And.intro hGn hGm)
  clear e2 e3 hrz hcpA hcpB hcur1 hcur2 k1 k2 k3 hb hg hC hcur h1C hl hd hi0 hz0 hzs hzb hold hrow hrl hrt hN hgN hbN hN1 hbN1 hsrcC hkk hik hGn hGm hG
  go_enter Try.func53, Try.ntmps53
  go_wp2_with (first | ((with_reducible refine gate_builtin (b := .append) (xs := #[.tmp 34, .tmp 39]) rfl ?_); go_must (refine Lib.wpList_append_run _ rfl _ _ 28 3 rfl (.slice (some ⟨b, 0, none⟩) i c) (.int .i64 ((n : Int) + 1 - (i : Int))) rfl rfl _ _ (HZ.out _) ?_)) | ((with_reducible refine gate_builtin (b := .copy) (xs := #[.tmp 43, .tmp 44]) rfl ?_); go_must (refine wpList_copy_runI _ rfl _ _ 28 28 rfl (.slice (some ⟨w.heap.size, i * 2, none⟩) (n + 1 - i) (G - i)) (.slice (some ⟨g, 0, none⟩) 1 1) rfl rfl (HC.out 3 (G - i)) ?_)))
  go_region_law_o (refine step_copy_runI rfl _ _ 28 28 rfl (.slice (some ⟨w.heap.size, (i + 1) * 2, none⟩) (n - i) (G - (i + 1))) (.slice (some ⟨b, i * 2, none⟩) (n - i) (c - i)) (by simp [Act.eval, Act.put]) (by simp [Act.eval, Act.put]) (HD.out 3 (G - (i + 1)) (c - i)) ?_)
  go_wp2
  go_ret
  exact ⟨G, row, cur1, cur2, rfl, HG.out.1, HG.out.2, rfl, HX.out⟩
theorem pair_reads {w : World} {g : Nat} {x : S47} (hg : w.heap[g]? = some (.cells (pairE x).toArray 47 (0, 0))) : ReadsRow (fun (y : S47) cs => cs = pairE y) 2 w (some ⟨g, 0, none⟩) 1 [x] := by
  refine ⟨rfl, by decide, fun _ => ⟨_, rfl, fun j p hj => ?_⟩⟩
  obtain ⟨hlt, hp⟩ := List.getElem?_eq_some_iff.1 hj
  have h0 : j = 0 := by simpa using hlt
  subst h0
  simp only [List.getElem_cons_zero] at hp
  subst hp
  refine ⟨pairE x, rfl, rfl, fun i u hu => ?_⟩
  rw [Addr.add_lit, blk_cell hg, ← hu, List.getElem?_toArray]
  simp
set_option maxHeartbeats 4000000 in
set_option maxRecDepth 100000 in
/-- At the end: an append. -/
theorem insert_end (v : Value) (xs : List S47) (x : S47) (g : Nat) (w0 w : World) (hlen : xs.length ≤ 1000000000000) (HO : RowE w w0.heap.size v xs) (HB : Below w0.heap.size w0 w) (hg : w.heap[g]? = some (.cells (pairE x).toArray 47 (0, 0))) :
    Calls Try.prog 53 #[v, .int .i64 xs.length, .slice (some ⟨g, 0, none⟩) 1 1] w fun e w' => ∃ v', e = .returned v' ∧ RowE w' w0.heap.size v' (xs ++ [x]) ∧ Below w0.heap.size w0 w' := by
  obtain ⟨A, c, rfl⟩ := own_slice (rowE_own HO)
  have hw0 : (0 : Int) ≤ (xs.length : Int) := by omega
  have HR := Aside0.mk HO
  have HG := Aside0.mk (pair_reads hg)
  have HBB := Aside0.mk HB
  obtain ⟨n, hn⟩ : ∃ n, n = xs.length := ⟨_, rfl⟩
  rw [← hn] at hlen hw0 ⊢
  have HN := Aside0.mk hn
  clear HO hg HB hn
  cases A with
  | none =>
    go_enter Try.func53, Try.ntmps53
    go_wp2_with ((with_reducible refine gate_builtin (b := .append) (xs := #[.tmp 23, .tmp 24]) rfl ?_); go_must (refine Kd.R_append_rows k47 (w0 := w0) w0.heap.size rfl (.tmp 23) (.tmp 24) 28 47 (.agg #[(.string ⟨#[]⟩), (.string ⟨#[]⟩)]) 32 rfl Try.underlying28 info47 rfl (by decide) (by omega) (.slice none n c) xs [x] _ _ _ (fun _ => True) (fun _ => False) rfl rfl ?aO HG.out ?aK (fun _ h => h.elim) ?aF HBB.out HBB.out.size ?aL ?_; (case aO => rw [HN.out]; exact HR.out); (case aK => (rintro y cs rfl; exact k47_mkM _ _ _ _)); (case aF => exact fun _ _ => trivial); (case aL => rw [← HN.out]; omega); intro v1 w1 ho hb hg hat; have HO1 := Aside0.mk ho; have HB1 := Aside0.mk hb; clear ho hb hg hat))
    all_goals (go_ret; exact ⟨_, rfl, HO1.out, HB1.out⟩)
  | some ad =>
    go_enter Try.func53, Try.ntmps53
    go_wp2_with ((with_reducible refine gate_builtin (b := .append) (xs := #[.tmp 23, .tmp 24]) rfl ?_); go_must (refine Kd.R_append_rows k47 (w0 := w0) w0.heap.size rfl (.tmp 23) (.tmp 24) 28 47 (.agg #[(.string ⟨#[]⟩), (.string ⟨#[]⟩)]) 32 rfl Try.underlying28 info47 rfl (by decide) (by omega) (.slice (some ad) n c) xs [x] _ _ _ (fun _ => True) (fun _ => False) rfl rfl ?aO HG.out ?aK (fun _ h => h.elim) ?aF HBB.out HBB.out.size ?aL ?_; (case aO => rw [HN.out]; exact HR.out); (case aK => (rintro y cs rfl; exact k47_mkM _ _ _ _)); (case aF => exact fun _ _ => trivial); (case aL => rw [← HN.out]; omega); intro v1 w1 ho hb hg hat; have HO1 := Aside0.mk ho; have HB1 := Aside0.mk hb; clear ho hb hg hat))
    all_goals (go_ret; exact ⟨_, rfl, HO1.out, HB1.out⟩)
/-- slices.Insert of one entry, whatever the place. -/
theorem insert53 (v : Value) (xs : List S47) (x : S47) (i g : Nat) (w0 w : World) (hi : i ≤ xs.length) (hlen : xs.length ≤ 1000000000000) (HO : RowE w w0.heap.size v xs) (HB : Below w0.heap.size w0 w) (hg : w.heap[g]? = some (.cells (pairE x).toArray 47 (0, 0))) (hgb : some g ≠ v.ownBlock) :
    Calls Try.prog 53 #[v, .int .i64 i, .slice (some ⟨g, 0, none⟩) 1 1] w fun e w' => ∃ v', e = .returned v' ∧ RowE w' w0.heap.size v' (xs.take i ++ x :: xs.drop i) ∧ Below w0.heap.size w0 w' := by
  by_cases he : i = xs.length
  · subst he
    rw [List.take_of_length_le (Nat.le_refl _), List.drop_of_length_le (Nat.le_refl _)]
    exact insert_end v xs x g w0 w hlen HO HB hg
  · have hlt : i < xs.length := by omega
    have hcells : cellsE (xs.take i ++ x :: xs.drop i) = (cellsE xs).take (i * 2) ++ pairE x ++ (cellsE xs).drop (i * 2) := by
      rw [cellsE_take, cellsE_drop, cellsE_append]
      show cellsE (xs.take i) ++ (pairE x ++ cellsE (xs.drop i)) = _
      rw [List.append_assoc]
    have hlen2 : (xs.take i ++ x :: xs.drop i).length = xs.length + 1 := by simp only [List.length_append, List.length_cons, List.length_take, List.length_drop]; omega
    obtain ⟨_, ⟨rfl, h0⟩ | ⟨b, c, cur, rfl, hbb, hb, hnc, hcm, hcs, hct⟩⟩ := rowE_own HO
    · omega
    · by_cases hroom : xs.length + 1 ≤ c
      · refine (insert_shift b xs.length c i g cur (cellsE xs) x w hlt hroom (by unfold maxLen at hcm; omega) (by intro e; exact hgb (by rw [e]; rfl)) hb hcs hct hg (cellsE_one xs)).mono ?_
        rintro e w' ⟨rfl, cur1, cur2, rfl, hs2, ht2⟩
        refine ⟨_, rfl, own_rowE hlen2 ?_, below_setRow (below_setRow HB.drew hbb cur1) hbb cur2⟩
        rw [hcells]
        refine ⟨by rw [← hcells, cellsE_len, hlen2], Or.inr ⟨b, c, cur2, rfl, hbb, setRow_heap _ b cur1 cur2 47 (0, 0) (setRow_heap _ b cur cur1 47 (0, 0) hb), hroom, hcm, hs2, ht2⟩⟩
      · refine (insert_grow b xs.length c i g cur (cellsE xs) x w hlt hnc (by omega) (by omega) hb hcs hct hg (cellsE_one xs)).mono ?_
        rintro e w' ⟨G, row, cur1, cur2, rfl, hG1, hG2, rfl, hs2, ht2⟩
        have hsz : w0.heap.size ≤ w.heap.size := HB.size
        refine ⟨_, rfl, own_rowE hlen2 ?_, below_setRow (below_setRow (HB.alloc hsz _).drew hsz cur1).drew hsz cur2⟩
        rw [hcells]
        refine ⟨by rw [← hcells, cellsE_len, hlen2], Or.inr ⟨w.heap.size, G, cur2, rfl, hsz, setRow_heap _ _ cur1 cur2 47 (0, 0) (setRow_heap _ _ row cur1 47 (0, 0) (blk_new w _)), hG1, hG2, hs2, ht2⟩⟩
end Go.Proofs.Ytfbaejhjppikpaa.P
/- leaf.Put (by hand: Insert, Clone and the search are). -/
namespace Go.Proofs.Ytfbaejhjppikpaa.P
open Go.RowKit Go.Proofs.YtfbaejhjppikpaaW.PrintWords Go.Proofs.YtfbaejhjppikpaaW.PrintLast Go.Proofs.YtfbaejhjppikpaaW.PrintMore
set_option linter.unusedVariables false
set_option linter.unusedSimpArgs false

/-- The row with another value at a place. -/
def withVal (l : List S47) (i : Nat) (val : ByteArray) : List S47 := l.set i ⟨(rd_T47 l (i : Int)).f0, val⟩
/-- Entries with a key that has that. -/
def putE (l : List S47) (key val : ByteArray) : List S47 := if isE l key then withVal l (atE l key) val else l.take (atE l key) ++ ⟨key, val⟩ :: l.drop (atE l key)
theorem atE_le (l : List S47) (key : ByteArray) : atE l key ≤ l.length := (bsAt_range (lessE l key) l.length 0 l.length (Nat.zero_le _) (by omega)).2
theorem isE_lt (l : List S47) (key : ByteArray) (h : isE l key = true) : atE l key < l.length := by
  unfold isE at h
  simp only [Bool.and_eq_true, decide_eq_true_eq] at h
  exact h.1
theorem cellsE_set (l : List S47) (i : Nat) (val : ByteArray) (hi : i < l.length) : (cellsE l).set (i * 2 + 1) (.string val) = cellsE (withVal l i val) := by
  unfold withVal
  have hr : rd_T47 l (i : Int) = l[i] := by unfold rd_T47; simp [List.getD_eq_getElem?_getD, hi]
  rw [hr]
  clear hr
  induction l generalizing i with
  | nil => cases hi
  | cons x l ih =>
    cases i with
    | zero => simp [cellsE, pairE]
    | succ i =>
      have := ih i (by simpa using hi)
      simp only [List.getElem_cons_succ, List.set_cons_succ]
      simp only [cellsE, List.flatMap_cons, pairE] at this ⊢
      rw [show (i + 1) * 2 + 1 = i * 2 + 1 + 1 + 1 from by omega]
      simp only [List.cons_append, List.nil_append, List.set_cons_succ, this]
/-- A store of a value into a row of the call's own. -/
theorem rowE_put {w : World} {base n c b i : Nat} {xs : List S47} (h : RowE w base (.slice (some ⟨b, 0, none⟩) n c) xs) (hi : i < xs.length) (val : ByteArray) : RowE (w.setCell ⟨b, i * 2 + 1, none⟩ (.string val)) base (.slice (some ⟨b, 0, none⟩) n c) (withVal xs i val) ∧ base ≤ b ∧ (∃ old, w.cell? ⟨b, i * 2 + 1, none⟩ = some old) ∧ w.frozen? ⟨b, i * 2 + 1, none⟩ = false := by
  have ho := rowE_own h
  obtain ⟨hcl, ⟨e, _⟩ | ⟨g', cap, cur, e, hbb, hb, hnc, hcm, hcs, hct⟩⟩ := ho
  · simp at e
  simp only [Value.slice.injEq, Option.some.injEq, Addr.mk.injEq, and_true] at e
  obtain ⟨rfl, rfl, rfl⟩ := e
  have hlt : i * 2 + 1 < cur.size := by omega
  refine ⟨own_rowE (by unfold withVal; rw [List.length_set]) ⟨by rw [cellsE_len]; unfold withVal; rw [List.length_set], Or.inr ⟨b, c, cur.setIfInBounds (i * 2 + 1) (.string val), rfl, hbb, blk_put hb _ _ rfl, hnc, hcm, by simp [hcs], ?_⟩⟩, hbb, ⟨_, (blk_cell hb _).trans (Array.getElem?_eq_getElem hlt)⟩, blk_frozen hb _⟩
  rw [Array.toList_setIfInBounds, List.take_set, hct, cellsE_set xs i val hi]
theorem rowE_at {w : World} {base i : Nat} {v : Value} {xs : List S47} (h : RowE w base v xs) (hi : i < xs.length) : ∃ b c, v = .slice (some ⟨b, 0, none⟩) xs.length c ∧ xs.length ≤ c := by
  obtain ⟨hcl, ⟨e, h0⟩ | ⟨g', cap, cur, e, hbb, hb, hnc, hcm, hcs, hct⟩⟩ := rowE_own h
  · omega
  · exact ⟨g', cap, e, hnc⟩
theorem rowE_less {w : World} {b base : Nat} {v : Value} {xs : List S47} (h : RowE w b v xs) (hle : base ≤ b) : RowE w base v xs := own_rowE rfl (own_less (rowE_own h) hle)
theorem rowE_alloc {w : World} {base : Nat} {v : Value} {xs : List S47} (h : RowE w base v xs) (o : Obj) : RowE (w.alloc o) base v xs := own_rowE rfl (own_alloc (rowE_own h) o)
theorem rowE_block {w : World} {base : Nat} {v : Value} {xs : List S47} (h : RowE w base v xs) : some w.heap.size ≠ v.ownBlock := by
  obtain ⟨_, ⟨rfl, _⟩ | ⟨b, c, cur, rfl, _, hb, _⟩⟩ := rowE_own h
  · intro e; cases e
  · intro e
    have := blk_lt hb
    have e2 : w.heap.size = b := Option.some.inj e
    omega
/-- leaf.Put: function 31. -/
def leaf_Put.f (l0 : List (S47)) (a1 : ByteArray) (a2 : ByteArray) : Option ((List (S47))) := if l0.length ≤ 1000000000000 then some (putE l0 a1 a2) else none
set_option maxHeartbeats 4000000 in
set_option maxRecDepth 100000 in
theorem put_is (A0 : Option Addr) (c0 : Nat) (l0 : List (S47)) (a1 : ByteArray) (a2 : ByteArray) (w : World) (hr0 : Kd.C k47 w A0 l0.length l0) (hc0 : l0.length ≤ c0) (hl : l0.length ≤ 1000000000000) (hi : isE l0 a1 = true) :
    Calls Try.prog 31 #[.slice A0 l0.length c0, .string a1, .string a2] w fun e w' => ∃ v0_ : Value, e = .returned (v0_) ∧ Kd.R k47 47 w' w.heap.size (fun _ => True) v0_ (withVal l0 (atE l0 a1) a2) ∧ Below w.heap.size w w' := by
  have hlt := isE_lt l0 a1 hi
  obtain ⟨at_, hat_⟩ : ∃ at_, at_ = atE l0 a1 := ⟨_, rfl⟩
  have hs : leaf_search.f l0 a1 = some ((at_ : Int), true) := by unfold leaf_search.f; rw [if_pos hl, hi, hat_]
  have hcl : leaf_Entry_52.f l0 = some l0 := by unfold leaf_Entry_52.f; rw [if_pos hl]
  rw [← hat_] at hlt ⊢
  have HR := Aside0.mk hr0
  have HS := Aside0.mk hs
  have HC := Aside0.mk hcl
  have h1 : (0 : Int) ≤ (at_ : Int) := by omega
  have h2 : (at_ : Int) < (l0.length : Int) := by omega
  have hu47 := Try.underlying47
  clear hr0 hs hcl hi hat_
  go_enter Try.func31, Try.ntmps31
  go_wp2_with (first | (go_at_call 51; refine (leaf_search.calls _ _ _ _ _ _ _ HR.out hc0 HS.out).mono ?_; rintro e w1 ⟨rfl, hb⟩; have HB := Aside0.mk hb; clear hb) | (go_at_call 52; refine (leaf_Entry_52.calls _ _ _ _ w1 (Kd.C_below HR.out HB.out) hc0 HC.out).mono ?_; rintro e w2 ⟨v1, rfl, ho, hb⟩; obtain ⟨b, c, rfl, hbc⟩ := rowE_at ho hlt; obtain ⟨hp1, hp2, ⟨old, hp3⟩, hp4⟩ := rowE_put ho hlt a2; have HP := Aside0.mk hp1; have HQ := Aside0.mk hp2; have HB2 := Aside0.mk hb; clear hp1 hp2 ho hb))
  go_ret
  exact ⟨_, rfl, rowE_less HP.out HB.out.size, (below_step HB.out HB2.out).setCell (Nat.le_trans HB.out.size HQ.out) _⟩
set_option maxHeartbeats 4000000 in
set_option maxRecDepth 100000 in
theorem put_new (A0 : Option Addr) (c0 : Nat) (l0 : List (S47)) (a1 : ByteArray) (a2 : ByteArray) (w : World) (hr0 : Kd.C k47 w A0 l0.length l0) (hc0 : l0.length ≤ c0) (hl : l0.length ≤ 1000000000000) (hi : isE l0 a1 = false) :
    Calls Try.prog 31 #[.slice A0 l0.length c0, .string a1, .string a2] w fun e w' => ∃ v0_ : Value, e = .returned (v0_) ∧ Kd.R k47 47 w' w.heap.size (fun _ => True) v0_ (l0.take (atE l0 a1) ++ ⟨a1, a2⟩ :: l0.drop (atE l0 a1)) ∧ Below w.heap.size w w' := by
  have hle := atE_le l0 a1
  obtain ⟨at_, hat_⟩ : ∃ at_, at_ = atE l0 a1 := ⟨_, rfl⟩
  have hs : leaf_search.f l0 a1 = some ((at_ : Int), false) := by unfold leaf_search.f; rw [if_pos hl, hi, hat_]
  have hcl : leaf_Entry_52.f l0 = some l0 := by unfold leaf_Entry_52.f; rw [if_pos hl]
  rw [← hat_] at hle ⊢
  have HR := Aside0.mk hr0
  have HS := Aside0.mk hs
  have HC := Aside0.mk hcl
  have hu47 := Try.underlying47
  clear hr0 hs hcl hi hat_
  go_enter Try.func31, Try.ntmps31
  go_wp2_with (first | (go_at_call 51; refine (leaf_search.calls _ _ _ _ _ _ _ HR.out hc0 HS.out).mono ?_; rintro e w1 ⟨rfl, hb⟩; have HB := Aside0.mk hb; clear hb) | (go_at_call 52; refine (leaf_Entry_52.calls _ _ _ _ w1 (Kd.C_below HR.out HB.out) hc0 HC.out).mono ?_; rintro e w2 ⟨v1, rfl, ho, hb⟩; have HO := Aside0.mk (rowE_less ho HB.out.size); have HB2 := Aside0.mk (below_step HB.out hb); clear ho hb) | (go_at_call 53; refine (insert53 v1 l0 ⟨a1, a2⟩ at_ w2.heap.size w _ hle hl (rowE_alloc HO.out _) (HB2.out.alloc HB2.out.size _) (blk_new w2 _) (rowE_block HO.out)).mono ?_; rintro e w3 ⟨v3, rfl, ho, hb⟩; have HO3 := Aside0.mk ho; have HB3 := Aside0.mk hb; clear ho hb))
  go_ret
  exact ⟨_, rfl, HO3.out, HB3.out⟩
set_option maxRecDepth 100000 in
theorem leaf_Put.calls (A0 : Option Addr) (c0 : Nat) (l0 : List (S47)) (a1 : ByteArray) (a2 : ByteArray) (r : List (S47)) (w : World) (hr0 : Kd.C k47 w A0 l0.length l0) (hc0 : l0.length ≤ c0) (h : leaf_Put.f l0 a1 a2 = some r) :
    Calls Try.prog 31 #[.slice A0 l0.length c0, .string a1, .string a2] w fun e w' => ∃ v0_ : Value, e = .returned (v0_) ∧ Kd.R k47 47 w' w.heap.size (fun _ => True) v0_ r ∧ Below w.heap.size w w' := by
  unfold leaf_Put.f at h
  by_cases hl : l0.length ≤ 1000000000000
  · rw [if_pos hl] at h
    obtain rfl := Option.some.inj h
    unfold putE
    cases hi : isE l0 a1 with
    | true => exact put_is A0 c0 l0 a1 a2 w hr0 hc0 hl hi
    | false => exact put_new A0 c0 l0 a1 a2 w hr0 hc0 hl hi
  · rw [if_neg hl] at h
    cases h
end Go.Proofs.Ytfbaejhjppikpaa.P
/- slices.Delete of one entry, and leaf.Del (by hand). -/
namespace Go.Proofs.Ytfbaejhjppikpaa.P
open Go.RowKit Go.Proofs.YtfbaejhjppikpaaW.PrintWords Go.Proofs.YtfbaejhjppikpaaW.PrintLast Go.Proofs.YtfbaejhjppikpaaW.PrintMore
set_option linter.unusedVariables false
set_option linter.unusedSimpArgs false

theorem run_clear_one (w : World) (ty b o c : Nat) (hc : ∀ j, j < 2 → (w.cell? ⟨b, o + j, none⟩).isSome = true) (hf : ∀ j, j < 2 → w.frozen? ⟨b, o + j, none⟩ = false) :
    (Builtin.clear_ #[28] ty #[.slice (some ⟨b, o, none⟩) 1 c]).run Try.prog w = .ok (.tuple #[]) (w.setCells b o [.string ⟨#[]⟩, .string ⟨#[]⟩]) := by
  have hv : ∀ w, (zeroValue 47).run Try.prog w = .ok (.agg #[(.string ⟨#[]⟩), (.string ⟨#[]⟩)]) w := fun w => Try.zeroValue47 w
  have hz : (Builtin.zeroCells (Value.agg #[(.string ⟨#[]⟩), (.string ⟨#[]⟩)]).cells 1).toList = [.string ⟨#[]⟩, .string ⟨#[]⟩] := by simp [Builtin.zeroCells, Value.cells, List.range_succ]
  have hst := run_storeCells_cells (P := Try.prog) b o [.string ⟨#[]⟩, .string ⟨#[]⟩] 0 w (by simpa using hc) (by simpa using hf) (by intro v hv'; simp at hv'; subst hv'; rfl)
  simp only [Nat.add_zero] at hst
  simp [Builtin.clear_, run_underlying Try.underlying28, hv, hz, hst]

set_option maxHeartbeats 4000000 in
set_option maxRecDepth 100000 in
theorem delete_raw (b c i m : Nat) (cur : Array Value) (C : List Value) (w : World) (hnc : i + 1 + m ≤ c) (hc63 : c ≤ 9223372036854775807)
    (hb : w.heap[b]? = some (.cells cur 47 (0, 0))) (hcur : cur.size = c * 2) (hC : cur.toList.take ((i + 1 + m) * 2) = C) (h1C : ∀ v ∈ C, v.oneCell' = true) :
    Calls Try.prog 54 #[.slice (some ⟨b, 0, none⟩) (i + 1 + m) c, .int .i64 i, .int .i64 (i + 1)] w fun e w' =>
      e = .returned (.slice (some ⟨b, 0, none⟩) (i + m) c) ∧ w' = (w.drew.setCells b (i * 2) (C.drop ((i + 1) * 2))).setCells b ((i + m) * 2) [.string ⟨#[]⟩, .string ⟨#[]⟩] := by
  have hl : C.length = (i + 1 + m) * 2 := by rw [← hC, List.length_take, Array.length_toList]; omega
  obtain ⟨news, hnews⟩ : ∃ news, news = C.drop ((i + 1) * 2) := ⟨_, rfl⟩
  have hlen : news.length = m * 2 := by rw [hnews, List.length_drop, hl]; omega
  obtain ⟨i0, hi0, hzz⟩ := Option.map_eq_some_iff.1 info47
  simp only [Prod.mk.injEq] at hzz
  obtain ⟨_, hzs, _⟩ := hzz
  have hcell : ∀ j, j < c * 2 → (w.drew.cell? ⟨b, j, none⟩).isSome = true := fun j hj => by rw [blk_cell (w := w.drew) hb, Array.getElem?_eq_getElem (by omega)]; rfl
  have hfro : ∀ j, w.drew.frozen? ⟨b, j, none⟩ = false := fun j => blk_frozen (w := w.drew) hb j
  have hone : ∀ u ∈ news, u.oneCell' = true := fun u hu => h1C u (by rw [hnews] at hu; exact List.mem_of_mem_drop hu)
  have hsrc : ∀ j u, news[j]? = some u → w.drew.cell? ⟨b, (i + 1) * 2 + j, none⟩ = some u := by
    intro j u hu
    rw [hnews, List.getElem?_drop, ← hC, List.getElem?_take] at hu
    split at hu
    · rw [blk_cell (w := w.drew) hb, ← hu, Array.getElem?_toList]
    · cases hu
  rw [← hnews]
  obtain ⟨W1, hW1⟩ : ∃ W1, W1 = w.drew.setCells b (i * 2) news := ⟨_, rfl⟩
  have hc1 : ∀ j, j < 2 → (W1.cell? ⟨b, (i + m) * 2 + j, none⟩).isSome = true := fun j hj => by
    rw [hW1]; exact World.isSome_setCells b _ _ _ _ (hcell _ (by omega))
  have hf1 : ∀ j, j < 2 → W1.frozen? ⟨b, (i + m) * 2 + j, none⟩ = false := fun j _ => by
    rw [hW1, World.frozen?_setCells]; exact hfro _
  have hcl : ∀ ty c', (Builtin.clear_ #[28] ty #[.slice (some ⟨b, (i + m) * 2, none⟩) 1 c']).run Try.prog W1 = .ok (.tuple #[]) (W1.setCells b ((i + m) * 2) [.string ⟨#[]⟩, .string ⟨#[]⟩]) := fun ty c' => run_clear_one W1 ty b _ c' hc1 hf1
  have hX := Aside0.mk hW1
  have HI := Aside0.mk hi0
  have HZ := Aside0.mk hzs
  have HL := Aside0.mk hlen
  have HO := Aside0.mk hone
  have HSr := Aside0.mk hsrc
  have HCe := Aside0.mk hcell
  have HF := Aside0.mk hfro
  have e1 : (i : Int) ≤ (i : Int) + 1 := by omega
  have e2 : (i : Int) + 1 ≤ ((i + 1 + m : Nat) : Int) := by omega
  have e3 : ¬ ((i : Int) = (i : Int) + 1) := by omega
  have e4 : (0 : Int) ≤ (i : Int) + 1 := by omega
  have e5 : ((i : Int) + 1).toNat = i + 1 := by omega
  have e6 : i ≤ c := by omega
  have e7 : i + 1 + m - (i + m) = 1 := by omega
  have e8 : (i : Int) + 1 ≤ (i : Int) + 1 + (m : Int) := by omega
  have e9 : (i : Int) + (m : Int) ≤ (i : Int) + 1 + (m : Int) := by omega
  have e10 : i + m ≤ i + 1 + m := by omega
  have e11 : ¬ (c = i + m) := by omega
  have e12 : (0 : Int) ≤ (i : Int) + (m : Int) := by omega
  have e13 : ((i : Int) + (m : Int)).toNat = i + m := by omega
  have e14 : (0 : Int) ≤ (i : Int) + 1 + (m : Int) := by omega
  have e15 : ((i : Int) + 1 + (m : Int)).toNat = i + 1 + m := by omega
  have e16 : i + 1 + m ≤ c := hnc
  have mixed : Try.prog.follows Departure.mixedOrders = true := by kernel_rfl
  clear hb hcur hC h1C hl hnews hlen hi0 hzs hcell hfro hone hsrc hc1 hf1 hW1
  by_cases hci : c = i + 1
  · have hm : m = 0 := by omega
    have hnil : news = [] := List.eq_nil_of_length_eq_zero (by rw [HL.out, hm])
    clear hnil
    subst hm
    subst hci
    simp only [Nat.add_zero, Nat.zero_add] at *
    go_enter Try.func54, Try.ntmps54
    go_wp2_with fail
    go_region_law_o (refine step_append_room rfl (.tmp 22) (.tmp 25) 28 rfl 47 i0 2 Try.underlying28 HI.out HZ.out b 0 i (i + 1) (by simp [Act.eval, Act.put]) ⟨b, 0, none⟩ 0 (i + 1 - (i + 1)) news (by simp [Act.eval, Act.put]) HL.out (by rw [show news = [] from List.eq_nil_of_length_eq_zero HL.out]; intro j u hj; simp at hj) HO.out (by omega) ?spare ?_; (case spare => intro j hj; rw [HL.out] at hj; rw [Nat.zero_add]; exact ⟨HCe.out _ (by omega), HF.out _⟩); rw [Nat.zero_add, ← hX.out])
    go_wp2
    go_ret
    exact ⟨rfl, by rw [hX.out]⟩
  · skip
    go_enter Try.func54, Try.ntmps54
    go_wp2_with fail
    go_region_law_o (refine step_append_room rfl (.tmp 22) (.tmp 25) 28 rfl 47 i0 2 Try.underlying28 HI.out HZ.out b 0 i c (by simp [Act.eval, Act.put]) ⟨b, (i + 1) * 2, none⟩ m (c - (i + 1)) news (by simp [Act.eval, Act.put, hci]) HL.out (by intro j u hj; rw [Addr.add_lit]; exact HSr.out j u hj) HO.out (by omega) ?spare ?_; (case spare => intro j hj; rw [HL.out] at hj; rw [Nat.zero_add]; exact ⟨HCe.out _ (by omega), HF.out _⟩); rw [Nat.zero_add, ← hX.out])
    go_wp2
    go_ret
    exact ⟨rfl, by rw [hX.out]⟩
/-- What the cells are behind the deletion. -/
theorem delete_cells (cur C z : List Value) (i m c : Nat) (hc : cur.length = c * 2) (hn : i + 1 + m ≤ c) (hC : cur.take ((i + 1 + m) * 2) = C) (cur1 cur2 : List Value)
    (h1 : cur1 = cur.take (i * 2) ++ C.drop ((i + 1) * 2) ++ cur.drop (i * 2 + (C.drop ((i + 1) * 2)).length)) (h2 : cur2 = cur1.take ((i + m) * 2) ++ z ++ cur1.drop ((i + m) * 2 + z.length)) : cur2.take ((i + m) * 2) = C.take (i * 2) ++ C.drop ((i + 1) * 2) := by
  have hl : C.length = (i + 1 + m) * 2 := by rw [← hC, List.length_take]; omega
  have hd : (C.drop ((i + 1) * 2)).length = m * 2 := by rw [List.length_drop, hl]; omega
  have ht : cur.take (i * 2) = C.take (i * 2) := by
    rw [← hC, List.take_take]; congr 1; omega
  have e1 : cur1.take ((i + m) * 2) = C.take (i * 2) ++ C.drop ((i + 1) * 2) := by
    rw [h1, ht]
    refine (List.take_append_of_le_length (by simp only [List.length_append, List.length_take, hl, hd]; omega)).trans ?_
    exact List.take_of_length_le (by simp only [List.length_append, List.length_take, hl, hd]; omega)
  rw [h2, e1, List.append_assoc]
  refine (List.take_append_of_le_length (by simp only [List.length_append, List.length_take, hl, hd]; omega)).trans ?_
  exact List.take_of_length_le (by simp only [List.length_append, List.length_take, hl, hd]; omega)
/-- slices.Delete of the entry at a place. -/
theorem delete54 (v : Value) (xs : List S47) (i : Nat) (w0 w : World) (hi : i < xs.length) (HO : RowE w w0.heap.size v xs) (HB : Below w0.heap.size w0 w) :
    Calls Try.prog 54 #[v, .int .i64 i, .int .i64 (i + 1)] w fun e w' => ∃ v', e = .returned v' ∧ RowE w' w0.heap.size v' (xs.take i ++ xs.drop (i + 1)) ∧ Below w0.heap.size w0 w' := by
  have hlen2 : (xs.take i ++ xs.drop (i + 1)).length = xs.length - 1 := by simp only [List.length_append, List.length_take, List.length_drop]; omega
  obtain ⟨m, hm⟩ : ∃ m, xs.length = i + 1 + m := ⟨xs.length - (i + 1), by omega⟩
  obtain ⟨_, ⟨rfl, h0⟩ | ⟨b, c, cur, rfl, hbb, hb, hnc, hcm, hcs, hct⟩⟩ := rowE_own HO
  · omega
  · rw [hm] at hnc hct ⊢
    refine (delete_raw b c i m cur (cellsE xs) w hnc (by unfold maxLen at hcm; omega) hb hcs hct (cellsE_one xs)).mono ?_
    rintro e w' ⟨rfl, rfl⟩
    have hcl := cellsE_len xs
    have hd : ((cellsE xs).drop ((i + 1) * 2)).length = m * 2 := by rw [List.length_drop, hcl]; omega
    obtain ⟨cur1, h1, h2, h3⟩ := setCells_row (g := b) (e := 47) ((cellsE xs).drop ((i + 1) * 2)) (i * 2) w.drew cur hb (by rw [hd, hcs]; omega)
    obtain ⟨cur2, k1, k2, k3⟩ := setCells_row (g := b) (e := 47) [.string ⟨#[]⟩, .string ⟨#[]⟩] ((i + m) * 2) (w.drew.setCells b (i * 2) ((cellsE xs).drop ((i + 1) * 2))) cur1 h1 (by rw [h2, hcs]; simp; omega)
    have hfin := delete_cells cur.toList (cellsE xs) _ i m c (by rw [Array.length_toList]; exact hcs) hnc hct cur1.toList cur2.toList h3 k3
    have hcells : cellsE (xs.take i ++ xs.drop (i + 1)) = (cellsE xs).take (i * 2) ++ (cellsE xs).drop ((i + 1) * 2) := by rw [cellsE_take, cellsE_drop, cellsE_append]
    refine ⟨_, rfl, own_rowE (n := i + m) (by omega) ?_, Go.below_setCells hbb _ _ _ (Go.below_setCells hbb _ _ _ HB.drew)⟩
    rw [hcells]
    exact ⟨by rw [← hcells, cellsE_len, hlen2]; omega, Or.inr ⟨b, c, cur2, rfl, hbb, k1, by omega, hcm, by rw [k2, h2, hcs], hfin⟩⟩
/-- Entries without a key. -/
def delE (l : List S47) (key : ByteArray) : List S47 := if isE l key then l.take (atE l key) ++ l.drop (atE l key + 1) else l
/-- leaf.Del: function 32. -/
def leaf_Del.f (l0 : List (S47)) (a1 : ByteArray) : Option ((List (S47)) × Bool) := if l0.length ≤ 1000000000000 then some (delE l0 a1, isE l0 a1) else none
set_option maxHeartbeats 4000000 in
set_option maxRecDepth 100000 in
theorem del_is (A0 : Option Addr) (c0 : Nat) (l0 : List (S47)) (a1 : ByteArray) (w : World) (hr0 : Kd.C k47 w A0 l0.length l0) (hc0 : l0.length ≤ c0) (hl : l0.length ≤ 1000000000000) (hi : isE l0 a1 = true) :
    Calls Try.prog 32 #[.slice A0 l0.length c0, .string a1] w fun e w' => ∃ v0_ : Value, e = .returned (.tuple #[v0_, .bool true]) ∧ Kd.R k47 47 w' w.heap.size (fun _ => True) v0_ (l0.take (atE l0 a1) ++ l0.drop (atE l0 a1 + 1)) ∧ Below w.heap.size w w' := by
  have hlt := isE_lt l0 a1 hi
  obtain ⟨at_, hat_⟩ : ∃ at_, at_ = atE l0 a1 := ⟨_, rfl⟩
  have hs : leaf_search.f l0 a1 = some ((at_ : Int), true) := by unfold leaf_search.f; rw [if_pos hl, hi, hat_]
  have hcl : leaf_Entry_52.f l0 = some l0 := by unfold leaf_Entry_52.f; rw [if_pos hl]
  rw [← hat_] at hlt ⊢
  have HR := Aside0.mk hr0
  have HS := Aside0.mk hs
  have HC := Aside0.mk hcl
  have hw1 : IntKind.i64.wrap ((at_ : Int) + 1) = (at_ : Int) + 1 := by rw [IntKind.wrap_i64]; omega
  clear hr0 hs hcl hi hat_
  go_enter Try.func32, Try.ntmps32
  go_wp2_with (first | (go_at_call 51; refine (leaf_search.calls _ _ _ _ _ _ _ HR.out hc0 HS.out).mono ?_; rintro e w1 ⟨rfl, hb⟩; have HB := Aside0.mk hb; clear hb) | (go_at_call 52; refine (leaf_Entry_52.calls _ _ _ _ w1 (Kd.C_below HR.out HB.out) hc0 HC.out).mono ?_; rintro e w2 ⟨v1, rfl, ho, hb⟩; have HO := Aside0.mk (rowE_less ho HB.out.size); have HB2 := Aside0.mk (below_step HB.out hb); clear ho hb) | (go_at_call 54; refine (delete54 v1 l0 at_ w _ hlt HO.out HB2.out).mono ?_; rintro e w3 ⟨v3, rfl, ho, hb⟩; have HO3 := Aside0.mk ho; have HB3 := Aside0.mk hb; clear ho hb))
  go_ret2
  exact ⟨_, rfl, HO3.out, HB3.out⟩
set_option maxHeartbeats 4000000 in
set_option maxRecDepth 100000 in
theorem del_no (A0 : Option Addr) (c0 : Nat) (l0 : List (S47)) (a1 : ByteArray) (w : World) (hr0 : Kd.C k47 w A0 l0.length l0) (hc0 : l0.length ≤ c0) (hl : l0.length ≤ 1000000000000) (hi : isE l0 a1 = false) :
    Calls Try.prog 32 #[.slice A0 l0.length c0, .string a1] w fun e w' => ∃ v0_ : Value, e = .returned (.tuple #[v0_, .bool false]) ∧ Kd.R k47 47 w' w.heap.size (fun _ => True) v0_ l0 ∧ Below w.heap.size w w' := by
  have hs : leaf_search.f l0 a1 = some ((atE l0 a1 : Int), false) := by unfold leaf_search.f; rw [if_pos hl, hi]
  have hcl : leaf_Entry_52.f l0 = some l0 := by unfold leaf_Entry_52.f; rw [if_pos hl]
  have HR := Aside0.mk hr0
  have HS := Aside0.mk hs
  have HC := Aside0.mk hcl
  clear hr0 hs hcl hi
  go_enter Try.func32, Try.ntmps32
  go_wp2_with (first | (go_at_call 51; refine (leaf_search.calls _ _ _ _ _ _ _ HR.out hc0 HS.out).mono ?_; rintro e w1 ⟨rfl, hb⟩; have HB := Aside0.mk hb; clear hb) | (go_at_call 52; refine (leaf_Entry_52.calls _ _ _ _ w1 (Kd.C_below HR.out HB.out) hc0 HC.out).mono ?_; rintro e w2 ⟨v1, rfl, ho, hb⟩; have HO := Aside0.mk (rowE_less ho HB.out.size); have HB2 := Aside0.mk (below_step HB.out hb); clear ho hb))
  go_ret2
  exact ⟨_, rfl, HO.out, HB2.out⟩
theorem leaf_Del.calls (A0 : Option Addr) (c0 : Nat) (l0 : List (S47)) (a1 : ByteArray) (r1 : List (S47)) (r2 : Bool) (w : World) (hr0 : Kd.C k47 w A0 l0.length l0) (hc0 : l0.length ≤ c0) (h : leaf_Del.f l0 a1 = some (r1, r2)) :
    Calls Try.prog 32 #[.slice A0 l0.length c0, .string a1] w fun e w' => ∃ v0_ : Value, e = .returned (.tuple #[v0_, .bool r2]) ∧ Kd.R k47 47 w' w.heap.size (fun _ => True) v0_ r1 ∧ Below w.heap.size w w' := by
  unfold leaf_Del.f at h
  by_cases hl : l0.length ≤ 1000000000000
  · rw [if_pos hl] at h
    simp only [Option.some.injEq, Prod.mk.injEq] at h
    obtain ⟨rfl, rfl⟩ := h
    unfold delE
    cases hi : isE l0 a1 with
    | true => exact del_is A0 c0 l0 a1 w hr0 hc0 hl hi
    | false => exact del_no A0 c0 l0 a1 w hr0 hc0 hl hi
  · rw [if_neg hl] at h
    cases h
end Go.Proofs.Ytfbaejhjppikpaa.P
-- GENERATED by wip/gen.py (this session's own driver of a mended copy of the printer). Not trusted: Lean checks it.
namespace Go.Proofs.Ytfbaejhjppikpaa.P
open Go.RowKit Go.Proofs.YtfbaejhjppikpaaW.PrintWords Go.Proofs.YtfbaejhjppikpaaW.PrintLast Go.Proofs.YtfbaejhjppikpaaW.PrintMore
attribute [local go_sem] Go.Proofs.YtfbaejhjppikpaaB.less_swap Go.Proofs.YtfbaejhjppikpaaB.less_or max2_int min2_int max_two min_two max_three min_three max_four min_four   -- for this text's walks alone
set_option linter.unusedVariables false
set_option linter.unusedSimpArgs false

end Go.Proofs.Ytfbaejhjppikpaa.P
-- GENERATED by wip/gen.py (this session's own driver of a mended copy of the printer). Not trusted: Lean checks it.
namespace Go.Proofs.Ytfbaejhjppikpaa.P
open Go.RowKit Go.Proofs.YtfbaejhjppikpaaW.PrintWords Go.Proofs.YtfbaejhjppikpaaW.PrintLast Go.Proofs.YtfbaejhjppikpaaW.PrintMore
attribute [local go_sem] Go.Proofs.YtfbaejhjppikpaaB.less_swap Go.Proofs.YtfbaejhjppikpaaB.less_or max2_int min2_int max_two min_two max_three min_three max_four min_four   -- for this text's walks alone
set_option linter.unusedVariables false
set_option linter.unusedSimpArgs false

/-! ### leaf_Entry_48: function 48 -/
def leaf_Entry_48.f (l0 : List (S47)) (a1 : Int) : Option ((List (S47)) × (List (S47))) := if (l0.length : Int) = 0 then (some (([] : List (S47)), ([] : List (S47)))) else (if 0 ≤ a1 then (if a1 ≤ (l0.length : Int) then ((leaf_Entry_52.f (l0.take (a1 : Int).toNat)).bind fun t230 => ((leaf_Entry_52.f (l0.drop (a1 : Int).toNat)).bind fun t237 => (some (t230, t237)))) else (none)) else (none))
def leaf_Entry_48.T3 : Bool × List (List Nat × List Nat) := (true, [([], []), ([], []), ([0, 1], [0, 1]), ([2], [2]), ([], []), ([], []), ([4, 5], [4, 5]), ([6, 3], [6]), ([3, 7, 0, 1, 2, 3], [3]), ([7, 8, 0, 1, 2, 3, 4, 5, 6, 7, 8], [7])])
def leaf_Entry_48.B3 : List Nat := [0, 0, 3, 7, 0, 0, 48, 127, 255, 511]
theorem leaf_Entry_48.tab3 : rtab .any (opsOf Try.f48 3) = leaf_Entry_48.T3 := by kernel_rfl
theorem leaf_Entry_48.bits3 : waitsOk leaf_Entry_48.T3.2 leaf_Entry_48.B3 = true := by kernel_rfl
set_option maxHeartbeats 8000000 in
set_option maxRecDepth 100000 in
theorem leaf_Entry_48.calls (A0 : Option Addr) (c0 : Nat) (l0 : List (S47)) (a1 : Int) (r1 : List (S47)) (r2 : List (S47)) (w : World) (hr0 : Kd.C k47 w A0 l0.length l0) (hc0 : l0.length ≤ c0) (h : leaf_Entry_48.f l0 a1 = some (r1, r2)) :
  Calls Try.prog 48 #[.slice A0 l0.length c0, .int .i64 a1] w fun e w' => ∃ v0_ v1_ : Value, e = .returned (.tuple #[v0_, v1_]) ∧ Kd.R k47 47 w' w.heap.size (fun k_ => some k_ ≠ (v1_ : Value).ownBlock) v0_ r1 ∧ Kd.R k47 47 w' w.heap.size (fun k_ => some k_ ≠ (v0_ : Value).ownBlock) v1_ r2 ∧ Below w.heap.size w w' := by
 have HR0 := Aside0.mk hr0
 have HC0 := Aside0.mk hc0
 clear hr0 hc0
 have HB := Aside0.mk (Below.refl w.heap.size w)
 have H : (if (l0.length : Int) = 0 then (some (([] : List (S47)), ([] : List (S47)))) else (if 0 ≤ a1 then (if a1 ≤ (l0.length : Int) then ((leaf_Entry_52.f (l0.take (a1 : Int).toNat)).bind fun t230 => ((leaf_Entry_52.f (l0.drop (a1 : Int).toNat)).bind fun t237 => (some (t230, t237)))) else (none)) else (none))) = some (r1, r2) := h
 clear h
 by_cases c3 : (l0.length : Int) = 0
 ·rw [if_pos c3] at H
  have c3b0 : ((l0.length : Int) == 0) = true := beq_iff_eq.mpr c3
  have c3b1 : ((l0.length : Int) != 0) = false := bne_eq_false_iff_eq.mpr c3
  clear c3
  simp only [Option.some.injEq, Prod.mk.injEq] at H
  obtain ⟨rfl, rfl⟩ := H
  go_enter Try.func48, Try.ntmps48
  go_wp2
  go_ret2
  exact ⟨_, _, by first | rfl | (simp [errW_none, errW_some] <;> rfl) | (simp [*, errW_none, errW_some] <;> rfl), by first | exact Kd.R_nil _ _ _ _ _ | exact Kd.N_nil _ _ _ _ _ | exact Kd.V_nil _ _ _ _ _ | exact Kd.Q_nil _ _ _ _ _ | exact Kd.S_nil _ _ _ _ _, by first | exact Kd.R_nil _ _ _ _ _ | exact Kd.N_nil _ _ _ _ _ | exact Kd.V_nil _ _ _ _ _ | exact Kd.Q_nil _ _ _ _ _ | exact Kd.S_nil _ _ _ _ _, kl HB⟩
 ·rw [if_neg c3] at H
  have c3b0 : ((l0.length : Int) == 0) = false := beq_eq_false_iff_ne.mpr c3
  have c3b1 : ((l0.length : Int) != 0) = true := bne_iff_ne.mpr c3
  have c3b2 : ¬ (l0 = []) := fun h_ => c3 (by rw [h_]; rfl)
  by_cases c4 : 0 ≤ a1
  ·rw [if_pos c4] at H
   have c4b0 := eq_true c4
   have c4b1 : decide (0 ≤ a1) = true := decide_eq_true c4
   clear c4
   by_cases c5 : a1 ≤ (l0.length : Int)
   ·rw [if_pos c5] at H
    have c5b0 := eq_true c5
    have c5b1 : decide (a1 ≤ (l0.length : Int)) = true := decide_eq_true c5
    clear c5
    obtain ⟨y226, hy226⟩ : ∃ y_ : List (S47), y_ = (l0.take (a1 : Int).toNat) := ⟨_, rfl⟩
    replace H : ((leaf_Entry_52.f y226).bind fun t230 => ((leaf_Entry_52.f (l0.drop (a1 : Int).toNat)).bind fun t237 => (some (t230, t237)))) = some (r1, r2) := by first | (rw [hy226]; with_reducible exact H) | (have H2_ := (Option.bind_some _ _).symm.trans H; rw [hy226]; with_reducible exact H2_) | (have H2_ := (Option.bind_some _ _).symm.trans H; with_reducible exact H2_) | with_reducible exact H | (rw [hy226]; exact H) | exact H
    have Ny226 := Aside0.mk hy226
    clear hy226
    replace H := Option.bind_eq_some_iff.mp H
    obtain ⟨t230, A60, H⟩ := H
    replace H : ((leaf_Entry_52.f (l0.drop (a1 : Int).toNat)).bind fun t237 => (some (t230, t237))) = some (r1, r2) := H
    have A6 := Aside0.mk A60
    clear A60
    have c7b0 := eq_true (of_decide_eq_true (by first | (with_reducible assumption) | assumption) : 0 ≤ a1)
    have c8b0 := eq_true (of_decide_eq_true (by first | (with_reducible assumption) | assumption) : a1 ≤ (l0.length : Int))
    obtain ⟨y233, hy233⟩ : ∃ y_ : List (S47), y_ = (l0.drop (a1 : Int).toNat) := ⟨_, rfl⟩
    replace H : ((leaf_Entry_52.f y233).bind fun t237 => (some (t230, t237))) = some (r1, r2) := by first | (rw [hy233]; with_reducible exact H) | (have H2_ := (Option.bind_some _ _).symm.trans H; rw [hy233]; with_reducible exact H2_) | (have H2_ := (Option.bind_some _ _).symm.trans H; with_reducible exact H2_) | with_reducible exact H | (rw [hy233]; exact H) | exact H
    have Ny233 := Aside0.mk hy233
    clear hy233
    replace H := Option.bind_eq_some_iff.mp H
    obtain ⟨t237, A90, H⟩ := H
    replace H : (some (t230, t237)) = some (r1, r2) := H
    have A9 := Aside0.mk A90
    clear A90
    simp only [Option.some.injEq, Prod.mk.injEq] at H
    obtain ⟨rfl, rfl⟩ := H
    go_enter Try.func48, Try.ntmps48
    try go_wp2
    replace HB := Aside0.mk (below_drew1 HB.out)
    have q11 : (a1 : Int) ≤ ((l0.length : Int) : Int) := of_decide_eq_true (by first | (with_reducible assumption) | assumption)
    obtain ⟨i011, hi011, _, hsz11, _⟩ := info_parts info47
    have hroom11 : l0.length ≤ c0 := HC0.out
    have hC11 : Kd.C k47 _ A0 l0.length l0 := HR0.out
    have hcut11 := cut_to (P := Try.prog) 28 47 .i64 Try.underlying28 hi011 A0 l0.length c0 a1 (of_decide_eq_true (by first | (with_reducible assumption) | assumption)) q11 hroom11
    have hr11 := Kd.C_take (m := (a1 : Int).toNat) hC11 (by omega)
    have hy11 : y226.length = (a1 : Int).toNat := (by rw [Ny226.out, List.length_take]; omega)
    rw [← Ny226.out] at hr11
    rw [← hy11] at hcut11
    have HR229 := Aside0.mk hr11
    have HC229 := Aside0.mk (show y226.length ≤ c0 from by omega)
    clear hr11 hC11 hroom11 hi011 hsz11
    have KY11 := Aside0.mk hy11
    clear hy11
    replace q11 := eq_true q11
    have q12 : (a1 : Int) ≤ ((l0.length : Int) : Int) := of_decide_eq_true (by first | (with_reducible assumption) | assumption)
    obtain ⟨i012, hi012, _, hsz12, _⟩ := info_parts info47
    have hroom12 : l0.length ≤ c0 := HC0.out
    have hC12 : Kd.C k47 _ A0 l0.length l0 := HR0.out
    have q012 : (0 : Int) ≤ (a1 : Int) := of_decide_eq_true (by first | (with_reducible assumption) | assumption)
    have hcut12 := cut_from (P := Try.prog) 28 47 .i64 Try.underlying28 hi012 2 hsz12 A0 l0.length c0 a1 q012 q12
    have hr12 := Kd.C_drop (m := (a1 : Int).toNat) (c := c0) hC12 (by omega) hroom12
    obtain ⟨A12, hA12⟩ : ∃ A1, A1 = (if c0 = (a1 : Int).toNat then A0 else (A0 : Option Addr).map (·.add ((a1 : Int).toNat * 2))) := ⟨_, rfl⟩
    obtain ⟨c12, hc12⟩ : ∃ c1, c1 = c0 - (a1 : Int).toNat := ⟨_, rfl⟩
    have hy12 : y233.length = l0.length - (a1 : Int).toNat := (by rw [Ny233.out, List.length_drop] <;> omega)
    rw [show (l0).drop (a1 : Int).toNat = y233 from Ny233.out.symm] at hr12
    replace hr12 : Kd.C k47 _ A12 y233.length y233 := (by rw [hA12]; exact hr12)
    rw [← hy12, ← hA12, ← hc12] at hcut12
    have HR236 := Aside0.mk hr12
    have HC236 := Aside0.mk (show y233.length ≤ c12 from by rw [hy12, hc12]; exact Nat.sub_le_sub_right hroom12 _)
    clear hr12 hC12 hroom12 hi012 hsz12 hc12
    have KY12 := Aside0.mk hy12
    have KA12 := Aside0.mk hA12
    clear hy12 hA12
    replace q12 := eq_true q12
    refine start_ (n := 10) (S := fun w' => True) (ds := []) #[N,N,N,N,N,N,N,N,N,N] (by kernel_rfl) rfl rfl trivial (fun hHeld => ?_); refine with_tabW leaf_Entry_48.tab3 leaf_Entry_48.bits3 (fun HT_ HW_ => ?_)
    generalize w.drew = w10 at HB HR229 HR236 hHeld ⊢
    refine pure_ (i := 0) (N := some 9) (v := ?_) (a' := ?_) #[Y,N,N,N,N,N,N,N,N,N] rfl rfl (any_of HT_.out (by kernel_rfl)) (fun _ _ _ h => h) (Or.inl ⟨by rfl, ?_⟩) ?_ ?_
    rotate_left
    ·intro w'
     go_simp
     with_reducible rfl
    rotate_left
    ·simp only [Act.put, List.setIfInBounds_toArray, List.set_cons_zero, List.set_cons_succ, i64_w, i32_w]
     rfl
    refine pure_ (i := 1) (N := some 10) (v := ?_) (a' := ?_) #[Y,Y,N,N,N,N,N,N,N,N] rfl rfl (any_of HT_.out (by kernel_rfl)) (fun _ _ _ h => h) (Or.inl ⟨by rfl, ?_⟩) ?_ ?_
    rotate_left
    ·intro w'
     go_simp
     with_reducible rfl
    rotate_left
    ·simp only [Act.put, List.setIfInBounds_toArray, List.set_cons_zero, List.set_cons_succ, i64_w, i32_w]
     rfl
    refine pure_ (i := 2) (N := some 11) (v := ?_) (a' := ?_) #[Y,Y,Y,N,N,N,N,N,N,N] rfl rfl (any_of HT_.out (by kernel_rfl)) (fun _ _ _ h => h) (Or.inl ⟨by rfl, ?_⟩) ?_ ?_
    rotate_left
    ·intro w'
     go_simp
     with_reducible rfl
    rotate_left
    ·simp only [Act.put, List.setIfInBounds_toArray, List.set_cons_zero, List.set_cons_succ, i64_w, i32_w]
     rfl
    refine pure_ (i := 4) (N := some 13) (v := ?_) (a' := ?_) #[Y,Y,Y,N,Y,N,N,N,N,N] rfl rfl (any_of HT_.out (by kernel_rfl)) (fun _ _ _ h => h) (Or.inl ⟨by rfl, ?_⟩) ?_ ?_
    rotate_left
    ·intro w'
     go_simp
     with_reducible rfl
    rotate_left
    ·simp only [Act.put, List.setIfInBounds_toArray, List.set_cons_zero, List.set_cons_succ, i64_w, i32_w]
     rfl
    refine pure_ (i := 5) (N := some 14) (v := ?_) (a' := ?_) #[Y,Y,Y,N,Y,Y,N,N,N,N] rfl rfl (any_of HT_.out (by kernel_rfl)) (fun _ _ _ h => h) (Or.inl ⟨by rfl, ?_⟩) ?_ ?_
    rotate_left
    ·intro w'
     go_simp
     with_reducible rfl
    rotate_left
    ·simp only [Act.put, List.setIfInBounds_toArray, List.set_cons_zero, List.set_cons_succ, i64_w, i32_w]
     rfl
    refine pure_ (i := 6) (N := some 15) (v := ?_) (a' := ?_) #[Y,Y,Y,N,Y,Y,Y,N,N,N] rfl rfl (any_of HT_.out (by kernel_rfl)) (fun _ _ _ h => h) (Or.inl ⟨by rfl, ?_⟩) ?_ ?_
    rotate_left
    ·intro w'
     go_simp
     with_reducible rfl
    rotate_left
    ·simp only [Act.put, List.setIfInBounds_toArray, List.set_cons_zero, List.set_cons_succ, i64_w, i32_w]
     rfl
    refine one_ (i := 3) (N := some 12) #[Y,Y,Y,Y,Y,Y,Y,N,N,N] rfl rfl (one_of HT_.out (by kernel_rfl)) (by decide) (fun K hK => ?_)
    refine goes_ Try.func52 (by kernel_rfl) rfl #[.slice A0 y226.length c0] (by rfl) rfl rfl (by (try simp only [List.map_toArray, List.map_cons, List.map_nil]); first | done | rfl | (simp only [List.length_drop, List.length_take]; rfl)) ?_
    with_reducible refine (leaf_Entry_52.calls _ _ y226 t230 _ ?side1 ?side2 A6.out).mono ?_
    (case side1 => exact kc (Kd.C_below HR229.out HB.out))
    (case side2 => exact HC229.out)
    rintro e w13 ⟨v231, rfl, ho0, hb⟩
    refine ⟨_, rfl, ?_⟩
    have HO232 := Aside0.mk (Kd.R_lower ho0 (below_size (kl HB)))
    replace HB := Aside0.mk (below_step (kl HB) hb)
    (try clear hb)
    (try clear hb2)
    (try clear hk)
    (try clear hi)
    (try clear ho0)
    refine hK.out _ _ trivial (fun hHeld => ?_)
    clear hK K
    refine norm_ (a' := ?_) ?_ ?_
    rotate_left
    ·show Act.put _ (some 12) _ = _
     simp only [Act.put, List.setIfInBounds_toArray, List.set_cons_zero, List.set_cons_succ, i64_w, i32_w]
     rfl
    refine one_ (i := 7) (N := some 16) #[Y,Y,Y,Y,Y,Y,Y,Y,N,N] rfl rfl (one_of HT_.out (by kernel_rfl)) (by decide) (fun K hK => ?_)
    refine goes_ Try.func52 (by kernel_rfl) rfl #[.slice A12 y233.length c12] (by rfl) rfl rfl (by (try simp only [List.map_toArray, List.map_cons, List.map_nil]); first | done | rfl | (simp only [List.length_drop, List.length_take]; rfl)) ?_
    with_reducible refine (leaf_Entry_52.calls _ _ y233 t237 _ ?side1 ?side2 A9.out).mono ?_
    (case side1 => exact kc (Kd.C_below HR236.out HB.out))
    (case side2 => exact HC236.out)
    rintro e w14 ⟨v238, rfl, ho0, hb⟩
    refine ⟨_, rfl, ?_⟩
    have HO239 := Aside0.mk (Kd.R_lower (Kd.R_new' ho0 (Kd.R_lt (kr HO232))) (below_size (kl HB)))
    replace HO232 := Aside0.mk (Kd.R_elder' (kr HO232) (Kd.R_base ho0) hb)
    replace HB := Aside0.mk (below_step (kl HB) hb)
    (try clear hb)
    (try clear hb2)
    (try clear hk)
    (try clear hi)
    (try clear ho0)
    refine hK.out _ _ trivial (fun hHeld => ?_)
    clear hK K
    refine norm_ (a' := ?_) ?_ ?_
    rotate_left
    ·show Act.put _ (some 16) _ = _
     simp only [Act.put, List.setIfInBounds_toArray, List.set_cons_zero, List.set_cons_succ, i64_w, i32_w]
     rfl
    refine pure_ (i := 8) (N := some 4) (v := ?_) (a' := ?_) #[Y,Y,Y,Y,Y,Y,Y,Y,Y,N] rfl rfl (any_of HT_.out (by kernel_rfl)) (fun _ _ _ h => h) (Or.inl ⟨by rfl, ?_⟩) ?_ ?_
    rotate_left
    ·intro w'
     go_simp
     with_reducible rfl
    rotate_left
    ·simp only [Act.put, List.setIfInBounds_toArray, List.set_cons_zero, List.set_cons_succ, i64_w, i32_w]
     rfl
    refine pure_ (i := 9) (N := some 5) (v := ?_) (a' := ?_) #[Y,Y,Y,Y,Y,Y,Y,Y,Y,Y] rfl rfl (any_of HT_.out (by kernel_rfl)) (fun _ _ _ h => h) (Or.inl ⟨by rfl, ?_⟩) ?_ ?_
    rotate_left
    ·intro w'
     go_simp
     with_reducible rfl
    rotate_left
    ·simp only [Act.put, List.setIfInBounds_toArray, List.set_cons_zero, List.set_cons_succ, i64_w, i32_w]
     rfl
    refine done_ (done_of HT_.out (by kernel_rfl)) ?_
    try go_wp2
    go_ret2
    exact ⟨_, _, by first | rfl | (simp [errW_none, errW_some] <;> rfl) | (simp [*, errW_none, errW_some] <;> rfl), by (with_reducible repeat (first | apply Kd.R_alloc | apply Kd.R_drewN | apply Kd.R_drew)); exact Kd.R_mono HO232.out (fun _ hk => hk.2), by (with_reducible repeat (first | apply Kd.R_alloc | apply Kd.R_drewN | apply Kd.R_drew)); exact Kd.R_mono HO239.out (fun _ hk => hk.2), kl HB⟩
   ·rw [if_neg c5] at H
    exact absurd H (by simp)
  ·rw [if_neg c4] at H
   exact absurd H (by simp)

end Go.Proofs.Ytfbaejhjppikpaa.P
-- GENERATED by wip/gen.py (this session's own driver of a mended copy of the printer). Not trusted: Lean checks it.
namespace Go.Proofs.Ytfbaejhjppikpaa.P
open Go.RowKit Go.Proofs.YtfbaejhjppikpaaW.PrintWords Go.Proofs.YtfbaejhjppikpaaW.PrintLast Go.Proofs.YtfbaejhjppikpaaW.PrintMore
attribute [local go_sem] Go.Proofs.YtfbaejhjppikpaaB.less_swap Go.Proofs.YtfbaejhjppikpaaB.less_or max2_int min2_int max_two min_two max_three min_three max_four min_four   -- for this text's walks alone
set_option linter.unusedVariables false
set_option linter.unusedSimpArgs false

end Go.Proofs.Ytfbaejhjppikpaa.P
