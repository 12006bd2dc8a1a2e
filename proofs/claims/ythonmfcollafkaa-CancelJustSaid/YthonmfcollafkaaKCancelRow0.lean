import Derived.Test.YthonmfcollafkaaWMore
import Derived.WalkLawsBesides
import Derived.Lib.Bytealg
import Derived.Test.YthonmfcollafkaaProg
import Derived.Below
import Derived.Deep.Draws
import Derived.Deep.AppendLies
import Derived.Maps.AppendAt
import Derived.OwnWalk
import Derived.Laws.BytesArg
import Derived.Laws.MakeOwn
import Derived.Laws.OwnMore
import Derived.Deep.OwnRows
import Derived.Tactics
import Derived.Lib.ConvBytes
import Derived.Laws.Slices
import Derived.WalkKit
import Derived.KernelRfl
import Derived.RowKit3
import Derived.Deep.LoopGhost
import Derived.Deep.QuietTactic
import Derived.BigQuiet
import Derived.WideLaws
import Derived.Deep.DeepCutAuto
import Derived.Deep.CutBlock
import Derived.Deep.RegionHeld3
import Derived.Laws.Rows
import Derived.Lib.AppendStr
import Derived.ArgAppend
import Derived.Laws.IdiomCopy
import Derived.OrdersHeld
import Derived.Laws.BitsLemmas
import Derived.RowKit
import Derived.Test.YthonmfcollafkaaWWords
import Derived.Test.YthonmfcollafkaaWLast
import Derived.Test.YthonmfcollafkaaWTab
import Derived.Test.YthonmfcollafkaaWFour
import Derived.Test.YthonmfcollafkaaWQPut
import Derived.Test.YthonmfcollafkaaWApart
import Derived.Test.YthonmfcollafkaaWArr
import Derived.Test.YthonmfcollafkaaWZeros
import Derived.Test.YthonmfcollafkaaWFoot
import Derived.Test.YthonmfcollafkaaWKept
import Derived.Test.YthonmfcollafkaaWShare
import Derived.Test.YthonmfcollafkaaWN
import Derived.Test.YthonmfcollafkaaWFootNe
import Derived.Test.YthonmfcollafkaaWAt
import Derived.Test.YthonmfcollafkaaWEqStruct
import Derived.Test.YthonmfcollafkaaWRepsOne
import Derived.Test.YthonmfcollafkaaWInv
import Derived.Test.YthonmfcollafkaaWInvWords
import Derived.Test.YthonmfcollafkaaWGuard
import Derived.Test.YthonmfcollafkaaWNEv
import Derived.IntWalk
import Derived.Outline
import Derived.WalkSpells
import Derived.Deep.CutRange
/- Short words for what the printed walks say again and again. -/
namespace Go.Proofs.Ythonmfcollafkaa.P
open Go.RowKit Go.Proofs.YthonmfcollafkaaW.PrintWords Go.Proofs.YthonmfcollafkaaW.PrintLast Go.Proofs.YthonmfcollafkaaW.PrintMore
abbrev Y := true
abbrev N := false
/-- A row's fact, in a world that has drawn or made more. -/
theorem kr {P Q : Prop} (h : Aside0 P) (f : P → Q := by (intro h_; (with_reducible repeat (first | apply Kd.R_alloc | apply Kd.R_drewN | apply Kd.R_drew)); exact h_)) : Q := f h.out
/-- A block's fact. -/
theorem kb {P Q : Prop} (h : Aside0 P) (f : P → Q := by (intro h_; (with_reducible repeat (first | refine blk_drewN ?_ _ | refine blk_drew ?_ | refine blk_alloc ?_ _)); exact h_)) : Q := f h.out
/-- Nothing that was there before has changed. -/
theorem kl {P Q : Prop} (h : Aside0 P) (f : P → Q := by (intro h_; repeat (first | (with_reducible first | exact h_ | apply below_alloc | apply pw_below_drewN | apply below_drew1) | (with_reducible refine below_set ?_ (Aside0.out (by assumption))) | exact h_))) : Q := f h.out
/-- What a row reads as. -/
theorem kc {P Q : Prop} (h : P) (f : P → Q := by (intro h_; repeat (first | exact h_ | (with_reducible refine Kd.C_alloc ?_ _) | (with_reducible refine Kd.C_drewN ?_ _) | (with_reducible refine Kd.C_drew ?_)))) : Q := f h
theorem bc {w : World} {g : Nat} {t : TypeId} {cs : Array Value} {v : Value} (h : Aside0 (w.heap[g]? = some (.cells cs t (0, 0)))) (i : Nat) (e : cs[i]? = some v := by rfl) : w.cell? ⟨g, i, none⟩ = some v := (blk_cell h.out i).trans e
theorem bb {W0 W w2 : World} {g : Nat} {o : Obj} (h : Aside0 (W0.heap[g]? = some o)) (hb : Below W.heap.size W w2) (f : W0.heap[g]? = some o → W.heap[g]? = some o := by (intro h_; (with_reducible repeat (first | refine blk_drewN ?_ _ | refine blk_drew ?_ | refine blk_alloc ?_ _)); exact h_)) : Aside0 (w2.heap[g]? = some o) := ⟨blk_below (f h.out) hb⟩
theorem bl {W0 W : World} {g : Nat} {o : Obj} (h : Aside0 (W0.heap[g]? = some o)) (f : W0.heap[g]? = some o → W.heap[g]? = some o := by (intro h_; (with_reducible repeat (first | refine blk_drewN ?_ _ | refine blk_drew ?_ | refine blk_alloc ?_ _)); exact h_)) : g < W.heap.size := blk_lt (f h.out)
theorem kf {P Q R : Prop} (n : Aside0 R) (h : Aside0 P) (f : R → P → Q := by (intro n_ h_; (repeat (first | (with_reducible first | refine blk_drewN ?_ _ | refine blk_drew ?_ | refine blk_alloc ?_ _) | (refine blk_far ?_ n_ _))); exact h_)) : Q := f n.out h.out
theorem bf {R : Prop} {W0 W w2 : World} {g : Nat} {o : Obj} (n : Aside0 R) (h : Aside0 (W0.heap[g]? = some o)) (hb : Below W.heap.size W w2) (f : R → W0.heap[g]? = some o → W.heap[g]? = some o := by (intro n_ h_; (repeat (first | (with_reducible first | refine blk_drewN ?_ _ | refine blk_drew ?_ | refine blk_alloc ?_ _) | (refine blk_far ?_ n_ _))); exact h_)) : Aside0 (w2.heap[g]? = some o) := ⟨blk_below (f n.out h.out) hb⟩
theorem rb {α : Type} {K : Kd α} {e : TypeId} {W0 W w2 : World} {base : Nat} {ok : Nat → Prop} {v : Value} {xs : List α} (h : Aside0 (K.R e W0 base ok v xs)) (hb : Below W.heap.size W w2) (f : K.R e W0 base ok v xs → K.R e W base ok v xs := by (intro h_; (with_reducible repeat (first | apply Kd.R_alloc | apply Kd.R_drewN | apply Kd.R_drew)); exact h_)) : Aside0 (K.R e w2 base ok v xs) := ⟨Kd.R_below (f h.out) hb⟩
end Go.Proofs.Ythonmfcollafkaa.P
/- The order of byte strings: plain facts. -/
set_option linter.unusedSimpArgs false
namespace Go.Proofs.YthonmfcollafkaaB
open Go

theorem u8_cases (a b : UInt8) : a < b ∨ a = b ∨ b < a := by
  rcases Nat.lt_trichotomy a.toNat b.toNat with h | h | h
  · exact .inl (UInt8.lt_iff_toNat_lt.2 h)
  · exact .inr (.inl (UInt8.toNat_inj.1 h))
  · exact .inr (.inr (UInt8.lt_iff_toNat_lt.2 h))
theorem u8_irrefl (a : UInt8) : ¬ a < a := fun h => Nat.lt_irrefl _ (UInt8.lt_iff_toNat_lt.1 h)
theorem u8_asymm {a b : UInt8} (h : a < b) : ¬ b < a := fun h' => Nat.lt_asymm (UInt8.lt_iff_toNat_lt.1 h) (UInt8.lt_iff_toNat_lt.1 h')
theorem u8_trans {a b c : UInt8} (h : a < b) (h' : b < c) : a < c := UInt8.lt_iff_toNat_lt.2 (Nat.lt_trans (UInt8.lt_iff_toNat_lt.1 h) (UInt8.lt_iff_toNat_lt.1 h'))

/-- How two byte strings stand is told by compareBytes. -/
theorem less_cmp : ∀ x y : List UInt8, Op.bytesLess x y = decide (Lib.compareBytes x y < 0)
  | [], [] => rfl
  | [], _ :: _ => rfl
  | _ :: _, [] => rfl
  | a :: x, b :: y => by
    simp only [Op.bytesLess, Lib.compareBytes]
    rcases u8_cases a b with h | rfl | h
    · simp [h]
    · simp [u8_irrefl, less_cmp x y]
    · have h1 := u8_asymm h
      have h2 : ¬ a = b := by rintro rfl; exact u8_irrefl _ h
      simp [h, h1, h2]
theorem cmp_zero : ∀ x y : List UInt8, Lib.compareBytes x y = 0 ↔ x = y
  | [], [] => by simp [Lib.compareBytes]
  | [], _ :: _ => by simp [Lib.compareBytes]
  | _ :: _, [] => by simp [Lib.compareBytes]
  | a :: x, b :: y => by
    simp only [Lib.compareBytes]
    rcases u8_cases a b with h | rfl | h
    · have h2 : ¬ a = b := by rintro rfl; exact u8_irrefl _ h
      simp [h, h2]
    · simp [u8_irrefl, cmp_zero x y]
    · have h1 := u8_asymm h
      have h2 : ¬ a = b := by rintro rfl; exact u8_irrefl _ h
      simp [h, h1, h2]
theorem cmp_anti : ∀ x y : List UInt8, Lib.compareBytes y x = - Lib.compareBytes x y
  | [], [] => rfl
  | [], _ :: _ => rfl
  | _ :: _, [] => rfl
  | a :: x, b :: y => by
    simp only [Lib.compareBytes]
    rcases u8_cases a b with h | rfl | h
    · simp [h, u8_asymm h]
    · simp [u8_irrefl, cmp_anti x y]
    · simp [h, u8_asymm h]
theorem less_irrefl (x : List UInt8) : Op.bytesLess x x = false := by rw [less_cmp, (cmp_zero x x).2 rfl]; rfl
theorem less_trans : ∀ {x y z : List UInt8}, Op.bytesLess x y = true → Op.bytesLess y z = true → Op.bytesLess x z = true
  | x, [], z => fun h _ => by cases x <;> simp [Op.bytesLess] at h
  | [], _ :: _, [] => fun _ h => by simp [Op.bytesLess] at h
  | [], _ :: _, _ :: _ => fun _ _ => rfl
  | _ :: _, _ :: _, [] => fun _ h => by simp [Op.bytesLess] at h
  | a :: x, b :: y, c :: z => fun h h' => by
    simp only [Op.bytesLess, Bool.or_eq_true, Bool.and_eq_true, decide_eq_true_eq, beq_iff_eq] at h h' ⊢
    rcases h with h | ⟨rfl, h⟩
    · rcases h' with h' | ⟨rfl, h'⟩
      · exact .inl (u8_trans h h')
      · exact .inl h
    · rcases h' with h' | ⟨rfl, h'⟩
      · exact .inl h'
      · exact .inr ⟨rfl, less_trans h h'⟩
/-- 'not less and not the same': greater. -/
theorem less_swap (x y : List UInt8) : (!Op.bytesLess x y && !(x == y)) = Op.bytesLess y x := by
  rw [less_cmp, less_cmp, cmp_anti x y]
  rcases Int.lt_trichotomy (Lib.compareBytes x y) 0 with h | h | h
  · simp [h]; omega
  · have e := (cmp_zero x y).1 h
    subst e
    simp [h]
  · have e : ¬ x = y := fun e => by have := (cmp_zero x y).2 e; omega
    have h1 : ¬ Lib.compareBytes x y < 0 := by omega
    have h2 : - Lib.compareBytes x y < 0 := by omega
    have h3 : (x == y) = false := by simpa using e
    rw [decide_eq_false h1, decide_eq_true h2, h3]; rfl
/-- 'less, or the same': not greater. -/
theorem less_or (x y : List UInt8) : (Op.bytesLess x y || (x == y)) = !Op.bytesLess y x := by
  rw [← less_swap x y]; cases Op.bytesLess x y <;> cases (x == y) <;> rfl
theorem less_total (x y : List UInt8) (h : Op.bytesLess x y = false) (hne : x ≠ y) : Op.bytesLess y x = true := by
  rw [← less_swap, h]; simp [hne]
theorem less_asymm {x y : List UInt8} (h : Op.bytesLess x y = true) : Op.bytesLess y x = false := by
  cases e : Op.bytesLess y x with
  | false => rfl
  | true => have := less_trans h e; rw [less_irrefl] at this; cases this
end Go.Proofs.YthonmfcollafkaaB
-- GENERATED by wip/gen.py (this session's own driver of a mended copy of the printer). Not trusted: Lean checks it.
namespace Go.Proofs.Ythonmfcollafkaa.P
open Go.RowKit Go.Proofs.YthonmfcollafkaaW.PrintWords Go.Proofs.YthonmfcollafkaaW.PrintLast Go.Proofs.YthonmfcollafkaaW.PrintMore
attribute [local go_sem] Go.Proofs.YthonmfcollafkaaB.less_swap Go.Proofs.YthonmfcollafkaaB.less_or max2_int min2_int max_two min_two max_three min_three max_four min_four   -- for this text's walks alone
set_option linter.unusedVariables false
set_option linter.unusedSimpArgs false



def errW : Option Int → Value
 | none => .nilIface
 | some c => .iface 0 (.int .i64 c)
theorem errW_none : errW none = .nilIface := rfl
theorem errW_some (c : Int) : errW (some c) = .iface 0 (.int .i64 c) := rfl

theorem info3 : (Try.prog.info? 3).map (fun i => (i.zero, i.size, i.bytes)) = some (some (.int .i64 0), 1, 8) := by kernel_rfl
theorem info9 : (Try.prog.info? 9).map (fun i => (i.zero, i.size, i.bytes)) = some (some (.string ⟨#[]⟩), 1, 16) := by kernel_rfl
theorem info34 : (Try.prog.info? 34).map (fun i => (i.zero, i.size, i.bytes)) = some (some (.agg #[(.string ⟨#[]⟩), (.slice none 0 0), (.slice none 0 0), (.slice none 0 0)]), 4, 88) := by kernel_rfl
theorem info37 : (Try.prog.info? 37).map (fun i => (i.zero, i.size, i.bytes)) = some (some (.agg #[(.string ⟨#[]⟩), (.int .u8 0), (.int .i64 0), (.int .i64 0), (.int .u8 0), (.string ⟨#[]⟩), (.string ⟨#[]⟩), (.string ⟨#[]⟩), (.bool false), (.slice none 0 0), (.slice none 0 0)]), 11, 152) := by kernel_rfl
theorem info43 : (Try.prog.info? 43).map (fun i => (i.zero, i.size, i.bytes)) = some (some (.agg #[(.int .i64 0), (.int .i64 0), (.int .u8 0), (.string ⟨#[]⟩), (.int .i64 0), (.int .i64 0), (.int .u8 0), (.string ⟨#[]⟩)]), 8, 80) := by kernel_rfl
theorem info66 : (Try.prog.info? 66).map (fun i => (i.zero, i.size, i.bytes)) = some (some (.agg #[(.int .i64 0), (.int .i64 0), (.string ⟨#[]⟩), (.bool false)]), 4, 40) := by kernel_rfl
theorem info129 : (Try.prog.info? 129).map (fun i => (i.zero, i.size, i.bytes)) = some (some (.agg #[(.int .i64 0), (.string ⟨#[]⟩), (.int .u8 0), (.int .i64 0), (.string ⟨#[]⟩)]), 5, 56) := by kernel_rfl
theorem info132 : (Try.prog.info? 132).map (fun i => (i.zero, i.size, i.bytes)) = some (some (.agg #[(.int .i64 0), (.int .i64 0), (.int .i64 0), (.int .u8 0), (.string ⟨#[]⟩), (.int .i64 0), (.bool false)]), 7, 64) := by kernel_rfl
theorem info158 : (Try.prog.info? 158).map (fun i => (i.zero, i.size, i.bytes)) = some (some (.agg #[(.string ⟨#[]⟩), (.int .u8 0), (.int .i64 0), (.string ⟨#[]⟩)]), 4, 48) := by kernel_rfl
-- the values' own types
/-! #### struct type 127 -/
structure S127 where
 f0 : Int
 f1 : Int
 f2 : ByteArray
def z127 : S127 := ⟨(0 : Int), (0 : Int), (⟨#[]⟩ : ByteArray)⟩
def k127 : Kd S127 := Kd.iso (Kd.pair (Kd.int .u8) (Kd.pair (Kd.int .i64) Kd.string)) (fun x : S127 => (x.f0, x.f1, x.f2))
theorem k127_open {w : World} {x : S127} {cs : List Value} (h : k127.K w x cs) : cs = [.int .u8 x.f0, .int .i64 x.f1, .string x.f2] := by
 obtain ⟨_, _, rfl, rfl, ⟨_, _, rfl, rfl, rfl⟩⟩ := h
 exact rfl
theorem k127_openM {w : World} {base : Nat} {ok : Nat → Prop} {x : S127} {cs : List Value} (h : k127.M w base ok x cs) : cs = [.int .u8 x.f0, .int .i64 x.f1, .string x.f2] := by
 obtain ⟨_, _, rfl, rfl, ⟨_, _, rfl, rfl, rfl⟩⟩ := h
 exact rfl
theorem k127_mk (w : World) (x : S127)  : k127.K w x [.int .u8 x.f0, .int .i64 x.f1, .string x.f2] := ⟨[.int .u8 x.f0], [.int .i64 x.f1, .string x.f2], rfl, rfl, ⟨[.int .i64 x.f1], [.string x.f2], rfl, rfl, rfl⟩⟩
theorem k127_mkM (w : World) (base : Nat) (ok : Nat → Prop) (x : S127)  : k127.M w base ok x [.int .u8 x.f0, .int .i64 x.f1, .string x.f2] := ⟨[.int .u8 x.f0], [.int .i64 x.f1, .string x.f2], rfl, rfl, ⟨[.int .i64 x.f1], [.string x.f2], rfl, rfl, rfl⟩⟩
theorem k127_mkF (W : World) (ok : Nat → Prop) (x : S127) : Kd.FK k127 W ok x [.int .u8 x.f0, .int .i64 x.f1, .string x.f2] := fun W2 _ => k127_mk W2 x
def rd_T127 (xs : List S127) (i : Int) : S127 := xs.getD i.toNat z127
theorem at_T127 {w : World} {A : Option Addr} {n : Nat} {xs : List S127} (h : Kd.C k127 w A n xs) (i : Int) (h0 : 0 ≤ i) (h1 : i < n) : ∃ ad , A = some ad ∧ w.cell? (ad.add (i.toNat * 3)) = some (.int .u8 (rd_T127 xs i).f0) ∧ w.cell? ⟨(ad.add (i.toNat * 3)).block, (ad.add (i.toNat * 3)).off + 1, none⟩ = some (.int .i64 (rd_T127 xs i).f1) ∧ w.cell? ⟨(ad.add (i.toNat * 3)).block, (ad.add (i.toNat * 3)).off + 2, none⟩ = some (.string (rd_T127 xs i).f2) := by
 obtain ⟨ad, c, e, _, hK, hc0⟩ := Kd.C_get h z127 i h0 h1
 have hc : ∀ j u, c[j]? = some u → w.cell? (ad.add (i.toNat * 3 + j)) = some u := hc0
 obtain rfl := k127_open hK
 exact ⟨ad, e, hc 0 _ rfl, by rw [← add_field _ _ 1 (by omega)]; exact hc 1 _ rfl, by rw [← add_field _ _ 2 (by omega)]; exact hc 2 _ rfl⟩

/-! #### struct type 158 -/
structure S158 where
 f0 : ByteArray
 f1 : S127
def z158 : S158 := ⟨(⟨#[]⟩ : ByteArray), z127⟩
def k158 : Kd S158 := Kd.iso (Kd.pair Kd.string k127) (fun x : S158 => (x.f0, x.f1))
theorem k158_open {w : World} {x : S158} {cs : List Value} (h : k158.K w x cs) : cs = [.string x.f0, .int .u8 x.f1.f0, .int .i64 x.f1.f1, .string x.f1.f2] := by
 obtain ⟨_, _, rfl, rfl, s1⟩ := h
 obtain rfl := k127_open s1
 exact rfl
theorem k158_openM {w : World} {base : Nat} {ok : Nat → Prop} {x : S158} {cs : List Value} (h : k158.M w base ok x cs) : cs = [.string x.f0, .int .u8 x.f1.f0, .int .i64 x.f1.f1, .string x.f1.f2] := by
 obtain ⟨_, _, rfl, rfl, s1⟩ := h
 obtain rfl := k127_openM s1
 exact rfl
theorem k158_mk (w : World) (x : S158)  : k158.K w x [.string x.f0, .int .u8 x.f1.f0, .int .i64 x.f1.f1, .string x.f1.f2] := ⟨[.string x.f0], [.int .u8 x.f1.f0, .int .i64 x.f1.f1, .string x.f1.f2], rfl, rfl, (k127_mk w x.f1 )⟩
theorem k158_mkM (w : World) (base : Nat) (ok : Nat → Prop) (x : S158)  : k158.M w base ok x [.string x.f0, .int .u8 x.f1.f0, .int .i64 x.f1.f1, .string x.f1.f2] := ⟨[.string x.f0], [.int .u8 x.f1.f0, .int .i64 x.f1.f1, .string x.f1.f2], rfl, rfl, (k127_mkM w base ok x.f1 )⟩
theorem k158_mkF (W : World) (ok : Nat → Prop) (x : S158) : Kd.FK k158 W ok x [.string x.f0, .int .u8 x.f1.f0, .int .i64 x.f1.f1, .string x.f1.f2] := fun W2 _ => k158_mk W2 x
def rd_T158 (xs : List S158) (i : Int) : S158 := xs.getD i.toNat z158
theorem at_T158 {w : World} {A : Option Addr} {n : Nat} {xs : List S158} (h : Kd.C k158 w A n xs) (i : Int) (h0 : 0 ≤ i) (h1 : i < n) : ∃ ad , A = some ad ∧ w.cell? (ad.add (i.toNat * 4)) = some (.string (rd_T158 xs i).f0) ∧ w.cell? ⟨(ad.add (i.toNat * 4)).block, (ad.add (i.toNat * 4)).off + 1, none⟩ = some (.int .u8 (rd_T158 xs i).f1.f0) ∧ w.cell? ⟨(ad.add (i.toNat * 4)).block, (ad.add (i.toNat * 4)).off + 2, none⟩ = some (.int .i64 (rd_T158 xs i).f1.f1) ∧ w.cell? ⟨(ad.add (i.toNat * 4)).block, (ad.add (i.toNat * 4)).off + 3, none⟩ = some (.string (rd_T158 xs i).f1.f2) := by
 obtain ⟨ad, c, e, _, hK, hc0⟩ := Kd.C_get h z158 i h0 h1
 have hc : ∀ j u, c[j]? = some u → w.cell? (ad.add (i.toNat * 4 + j)) = some u := hc0
 obtain rfl := k158_open hK
 exact ⟨ad, e, hc 0 _ rfl, by rw [← add_field _ _ 1 (by omega)]; exact hc 1 _ rfl, by rw [← add_field _ _ 2 (by omega)]; exact hc 2 _ rfl, by rw [← add_field _ _ 3 (by omega)]; exact hc 3 _ rfl⟩

def rd_L5 (xs : List (List S158)) (i : Int) : (List S158) := xs.getD i.toNat ([] : List S158)
theorem at_L5 {w : World} {A : Option Addr} {n : Nat} {xs : List (List S158)} (h : Kd.C (Kd.slice 158 k158) w A n xs) (i : Int) (h0 : 0 ≤ i) (h1 : i < n) : ∃ ad A0 c0, A = some ad ∧ w.cell? (ad.add i.toNat) = some (.slice A0 (rd_L5 xs i).length c0) ∧ (rd_L5 xs i).length ≤ c0 ∧ k158.C w A0 (rd_L5 xs i).length (rd_L5 xs i) := by
 obtain ⟨ad, c, e, _, hK, hc0⟩ := Kd.C_get h ([] : List S158) i h0 h1
 have hc : ∀ j u, c[j]? = some u → w.cell? (ad.add (i.toNat * 1 + j)) = some u := hc0
 obtain ⟨A0, c0, rfl, l0, g0⟩ := hK
 exact ⟨ad, A0, c0, e, by have hq := hc 0 _ rfl; rwa [Nat.mul_one, Nat.add_zero] at hq, l0, g0⟩

def rd_L7 (xs : List (List ByteArray)) (i : Int) : (List ByteArray) := xs.getD i.toNat ([] : List ByteArray)
theorem at_L7 {w : World} {A : Option Addr} {n : Nat} {xs : List (List ByteArray)} (h : Kd.C (Kd.slice 9 Kd.string) w A n xs) (i : Int) (h0 : 0 ≤ i) (h1 : i < n) : ∃ ad A0 c0, A = some ad ∧ w.cell? (ad.add i.toNat) = some (.slice A0 (rd_L7 xs i).length c0) ∧ (rd_L7 xs i).length ≤ c0 ∧ Kd.string.C w A0 (rd_L7 xs i).length (rd_L7 xs i) := by
 obtain ⟨ad, c, e, _, hK, hc0⟩ := Kd.C_get h ([] : List ByteArray) i h0 h1
 have hc : ∀ j u, c[j]? = some u → w.cell? (ad.add (i.toNat * 1 + j)) = some u := hc0
 obtain ⟨A0, c0, rfl, l0, g0⟩ := hK
 exact ⟨ad, A0, c0, e, by have hq := hc 0 _ rfl; rwa [Nat.mul_one, Nat.add_zero] at hq, l0, g0⟩

/-! #### struct type 37 -/
structure S37 where
 f0 : ByteArray
 f1 : Int
 f2 : Int
 f3 : Int
 f4 : Int
 f5 : ByteArray
 f6 : ByteArray
 f7 : ByteArray
 f8 : Bool
 f9 : (List S158)
 f10 : (List ByteArray)
def z37 : S37 := ⟨(⟨#[]⟩ : ByteArray), (0 : Int), (0 : Int), (0 : Int), (0 : Int), (⟨#[]⟩ : ByteArray), (⟨#[]⟩ : ByteArray), (⟨#[]⟩ : ByteArray), false, ([] : List S158), ([] : List ByteArray)⟩
def k37 : Kd S37 := Kd.iso (Kd.pair Kd.string (Kd.pair (Kd.int .u8) (Kd.pair (Kd.int .i64) (Kd.pair (Kd.int .i64) (Kd.pair (Kd.int .u8) (Kd.pair Kd.string (Kd.pair Kd.string (Kd.pair Kd.string (Kd.pair Kd.bool (Kd.pair (Kd.slice 158 k158) (Kd.slice 9 Kd.string))))))))))) (fun x : S37 => (x.f0, x.f1, x.f2, x.f3, x.f4, x.f5, x.f6, x.f7, x.f8, x.f9, x.f10))
theorem k37_open {w : World} {x : S37} {cs : List Value} (h : k37.K w x cs) : ∃ A9 c9 A10 c10, cs = [.string x.f0, .int .u8 x.f1, .int .i64 x.f2, .int .i64 x.f3, .int .u8 x.f4, .string x.f5, .string x.f6, .string x.f7, .bool x.f8, .slice A9 x.f9.length c9, .slice A10 x.f10.length c10] ∧ x.f9.length ≤ c9 ∧ k158.C w A9 x.f9.length x.f9 ∧ x.f10.length ≤ c10 ∧ Kd.string.C w A10 x.f10.length x.f10 := by
 obtain ⟨_, _, rfl, rfl, ⟨_, _, rfl, rfl, ⟨_, _, rfl, rfl, ⟨_, _, rfl, rfl, ⟨_, _, rfl, rfl, ⟨_, _, rfl, rfl, ⟨_, _, rfl, rfl, ⟨_, _, rfl, rfl, ⟨_, _, rfl, rfl, ⟨_, _, rfl, ⟨A9, c9, rfl, l9, g9⟩, ⟨A10, c10, rfl, l10, g10⟩⟩⟩⟩⟩⟩⟩⟩⟩⟩⟩ := h
 exact ⟨A9, c9, A10, c10, rfl, l9, g9, l10, g10⟩
theorem k37_openM {w : World} {base : Nat} {ok : Nat → Prop} {x : S37} {cs : List Value} (h : k37.M w base ok x cs) : ∃ v9 v10, cs = [.string x.f0, .int .u8 x.f1, .int .i64 x.f2, .int .i64 x.f3, .int .u8 x.f4, .string x.f5, .string x.f6, .string x.f7, .bool x.f8, v9, v10] ∧ k158.R 158 w base ok v9 x.f9 ∧ Kd.string.R 9 w base ok v10 x.f10 := by
 obtain ⟨_, _, rfl, rfl, ⟨_, _, rfl, rfl, ⟨_, _, rfl, rfl, ⟨_, _, rfl, rfl, ⟨_, _, rfl, rfl, ⟨_, _, rfl, rfl, ⟨_, _, rfl, rfl, ⟨_, _, rfl, rfl, ⟨_, _, rfl, rfl, ⟨_, _, rfl, ⟨v9, rfl, g9⟩, ⟨v10, rfl, g10⟩⟩⟩⟩⟩⟩⟩⟩⟩⟩⟩ := h
 exact ⟨v9, v10, rfl, g9, g10⟩
theorem k37_mk (w : World) (x : S37) {A9 : Option Addr} {c9 : Nat} (l9 : x.f9.length ≤ c9) (g9 : k158.C w A9 x.f9.length x.f9) {A10 : Option Addr} {c10 : Nat} (l10 : x.f10.length ≤ c10) (g10 : Kd.string.C w A10 x.f10.length x.f10) : k37.K w x [.string x.f0, .int .u8 x.f1, .int .i64 x.f2, .int .i64 x.f3, .int .u8 x.f4, .string x.f5, .string x.f6, .string x.f7, .bool x.f8, .slice A9 x.f9.length c9, .slice A10 x.f10.length c10] := ⟨[.string x.f0], [.int .u8 x.f1, .int .i64 x.f2, .int .i64 x.f3, .int .u8 x.f4, .string x.f5, .string x.f6, .string x.f7, .bool x.f8, .slice A9 x.f9.length c9, .slice A10 x.f10.length c10], rfl, rfl, ⟨[.int .u8 x.f1], [.int .i64 x.f2, .int .i64 x.f3, .int .u8 x.f4, .string x.f5, .string x.f6, .string x.f7, .bool x.f8, .slice A9 x.f9.length c9, .slice A10 x.f10.length c10], rfl, rfl, ⟨[.int .i64 x.f2], [.int .i64 x.f3, .int .u8 x.f4, .string x.f5, .string x.f6, .string x.f7, .bool x.f8, .slice A9 x.f9.length c9, .slice A10 x.f10.length c10], rfl, rfl, ⟨[.int .i64 x.f3], [.int .u8 x.f4, .string x.f5, .string x.f6, .string x.f7, .bool x.f8, .slice A9 x.f9.length c9, .slice A10 x.f10.length c10], rfl, rfl, ⟨[.int .u8 x.f4], [.string x.f5, .string x.f6, .string x.f7, .bool x.f8, .slice A9 x.f9.length c9, .slice A10 x.f10.length c10], rfl, rfl, ⟨[.string x.f5], [.string x.f6, .string x.f7, .bool x.f8, .slice A9 x.f9.length c9, .slice A10 x.f10.length c10], rfl, rfl, ⟨[.string x.f6], [.string x.f7, .bool x.f8, .slice A9 x.f9.length c9, .slice A10 x.f10.length c10], rfl, rfl, ⟨[.string x.f7], [.bool x.f8, .slice A9 x.f9.length c9, .slice A10 x.f10.length c10], rfl, rfl, ⟨[.bool x.f8], [.slice A9 x.f9.length c9, .slice A10 x.f10.length c10], rfl, rfl, ⟨[.slice A9 x.f9.length c9], [.slice A10 x.f10.length c10], rfl, ⟨A9, c9, rfl, l9, g9⟩, ⟨A10, c10, rfl, l10, g10⟩⟩⟩⟩⟩⟩⟩⟩⟩⟩⟩
theorem k37_mkM (w : World) (base : Nat) (ok : Nat → Prop) (x : S37) {v9 : Value} (g9 : k158.R 158 w base ok v9 x.f9) {v10 : Value} (g10 : Kd.string.R 9 w base ok v10 x.f10) : k37.M w base ok x [.string x.f0, .int .u8 x.f1, .int .i64 x.f2, .int .i64 x.f3, .int .u8 x.f4, .string x.f5, .string x.f6, .string x.f7, .bool x.f8, v9, v10] := ⟨[.string x.f0], [.int .u8 x.f1, .int .i64 x.f2, .int .i64 x.f3, .int .u8 x.f4, .string x.f5, .string x.f6, .string x.f7, .bool x.f8, v9, v10], rfl, rfl, ⟨[.int .u8 x.f1], [.int .i64 x.f2, .int .i64 x.f3, .int .u8 x.f4, .string x.f5, .string x.f6, .string x.f7, .bool x.f8, v9, v10], rfl, rfl, ⟨[.int .i64 x.f2], [.int .i64 x.f3, .int .u8 x.f4, .string x.f5, .string x.f6, .string x.f7, .bool x.f8, v9, v10], rfl, rfl, ⟨[.int .i64 x.f3], [.int .u8 x.f4, .string x.f5, .string x.f6, .string x.f7, .bool x.f8, v9, v10], rfl, rfl, ⟨[.int .u8 x.f4], [.string x.f5, .string x.f6, .string x.f7, .bool x.f8, v9, v10], rfl, rfl, ⟨[.string x.f5], [.string x.f6, .string x.f7, .bool x.f8, v9, v10], rfl, rfl, ⟨[.string x.f6], [.string x.f7, .bool x.f8, v9, v10], rfl, rfl, ⟨[.string x.f7], [.bool x.f8, v9, v10], rfl, rfl, ⟨[.bool x.f8], [v9, v10], rfl, rfl, ⟨[v9], [v10], rfl, ⟨v9, rfl, g9⟩, ⟨v10, rfl, g10⟩⟩⟩⟩⟩⟩⟩⟩⟩⟩⟩
theorem k37_openF {W : World} {ok : Nat → Prop} {x : S37} {cs : List Value} (h : Kd.FK k37 W ok x cs) : ∃ A9 c9 A10 c10, cs = [.string x.f0, .int .u8 x.f1, .int .i64 x.f2, .int .i64 x.f3, .int .u8 x.f4, .string x.f5, .string x.f6, .string x.f7, .bool x.f8, .slice A9 x.f9.length c9, .slice A10 x.f10.length c10] ∧ x.f9.length ≤ c9 ∧ Kd.F k158 W ok A9 x.f9.length x.f9 ∧ x.f10.length ≤ c10 ∧ Kd.F Kd.string W ok A10 x.f10.length x.f10 := by
 obtain ⟨A9, c9, A10, c10, rfl, l9, _, l10, _⟩ := k37_open (Kd.FK_now h)
 exact ⟨A9, c9, A10, c10, rfl, l9, (fun W' hW => by obtain ⟨A9_, c9_, A10_, c10_, he, l9_, g9_, l10_, g10_⟩ := k37_open (h W' hW); injection (Option.some.inj (show some (Value.slice A9 x.f9.length c9) = some (Value.slice A9_ x.f9.length c9_) from congrArg (fun l => l[9]?) he)) with ha_ _ _; rw [ha_]; exact g9_), l10, (fun W' hW => by obtain ⟨A9_, c9_, A10_, c10_, he, l9_, g9_, l10_, g10_⟩ := k37_open (h W' hW); injection (Option.some.inj (show some (Value.slice A10 x.f10.length c10) = some (Value.slice A10_ x.f10.length c10_) from congrArg (fun l => l[10]?) he)) with ha_ _ _; rw [ha_]; exact g10_)⟩
theorem k37_mkF (W : World) (ok : Nat → Prop) (x : S37) {A9 : Option Addr} {c9 : Nat} (l9 : x.f9.length ≤ c9) (g9 : Kd.F k158 W ok A9 x.f9.length x.f9) {A10 : Option Addr} {c10 : Nat} (l10 : x.f10.length ≤ c10) (g10 : Kd.F Kd.string W ok A10 x.f10.length x.f10) : Kd.FK k37 W ok x [.string x.f0, .int .u8 x.f1, .int .i64 x.f2, .int .i64 x.f3, .int .u8 x.f4, .string x.f5, .string x.f6, .string x.f7, .bool x.f8, .slice A9 x.f9.length c9, .slice A10 x.f10.length c10] := fun W2 hW => k37_mk W2 x l9 (g9 W2 hW) l10 (g10 W2 hW)
def rd_T37 (xs : List S37) (i : Int) : S37 := xs.getD i.toNat z37
theorem at_T37 {w : World} {A : Option Addr} {n : Nat} {xs : List S37} (h : Kd.C k37 w A n xs) (i : Int) (h0 : 0 ≤ i) (h1 : i < n) : ∃ ad A9 c9 A10 c10, A = some ad ∧ w.cell? (ad.add (i.toNat * 11)) = some (.string (rd_T37 xs i).f0) ∧ w.cell? ⟨(ad.add (i.toNat * 11)).block, (ad.add (i.toNat * 11)).off + 1, none⟩ = some (.int .u8 (rd_T37 xs i).f1) ∧ w.cell? ⟨(ad.add (i.toNat * 11)).block, (ad.add (i.toNat * 11)).off + 2, none⟩ = some (.int .i64 (rd_T37 xs i).f2) ∧ w.cell? ⟨(ad.add (i.toNat * 11)).block, (ad.add (i.toNat * 11)).off + 3, none⟩ = some (.int .i64 (rd_T37 xs i).f3) ∧ w.cell? ⟨(ad.add (i.toNat * 11)).block, (ad.add (i.toNat * 11)).off + 4, none⟩ = some (.int .u8 (rd_T37 xs i).f4) ∧ w.cell? ⟨(ad.add (i.toNat * 11)).block, (ad.add (i.toNat * 11)).off + 5, none⟩ = some (.string (rd_T37 xs i).f5) ∧ w.cell? ⟨(ad.add (i.toNat * 11)).block, (ad.add (i.toNat * 11)).off + 6, none⟩ = some (.string (rd_T37 xs i).f6) ∧ w.cell? ⟨(ad.add (i.toNat * 11)).block, (ad.add (i.toNat * 11)).off + 7, none⟩ = some (.string (rd_T37 xs i).f7) ∧ w.cell? ⟨(ad.add (i.toNat * 11)).block, (ad.add (i.toNat * 11)).off + 8, none⟩ = some (.bool (rd_T37 xs i).f8) ∧ w.cell? ⟨(ad.add (i.toNat * 11)).block, (ad.add (i.toNat * 11)).off + 9, none⟩ = some (.slice A9 (rd_T37 xs i).f9.length c9) ∧ w.cell? ⟨(ad.add (i.toNat * 11)).block, (ad.add (i.toNat * 11)).off + 10, none⟩ = some (.slice A10 (rd_T37 xs i).f10.length c10) ∧ (rd_T37 xs i).f9.length ≤ c9 ∧ k158.C w A9 (rd_T37 xs i).f9.length (rd_T37 xs i).f9 ∧ (rd_T37 xs i).f10.length ≤ c10 ∧ Kd.string.C w A10 (rd_T37 xs i).f10.length (rd_T37 xs i).f10 := by
 obtain ⟨ad, c, e, _, hK, hc0⟩ := Kd.C_get h z37 i h0 h1
 have hc : ∀ j u, c[j]? = some u → w.cell? (ad.add (i.toNat * 11 + j)) = some u := hc0
 obtain ⟨A9, c9, A10, c10, rfl, l9, g9, l10, g10⟩ := k37_open hK
 exact ⟨ad, A9, c9, A10, c10, e, hc 0 _ rfl, by rw [← add_field _ _ 1 (by omega)]; exact hc 1 _ rfl, by rw [← add_field _ _ 2 (by omega)]; exact hc 2 _ rfl, by rw [← add_field _ _ 3 (by omega)]; exact hc 3 _ rfl, by rw [← add_field _ _ 4 (by omega)]; exact hc 4 _ rfl, by rw [← add_field _ _ 5 (by omega)]; exact hc 5 _ rfl, by rw [← add_field _ _ 6 (by omega)]; exact hc 6 _ rfl, by rw [← add_field _ _ 7 (by omega)]; exact hc 7 _ rfl, by rw [← add_field _ _ 8 (by omega)]; exact hc 8 _ rfl, by rw [← add_field _ _ 9 (by omega)]; exact hc 9 _ rfl, by rw [← add_field _ _ 10 (by omega)]; exact hc 10 _ rfl, l9, g9, l10, g10⟩

def rd_L9 (xs : List (List S37)) (i : Int) : (List S37) := xs.getD i.toNat ([] : List S37)
theorem at_L9 {w : World} {A : Option Addr} {n : Nat} {xs : List (List S37)} (h : Kd.C (Kd.slice 37 k37) w A n xs) (i : Int) (h0 : 0 ≤ i) (h1 : i < n) : ∃ ad A0 c0, A = some ad ∧ w.cell? (ad.add i.toNat) = some (.slice A0 (rd_L9 xs i).length c0) ∧ (rd_L9 xs i).length ≤ c0 ∧ k37.C w A0 (rd_L9 xs i).length (rd_L9 xs i) := by
 obtain ⟨ad, c, e, _, hK, hc0⟩ := Kd.C_get h ([] : List S37) i h0 h1
 have hc : ∀ j u, c[j]? = some u → w.cell? (ad.add (i.toNat * 1 + j)) = some u := hc0
 obtain ⟨A0, c0, rfl, l0, g0⟩ := hK
 exact ⟨ad, A0, c0, e, by have hq := hc 0 _ rfl; rwa [Nat.mul_one, Nat.add_zero] at hq, l0, g0⟩

/-! #### struct type 66 -/
structure S66 where
 f0 : Int
 f1 : Int
 f2 : ByteArray
 f3 : Bool
def z66 : S66 := ⟨(0 : Int), (0 : Int), (⟨#[]⟩ : ByteArray), false⟩
def k66 : Kd S66 := Kd.iso (Kd.pair (Kd.int .i64) (Kd.pair (Kd.int .i64) (Kd.pair Kd.string Kd.bool))) (fun x : S66 => (x.f0, x.f1, x.f2, x.f3))
theorem k66_open {w : World} {x : S66} {cs : List Value} (h : k66.K w x cs) : cs = [.int .i64 x.f0, .int .i64 x.f1, .string x.f2, .bool x.f3] := by
 obtain ⟨_, _, rfl, rfl, ⟨_, _, rfl, rfl, ⟨_, _, rfl, rfl, rfl⟩⟩⟩ := h
 exact rfl
theorem k66_openM {w : World} {base : Nat} {ok : Nat → Prop} {x : S66} {cs : List Value} (h : k66.M w base ok x cs) : cs = [.int .i64 x.f0, .int .i64 x.f1, .string x.f2, .bool x.f3] := by
 obtain ⟨_, _, rfl, rfl, ⟨_, _, rfl, rfl, ⟨_, _, rfl, rfl, rfl⟩⟩⟩ := h
 exact rfl
theorem k66_mk (w : World) (x : S66)  : k66.K w x [.int .i64 x.f0, .int .i64 x.f1, .string x.f2, .bool x.f3] := ⟨[.int .i64 x.f0], [.int .i64 x.f1, .string x.f2, .bool x.f3], rfl, rfl, ⟨[.int .i64 x.f1], [.string x.f2, .bool x.f3], rfl, rfl, ⟨[.string x.f2], [.bool x.f3], rfl, rfl, rfl⟩⟩⟩
theorem k66_mkM (w : World) (base : Nat) (ok : Nat → Prop) (x : S66)  : k66.M w base ok x [.int .i64 x.f0, .int .i64 x.f1, .string x.f2, .bool x.f3] := ⟨[.int .i64 x.f0], [.int .i64 x.f1, .string x.f2, .bool x.f3], rfl, rfl, ⟨[.int .i64 x.f1], [.string x.f2, .bool x.f3], rfl, rfl, ⟨[.string x.f2], [.bool x.f3], rfl, rfl, rfl⟩⟩⟩
theorem k66_mkF (W : World) (ok : Nat → Prop) (x : S66) : Kd.FK k66 W ok x [.int .i64 x.f0, .int .i64 x.f1, .string x.f2, .bool x.f3] := fun W2 _ => k66_mk W2 x
def rd_T66 (xs : List S66) (i : Int) : S66 := xs.getD i.toNat z66
theorem at_T66 {w : World} {A : Option Addr} {n : Nat} {xs : List S66} (h : Kd.C k66 w A n xs) (i : Int) (h0 : 0 ≤ i) (h1 : i < n) : ∃ ad , A = some ad ∧ w.cell? (ad.add (i.toNat * 4)) = some (.int .i64 (rd_T66 xs i).f0) ∧ w.cell? ⟨(ad.add (i.toNat * 4)).block, (ad.add (i.toNat * 4)).off + 1, none⟩ = some (.int .i64 (rd_T66 xs i).f1) ∧ w.cell? ⟨(ad.add (i.toNat * 4)).block, (ad.add (i.toNat * 4)).off + 2, none⟩ = some (.string (rd_T66 xs i).f2) ∧ w.cell? ⟨(ad.add (i.toNat * 4)).block, (ad.add (i.toNat * 4)).off + 3, none⟩ = some (.bool (rd_T66 xs i).f3) := by
 obtain ⟨ad, c, e, _, hK, hc0⟩ := Kd.C_get h z66 i h0 h1
 have hc : ∀ j u, c[j]? = some u → w.cell? (ad.add (i.toNat * 4 + j)) = some u := hc0
 obtain rfl := k66_open hK
 exact ⟨ad, e, hc 0 _ rfl, by rw [← add_field _ _ 1 (by omega)]; exact hc 1 _ rfl, by rw [← add_field _ _ 2 (by omega)]; exact hc 2 _ rfl, by rw [← add_field _ _ 3 (by omega)]; exact hc 3 _ rfl⟩

def rd_L11 (xs : List (List S66)) (i : Int) : (List S66) := xs.getD i.toNat ([] : List S66)
theorem at_L11 {w : World} {A : Option Addr} {n : Nat} {xs : List (List S66)} (h : Kd.C (Kd.slice 66 k66) w A n xs) (i : Int) (h0 : 0 ≤ i) (h1 : i < n) : ∃ ad A0 c0, A = some ad ∧ w.cell? (ad.add i.toNat) = some (.slice A0 (rd_L11 xs i).length c0) ∧ (rd_L11 xs i).length ≤ c0 ∧ k66.C w A0 (rd_L11 xs i).length (rd_L11 xs i) := by
 obtain ⟨ad, c, e, _, hK, hc0⟩ := Kd.C_get h ([] : List S66) i h0 h1
 have hc : ∀ j u, c[j]? = some u → w.cell? (ad.add (i.toNat * 1 + j)) = some u := hc0
 obtain ⟨A0, c0, rfl, l0, g0⟩ := hK
 exact ⟨ad, A0, c0, e, by have hq := hc 0 _ rfl; rwa [Nat.mul_one, Nat.add_zero] at hq, l0, g0⟩

/-! #### struct type 34 -/
structure S34 where
 f0 : ByteArray
 f1 : (List S158)
 f2 : (List S37)
 f3 : (List S66)
def z34 : S34 := ⟨(⟨#[]⟩ : ByteArray), ([] : List S158), ([] : List S37), ([] : List S66)⟩
def k34 : Kd S34 := Kd.iso (Kd.pair Kd.string (Kd.pair (Kd.slice 158 k158) (Kd.pair (Kd.slice 37 k37) (Kd.slice 66 k66)))) (fun x : S34 => (x.f0, x.f1, x.f2, x.f3))
theorem k34_open {w : World} {x : S34} {cs : List Value} (h : k34.K w x cs) : ∃ A1 c1 A2 c2 A3 c3, cs = [.string x.f0, .slice A1 x.f1.length c1, .slice A2 x.f2.length c2, .slice A3 x.f3.length c3] ∧ x.f1.length ≤ c1 ∧ k158.C w A1 x.f1.length x.f1 ∧ x.f2.length ≤ c2 ∧ k37.C w A2 x.f2.length x.f2 ∧ x.f3.length ≤ c3 ∧ k66.C w A3 x.f3.length x.f3 := by
 obtain ⟨_, _, rfl, rfl, ⟨_, _, rfl, ⟨A1, c1, rfl, l1, g1⟩, ⟨_, _, rfl, ⟨A2, c2, rfl, l2, g2⟩, ⟨A3, c3, rfl, l3, g3⟩⟩⟩⟩ := h
 exact ⟨A1, c1, A2, c2, A3, c3, rfl, l1, g1, l2, g2, l3, g3⟩
theorem k34_openM {w : World} {base : Nat} {ok : Nat → Prop} {x : S34} {cs : List Value} (h : k34.M w base ok x cs) : ∃ v1 v2 v3, cs = [.string x.f0, v1, v2, v3] ∧ k158.R 158 w base ok v1 x.f1 ∧ k37.R 37 w base ok v2 x.f2 ∧ k66.R 66 w base ok v3 x.f3 := by
 obtain ⟨_, _, rfl, rfl, ⟨_, _, rfl, ⟨v1, rfl, g1⟩, ⟨_, _, rfl, ⟨v2, rfl, g2⟩, ⟨v3, rfl, g3⟩⟩⟩⟩ := h
 exact ⟨v1, v2, v3, rfl, g1, g2, g3⟩
theorem k34_mk (w : World) (x : S34) {A1 : Option Addr} {c1 : Nat} (l1 : x.f1.length ≤ c1) (g1 : k158.C w A1 x.f1.length x.f1) {A2 : Option Addr} {c2 : Nat} (l2 : x.f2.length ≤ c2) (g2 : k37.C w A2 x.f2.length x.f2) {A3 : Option Addr} {c3 : Nat} (l3 : x.f3.length ≤ c3) (g3 : k66.C w A3 x.f3.length x.f3) : k34.K w x [.string x.f0, .slice A1 x.f1.length c1, .slice A2 x.f2.length c2, .slice A3 x.f3.length c3] := ⟨[.string x.f0], [.slice A1 x.f1.length c1, .slice A2 x.f2.length c2, .slice A3 x.f3.length c3], rfl, rfl, ⟨[.slice A1 x.f1.length c1], [.slice A2 x.f2.length c2, .slice A3 x.f3.length c3], rfl, ⟨A1, c1, rfl, l1, g1⟩, ⟨[.slice A2 x.f2.length c2], [.slice A3 x.f3.length c3], rfl, ⟨A2, c2, rfl, l2, g2⟩, ⟨A3, c3, rfl, l3, g3⟩⟩⟩⟩
theorem k34_mkM (w : World) (base : Nat) (ok : Nat → Prop) (x : S34) {v1 : Value} (g1 : k158.R 158 w base ok v1 x.f1) {v2 : Value} (g2 : k37.R 37 w base ok v2 x.f2) {v3 : Value} (g3 : k66.R 66 w base ok v3 x.f3) : k34.M w base ok x [.string x.f0, v1, v2, v3] := ⟨[.string x.f0], [v1, v2, v3], rfl, rfl, ⟨[v1], [v2, v3], rfl, ⟨v1, rfl, g1⟩, ⟨[v2], [v3], rfl, ⟨v2, rfl, g2⟩, ⟨v3, rfl, g3⟩⟩⟩⟩
theorem k34_openF {W : World} {ok : Nat → Prop} {x : S34} {cs : List Value} (h : Kd.FK k34 W ok x cs) : ∃ A1 c1 A2 c2 A3 c3, cs = [.string x.f0, .slice A1 x.f1.length c1, .slice A2 x.f2.length c2, .slice A3 x.f3.length c3] ∧ x.f1.length ≤ c1 ∧ Kd.F k158 W ok A1 x.f1.length x.f1 ∧ x.f2.length ≤ c2 ∧ Kd.F k37 W ok A2 x.f2.length x.f2 ∧ x.f3.length ≤ c3 ∧ Kd.F k66 W ok A3 x.f3.length x.f3 := by
 obtain ⟨A1, c1, A2, c2, A3, c3, rfl, l1, _, l2, _, l3, _⟩ := k34_open (Kd.FK_now h)
 exact ⟨A1, c1, A2, c2, A3, c3, rfl, l1, (fun W' hW => by obtain ⟨A1_, c1_, A2_, c2_, A3_, c3_, he, l1_, g1_, l2_, g2_, l3_, g3_⟩ := k34_open (h W' hW); injection (Option.some.inj (show some (Value.slice A1 x.f1.length c1) = some (Value.slice A1_ x.f1.length c1_) from congrArg (fun l => l[1]?) he)) with ha_ _ _; rw [ha_]; exact g1_), l2, (fun W' hW => by obtain ⟨A1_, c1_, A2_, c2_, A3_, c3_, he, l1_, g1_, l2_, g2_, l3_, g3_⟩ := k34_open (h W' hW); injection (Option.some.inj (show some (Value.slice A2 x.f2.length c2) = some (Value.slice A2_ x.f2.length c2_) from congrArg (fun l => l[2]?) he)) with ha_ _ _; rw [ha_]; exact g2_), l3, (fun W' hW => by obtain ⟨A1_, c1_, A2_, c2_, A3_, c3_, he, l1_, g1_, l2_, g2_, l3_, g3_⟩ := k34_open (h W' hW); injection (Option.some.inj (show some (Value.slice A3 x.f3.length c3) = some (Value.slice A3_ x.f3.length c3_) from congrArg (fun l => l[3]?) he)) with ha_ _ _; rw [ha_]; exact g3_)⟩
theorem k34_mkF (W : World) (ok : Nat → Prop) (x : S34) {A1 : Option Addr} {c1 : Nat} (l1 : x.f1.length ≤ c1) (g1 : Kd.F k158 W ok A1 x.f1.length x.f1) {A2 : Option Addr} {c2 : Nat} (l2 : x.f2.length ≤ c2) (g2 : Kd.F k37 W ok A2 x.f2.length x.f2) {A3 : Option Addr} {c3 : Nat} (l3 : x.f3.length ≤ c3) (g3 : Kd.F k66 W ok A3 x.f3.length x.f3) : Kd.FK k34 W ok x [.string x.f0, .slice A1 x.f1.length c1, .slice A2 x.f2.length c2, .slice A3 x.f3.length c3] := fun W2 hW => k34_mk W2 x l1 (g1 W2 hW) l2 (g2 W2 hW) l3 (g3 W2 hW)
def rd_T34 (xs : List S34) (i : Int) : S34 := xs.getD i.toNat z34
theorem at_T34 {w : World} {A : Option Addr} {n : Nat} {xs : List S34} (h : Kd.C k34 w A n xs) (i : Int) (h0 : 0 ≤ i) (h1 : i < n) : ∃ ad A1 c1 A2 c2 A3 c3, A = some ad ∧ w.cell? (ad.add (i.toNat * 4)) = some (.string (rd_T34 xs i).f0) ∧ w.cell? ⟨(ad.add (i.toNat * 4)).block, (ad.add (i.toNat * 4)).off + 1, none⟩ = some (.slice A1 (rd_T34 xs i).f1.length c1) ∧ w.cell? ⟨(ad.add (i.toNat * 4)).block, (ad.add (i.toNat * 4)).off + 2, none⟩ = some (.slice A2 (rd_T34 xs i).f2.length c2) ∧ w.cell? ⟨(ad.add (i.toNat * 4)).block, (ad.add (i.toNat * 4)).off + 3, none⟩ = some (.slice A3 (rd_T34 xs i).f3.length c3) ∧ (rd_T34 xs i).f1.length ≤ c1 ∧ k158.C w A1 (rd_T34 xs i).f1.length (rd_T34 xs i).f1 ∧ (rd_T34 xs i).f2.length ≤ c2 ∧ k37.C w A2 (rd_T34 xs i).f2.length (rd_T34 xs i).f2 ∧ (rd_T34 xs i).f3.length ≤ c3 ∧ k66.C w A3 (rd_T34 xs i).f3.length (rd_T34 xs i).f3 := by
 obtain ⟨ad, c, e, _, hK, hc0⟩ := Kd.C_get h z34 i h0 h1
 have hc : ∀ j u, c[j]? = some u → w.cell? (ad.add (i.toNat * 4 + j)) = some u := hc0
 obtain ⟨A1, c1, A2, c2, A3, c3, rfl, l1, g1, l2, g2, l3, g3⟩ := k34_open hK
 exact ⟨ad, A1, c1, A2, c2, A3, c3, e, hc 0 _ rfl, by rw [← add_field _ _ 1 (by omega)]; exact hc 1 _ rfl, by rw [← add_field _ _ 2 (by omega)]; exact hc 2 _ rfl, by rw [← add_field _ _ 3 (by omega)]; exact hc 3 _ rfl, l1, g1, l2, g2, l3, g3⟩

/-! #### struct type 43 -/
structure S43 where
 f0 : Int
 f1 : Int
 f2 : Int
 f3 : ByteArray
 f4 : Int
 f5 : Int
 f6 : Int
 f7 : ByteArray
def z43 : S43 := ⟨(0 : Int), (0 : Int), (0 : Int), (⟨#[]⟩ : ByteArray), (0 : Int), (0 : Int), (0 : Int), (⟨#[]⟩ : ByteArray)⟩
def k43 : Kd S43 := Kd.iso (Kd.pair (Kd.int .i64) (Kd.pair (Kd.int .i64) (Kd.pair (Kd.int .u8) (Kd.pair Kd.string (Kd.pair (Kd.int .i64) (Kd.pair (Kd.int .i64) (Kd.pair (Kd.int .u8) Kd.string))))))) (fun x : S43 => (x.f0, x.f1, x.f2, x.f3, x.f4, x.f5, x.f6, x.f7))
theorem k43_open {w : World} {x : S43} {cs : List Value} (h : k43.K w x cs) : cs = [.int .i64 x.f0, .int .i64 x.f1, .int .u8 x.f2, .string x.f3, .int .i64 x.f4, .int .i64 x.f5, .int .u8 x.f6, .string x.f7] := by
 obtain ⟨_, _, rfl, rfl, ⟨_, _, rfl, rfl, ⟨_, _, rfl, rfl, ⟨_, _, rfl, rfl, ⟨_, _, rfl, rfl, ⟨_, _, rfl, rfl, ⟨_, _, rfl, rfl, rfl⟩⟩⟩⟩⟩⟩⟩ := h
 exact rfl
theorem k43_openM {w : World} {base : Nat} {ok : Nat → Prop} {x : S43} {cs : List Value} (h : k43.M w base ok x cs) : cs = [.int .i64 x.f0, .int .i64 x.f1, .int .u8 x.f2, .string x.f3, .int .i64 x.f4, .int .i64 x.f5, .int .u8 x.f6, .string x.f7] := by
 obtain ⟨_, _, rfl, rfl, ⟨_, _, rfl, rfl, ⟨_, _, rfl, rfl, ⟨_, _, rfl, rfl, ⟨_, _, rfl, rfl, ⟨_, _, rfl, rfl, ⟨_, _, rfl, rfl, rfl⟩⟩⟩⟩⟩⟩⟩ := h
 exact rfl
theorem k43_mk (w : World) (x : S43)  : k43.K w x [.int .i64 x.f0, .int .i64 x.f1, .int .u8 x.f2, .string x.f3, .int .i64 x.f4, .int .i64 x.f5, .int .u8 x.f6, .string x.f7] := ⟨[.int .i64 x.f0], [.int .i64 x.f1, .int .u8 x.f2, .string x.f3, .int .i64 x.f4, .int .i64 x.f5, .int .u8 x.f6, .string x.f7], rfl, rfl, ⟨[.int .i64 x.f1], [.int .u8 x.f2, .string x.f3, .int .i64 x.f4, .int .i64 x.f5, .int .u8 x.f6, .string x.f7], rfl, rfl, ⟨[.int .u8 x.f2], [.string x.f3, .int .i64 x.f4, .int .i64 x.f5, .int .u8 x.f6, .string x.f7], rfl, rfl, ⟨[.string x.f3], [.int .i64 x.f4, .int .i64 x.f5, .int .u8 x.f6, .string x.f7], rfl, rfl, ⟨[.int .i64 x.f4], [.int .i64 x.f5, .int .u8 x.f6, .string x.f7], rfl, rfl, ⟨[.int .i64 x.f5], [.int .u8 x.f6, .string x.f7], rfl, rfl, ⟨[.int .u8 x.f6], [.string x.f7], rfl, rfl, rfl⟩⟩⟩⟩⟩⟩⟩
theorem k43_mkM (w : World) (base : Nat) (ok : Nat → Prop) (x : S43)  : k43.M w base ok x [.int .i64 x.f0, .int .i64 x.f1, .int .u8 x.f2, .string x.f3, .int .i64 x.f4, .int .i64 x.f5, .int .u8 x.f6, .string x.f7] := ⟨[.int .i64 x.f0], [.int .i64 x.f1, .int .u8 x.f2, .string x.f3, .int .i64 x.f4, .int .i64 x.f5, .int .u8 x.f6, .string x.f7], rfl, rfl, ⟨[.int .i64 x.f1], [.int .u8 x.f2, .string x.f3, .int .i64 x.f4, .int .i64 x.f5, .int .u8 x.f6, .string x.f7], rfl, rfl, ⟨[.int .u8 x.f2], [.string x.f3, .int .i64 x.f4, .int .i64 x.f5, .int .u8 x.f6, .string x.f7], rfl, rfl, ⟨[.string x.f3], [.int .i64 x.f4, .int .i64 x.f5, .int .u8 x.f6, .string x.f7], rfl, rfl, ⟨[.int .i64 x.f4], [.int .i64 x.f5, .int .u8 x.f6, .string x.f7], rfl, rfl, ⟨[.int .i64 x.f5], [.int .u8 x.f6, .string x.f7], rfl, rfl, ⟨[.int .u8 x.f6], [.string x.f7], rfl, rfl, rfl⟩⟩⟩⟩⟩⟩⟩
theorem k43_mkF (W : World) (ok : Nat → Prop) (x : S43) : Kd.FK k43 W ok x [.int .i64 x.f0, .int .i64 x.f1, .int .u8 x.f2, .string x.f3, .int .i64 x.f4, .int .i64 x.f5, .int .u8 x.f6, .string x.f7] := fun W2 _ => k43_mk W2 x
def rd_T43 (xs : List S43) (i : Int) : S43 := xs.getD i.toNat z43
theorem at_T43 {w : World} {A : Option Addr} {n : Nat} {xs : List S43} (h : Kd.C k43 w A n xs) (i : Int) (h0 : 0 ≤ i) (h1 : i < n) : ∃ ad , A = some ad ∧ w.cell? (ad.add (i.toNat * 8)) = some (.int .i64 (rd_T43 xs i).f0) ∧ w.cell? ⟨(ad.add (i.toNat * 8)).block, (ad.add (i.toNat * 8)).off + 1, none⟩ = some (.int .i64 (rd_T43 xs i).f1) ∧ w.cell? ⟨(ad.add (i.toNat * 8)).block, (ad.add (i.toNat * 8)).off + 2, none⟩ = some (.int .u8 (rd_T43 xs i).f2) ∧ w.cell? ⟨(ad.add (i.toNat * 8)).block, (ad.add (i.toNat * 8)).off + 3, none⟩ = some (.string (rd_T43 xs i).f3) ∧ w.cell? ⟨(ad.add (i.toNat * 8)).block, (ad.add (i.toNat * 8)).off + 4, none⟩ = some (.int .i64 (rd_T43 xs i).f4) ∧ w.cell? ⟨(ad.add (i.toNat * 8)).block, (ad.add (i.toNat * 8)).off + 5, none⟩ = some (.int .i64 (rd_T43 xs i).f5) ∧ w.cell? ⟨(ad.add (i.toNat * 8)).block, (ad.add (i.toNat * 8)).off + 6, none⟩ = some (.int .u8 (rd_T43 xs i).f6) ∧ w.cell? ⟨(ad.add (i.toNat * 8)).block, (ad.add (i.toNat * 8)).off + 7, none⟩ = some (.string (rd_T43 xs i).f7) := by
 obtain ⟨ad, c, e, _, hK, hc0⟩ := Kd.C_get h z43 i h0 h1
 have hc : ∀ j u, c[j]? = some u → w.cell? (ad.add (i.toNat * 8 + j)) = some u := hc0
 obtain rfl := k43_open hK
 exact ⟨ad, e, hc 0 _ rfl, by rw [← add_field _ _ 1 (by omega)]; exact hc 1 _ rfl, by rw [← add_field _ _ 2 (by omega)]; exact hc 2 _ rfl, by rw [← add_field _ _ 3 (by omega)]; exact hc 3 _ rfl, by rw [← add_field _ _ 4 (by omega)]; exact hc 4 _ rfl, by rw [← add_field _ _ 5 (by omega)]; exact hc 5 _ rfl, by rw [← add_field _ _ 6 (by omega)]; exact hc 6 _ rfl, by rw [← add_field _ _ 7 (by omega)]; exact hc 7 _ rfl⟩

/-! #### struct type 129 -/
structure S129 where
 f0 : Int
 f1 : ByteArray
 f2 : S127
def z129 : S129 := ⟨(0 : Int), (⟨#[]⟩ : ByteArray), z127⟩
def k129 : Kd S129 := Kd.iso (Kd.pair (Kd.int .i64) (Kd.pair Kd.string k127)) (fun x : S129 => (x.f0, x.f1, x.f2))
theorem k129_open {w : World} {x : S129} {cs : List Value} (h : k129.K w x cs) : cs = [.int .i64 x.f0, .string x.f1, .int .u8 x.f2.f0, .int .i64 x.f2.f1, .string x.f2.f2] := by
 obtain ⟨_, _, rfl, rfl, ⟨_, _, rfl, rfl, s2⟩⟩ := h
 obtain rfl := k127_open s2
 exact rfl
theorem k129_openM {w : World} {base : Nat} {ok : Nat → Prop} {x : S129} {cs : List Value} (h : k129.M w base ok x cs) : cs = [.int .i64 x.f0, .string x.f1, .int .u8 x.f2.f0, .int .i64 x.f2.f1, .string x.f2.f2] := by
 obtain ⟨_, _, rfl, rfl, ⟨_, _, rfl, rfl, s2⟩⟩ := h
 obtain rfl := k127_openM s2
 exact rfl
theorem k129_mk (w : World) (x : S129)  : k129.K w x [.int .i64 x.f0, .string x.f1, .int .u8 x.f2.f0, .int .i64 x.f2.f1, .string x.f2.f2] := ⟨[.int .i64 x.f0], [.string x.f1, .int .u8 x.f2.f0, .int .i64 x.f2.f1, .string x.f2.f2], rfl, rfl, ⟨[.string x.f1], [.int .u8 x.f2.f0, .int .i64 x.f2.f1, .string x.f2.f2], rfl, rfl, (k127_mk w x.f2 )⟩⟩
theorem k129_mkM (w : World) (base : Nat) (ok : Nat → Prop) (x : S129)  : k129.M w base ok x [.int .i64 x.f0, .string x.f1, .int .u8 x.f2.f0, .int .i64 x.f2.f1, .string x.f2.f2] := ⟨[.int .i64 x.f0], [.string x.f1, .int .u8 x.f2.f0, .int .i64 x.f2.f1, .string x.f2.f2], rfl, rfl, ⟨[.string x.f1], [.int .u8 x.f2.f0, .int .i64 x.f2.f1, .string x.f2.f2], rfl, rfl, (k127_mkM w base ok x.f2 )⟩⟩
theorem k129_mkF (W : World) (ok : Nat → Prop) (x : S129) : Kd.FK k129 W ok x [.int .i64 x.f0, .string x.f1, .int .u8 x.f2.f0, .int .i64 x.f2.f1, .string x.f2.f2] := fun W2 _ => k129_mk W2 x
def rd_T129 (xs : List S129) (i : Int) : S129 := xs.getD i.toNat z129
theorem at_T129 {w : World} {A : Option Addr} {n : Nat} {xs : List S129} (h : Kd.C k129 w A n xs) (i : Int) (h0 : 0 ≤ i) (h1 : i < n) : ∃ ad , A = some ad ∧ w.cell? (ad.add (i.toNat * 5)) = some (.int .i64 (rd_T129 xs i).f0) ∧ w.cell? ⟨(ad.add (i.toNat * 5)).block, (ad.add (i.toNat * 5)).off + 1, none⟩ = some (.string (rd_T129 xs i).f1) ∧ w.cell? ⟨(ad.add (i.toNat * 5)).block, (ad.add (i.toNat * 5)).off + 2, none⟩ = some (.int .u8 (rd_T129 xs i).f2.f0) ∧ w.cell? ⟨(ad.add (i.toNat * 5)).block, (ad.add (i.toNat * 5)).off + 3, none⟩ = some (.int .i64 (rd_T129 xs i).f2.f1) ∧ w.cell? ⟨(ad.add (i.toNat * 5)).block, (ad.add (i.toNat * 5)).off + 4, none⟩ = some (.string (rd_T129 xs i).f2.f2) := by
 obtain ⟨ad, c, e, _, hK, hc0⟩ := Kd.C_get h z129 i h0 h1
 have hc : ∀ j u, c[j]? = some u → w.cell? (ad.add (i.toNat * 5 + j)) = some u := hc0
 obtain rfl := k129_open hK
 exact ⟨ad, e, hc 0 _ rfl, by rw [← add_field _ _ 1 (by omega)]; exact hc 1 _ rfl, by rw [← add_field _ _ 2 (by omega)]; exact hc 2 _ rfl, by rw [← add_field _ _ 3 (by omega)]; exact hc 3 _ rfl, by rw [← add_field _ _ 4 (by omega)]; exact hc 4 _ rfl⟩

/-! #### struct type 132 -/
structure S132 where
 f0 : Int
 f1 : Int
 f2 : Int
 f3 : Int
 f4 : ByteArray
 f5 : Int
 f6 : Bool
def z132 : S132 := ⟨(0 : Int), (0 : Int), (0 : Int), (0 : Int), (⟨#[]⟩ : ByteArray), (0 : Int), false⟩
def k132 : Kd S132 := Kd.iso (Kd.pair (Kd.int .i64) (Kd.pair (Kd.int .i64) (Kd.pair (Kd.int .i64) (Kd.pair (Kd.int .u8) (Kd.pair Kd.string (Kd.pair (Kd.int .i64) Kd.bool)))))) (fun x : S132 => (x.f0, x.f1, x.f2, x.f3, x.f4, x.f5, x.f6))
theorem k132_open {w : World} {x : S132} {cs : List Value} (h : k132.K w x cs) : cs = [.int .i64 x.f0, .int .i64 x.f1, .int .i64 x.f2, .int .u8 x.f3, .string x.f4, .int .i64 x.f5, .bool x.f6] := by
 obtain ⟨_, _, rfl, rfl, ⟨_, _, rfl, rfl, ⟨_, _, rfl, rfl, ⟨_, _, rfl, rfl, ⟨_, _, rfl, rfl, ⟨_, _, rfl, rfl, rfl⟩⟩⟩⟩⟩⟩ := h
 exact rfl
theorem k132_openM {w : World} {base : Nat} {ok : Nat → Prop} {x : S132} {cs : List Value} (h : k132.M w base ok x cs) : cs = [.int .i64 x.f0, .int .i64 x.f1, .int .i64 x.f2, .int .u8 x.f3, .string x.f4, .int .i64 x.f5, .bool x.f6] := by
 obtain ⟨_, _, rfl, rfl, ⟨_, _, rfl, rfl, ⟨_, _, rfl, rfl, ⟨_, _, rfl, rfl, ⟨_, _, rfl, rfl, ⟨_, _, rfl, rfl, rfl⟩⟩⟩⟩⟩⟩ := h
 exact rfl
theorem k132_mk (w : World) (x : S132)  : k132.K w x [.int .i64 x.f0, .int .i64 x.f1, .int .i64 x.f2, .int .u8 x.f3, .string x.f4, .int .i64 x.f5, .bool x.f6] := ⟨[.int .i64 x.f0], [.int .i64 x.f1, .int .i64 x.f2, .int .u8 x.f3, .string x.f4, .int .i64 x.f5, .bool x.f6], rfl, rfl, ⟨[.int .i64 x.f1], [.int .i64 x.f2, .int .u8 x.f3, .string x.f4, .int .i64 x.f5, .bool x.f6], rfl, rfl, ⟨[.int .i64 x.f2], [.int .u8 x.f3, .string x.f4, .int .i64 x.f5, .bool x.f6], rfl, rfl, ⟨[.int .u8 x.f3], [.string x.f4, .int .i64 x.f5, .bool x.f6], rfl, rfl, ⟨[.string x.f4], [.int .i64 x.f5, .bool x.f6], rfl, rfl, ⟨[.int .i64 x.f5], [.bool x.f6], rfl, rfl, rfl⟩⟩⟩⟩⟩⟩
theorem k132_mkM (w : World) (base : Nat) (ok : Nat → Prop) (x : S132)  : k132.M w base ok x [.int .i64 x.f0, .int .i64 x.f1, .int .i64 x.f2, .int .u8 x.f3, .string x.f4, .int .i64 x.f5, .bool x.f6] := ⟨[.int .i64 x.f0], [.int .i64 x.f1, .int .i64 x.f2, .int .u8 x.f3, .string x.f4, .int .i64 x.f5, .bool x.f6], rfl, rfl, ⟨[.int .i64 x.f1], [.int .i64 x.f2, .int .u8 x.f3, .string x.f4, .int .i64 x.f5, .bool x.f6], rfl, rfl, ⟨[.int .i64 x.f2], [.int .u8 x.f3, .string x.f4, .int .i64 x.f5, .bool x.f6], rfl, rfl, ⟨[.int .u8 x.f3], [.string x.f4, .int .i64 x.f5, .bool x.f6], rfl, rfl, ⟨[.string x.f4], [.int .i64 x.f5, .bool x.f6], rfl, rfl, ⟨[.int .i64 x.f5], [.bool x.f6], rfl, rfl, rfl⟩⟩⟩⟩⟩⟩
theorem k132_mkF (W : World) (ok : Nat → Prop) (x : S132) : Kd.FK k132 W ok x [.int .i64 x.f0, .int .i64 x.f1, .int .i64 x.f2, .int .u8 x.f3, .string x.f4, .int .i64 x.f5, .bool x.f6] := fun W2 _ => k132_mk W2 x
def rd_T132 (xs : List S132) (i : Int) : S132 := xs.getD i.toNat z132
theorem at_T132 {w : World} {A : Option Addr} {n : Nat} {xs : List S132} (h : Kd.C k132 w A n xs) (i : Int) (h0 : 0 ≤ i) (h1 : i < n) : ∃ ad , A = some ad ∧ w.cell? (ad.add (i.toNat * 7)) = some (.int .i64 (rd_T132 xs i).f0) ∧ w.cell? ⟨(ad.add (i.toNat * 7)).block, (ad.add (i.toNat * 7)).off + 1, none⟩ = some (.int .i64 (rd_T132 xs i).f1) ∧ w.cell? ⟨(ad.add (i.toNat * 7)).block, (ad.add (i.toNat * 7)).off + 2, none⟩ = some (.int .i64 (rd_T132 xs i).f2) ∧ w.cell? ⟨(ad.add (i.toNat * 7)).block, (ad.add (i.toNat * 7)).off + 3, none⟩ = some (.int .u8 (rd_T132 xs i).f3) ∧ w.cell? ⟨(ad.add (i.toNat * 7)).block, (ad.add (i.toNat * 7)).off + 4, none⟩ = some (.string (rd_T132 xs i).f4) ∧ w.cell? ⟨(ad.add (i.toNat * 7)).block, (ad.add (i.toNat * 7)).off + 5, none⟩ = some (.int .i64 (rd_T132 xs i).f5) ∧ w.cell? ⟨(ad.add (i.toNat * 7)).block, (ad.add (i.toNat * 7)).off + 6, none⟩ = some (.bool (rd_T132 xs i).f6) := by
 obtain ⟨ad, c, e, _, hK, hc0⟩ := Kd.C_get h z132 i h0 h1
 have hc : ∀ j u, c[j]? = some u → w.cell? (ad.add (i.toNat * 7 + j)) = some u := hc0
 obtain rfl := k132_open hK
 exact ⟨ad, e, hc 0 _ rfl, by rw [← add_field _ _ 1 (by omega)]; exact hc 1 _ rfl, by rw [← add_field _ _ 2 (by omega)]; exact hc 2 _ rfl, by rw [← add_field _ _ 3 (by omega)]; exact hc 3 _ rfl, by rw [← add_field _ _ 4 (by omega)]; exact hc 4 _ rfl, by rw [← add_field _ _ 5 (by omega)]; exact hc 5 _ rfl, by rw [← add_field _ _ 6 (by omega)]; exact hc 6 _ rfl⟩

end Go.Proofs.Ythonmfcollafkaa.P
-- GENERATED by wip/gen.py (this session's own driver of a mended copy of the printer). Not trusted: Lean checks it.
namespace Go.Proofs.Ythonmfcollafkaa.P
open Go.RowKit Go.Proofs.YthonmfcollafkaaW.PrintWords Go.Proofs.YthonmfcollafkaaW.PrintLast Go.Proofs.YthonmfcollafkaaW.PrintMore
attribute [local go_sem] Go.Proofs.YthonmfcollafkaaB.less_swap Go.Proofs.YthonmfcollafkaaB.less_or max2_int min2_int max_two min_two max_three min_three max_four min_four   -- for this text's walks alone
set_option linter.unusedVariables false
set_option linter.unusedSimpArgs false

theorem eqA127 (d : Nat) (w : World) (x0 y0 : Int) (x1 y1 : Int) (x2 y2 : ByteArray) :
  (Op.equalIn (d + 2) 127 (.agg #[.int .u8 x0, .int .i64 x1, .string x2]) (.agg #[.int .u8 y0, .int .i64 y1, .string y2])).run Try.prog w = .ok (x0 == y0 && (x1 == y1 && (x2.toList == y2.toList))) w := by
 refine eqA_of Try.underlying127 (by kernel_rfl) ?_
 refine eqf_cons (by rfl) (by go_simp; rfl) (by go_simp; rfl) (by go_simp) ?_
 refine eqf_cons (by rfl) (by go_simp; rfl) (by go_simp; rfl) (by go_simp) ?_
 exact eqf_last (by rfl) (by go_simp; rfl) (by go_simp; rfl) (by go_simp)
theorem eqA129 (d : Nat) (w : World) (x0 y0 : Int) (x1 y1 : ByteArray) (x2 y2 : Int) (x3 y3 : Int) (x4 y4 : ByteArray) :
  (Op.equalIn (d + 3) 129 (.agg #[.int .i64 x0, .string x1, .int .u8 x2, .int .i64 x3, .string x4]) (.agg #[.int .i64 y0, .string y1, .int .u8 y2, .int .i64 y3, .string y4])).run Try.prog w = .ok (x0 == y0 && (x1.toList == y1.toList && ((x2 == y2 && (x3 == y3 && (x4.toList == y4.toList)))))) w := by
 refine eqA_of Try.underlying129 (by kernel_rfl) ?_
 refine eqf_cons (by rfl) (by go_simp; rfl) (by go_simp; rfl) (by go_simp) ?_
 refine eqf_cons (by rfl) (by go_simp; rfl) (by go_simp; rfl) (by go_simp) ?_
 exact eqf_last (by rfl) (by go_simp) (by go_simp) (eqA127 (d + 0) w _ _ _ _ _ _)
end Go.Proofs.Ythonmfcollafkaa.P
-- GENERATED by wip/gen.py (this session's own driver of a mended copy of the printer). Not trusted: Lean checks it.
namespace Go.Proofs.Ythonmfcollafkaa.P
open Go.RowKit Go.Proofs.YthonmfcollafkaaW.PrintWords Go.Proofs.YthonmfcollafkaaW.PrintLast Go.Proofs.YthonmfcollafkaaW.PrintMore
attribute [local go_sem] Go.Proofs.YthonmfcollafkaaB.less_swap Go.Proofs.YthonmfcollafkaaB.less_or max2_int min2_int max_two min_two max_three min_three max_four min_four   -- for this text's walks alone
set_option linter.unusedVariables false
set_option linter.unusedSimpArgs false

theorem eqA158 (d : Nat) (w : World) (x0 y0 : ByteArray) (x1 y1 : Int) (x2 y2 : Int) (x3 y3 : ByteArray) :
  (Op.equalIn (d + 3) 158 (.agg #[.string x0, .int .u8 x1, .int .i64 x2, .string x3]) (.agg #[.string y0, .int .u8 y1, .int .i64 y2, .string y3])).run Try.prog w = .ok (x0.toList == y0.toList && ((x1 == y1 && (x2 == y2 && (x3.toList == y3.toList))))) w := by
 refine eqA_of Try.underlying158 (by kernel_rfl) ?_
 refine eqf_cons (by rfl) (by go_simp; rfl) (by go_simp; rfl) (by go_simp) ?_
 exact eqf_last (by rfl) (by go_simp) (by go_simp) (eqA127 (d + 0) w _ _ _ _ _ _)
end Go.Proofs.Ythonmfcollafkaa.P
-- GENERATED by wip/gen.py (this session's own driver of a mended copy of the printer). Not trusted: Lean checks it.
namespace Go.Proofs.Ythonmfcollafkaa.P
open Go.RowKit Go.Proofs.YthonmfcollafkaaW.PrintWords Go.Proofs.YthonmfcollafkaaW.PrintLast Go.Proofs.YthonmfcollafkaaW.PrintMore
attribute [local go_sem] Go.Proofs.YthonmfcollafkaaB.less_swap Go.Proofs.YthonmfcollafkaaB.less_or max2_int min2_int max_two min_two max_three min_three max_four min_four   -- for this text's walks alone
set_option linter.unusedVariables false
set_option linter.unusedSimpArgs false

attribute [local go_sem high] eqA158
/-! ### callboardref14_vars: function 145 -/
def callboardref14_vars.l0 : Nat → List (S158) → List (S158) → Int → Option (Bool)
 | 0, _, _, _ => none
 | k + 1, x0, x1, x5 => if x5 < (x0.length : Int) then (if 0 ≤ x5 then (if x5 < (x1.length : Int) then (if (!((((rd_T158 x0 x5).f0).toList) == (((rd_T158 x1 x5).f0).toList)) || ((!(((rd_T158 x0 x5).f1.f0) == ((rd_T158 x1 x5).f1.f0)) || (!(((rd_T158 x0 x5).f1.f1) == ((rd_T158 x1 x5).f1.f1)) || (!((((rd_T158 x0 x5).f1.f2).toList) == (((rd_T158 x1 x5).f1.f2).toList))))))) = true then (some false) else (callboardref14_vars.l0 k x0 x1 (wrap64 (x5 + 1)))) else (none)) else (none)) else (some true)
def callboardref14_vars.f (k : Nat) (l0 : List (S158)) (l1 : List (S158)) : Option (Bool) := if (l0.length : Int) = (l1.length : Int) then (callboardref14_vars.l0 k l0 l1 0) else (some false)
set_option maxHeartbeats 8000000 in
set_option maxRecDepth 100000 in
theorem callboardref14_vars.calls (k : Nat) (A0 : Option Addr) (c0 : Nat) (l0 : List (S158)) (A1 : Option Addr) (c1 : Nat) (l1 : List (S158)) (r : Bool) (w : World) (hr0 : Kd.C k158 w A0 l0.length l0) (hc0 : l0.length ≤ c0) (hr1 : Kd.C k158 w A1 l1.length l1) (hc1 : l1.length ≤ c1) (h : callboardref14_vars.f k l0 l1 = some r) (hT : Aside0 (r = true)) :
  Calls Try.prog 145 #[.slice A0 l0.length c0, .slice A1 l1.length c1] w fun e w' => e = .returned (.bool r) ∧ Drawn0 w w' := by
 have hu158 := Try.underlying158
 have HR0 := Aside0.mk hr0
 have HC0 := Aside0.mk hc0
 clear hr0 hc0
 have HR1 := Aside0.mk hr1
 have HC1 := Aside0.mk hc1
 clear hr1 hc1
 have H : (if (l0.length : Int) = (l1.length : Int) then (callboardref14_vars.l0 k l0 l1 0) else (some false)) = some r := h
 clear h
 by_cases c3 : (l0.length : Int) = (l1.length : Int)
 ·rw [if_pos c3] at H
  have c3b0 : ((l0.length : Int) == (l1.length : Int)) = true := beq_iff_eq.mpr c3
  have c3b1 : ((l0.length : Int) != (l1.length : Int)) = false := bne_eq_false_iff_eq.mpr c3
  have c3b2 : (l0.length == l1.length) = true := by first | simpa using c3 | (simp at c3 ⊢; omega)
  clear c3
  have H' := Aside0.mk H
  clear H
  go_enter Try.func145, Try.ntmps145
  go_wp2
  repeat (go_quiet (fail); try go_wp2)
  go_loopg [5] k (fun kq v5 w' => ∃ (x5_1 : Int), v5 = .int .i64 x5_1 ∧ Aside0 (callboardref14_vars.l0 kq l0 l1 x5_1 = some r) ∧ Aside0 (kq ≤ k) ∧ Drawn0 w w')
  case atStart => exact ⟨(0), (by first | rfl | (simp; done) | (simp [*]; done)), H', ⟨Nat.le_refl _⟩, by repeat (first | exact Drawn0.refl _ | apply Drawn0.step)⟩
  case round =>
   clear H'
   try clear c1
   try clear p2
   try clear c3
   try clear c3b0
   try clear c3b1
   try clear c3b2
   obtain ⟨x5_1, rfl, HA, HK1, ⟨m1, rfl⟩⟩ := hrel
   cases gk with
   | zero => exact absurd HA.out (by simp [callboardref14_vars.l0])
   | succ k1 =>
    have H := HA.out
    clear HA
    simp only [callboardref14_vars.l0] at H
    by_cases c4 : x5_1 < (l0.length : Int)
    ·rw [if_pos c4] at H
     have c4b0 : decide (x5_1 < (l0.length : Int)) = true := decide_eq_true c4
     clear c4
     by_cases c5 : 0 ≤ x5_1
     ·rw [if_pos c5] at H
      have c5b0 : decide (0 ≤ x5_1) = true := decide_eq_true c5
      clear c5
      by_cases c6 : x5_1 < (l1.length : Int)
      ·rw [if_pos c6] at H
       have c6b0 : decide (x5_1 < (l1.length : Int)) = true := decide_eq_true c6
       clear c6
       by_cases c7 : (!((((rd_T158 l0 x5_1).f0).toList) == (((rd_T158 l1 x5_1).f0).toList)) || ((!(((rd_T158 l0 x5_1).f1.f0) == ((rd_T158 l1 x5_1).f1.f0)) || (!(((rd_T158 l0 x5_1).f1.f1) == ((rd_T158 l1 x5_1).f1.f1)) || (!((((rd_T158 l0 x5_1).f1.f2).toList) == (((rd_T158 l1 x5_1).f1.f2).toList))))))) = true
       ·rw [if_pos c7] at H
        exact absurd (H.trans (congrArg some hT.out)) (by decide)
       ·rw [if_neg c7] at H
        have c7b0 : (!((((rd_T158 l0 x5_1).f0).toList) == (((rd_T158 l1 x5_1).f0).toList)) || ((!(((rd_T158 l0 x5_1).f1.f0) == ((rd_T158 l1 x5_1).f1.f0)) || (!(((rd_T158 l0 x5_1).f1.f1) == ((rd_T158 l1 x5_1).f1.f1)) || (!((((rd_T158 l0 x5_1).f1.f2).toList) == (((rd_T158 l1 x5_1).f1.f2).toList))))))) = false := by simpa using c7
        clear c7
        have H' := Aside0.mk H
        clear H
        have p281 : 0 ≤ (x5_1 : Int) := of_decide_eq_true (by first | (with_reducible assumption) | assumption)
        have q281 : x5_1 < (l0.length : Int) := of_decide_eq_true (by first | (with_reducible assumption) | assumption)
        obtain ⟨ad281, e281, hx281_0, hx281_1, hx281_2, hx281_3⟩ := at_T158 HR0.out x5_1 p281 q281
        cases e281
        replace p281 := eq_true p281
        replace q281 := eq_true q281
        have p282 : 0 ≤ (x5_1 : Int) := of_decide_eq_true (by first | (with_reducible assumption) | assumption)
        have q282 : x5_1 < (l1.length : Int) := of_decide_eq_true (by first | (with_reducible assumption) | assumption)
        obtain ⟨ad282, e282, hx282_0, hx282_1, hx282_2, hx282_3⟩ := at_T158 HR1.out x5_1 p282 q282
        cases e282
        replace p282 := eq_true p282
        replace q282 := eq_true q282
        go_wp2
        repeat (go_quiet (fail); try go_wp2)
        go_roundg k1
        case measure => have := HK1.out; omega
        case rel => exact ⟨(wrap64 (x5_1 + 1)), (by first | rfl | (simp; done) | (simp [*]; done)), H', ⟨by have := HK1.out; omega⟩, by repeat (first | exact Drawn0.refl _ | apply Drawn0.step)⟩
      ·rw [if_neg c6] at H
       exact absurd H (by simp)
     ·rw [if_neg c5] at H
      exact absurd H (by simp)
    ·rw [if_neg c4] at H
     have c4b0 : decide (x5_1 < (l0.length : Int)) = false := decide_eq_false c4
     clear c4
     obtain rfl := Option.some.inj H
     go_wp2
     repeat (go_quiet (fail); try go_wp2)
     go_ret
     exact ⟨by first | rfl | (simp; done) | (simp [*]; done), by repeat (first | exact Drawn0.refl _ | apply Drawn0.step)⟩
 ·rw [if_neg c3] at H
  exact absurd (H.trans (congrArg some hT.out)) (by decide)

end Go.Proofs.Ythonmfcollafkaa.P
-- GENERATED by wip/gen.py (this session's own driver of a mended copy of the printer). Not trusted: Lean checks it.
namespace Go.Proofs.Ythonmfcollafkaa.P
open Go.RowKit Go.Proofs.YthonmfcollafkaaW.PrintWords Go.Proofs.YthonmfcollafkaaW.PrintLast Go.Proofs.YthonmfcollafkaaW.PrintMore
attribute [local go_sem] Go.Proofs.YthonmfcollafkaaB.less_swap Go.Proofs.YthonmfcollafkaaB.less_or max2_int min2_int max_two min_two max_three min_three max_four min_four   -- for this text's walks alone
set_option linter.unusedVariables false
set_option linter.unusedSimpArgs false

/-! ### callboardref14_Texts: function 146 -/
def callboardref14_Texts.l0 : Nat → List ByteArray → List ByteArray → Int → Option (Bool)
 | 0, _, _, _ => none
 | k + 1, x0, x1, x5 => if x5 < (x0.length : Int) then (if 0 ≤ x5 then (if x5 < (x1.length : Int) then (if (rdOf ByteArray.empty x0 x5).toList = (rdOf ByteArray.empty x1 x5).toList then (callboardref14_Texts.l0 k x0 x1 (wrap64 (x5 + 1))) else (some false)) else (none)) else (none)) else (some true)
def callboardref14_Texts.f (k : Nat) (l0 : List ByteArray) (l1 : List ByteArray) : Option (Bool) := if (l0.length : Int) = (l1.length : Int) then (callboardref14_Texts.l0 k l0 l1 0) else (some false)
set_option maxHeartbeats 8000000 in
set_option maxRecDepth 100000 in
theorem callboardref14_Texts.calls (k : Nat) (A0 : Option Addr) (c0 : Nat) (l0 : List ByteArray) (A1 : Option Addr) (c1 : Nat) (l1 : List ByteArray) (r : Bool) (w : World) (hr0 : Kd.C Kd.string w A0 l0.length l0) (hc0 : l0.length ≤ c0) (hr1 : Kd.C Kd.string w A1 l1.length l1) (hc1 : l1.length ≤ c1) (h : callboardref14_Texts.f k l0 l1 = some r) (hT : Aside0 (r = true)) :
  Calls Try.prog 146 #[.slice A0 l0.length c0, .slice A1 l1.length c1] w fun e w' => e = .returned (.bool r) ∧ Drawn0 w w' := by
 have HR0 := Aside0.mk hr0
 have HC0 := Aside0.mk hc0
 clear hr0 hc0
 have HR1 := Aside0.mk hr1
 have HC1 := Aside0.mk hc1
 clear hr1 hc1
 have H : (if (l0.length : Int) = (l1.length : Int) then (callboardref14_Texts.l0 k l0 l1 0) else (some false)) = some r := h
 clear h
 by_cases c3 : (l0.length : Int) = (l1.length : Int)
 ·rw [if_pos c3] at H
  have c3b0 : ((l0.length : Int) == (l1.length : Int)) = true := beq_iff_eq.mpr c3
  have c3b1 : ((l0.length : Int) != (l1.length : Int)) = false := bne_eq_false_iff_eq.mpr c3
  have c3b2 : (l0.length == l1.length) = true := by first | simpa using c3 | (simp at c3 ⊢; omega)
  clear c3
  have H' := Aside0.mk H
  clear H
  go_enter Try.func146, Try.ntmps146
  go_wp2
  repeat (go_quiet (fail); try go_wp2)
  go_loopg [5] k (fun kq v5 w' => ∃ (x5_1 : Int), v5 = .int .i64 x5_1 ∧ Aside0 (callboardref14_Texts.l0 kq l0 l1 x5_1 = some r) ∧ Aside0 (kq ≤ k) ∧ Drawn0 w w')
  case atStart => exact ⟨(0), (by first | rfl | (simp; done) | (simp [*]; done)), H', ⟨Nat.le_refl _⟩, by repeat (first | exact Drawn0.refl _ | apply Drawn0.step)⟩
  case round =>
   clear H'
   try clear c1
   try clear p2
   try clear c3
   try clear c3b0
   try clear c3b1
   try clear c3b2
   obtain ⟨x5_1, rfl, HA, HK1, ⟨m1, rfl⟩⟩ := hrel
   cases gk with
   | zero => exact absurd HA.out (by simp [callboardref14_Texts.l0])
   | succ k1 =>
    have H := HA.out
    clear HA
    simp only [callboardref14_Texts.l0] at H
    by_cases c4 : x5_1 < (l0.length : Int)
    ·rw [if_pos c4] at H
     have c4b0 : decide (x5_1 < (l0.length : Int)) = true := decide_eq_true c4
     clear c4
     by_cases c5 : 0 ≤ x5_1
     ·rw [if_pos c5] at H
      have c5b0 : decide (0 ≤ x5_1) = true := decide_eq_true c5
      clear c5
      by_cases c6 : x5_1 < (l1.length : Int)
      ·rw [if_pos c6] at H
       have c6b0 : decide (x5_1 < (l1.length : Int)) = true := decide_eq_true c6
       clear c6
       by_cases c7 : (rdOf ByteArray.empty l0 x5_1).toList = (rdOf ByteArray.empty l1 x5_1).toList
       ·rw [if_pos c7] at H
        have c7b0 : ((rdOf ByteArray.empty l0 x5_1).toList == (rdOf ByteArray.empty l1 x5_1).toList) = true := beq_iff_eq.mpr c7
        have c7b1 : ((rdOf ByteArray.empty l0 x5_1).toList != (rdOf ByteArray.empty l1 x5_1).toList) = false := bne_eq_false_iff_eq.mpr c7
        clear c7
        have H' := Aside0.mk H
        clear H
        have p283 : 0 ≤ (x5_1 : Int) := of_decide_eq_true (by first | (with_reducible assumption) | assumption)
        have q283 : x5_1 < (l0.length : Int) := of_decide_eq_true (by first | (with_reducible assumption) | assumption)
        obtain ⟨ad283, e283, hx283_0⟩ := Kd.at_string HR0.out x5_1 p283 q283
        cases e283
        replace p283 := eq_true p283
        replace q283 := eq_true q283
        have p284 : 0 ≤ (x5_1 : Int) := of_decide_eq_true (by first | (with_reducible assumption) | assumption)
        have q284 : x5_1 < (l1.length : Int) := of_decide_eq_true (by first | (with_reducible assumption) | assumption)
        obtain ⟨ad284, e284, hx284_0⟩ := Kd.at_string HR1.out x5_1 p284 q284
        cases e284
        replace p284 := eq_true p284
        replace q284 := eq_true q284
        go_wp2
        repeat (go_quiet (fail); try go_wp2)
        go_roundg k1
        case measure => have := HK1.out; omega
        case rel => exact ⟨(wrap64 (x5_1 + 1)), (by first | rfl | (simp; done) | (simp [*]; done)), H', ⟨by have := HK1.out; omega⟩, by repeat (first | exact Drawn0.refl _ | apply Drawn0.step)⟩
       ·rw [if_neg c7] at H
        exact absurd (H.trans (congrArg some hT.out)) (by decide)
      ·rw [if_neg c6] at H
       exact absurd H (by simp)
     ·rw [if_neg c5] at H
      exact absurd H (by simp)
    ·rw [if_neg c4] at H
     have c4b0 : decide (x5_1 < (l0.length : Int)) = false := decide_eq_false c4
     clear c4
     obtain rfl := Option.some.inj H
     go_wp2
     repeat (go_quiet (fail); try go_wp2)
     go_ret
     exact ⟨by first | rfl | (simp; done) | (simp [*]; done), by repeat (first | exact Drawn0.refl _ | apply Drawn0.step)⟩
 ·rw [if_neg c3] at H
  exact absurd (H.trans (congrArg some hT.out)) (by decide)

end Go.Proofs.Ythonmfcollafkaa.P
-- GENERATED by wip/gen.py (this session's own driver of a mended copy of the printer). Not trusted: Lean checks it.
namespace Go.Proofs.Ythonmfcollafkaa.P
open Go.RowKit Go.Proofs.YthonmfcollafkaaW.PrintWords Go.Proofs.YthonmfcollafkaaW.PrintLast Go.Proofs.YthonmfcollafkaaW.PrintMore
attribute [local go_sem] Go.Proofs.YthonmfcollafkaaB.less_swap Go.Proofs.YthonmfcollafkaaB.less_or max2_int min2_int max_two min_two max_three min_three max_four min_four   -- for this text's walks alone
set_option linter.unusedVariables false
set_option linter.unusedSimpArgs false

theorem eqA66 (d : Nat) (w : World) (x0 y0 : Int) (x1 y1 : Int) (x2 y2 : ByteArray) (x3 y3 : Bool) :
  (Op.equalIn (d + 2) 66 (.agg #[.int .i64 x0, .int .i64 x1, .string x2, .bool x3]) (.agg #[.int .i64 y0, .int .i64 y1, .string y2, .bool y3])).run Try.prog w = .ok (x0 == y0 && (x1 == y1 && (x2.toList == y2.toList && (x3 == y3)))) w := by
 refine eqA_of Try.underlying66 (by kernel_rfl) ?_
 refine eqf_cons (by rfl) (by go_simp; rfl) (by go_simp; rfl) (by go_simp) ?_
 refine eqf_cons (by rfl) (by go_simp; rfl) (by go_simp; rfl) (by go_simp) ?_
 refine eqf_cons (by rfl) (by go_simp; rfl) (by go_simp; rfl) (by go_simp) ?_
 exact eqf_last (by rfl) (by go_simp; rfl) (by go_simp; rfl) (by go_simp)
end Go.Proofs.Ythonmfcollafkaa.P
/- Places in rows: slices.IndexFunc (by hand: it calls a closure). -/
namespace Go.Proofs.Ythonmfcollafkaa.P
open Go.RowKit Go.Proofs.YthonmfcollafkaaW.PrintWords Go.Proofs.YthonmfcollafkaaW.PrintLast Go.Proofs.YthonmfcollafkaaW.PrintMore
set_option linter.unusedVariables false
set_option linter.unusedSimpArgs false

def idxI {α : Type} (p : α → Bool) (l : List α) : Int := if l.findIdx p < l.length then (l.findIdx p : Int) else -1
theorem idxI_at {α : Type} (p : α → Bool) (l : List α) (i : Nat) (hi : i < l.length) (h : p l[i] = true) (h' : ∀ j, (hj : j < l.length) → j < i → p l[j] = false) : idxI p l = (i : Int) := by
  have := (List.findIdx_eq hi).2 ⟨h, fun j hj => h' j (by omega) hj⟩
  unfold idxI
  rw [this, if_pos hi]
theorem idxI_none {α : Type} (p : α → Bool) (l : List α) (h : ∀ j, (hj : j < l.length) → p l[j] = false) : idxI p l = -1 := by
  have : l.findIdx p = l.length := List.findIdx_eq_length.2 (fun x hx => by
    obtain ⟨j, hj, rfl⟩ := List.getElem_of_mem hx
    exact h j hj)
  unfold idxI
  rw [this, if_neg (Nat.lt_irrefl _)]
theorem cell_old {w : World} {b : Nat} {v : Value} {t : TypeId} (h : w.heap[b]? = some (.cells #[v] t (0, 0))) : w.cell? ⟨b, 0, none⟩ = some v := (blk_cell h 0).trans rfl

set_option maxHeartbeats 1000000 in
theorem clo124 (x : S43) (id : Int) (bq : Nat) (w : World) (hq : w.heap[bq]? = some (.cells #[.int .i64 id] 3 (0, 0))) :
    Calls Try.prog 124 #[.agg #[.int .i64 x.f0, .int .i64 x.f1, .int .u8 x.f2, .string x.f3, .int .i64 x.f4, .int .i64 x.f5, .int .u8 x.f6, .string x.f7], .pointer (some ⟨bq, 0, none⟩)] w fun e w' => e = .returned (.bool (x.f0 == id)) ∧ Below w.heap.size w w' := by
  have hu := Try.underlying43
  have hc := cell_old hq
  have hlt := blk_lt hq
  clear hq
  go_enter Try.func124, Try.ntmps124
  go_wp2
  go_ret
  exact ⟨rfl, (Below.refl _ _).alloc (Nat.le_refl _) _⟩
set_option maxHeartbeats 2000000 in
set_option maxRecDepth 100000 in
/-- slices.IndexFunc: function 123, with the closure 124. -/
theorem index_123_124 (A0 : Option Addr) (c0 : Nat) (l0 : List S43) (bq : Nat) (p : S43 → Bool) (w : World) (hr0 : Kd.C k43 w A0 l0.length l0) (hc0 : l0.length ≤ c0) (hlen : l0.length ≤ 1000000000) (hp : ∀ W (x : S43), x ∈ l0 → Below w.heap.size w W → Calls Try.prog 124 #[.agg #[.int .i64 x.f0, .int .i64 x.f1, .int .u8 x.f2, .string x.f3, .int .i64 x.f4, .int .i64 x.f5, .int .u8 x.f6, .string x.f7], .pointer (some ⟨bq, 0, none⟩)] W fun e W' => e = .returned (.bool (p x)) ∧ Below W.heap.size W W') :
    Calls Try.prog 123 #[.slice A0 l0.length c0, .func (.func 124) #[] #[.pointer (some ⟨bq, 0, none⟩)]] w fun e w' => e = .returned (.int .i64 (idxI p l0)) ∧ Below w.heap.size w w' := by
  have hu := Try.underlying43
  have hm : l0.length ≤ 9223372036854775807 := hr0.2.1
  have HR := Aside0.mk hr0
  have HP0 := Aside0.mk hp
  clear hr0 hp
  go_enter Try.func123, Try.ntmps123
  go_wp2
  go_loopw [8] (fun v8 w' => ∃ i : Nat, v8 = .int .i64 i ∧ i ≤ l0.length ∧ Aside0 (∀ j, (hj : j < l0.length) → j < i → p l0[j] = false) ∧ Aside0 (Below w.heap.size w w')) (fun v8 _ => l0.length - (intOf v8).toNat)
  case atStart => exact ⟨0, rfl, Nat.zero_le _, ⟨fun j hj h => absurd h (Nat.not_lt_zero _)⟩, ⟨Below.refl _ _⟩⟩
  case round =>
    obtain ⟨i, rfl, hi, HP, HB⟩ := hrel
    by_cases hlt : i < l0.length
    · have h1 : 0 ≤ ((i : Nat) : Int) := by omega
      have h2 : ((i : Nat) : Int) < (l0.length : Int) := by omega
      obtain ⟨ad, e, hx0, hx1, hx2, hx3, hx4, hx5, hx6, hx7⟩ := at_T43 HR.out _ h1 h2
      cases e
      replace hx0 := (HB.out.cell (World.block_lt_of_cell? w _ hx0)).trans hx0
      replace hx1 := (HB.out.cell (World.block_lt_of_cell? w _ hx1)).trans hx1
      replace hx2 := (HB.out.cell (World.block_lt_of_cell? w _ hx2)).trans hx2
      replace hx3 := (HB.out.cell (World.block_lt_of_cell? w _ hx3)).trans hx3
      replace hx4 := (HB.out.cell (World.block_lt_of_cell? w _ hx4)).trans hx4
      replace hx5 := (HB.out.cell (World.block_lt_of_cell? w _ hx5)).trans hx5
      replace hx6 := (HB.out.cell (World.block_lt_of_cell? w _ hx6)).trans hx6
      replace hx7 := (HB.out.cell (World.block_lt_of_cell? w _ hx7)).trans hx7
      simp only [Int.toNat_natCast] at hx0 hx1 hx2 hx3 hx4 hx5 hx6 hx7
      have hrd : rd_T43 l0 (i : Int) = l0[i] := by unfold rd_T43; simp [List.getD_eq_getElem?_getD, hlt]
      rw [hrd] at hx0 hx1 hx2 hx3 hx4 hx5 hx6 hx7
      clear hrd
      cases hq : p l0[i] with
      | true =>
        have HQ := Aside0.mk hq
        clear hq
        go_wp2_with (go_at_call 124; refine (HP0.out _ l0[i] (List.getElem_mem hlt) HB.out).mono ?_; rintro e w1 ⟨rfl, hb⟩; replace HB := Aside0.mk (below_step HB.out hb); clear hb; rw [HQ.out])
        go_ret
        refine ⟨?_, HB.out⟩
        have hf : idxI p l0 = (i : Int) := idxI_at _ l0 i hlt HQ.out (fun j hj h => HP.out j hj h)
        rw [hf]
        rfl
      | false =>
        have HQ := Aside0.mk hq
        clear hq
        go_wp2_with (go_at_call 124; refine (HP0.out _ l0[i] (List.getElem_mem hlt) HB.out).mono ?_; rintro e w1 ⟨rfl, hb⟩; replace HB := Aside0.mk (below_step HB.out hb); clear hb; rw [HQ.out])
        go_roundw
        case rel => exact ⟨i + 1, by go_num, by omega, ⟨fun j hj h => by
          by_cases e : j = i
          · subst e; exact HQ.out
          · exact HP.out j hj (by omega)⟩, ⟨HB.out⟩⟩
        case measure => simp [intOf]; omega
    · go_wp2
      go_ret
      refine ⟨?_, HB.out⟩
      have hf : idxI p l0 = -1 := idxI_none _ l0 (fun j hj => HP.out j hj (by omega))
      rw [hf]
      rfl

/-- arena.place: function 64 (by hand: it makes a closure). -/
def arena_place.f (a0_0 : Int) (a0_1 : Int) (l0_2 : List (S34)) (l0_3 : List (S43)) (l0_4 : List (S129)) (l0_5 : List (S132)) (a1 : Int) : Option (Int) := if l0_3.length ≤ 1000000000 then some (idxI (fun x : S43 => x.f0 == a1) l0_3) else none
theorem blk_new2 (w : World) (o o' : Obj) : ((w.alloc o).alloc o').heap[w.heap.size + 1]? = some o' := by
  have := blk_new (w.alloc o) o'
  rwa [World.size_alloc] at this
set_option maxHeartbeats 2000000 in
set_option maxRecDepth 100000 in
theorem arena_place.calls (a0_0 : Int) (a0_1 : Int) (A0_2 : Option Addr) (c0_2 : Nat) (l0_2 : List (S34)) (A0_3 : Option Addr) (c0_3 : Nat) (l0_3 : List (S43)) (A0_4 : Option Addr) (c0_4 : Nat) (l0_4 : List (S129)) (A0_5 : Option Addr) (c0_5 : Nat) (l0_5 : List (S132)) (a1 : Int) (r : Int) (w : World) (hr0_2 : Kd.C k34 w A0_2 l0_2.length l0_2) (hc0_2 : l0_2.length ≤ c0_2) (hr0_3 : Kd.C k43 w A0_3 l0_3.length l0_3) (hc0_3 : l0_3.length ≤ c0_3) (hr0_4 : Kd.C k129 w A0_4 l0_4.length l0_4) (hc0_4 : l0_4.length ≤ c0_4) (hr0_5 : Kd.C k132 w A0_5 l0_5.length l0_5) (hc0_5 : l0_5.length ≤ c0_5) (h : arena_place.f a0_0 a0_1 l0_2 l0_3 l0_4 l0_5 a1 = some r) :
    Calls Try.prog 64 #[.agg #[.int .i64 a0_0, .int .i64 a0_1, .slice A0_2 l0_2.length c0_2, .slice A0_3 l0_3.length c0_3, .slice A0_4 l0_4.length c0_4, .slice A0_5 l0_5.length c0_5], .int .i64 a1] w fun e w' => e = .returned (.int .i64 r) ∧ Below w.heap.size w w' := by
  unfold arena_place.f at h
  by_cases hl : l0_3.length ≤ 1000000000
  case neg => rw [if_neg hl] at h; cases h
  rw [if_pos hl] at h
  obtain rfl := Option.some.inj h
  have hu := Try.underlying27
  have HR := Aside0.mk hr0_3
  clear hr0_2 hr0_3 hr0_4 hr0_5 h
  go_enter Try.func64, Try.ntmps64
  go_wp2_with (go_at_call 123; refine (index_123_124 A0_3 c0_3 l0_3 (w.heap.size + 1) (fun x => x.f0 == a1) _ (Kd.C_alloc (Kd.C_alloc HR.out _) _) hc0_3 hl (fun W x _ hb => clo124 x a1 _ W (blk_below (blk_new2 w _ _) hb))).mono ?_; rintro e w1 ⟨rfl, hb⟩)
  go_ret
  exact ⟨rfl, below_step (below_alloc (below_alloc (Below.refl _ _) _) _) hb⟩
end Go.Proofs.Ythonmfcollafkaa.P
/- callboardref14.Same of a process and itself, laid out twice. -/
namespace Go.Proofs.Ythonmfcollafkaa.P
open Go.RowKit Go.Proofs.YthonmfcollafkaaW.PrintWords Go.Proofs.YthonmfcollafkaaW.PrintLast Go.Proofs.YthonmfcollafkaaW.PrintMore
set_option linter.unusedVariables false
set_option linter.unusedSimpArgs false
theorem wrap_len {i n : Nat} (h : i < n) (hn : n ≤ 9223372036854775807) : wrap64 ((i : Int) + 1) = ((i + 1 : Nat) : Int) := by
  unfold wrap64
  omega
theorem vars_l0 (l : List S158) (hn : l.length ≤ 9223372036854775807) : ∀ (d i : Nat), d + i = l.length → callboardref14_vars.l0 (d + 1) l l (i : Int) = some true := by
  intro d
  induction d with
  | zero => intro i h; rw [callboardref14_vars.l0, if_neg (by omega)]
  | succ d ih =>
    intro i h
    rw [callboardref14_vars.l0, if_pos (by omega), if_pos (by omega), if_pos (by omega), wrap_len (by omega) hn, ih (i + 1) (by omega)]
    simp
theorem vars_same (l : List S158) (hn : l.length ≤ 9223372036854775807) : callboardref14_vars.f (l.length + 1) l l = some true := by
  unfold callboardref14_vars.f
  rw [if_pos rfl]
  exact vars_l0 l hn l.length 0 (by omega)
theorem texts_l0 (l : List ByteArray) (hn : l.length ≤ 9223372036854775807) : ∀ (d i : Nat), d + i = l.length → callboardref14_Texts.l0 (d + 1) l l (i : Int) = some true := by
  intro d
  induction d with
  | zero => intro i h; rw [callboardref14_Texts.l0, if_neg (by omega)]
  | succ d ih =>
    intro i h
    rw [callboardref14_Texts.l0, if_pos (by omega), if_pos (by omega), if_pos (by omega), if_pos rfl, wrap_len (by omega) hn, ih (i + 1) (by omega)]
theorem texts_same (l : List ByteArray) (hn : l.length ≤ 9223372036854775807) : callboardref14_Texts.f (l.length + 1) l l = some true := by
  unfold callboardref14_Texts.f
  rw [if_pos rfl]
  exact texts_l0 l hn l.length 0 (by omega)
theorem vars_calls {w : World} {A B : Option Addr} {c d : Nat} {l : List S158} (hA : k158.C w A l.length l) (hc : l.length ≤ c) (hB : k158.C w B l.length l) (hd : l.length ≤ d) : Calls Try.prog 145 #[.slice A l.length c, .slice B l.length d] w fun e w' => e = .returned (.bool true) ∧ Drawn0 w w' :=
  callboardref14_vars.calls _ A c l B d l true w hA hc hB hd (vars_same l hA.2.1) ⟨rfl⟩
theorem texts_calls {w : World} {A B : Option Addr} {c d : Nat} {l : List ByteArray} (hA : Kd.string.C w A l.length l) (hc : l.length ≤ c) (hB : Kd.string.C w B l.length l) (hd : l.length ≤ d) : Calls Try.prog 146 #[.slice A l.length c, .slice B l.length d] w fun e w' => e = .returned (.bool true) ∧ Drawn0 w w' :=
  callboardref14_Texts.calls _ A c l B d l true w hA hc hB hd (texts_same l hA.2.1) ⟨rfl⟩
def ProcRel (w : World) (n : Nat) (o0 o1 : Obj) (v : Value) (wr : World) : Prop :=
  ∃ i : Nat, v = .int .i64 i ∧ i ≤ n ∧ Aside0 (wr.heap[w.heap.size]? = some o0) ∧ Aside0 (wr.heap[w.heap.size + 1]? = some o1) ∧ Aside0 (Below w.heap.size w wr)
attribute [local go_sem high] eqA66
set_option maxHeartbeats 8000000 in
set_option maxRecDepth 100000 in
theorem same14_calls {w : World} (nm : ByteArray) (A1 : Option Addr) (c1 : Nat) (l1 : List S158) (A2 : Option Addr) (c2 : Nat) (l2 : List S37) (A3 : Option Addr) (c3 : Nat) (l3 : List S66) (B1 : Option Addr) (d1 : Nat) (B2 : Option Addr) (d2 : Nat) (B3 : Option Addr) (d3 : Nat) (hA1 : k158.C w A1 l1.length l1) (hc1 : l1.length ≤ c1) (hA2 : k37.C w A2 l2.length l2) (hc2 : l2.length ≤ c2) (hA3 : k66.C w A3 l3.length l3) (hc3 : l3.length ≤ c3) (hB1 : k158.C w B1 l1.length l1) (hd1 : l1.length ≤ d1) (hB2 : k37.C w B2 l2.length l2) (hd2 : l2.length ≤ d2) (hB3 : k66.C w B3 l3.length l3) (hd3 : l3.length ≤ d3) :
    Calls Try.prog 107 #[.agg #[.string nm, .slice A1 l1.length c1, .slice A2 l2.length c2, .slice A3 l3.length c3], .agg #[.string nm, .slice B1 l1.length d1, .slice B2 l2.length d2, .slice B3 l3.length d3]] w fun e w' => e = .returned (.bool true) ∧ Below w.heap.size w w' := by
  have hu := Try.underlying34
  have hu37 := Try.underlying37
  have hu66 := Try.underlying66
  have hn2 : l2.length ≤ 9223372036854775807 := hA2.2.1
  have hn3 : l3.length ≤ 9223372036854775807 := hA3.2.1
  have HA1 := Aside0.mk hA1; have HA2 := Aside0.mk hA2; have HA3 := Aside0.mk hA3; have HB1 := Aside0.mk hB1; have HB2 := Aside0.mk hB2; have HB3 := Aside0.mk hB3
  clear hA1 hA2 hA3 hB1 hB2 hB3
  have HB0 := Aside0.mk (below_alloc (below_alloc (Below.refl w.heap.size w) (.cells #[.string nm, .slice A1 l1.length c1, .slice A2 l2.length c2, .slice A3 l3.length c3] 34 (0, 0))) (.cells #[.string nm, .slice B1 l1.length d1, .slice B2 l2.length d2, .slice B3 l3.length d3] 34 (0, 0)))
  have K0 := Aside0.mk (blk_alloc (blk_new w (.cells #[.string nm, .slice A1 l1.length c1, .slice A2 l2.length c2, .slice A3 l3.length c3] 34 (0, 0))) (.cells #[.string nm, .slice B1 l1.length d1, .slice B2 l2.length d2, .slice B3 l3.length d3] 34 (0, 0)))
  have K1 := Aside0.mk (blk_new2 w (.cells #[.string nm, .slice A1 l1.length c1, .slice A2 l2.length c2, .slice A3 l3.length c3] 34 (0, 0)) (.cells #[.string nm, .slice B1 l1.length d1, .slice B2 l2.length d2, .slice B3 l3.length d3] 34 (0, 0)))
  go_enter Try.func107, Try.ntmps107
  go_wp2_with (go_at_call 145; refine (vars_calls (Kd.C_below HA1.out HB0.out) hc1 (Kd.C_below HB1.out HB0.out) hd1).mono ?_; rintro e w1 ⟨rfl, hdr⟩; have HD := Aside0.mk hdr.below; clear hdr; replace K0 := Aside0.mk (blk_below K0.out HD.out); replace K1 := Aside0.mk (blk_below K1.out HD.out); replace HB0 := Aside0.mk (below_step HB0.out HD.out); clear HD; have i0 := blk_cell K0.out 0; have i1 := blk_cell K0.out 1; have i2 := blk_cell K0.out 2; have i3 := blk_cell K0.out 3; have j0 := blk_cell K1.out 0; have j1 := blk_cell K1.out 1; have j2 := blk_cell K1.out 2; have j3 := blk_cell K1.out 3; simp only [List.getElem?_toArray, List.getElem?_cons_zero, List.getElem?_cons_succ] at i0 i1 i2 i3 j0 j1 j2 j3)
  clear i0 i1 i2 i3 j0 j1 j2 j3
  go_loopw [5] (fun v w' => ProcRel w l2.length (.cells #[.string nm, .slice A1 l1.length c1, .slice A2 l2.length c2, .slice A3 l3.length c3] 34 (0, 0)) (.cells #[.string nm, .slice B1 l1.length d1, .slice B2 l2.length d2, .slice B3 l3.length d3] 34 (0, 0)) v w') (fun v _ => l2.length - (intOf v).toNat)
  case atStart => exact ⟨0, rfl, Nat.zero_le _, K0, K1, HB0⟩
  case round =>
    unfold ProcRel at hrel
    obtain ⟨i, rfl, hi, H0, H1, HW⟩ := hrel
    clear K0 K1 HB0
    have K0 := H0; have K1 := H1
    clear H0 H1
    have i0 := blk_cell K0.out 0
    have j0 := blk_cell K1.out 0
    have i1 := blk_cell K0.out 1
    have j1 := blk_cell K1.out 1
    have i2 := blk_cell K0.out 2
    have j2 := blk_cell K1.out 2
    have i3 := blk_cell K0.out 3
    have j3 := blk_cell K1.out 3
    simp only [List.getElem?_toArray, List.getElem?_cons_zero, List.getElem?_cons_succ] at i0 i1 i2 i3 j0 j1 j2 j3
    by_cases hlt : i < l2.length
    · have h1 : 0 ≤ ((i : Nat) : Int) := by omega
      have h2 : ((i : Nat) : Int) < (l2.length : Int) := by omega
      obtain ⟨ax, X9, z9, X10, z10, ex, x0, x1, x2, x3, x4, x5, x6, x7, x8, x9, x10, hz9, hX9, hz10, hX10⟩ := at_T37 (Kd.C_below HA2.out HW.out) _ h1 h2
      obtain ⟨ay, Y9, t9, Y10, t10, ey, y0, y1, y2, y3, y4, y5, y6, y7, y8, y9, y10, ht9, hY9, ht10, hY10⟩ := at_T37 (Kd.C_below HB2.out HW.out) _ h1 h2
      cases ex
      cases ey
      have hrd : rd_T37 l2 (i : Int) = l2[i] := by unfold rd_T37; simp [List.getD_eq_getElem?_getD, hlt]
      simp only [Int.toNat_natCast] at x0 x1 x2 x3 x4 x5 x6 x7 x8 x9 x10 y0 y1 y2 y3 y4 y5 y6 y7 y8 y9 y10
      rw [hrd] at x0 x1 x2 x3 x4 x5 x6 x7 x8 x9 x10 y0 y1 y2 y3 y4 y5 y6 y7 y8 y9 y10 hz9 hX9 hz10 hX10 ht9 hY9 ht10 hY10
      clear hrd
      have HX9 := Aside0.mk hX9; have HX10 := Aside0.mk hX10; have HY9 := Aside0.mk hY9; have HY10 := Aside0.mk hY10
      clear hX9 hX10 hY9 hY10
      have bl1 := blk_lt K1.out
      go_upto_region 6 with (fail)
      go_cut [6, 7] (fun s6 s7 wx => ∃ g6 g7 : Nat, s6 = .pointer (some ⟨g6, 0, none⟩) ∧ s7 = .pointer (some ⟨g7, 0, none⟩) ∧ Aside0 (wx.heap[g6]? = some (.cells #[.string (l2[i]).f0, .int .u8 (l2[i]).f1, .int .i64 (l2[i]).f2, .int .i64 (l2[i]).f3, .int .u8 (l2[i]).f4, .string (l2[i]).f5, .string (l2[i]).f6, .string (l2[i]).f7, .bool (l2[i]).f8, .slice X9 (l2[i]).f9.length z9, .slice X10 (l2[i]).f10.length z10] 37 (0, 0))) ∧ Aside0 (wx.heap[g7]? = some (.cells #[.string (l2[i]).f0, .int .u8 (l2[i]).f1, .int .i64 (l2[i]).f2, .int .i64 (l2[i]).f3, .int .u8 (l2[i]).f4, .string (l2[i]).f5, .string (l2[i]).f6, .string (l2[i]).f7, .bool (l2[i]).f8, .slice Y9 (l2[i]).f9.length t9, .slice Y10 (l2[i]).f10.length t10] 37 (0, 0))) ∧ Aside0 (Below wr.heap.size wr wx))
      case first =>
        go_region_held3 (fun w' => w'.cell? (ax.add (i * 11)) = some (.string (l2[i]).f0) ∧ w'.cell? ⟨(ax.add (i * 11)).block, (ax.add (i * 11)).off + 1, none⟩ = some (.int .u8 (l2[i]).f1) ∧ w'.cell? ⟨(ax.add (i * 11)).block, (ax.add (i * 11)).off + 2, none⟩ = some (.int .i64 (l2[i]).f2) ∧ w'.cell? ⟨(ax.add (i * 11)).block, (ax.add (i * 11)).off + 3, none⟩ = some (.int .i64 (l2[i]).f3) ∧ w'.cell? ⟨(ax.add (i * 11)).block, (ax.add (i * 11)).off + 4, none⟩ = some (.int .u8 (l2[i]).f4) ∧ w'.cell? ⟨(ax.add (i * 11)).block, (ax.add (i * 11)).off + 5, none⟩ = some (.string (l2[i]).f5) ∧ w'.cell? ⟨(ax.add (i * 11)).block, (ax.add (i * 11)).off + 6, none⟩ = some (.string (l2[i]).f6) ∧ w'.cell? ⟨(ax.add (i * 11)).block, (ax.add (i * 11)).off + 7, none⟩ = some (.string (l2[i]).f7) ∧ w'.cell? ⟨(ax.add (i * 11)).block, (ax.add (i * 11)).off + 8, none⟩ = some (.bool (l2[i]).f8) ∧ w'.cell? ⟨(ax.add (i * 11)).block, (ax.add (i * 11)).off + 9, none⟩ = some (.slice X9 (l2[i]).f9.length z9) ∧ w'.cell? ⟨(ax.add (i * 11)).block, (ax.add (i * 11)).off + 10, none⟩ = some (.slice X10 (l2[i]).f10.length z10) ∧ w'.cell? (ay.add (i * 11)) = some (.string (l2[i]).f0) ∧ w'.cell? ⟨(ay.add (i * 11)).block, (ay.add (i * 11)).off + 1, none⟩ = some (.int .u8 (l2[i]).f1) ∧ w'.cell? ⟨(ay.add (i * 11)).block, (ay.add (i * 11)).off + 2, none⟩ = some (.int .i64 (l2[i]).f2) ∧ w'.cell? ⟨(ay.add (i * 11)).block, (ay.add (i * 11)).off + 3, none⟩ = some (.int .i64 (l2[i]).f3) ∧ w'.cell? ⟨(ay.add (i * 11)).block, (ay.add (i * 11)).off + 4, none⟩ = some (.int .u8 (l2[i]).f4) ∧ w'.cell? ⟨(ay.add (i * 11)).block, (ay.add (i * 11)).off + 5, none⟩ = some (.string (l2[i]).f5) ∧ w'.cell? ⟨(ay.add (i * 11)).block, (ay.add (i * 11)).off + 6, none⟩ = some (.string (l2[i]).f6) ∧ w'.cell? ⟨(ay.add (i * 11)).block, (ay.add (i * 11)).off + 7, none⟩ = some (.string (l2[i]).f7) ∧ w'.cell? ⟨(ay.add (i * 11)).block, (ay.add (i * 11)).off + 8, none⟩ = some (.bool (l2[i]).f8) ∧ w'.cell? ⟨(ay.add (i * 11)).block, (ay.add (i * 11)).off + 9, none⟩ = some (.slice Y9 (l2[i]).f9.length t9) ∧ w'.cell? ⟨(ay.add (i * 11)).block, (ay.add (i * 11)).off + 10, none⟩ = some (.slice Y10 (l2[i]).f10.length t10) ∧ w'.cell? ⟨w.heap.size, 2, none⟩ = some (.slice (some ax) l2.length c2) ∧ w'.cell? ⟨w.heap.size + 1, 2, none⟩ = some (.slice (some ay) l2.length d2)) (go_keep) (fail)
        all_goals (go_wp2_with fail; go_meet)
        all_goals first | exact ⟨_, _, rfl, rfl, ⟨blk_alloc (blk_new wr _) _⟩, ⟨blk_new2 wr _ _⟩, ⟨below_drew (below_alloc (below_alloc (Below.refl _ _) _) _)⟩⟩ | exact ⟨_, _, rfl, rfl, ⟨blk_new2 wr _ _⟩, ⟨blk_alloc (blk_new wr _) _⟩, ⟨below_drew (below_alloc (below_alloc (Below.refl _ _) _) _)⟩⟩
      case rest =>
        obtain ⟨g6, g7, rfl, rfl, G6, G7, HC⟩ := hcut
        clear x0 x1 x2 x3 x4 x5 x6 x7 x8 x9 x10 y0 y1 y2 y3 y4 y5 y6 y7 y8 y9 y10 i0 i1 i2 i3 j0 j1 j2 j3 bl1
        have p0 := blk_cell G6.out 0
        have p1 := blk_cell G6.out 1
        have p2 := blk_cell G6.out 2
        have p3 := blk_cell G6.out 3
        have p4 := blk_cell G6.out 4
        have p5 := blk_cell G6.out 5
        have p6 := blk_cell G6.out 6
        have p7 := blk_cell G6.out 7
        have p8 := blk_cell G6.out 8
        have p9 := blk_cell G6.out 9
        have p10 := blk_cell G6.out 10
        have q0 := blk_cell G7.out 0
        have q1 := blk_cell G7.out 1
        have q2 := blk_cell G7.out 2
        have q3 := blk_cell G7.out 3
        have q4 := blk_cell G7.out 4
        have q5 := blk_cell G7.out 5
        have q6 := blk_cell G7.out 6
        have q7 := blk_cell G7.out 7
        have q8 := blk_cell G7.out 8
        have q9 := blk_cell G7.out 9
        have q10 := blk_cell G7.out 10
        simp only [List.getElem?_toArray, List.getElem?_cons_zero, List.getElem?_cons_succ] at p0 p1 p2 p3 p4 p5 p6 p7 p8 p9 p10 q0 q1 q2 q3 q4 q5 q6 q7 q8 q9 q10
        go_wp2_with (first | (go_at_call 145; refine (vars_calls (Kd.C_below (Kd.C_below HX9.out HC.out) (Below.refl _ _)) hz9 (Kd.C_below HY9.out HC.out) ht9).mono ?_; rintro e w2 ⟨rfl, hdr⟩; replace HC := Aside0.mk (below_step HC.out hdr.below); replace G6 := Aside0.mk (blk_below G6.out hdr.below); replace G7 := Aside0.mk (blk_below G7.out hdr.below); clear hdr p0 p1 p2 p3 p4 p5 p6 p7 p8 p9 p10 q0 q1 q2 q3 q4 q5 q6 q7 q8 q9 q10; have p0 := blk_cell G6.out 0; have p1 := blk_cell G6.out 1; have p2 := blk_cell G6.out 2; have p3 := blk_cell G6.out 3; have p4 := blk_cell G6.out 4; have p5 := blk_cell G6.out 5; have p6 := blk_cell G6.out 6; have p7 := blk_cell G6.out 7; have p8 := blk_cell G6.out 8; have p9 := blk_cell G6.out 9; have p10 := blk_cell G6.out 10; have q0 := blk_cell G7.out 0; have q1 := blk_cell G7.out 1; have q2 := blk_cell G7.out 2; have q3 := blk_cell G7.out 3; have q4 := blk_cell G7.out 4; have q5 := blk_cell G7.out 5; have q6 := blk_cell G7.out 6; have q7 := blk_cell G7.out 7; have q8 := blk_cell G7.out 8; have q9 := blk_cell G7.out 9; have q10 := blk_cell G7.out 10; simp only [List.getElem?_toArray, List.getElem?_cons_zero, List.getElem?_cons_succ] at p0 p1 p2 p3 p4 p5 p6 p7 p8 p9 p10 q0 q1 q2 q3 q4 q5 q6 q7 q8 q9 q10) | (go_at_call 146; refine (texts_calls (Kd.C_below HX10.out HC.out) hz10 (Kd.C_below HY10.out HC.out) ht10).mono ?_; rintro e w3 ⟨rfl, hdr⟩; replace HC := Aside0.mk (below_step HC.out hdr.below); clear hdr))
        go_roundw
        case rel => unfold ProcRel; exact ⟨i + 1, by go_num, hlt, ⟨blk_below K0.out HC.out⟩, ⟨blk_below K1.out HC.out⟩, ⟨below_step HW.out HC.out⟩⟩
        case measure => simp [intOf]; omega
    · go_wp2
      clear i0 i1 i2 i3 j0 j1 j2 j3
      go_loopw [8] (fun v w' => ProcRel w l3.length (.cells #[.string nm, .slice A1 l1.length c1, .slice A2 l2.length c2, .slice A3 l3.length c3] 34 (0, 0)) (.cells #[.string nm, .slice B1 l1.length d1, .slice B2 l2.length d2, .slice B3 l3.length d3] 34 (0, 0)) v w') (fun v _ => l3.length - (intOf v).toNat)
      case atStart => exact ⟨0, rfl, Nat.zero_le _, K0, K1, HW⟩
      case round =>
        unfold ProcRel at hrel
        obtain ⟨i', rfl, hi', H0, H1, HW2⟩ := hrel
        clear K0 K1 HW
        have K0 := H0; have K1 := H1
        clear H0 H1
        have i0 := blk_cell K0.out 0; have j0 := blk_cell K1.out 0
        have i1 := blk_cell K0.out 1; have j1 := blk_cell K1.out 1
        have i2 := blk_cell K0.out 2; have j2 := blk_cell K1.out 2
        have i3 := blk_cell K0.out 3; have j3 := blk_cell K1.out 3
        simp only [List.getElem?_toArray, List.getElem?_cons_zero, List.getElem?_cons_succ] at i0 i1 i2 i3 j0 j1 j2 j3
        by_cases hlt' : i' < l3.length
        · have h1 : 0 ≤ ((i' : Nat) : Int) := by omega
          have h2 : ((i' : Nat) : Int) < (l3.length : Int) := by omega
          obtain ⟨ax, ex, x0, x1, x2, x3⟩ := at_T66 (Kd.C_below HA3.out HW2.out) _ h1 h2
          obtain ⟨ay, ey, y0, y1, y2, y3⟩ := at_T66 (Kd.C_below HB3.out HW2.out) _ h1 h2
          cases ex
          cases ey
          have hrd : rd_T66 l3 (i' : Int) = l3[i'] := by unfold rd_T66; simp [List.getD_eq_getElem?_getD, hlt']
          simp only [Int.toNat_natCast] at x0 x1 x2 x3 y0 y1 y2 y3
          rw [hrd] at x0 x1 x2 x3 y0 y1 y2 y3
          clear hrd
          go_wp2
          go_quiet (fail)
          go_wp2
          go_roundw
          case rel => unfold ProcRel; exact ⟨i' + 1, by go_num, hlt', ⟨K0.out⟩, ⟨K1.out⟩, ⟨pw_below_drewN HW2.out _⟩⟩
          case measure => simp [intOf]; omega
        · go_wp2
          go_ret
          exact ⟨rfl, HW2.out⟩
open Classical in
noncomputable def callboardref14_Same.f (a0_0 : ByteArray) (l0_1 : List (S158)) (l0_2 : List (S37)) (l0_3 : List (S66)) (a1_0 : ByteArray) (l1_1 : List (S158)) (l1_2 : List (S37)) (l1_3 : List (S66)) : Option (Bool) := if a0_0 = a1_0 ∧ l0_1 = l1_1 ∧ l0_2 = l1_2 ∧ l0_3 = l1_3 then some true else none
theorem callboardref14_Same.calls (a0_0 : ByteArray) (A0_1 : Option Addr) (c0_1 : Nat) (l0_1 : List (S158)) (A0_2 : Option Addr) (c0_2 : Nat) (l0_2 : List (S37)) (A0_3 : Option Addr) (c0_3 : Nat) (l0_3 : List (S66)) (a1_0 : ByteArray) (A1_1 : Option Addr) (c1_1 : Nat) (l1_1 : List (S158)) (A1_2 : Option Addr) (c1_2 : Nat) (l1_2 : List (S37)) (A1_3 : Option Addr) (c1_3 : Nat) (l1_3 : List (S66)) (r : Bool) (w : World) (hr0_1 : Kd.C k158 w A0_1 l0_1.length l0_1) (hc0_1 : l0_1.length ≤ c0_1) (hr0_2 : Kd.C k37 w A0_2 l0_2.length l0_2) (hc0_2 : l0_2.length ≤ c0_2) (hr0_3 : Kd.C k66 w A0_3 l0_3.length l0_3) (hc0_3 : l0_3.length ≤ c0_3) (hr1_1 : Kd.C k158 w A1_1 l1_1.length l1_1) (hc1_1 : l1_1.length ≤ c1_1) (hr1_2 : Kd.C k37 w A1_2 l1_2.length l1_2) (hc1_2 : l1_2.length ≤ c1_2) (hr1_3 : Kd.C k66 w A1_3 l1_3.length l1_3) (hc1_3 : l1_3.length ≤ c1_3) (h : callboardref14_Same.f a0_0 l0_1 l0_2 l0_3 a1_0 l1_1 l1_2 l1_3 = some r) :
    Calls Try.prog 107 #[.agg #[.string a0_0, .slice A0_1 l0_1.length c0_1, .slice A0_2 l0_2.length c0_2, .slice A0_3 l0_3.length c0_3], .agg #[.string a1_0, .slice A1_1 l1_1.length c1_1, .slice A1_2 l1_2.length c1_2, .slice A1_3 l1_3.length c1_3]] w fun e w' => e = .returned (.bool r) ∧ Below w.heap.size w w' := by
  unfold callboardref14_Same.f at h
  split at h
  · next he =>
    obtain ⟨rfl, rfl, rfl, rfl⟩ := he
    obtain rfl := Option.some.inj h
    exact same14_calls a0_0 A0_1 c0_1 l0_1 A0_2 c0_2 l0_2 A0_3 c0_3 l0_3 A1_1 c1_1 A1_2 c1_2 A1_3 c1_3 hr0_1 hc0_1 hr0_2 hc0_2 hr0_3 hc0_3 hr1_1 hc1_1 hr1_2 hc1_2 hr1_3 hc1_3
  · cases h
end Go.Proofs.Ythonmfcollafkaa.P
-- GENERATED by wip/gen.py (this session's own driver of a mended copy of the printer). Not trusted: Lean checks it.
namespace Go.Proofs.Ythonmfcollafkaa.P
open Go.RowKit Go.Proofs.YthonmfcollafkaaW.PrintWords Go.Proofs.YthonmfcollafkaaW.PrintLast Go.Proofs.YthonmfcollafkaaW.PrintMore
attribute [local go_sem] Go.Proofs.YthonmfcollafkaaB.less_swap Go.Proofs.YthonmfcollafkaaB.less_or max2_int min2_int max_two min_two max_three min_three max_four min_four   -- for this text's walks alone
set_option linter.unusedVariables false
set_option linter.unusedSimpArgs false

theorem eqA43 (d : Nat) (w : World) (x0 y0 : Int) (x1 y1 : Int) (x2 y2 : Int) (x3 y3 : ByteArray) (x4 y4 : Int) (x5 y5 : Int) (x6 y6 : Int) (x7 y7 : ByteArray) :
  (Op.equalIn (d + 2) 43 (.agg #[.int .i64 x0, .int .i64 x1, .int .u8 x2, .string x3, .int .i64 x4, .int .i64 x5, .int .u8 x6, .string x7]) (.agg #[.int .i64 y0, .int .i64 y1, .int .u8 y2, .string y3, .int .i64 y4, .int .i64 y5, .int .u8 y6, .string y7])).run Try.prog w = .ok (x0 == y0 && (x1 == y1 && (x2 == y2 && (x3.toList == y3.toList && (x4 == y4 && (x5 == y5 && (x6 == y6 && (x7.toList == y7.toList)))))))) w := by
 refine eqA_of Try.underlying43 (by kernel_rfl) ?_
 refine eqf_cons (by rfl) (by go_simp; rfl) (by go_simp; rfl) (by go_simp) ?_
 refine eqf_cons (by rfl) (by go_simp; rfl) (by go_simp; rfl) (by go_simp) ?_
 refine eqf_cons (by rfl) (by go_simp; rfl) (by go_simp; rfl) (by go_simp) ?_
 refine eqf_cons (by rfl) (by go_simp; rfl) (by go_simp; rfl) (by go_simp) ?_
 refine eqf_cons (by rfl) (by go_simp; rfl) (by go_simp; rfl) (by go_simp) ?_
 refine eqf_cons (by rfl) (by go_simp; rfl) (by go_simp; rfl) (by go_simp) ?_
 refine eqf_cons (by rfl) (by go_simp; rfl) (by go_simp; rfl) (by go_simp) ?_
 exact eqf_last (by rfl) (by go_simp; rfl) (by go_simp; rfl) (by go_simp)
end Go.Proofs.Ythonmfcollafkaa.P
-- GENERATED by wip/gen.py (this session's own driver of a mended copy of the printer). Not trusted: Lean checks it.
namespace Go.Proofs.Ythonmfcollafkaa.P
open Go.RowKit Go.Proofs.YthonmfcollafkaaW.PrintWords Go.Proofs.YthonmfcollafkaaW.PrintLast Go.Proofs.YthonmfcollafkaaW.PrintMore
attribute [local go_sem] Go.Proofs.YthonmfcollafkaaB.less_swap Go.Proofs.YthonmfcollafkaaB.less_or max2_int min2_int max_two min_two max_three min_three max_four min_four   -- for this text's walks alone
set_option linter.unusedVariables false
set_option linter.unusedSimpArgs false

theorem eqA132 (d : Nat) (w : World) (x0 y0 : Int) (x1 y1 : Int) (x2 y2 : Int) (x3 y3 : Int) (x4 y4 : ByteArray) (x5 y5 : Int) (x6 y6 : Bool) :
  (Op.equalIn (d + 2) 132 (.agg #[.int .i64 x0, .int .i64 x1, .int .i64 x2, .int .u8 x3, .string x4, .int .i64 x5, .bool x6]) (.agg #[.int .i64 y0, .int .i64 y1, .int .i64 y2, .int .u8 y3, .string y4, .int .i64 y5, .bool y6])).run Try.prog w = .ok (x0 == y0 && (x1 == y1 && (x2 == y2 && (x3 == y3 && (x4.toList == y4.toList && (x5 == y5 && (x6 == y6))))))) w := by
 refine eqA_of Try.underlying132 (by kernel_rfl) ?_
 refine eqf_cons (by rfl) (by go_simp; rfl) (by go_simp; rfl) (by go_simp) ?_
 refine eqf_cons (by rfl) (by go_simp; rfl) (by go_simp; rfl) (by go_simp) ?_
 refine eqf_cons (by rfl) (by go_simp; rfl) (by go_simp; rfl) (by go_simp) ?_
 refine eqf_cons (by rfl) (by go_simp; rfl) (by go_simp; rfl) (by go_simp) ?_
 refine eqf_cons (by rfl) (by go_simp; rfl) (by go_simp; rfl) (by go_simp) ?_
 refine eqf_cons (by rfl) (by go_simp; rfl) (by go_simp; rfl) (by go_simp) ?_
 exact eqf_last (by rfl) (by go_simp; rfl) (by go_simp; rfl) (by go_simp)
end Go.Proofs.Ythonmfcollafkaa.P
-- GENERATED by wip/gen.py (this session's own driver of a mended copy of the printer). Not trusted: Lean checks it.
namespace Go.Proofs.Ythonmfcollafkaa.P
open Go.RowKit Go.Proofs.YthonmfcollafkaaW.PrintWords Go.Proofs.YthonmfcollafkaaW.PrintLast Go.Proofs.YthonmfcollafkaaW.PrintMore
attribute [local go_sem] Go.Proofs.YthonmfcollafkaaB.less_swap Go.Proofs.YthonmfcollafkaaB.less_or max2_int min2_int max_two min_two max_three min_three max_four min_four   -- for this text's walks alone
set_option linter.unusedVariables false
set_option linter.unusedSimpArgs false

attribute [local go_sem high] eqA43 eqA129 eqA132
/-! ### callboardref18_Same: function 46 -/
mutual
noncomputable def callboardref18_Same.j0 : Nat → Bool → Int → Int → List (S34) → List (S43) → List (S129) → List (S132) → Int → Int → List (S34) → List (S43) → List (S129) → List (S132) → Option (Bool)
 | 0, _, _, _, _, _, _, _, _, _, _, _, _, _ => none
 | k + 1, x56, x286000, x286001, x286002, x286003, x286004, x286005, x287000, x287001, x287002, x287003, x287004, x287005 => if x56 = true then (some false) else (callboardref18_Same.l0 k 0 x286000 x286001 x286002 x286003 x286004 x286005 x287000 x287001 x287002 x287003 x287004 x287005)
noncomputable def callboardref18_Same.l0 : Nat → Int → Int → Int → List (S34) → List (S43) → List (S129) → List (S132) → Int → Int → List (S34) → List (S43) → List (S129) → List (S132) → Option (Bool)
 | 0, _, _, _, _, _, _, _, _, _, _, _, _, _ => none
 | k + 1, x5, x286000, x286001, x286002, x286003, x286004, x286005, x287000, x287001, x287002, x287003, x287004, x287005 => if x5 < (x286002.length : Int) then (if 0 ≤ x5 then (if x5 < (x287002.length : Int) then ((callboardref14_Same.f ((rd_T34 x286002 x5).f0) ((rd_T34 x286002 x5).f1) ((rd_T34 x286002 x5).f2) ((rd_T34 x286002 x5).f3) ((rd_T34 x287002 x5).f0) ((rd_T34 x287002 x5).f1) ((rd_T34 x287002 x5).f2) ((rd_T34 x287002 x5).f3)).bind fun t289 => (if t289 = true then (callboardref18_Same.l0 k (wrap64 (x5 + 1)) x286000 x286001 x286002 x286003 x286004 x286005 x287000 x287001 x287002 x287003 x287004 x287005) else (some false))) else (none)) else (none)) else (callboardref18_Same.l1 k 0 x286000 x286001 x286002 x286003 x286004 x286005 x287000 x287001 x287002 x287003 x287004 x287005)
noncomputable def callboardref18_Same.l1 : Nat → Int → Int → Int → List (S34) → List (S43) → List (S129) → List (S132) → Int → Int → List (S34) → List (S43) → List (S129) → List (S132) → Option (Bool)
 | 0, _, _, _, _, _, _, _, _, _, _, _, _, _ => none
 | k + 1, x6, x286000, x286001, x286002, x286003, x286004, x286005, x287000, x287001, x287002, x287003, x287004, x287005 => if x6 < (x286003.length : Int) then (if 0 ≤ x6 then (if x6 < (x287003.length : Int) then (if (!(((rd_T43 x286003 x6).f0) == ((rd_T43 x287003 x6).f0)) || (!(((rd_T43 x286003 x6).f1) == ((rd_T43 x287003 x6).f1)) || (!(((rd_T43 x286003 x6).f2) == ((rd_T43 x287003 x6).f2)) || (!((((rd_T43 x286003 x6).f3).toList) == (((rd_T43 x287003 x6).f3).toList)) || (!(((rd_T43 x286003 x6).f4) == ((rd_T43 x287003 x6).f4)) || (!(((rd_T43 x286003 x6).f5) == ((rd_T43 x287003 x6).f5)) || (!(((rd_T43 x286003 x6).f6) == ((rd_T43 x287003 x6).f6)) || (!((((rd_T43 x286003 x6).f7).toList) == (((rd_T43 x287003 x6).f7).toList)))))))))) = true then (some false) else (callboardref18_Same.l1 k (wrap64 (x6 + 1)) x286000 x286001 x286002 x286003 x286004 x286005 x287000 x287001 x287002 x287003 x287004 x287005)) else (none)) else (none)) else (callboardref18_Same.l2 k 0 x286000 x286001 x286002 x286003 x286004 x286005 x287000 x287001 x287002 x287003 x287004 x287005)
noncomputable def callboardref18_Same.l2 : Nat → Int → Int → Int → List (S34) → List (S43) → List (S129) → List (S132) → Int → Int → List (S34) → List (S43) → List (S129) → List (S132) → Option (Bool)
 | 0, _, _, _, _, _, _, _, _, _, _, _, _, _ => none
 | k + 1, x7, x286000, x286001, x286002, x286003, x286004, x286005, x287000, x287001, x287002, x287003, x287004, x287005 => if x7 < (x286004.length : Int) then (if 0 ≤ x7 then (if x7 < (x287004.length : Int) then (if (!(((rd_T129 x286004 x7).f0) == ((rd_T129 x287004 x7).f0)) || (!((((rd_T129 x286004 x7).f1).toList) == (((rd_T129 x287004 x7).f1).toList)) || ((!(((rd_T129 x286004 x7).f2.f0) == ((rd_T129 x287004 x7).f2.f0)) || (!(((rd_T129 x286004 x7).f2.f1) == ((rd_T129 x287004 x7).f2.f1)) || (!((((rd_T129 x286004 x7).f2.f2).toList) == (((rd_T129 x287004 x7).f2.f2).toList)))))))) = true then (some false) else (callboardref18_Same.l2 k (wrap64 (x7 + 1)) x286000 x286001 x286002 x286003 x286004 x286005 x287000 x287001 x287002 x287003 x287004 x287005)) else (none)) else (none)) else (callboardref18_Same.l3 k 0 x286000 x286001 x286002 x286003 x286004 x286005 x287000 x287001 x287002 x287003 x287004 x287005)
noncomputable def callboardref18_Same.l3 : Nat → Int → Int → Int → List (S34) → List (S43) → List (S129) → List (S132) → Int → Int → List (S34) → List (S43) → List (S129) → List (S132) → Option (Bool)
 | 0, _, _, _, _, _, _, _, _, _, _, _, _, _ => none
 | k + 1, x8, x286000, x286001, x286002, x286003, x286004, x286005, x287000, x287001, x287002, x287003, x287004, x287005 => if x8 < (x286005.length : Int) then (if 0 ≤ x8 then (if x8 < (x287005.length : Int) then (if (!(((rd_T132 x286005 x8).f0) == ((rd_T132 x287005 x8).f0)) || (!(((rd_T132 x286005 x8).f1) == ((rd_T132 x287005 x8).f1)) || (!(((rd_T132 x286005 x8).f2) == ((rd_T132 x287005 x8).f2)) || (!(((rd_T132 x286005 x8).f3) == ((rd_T132 x287005 x8).f3)) || (!((((rd_T132 x286005 x8).f4).toList) == (((rd_T132 x287005 x8).f4).toList)) || (!(((rd_T132 x286005 x8).f5) == ((rd_T132 x287005 x8).f5)) || (!(((rd_T132 x286005 x8).f6) == ((rd_T132 x287005 x8).f6))))))))) = true then (some false) else (callboardref18_Same.l3 k (wrap64 (x8 + 1)) x286000 x286001 x286002 x286003 x286004 x286005 x287000 x287001 x287002 x287003 x287004 x287005)) else (none)) else (none)) else (some true)
end
noncomputable def callboardref18_Same.f (k : Nat) (a0_0 : Int) (a0_1 : Int) (l0_2 : List (S34)) (l0_3 : List (S43)) (l0_4 : List (S129)) (l0_5 : List (S132)) (a1_0 : Int) (a1_1 : Int) (l1_2 : List (S34)) (l1_3 : List (S43)) (l1_4 : List (S129)) (l1_5 : List (S132)) : Option (Bool) := if a0_0 = a1_0 then (if a0_1 = a1_1 then (if (l0_2.length : Int) = (l1_2.length : Int) then (if (l0_3.length : Int) = (l1_3.length : Int) then (if (l0_4.length : Int) = (l1_4.length : Int) then (callboardref18_Same.j0 k ((l0_5.length : Int) != (l1_5.length : Int)) a0_0 a0_1 l0_2 l0_3 l0_4 l0_5 a1_0 a1_1 l1_2 l1_3 l1_4 l1_5) else (callboardref18_Same.j0 k true a0_0 a0_1 l0_2 l0_3 l0_4 l0_5 a1_0 a1_1 l1_2 l1_3 l1_4 l1_5)) else (callboardref18_Same.j0 k true a0_0 a0_1 l0_2 l0_3 l0_4 l0_5 a1_0 a1_1 l1_2 l1_3 l1_4 l1_5)) else (callboardref18_Same.j0 k true a0_0 a0_1 l0_2 l0_3 l0_4 l0_5 a1_0 a1_1 l1_2 l1_3 l1_4 l1_5)) else (callboardref18_Same.j0 k true a0_0 a0_1 l0_2 l0_3 l0_4 l0_5 a1_0 a1_1 l1_2 l1_3 l1_4 l1_5)) else (callboardref18_Same.j0 k true a0_0 a0_1 l0_2 l0_3 l0_4 l0_5 a1_0 a1_1 l1_2 l1_3 l1_4 l1_5)
theorem callboardref18_Same.dead_j0_0 : ∀ kk y1 y2 y3 y4 y5 y6 y7 y8 y9 y10 y11 y12, callboardref18_Same.j0 kk true y1 y2 y3 y4 y5 y6 y7 y8 y9 y10 y11 y12 ≠ some true := by
 intro kk y1 y2 y3 y4 y5 y6 y7 y8 y9 y10 y11 y12
 cases kk <;> simp [callboardref18_Same.j0]
noncomputable def callboardref18_Same.T6 : Bool × List (List Nat × List Nat) := (true, [([], []), ([0], [0]), ([], []), ([1, 2], [1, 2]), ([3], [3]), ([], []), ([5], [5]), ([], []), ([6, 7], [6, 7]), ([8], [8]), ([4, 9], [4, 9]), ([10], [10])])
noncomputable def callboardref18_Same.B6 : List Nat := [0, 1, 0, 7, 15, 0, 32, 0, 224, 480, 1023, 2047]
theorem callboardref18_Same.tab6 : rtab .any (opsOf Try.f46 6) = callboardref18_Same.T6 := by kernel_rfl
theorem callboardref18_Same.bits6 : waitsOk callboardref18_Same.T6.2 callboardref18_Same.B6 = true := by kernel_rfl
noncomputable def callboardref18_Same.T11 : Bool × List (List Nat × List Nat) := (true, [([], []), ([0], [0]), ([], []), ([1, 2], [1, 2]), ([3], [3]), ([], []), ([5], [5]), ([], []), ([6, 7], [6, 7]), ([8], [8]), ([4, 9], [4, 9])])
noncomputable def callboardref18_Same.B11 : List Nat := [0, 1, 0, 7, 15, 0, 32, 0, 224, 480, 1023]
theorem callboardref18_Same.tab11 : rtab .any (opsOf Try.f46 11) = callboardref18_Same.T11 := by kernel_rfl
theorem callboardref18_Same.bits11 : waitsOk callboardref18_Same.T11.2 callboardref18_Same.B11 = true := by kernel_rfl
noncomputable def callboardref18_Same.T16 : Bool × List (List Nat × List Nat) := (true, [([], []), ([0], [0]), ([], []), ([1, 2], [1, 2]), ([3], [3]), ([], []), ([5], [5]), ([], []), ([6, 7], [6, 7]), ([8], [8]), ([4, 9], [4, 9])])
noncomputable def callboardref18_Same.B16 : List Nat := [0, 1, 0, 7, 15, 0, 32, 0, 224, 480, 1023]
theorem callboardref18_Same.tab16 : rtab .any (opsOf Try.f46 16) = callboardref18_Same.T16 := by kernel_rfl
theorem callboardref18_Same.bits16 : waitsOk callboardref18_Same.T16.2 callboardref18_Same.B16 = true := by kernel_rfl
noncomputable def callboardref18_Same.T21 : Bool × List (List Nat × List Nat) := (true, [([], []), ([0], [0]), ([], []), ([1, 2], [1, 2]), ([3], [3]), ([], []), ([5], [5]), ([], []), ([6, 7], [6, 7]), ([8], [8]), ([4, 9], [4, 9])])
noncomputable def callboardref18_Same.B21 : List Nat := [0, 1, 0, 7, 15, 0, 32, 0, 224, 480, 1023]
theorem callboardref18_Same.tab21 : rtab .any (opsOf Try.f46 21) = callboardref18_Same.T21 := by kernel_rfl
theorem callboardref18_Same.bits21 : waitsOk callboardref18_Same.T21.2 callboardref18_Same.B21 = true := by kernel_rfl
set_option maxHeartbeats 8000000 in
set_option maxRecDepth 100000 in
theorem callboardref18_Same.calls (k : Nat) (a0_0 : Int) (a0_1 : Int) (A0_2 : Option Addr) (c0_2 : Nat) (l0_2 : List (S34)) (A0_3 : Option Addr) (c0_3 : Nat) (l0_3 : List (S43)) (A0_4 : Option Addr) (c0_4 : Nat) (l0_4 : List (S129)) (A0_5 : Option Addr) (c0_5 : Nat) (l0_5 : List (S132)) (a1_0 : Int) (a1_1 : Int) (A1_2 : Option Addr) (c1_2 : Nat) (l1_2 : List (S34)) (A1_3 : Option Addr) (c1_3 : Nat) (l1_3 : List (S43)) (A1_4 : Option Addr) (c1_4 : Nat) (l1_4 : List (S129)) (A1_5 : Option Addr) (c1_5 : Nat) (l1_5 : List (S132)) (r : Bool) (w : World) (hr0_2 : Kd.C k34 w A0_2 l0_2.length l0_2) (hc0_2 : l0_2.length ≤ c0_2) (hr0_3 : Kd.C k43 w A0_3 l0_3.length l0_3) (hc0_3 : l0_3.length ≤ c0_3) (hr0_4 : Kd.C k129 w A0_4 l0_4.length l0_4) (hc0_4 : l0_4.length ≤ c0_4) (hr0_5 : Kd.C k132 w A0_5 l0_5.length l0_5) (hc0_5 : l0_5.length ≤ c0_5) (hr1_2 : Kd.C k34 w A1_2 l1_2.length l1_2) (hc1_2 : l1_2.length ≤ c1_2) (hr1_3 : Kd.C k43 w A1_3 l1_3.length l1_3) (hc1_3 : l1_3.length ≤ c1_3) (hr1_4 : Kd.C k129 w A1_4 l1_4.length l1_4) (hc1_4 : l1_4.length ≤ c1_4) (hr1_5 : Kd.C k132 w A1_5 l1_5.length l1_5) (hc1_5 : l1_5.length ≤ c1_5) (h : callboardref18_Same.f k a0_0 a0_1 l0_2 l0_3 l0_4 l0_5 a1_0 a1_1 l1_2 l1_3 l1_4 l1_5 = some r) (hT : Aside0 (r = true)) :
  Calls Try.prog 46 #[.agg #[.int .i64 a0_0, .int .i64 a0_1, .slice A0_2 l0_2.length c0_2, .slice A0_3 l0_3.length c0_3, .slice A0_4 l0_4.length c0_4, .slice A0_5 l0_5.length c0_5], .agg #[.int .i64 a1_0, .int .i64 a1_1, .slice A1_2 l1_2.length c1_2, .slice A1_3 l1_3.length c1_3, .slice A1_4 l1_4.length c1_4, .slice A1_5 l1_5.length c1_5]] w fun e w' => e = .returned (.bool r) ∧ Below w.heap.size w w' := by
 have hu27 := Try.underlying27
 have hu34 := Try.underlying34
 have hu43 := Try.underlying43
 have hu129 := Try.underlying129
 have hu132 := Try.underlying132
 have HR0_2 := Aside0.mk hr0_2
 have HC0_2 := Aside0.mk hc0_2
 clear hr0_2 hc0_2
 have HR0_3 := Aside0.mk hr0_3
 have HC0_3 := Aside0.mk hc0_3
 clear hr0_3 hc0_3
 have HR0_4 := Aside0.mk hr0_4
 have HC0_4 := Aside0.mk hc0_4
 clear hr0_4 hc0_4
 have HR0_5 := Aside0.mk hr0_5
 have HC0_5 := Aside0.mk hc0_5
 clear hr0_5 hc0_5
 have HR1_2 := Aside0.mk hr1_2
 have HC1_2 := Aside0.mk hc1_2
 clear hr1_2 hc1_2
 have HR1_3 := Aside0.mk hr1_3
 have HC1_3 := Aside0.mk hc1_3
 clear hr1_3 hc1_3
 have HR1_4 := Aside0.mk hr1_4
 have HC1_4 := Aside0.mk hc1_4
 clear hr1_4 hc1_4
 have HR1_5 := Aside0.mk hr1_5
 have HC1_5 := Aside0.mk hc1_5
 clear hr1_5 hc1_5
 have HB := Aside0.mk (Below.refl w.heap.size w)
 have H : (if a0_0 = a1_0 then (if a0_1 = a1_1 then (if (l0_2.length : Int) = (l1_2.length : Int) then (if (l0_3.length : Int) = (l1_3.length : Int) then (if (l0_4.length : Int) = (l1_4.length : Int) then (callboardref18_Same.j0 k ((l0_5.length : Int) != (l1_5.length : Int)) a0_0 a0_1 l0_2 l0_3 l0_4 l0_5 a1_0 a1_1 l1_2 l1_3 l1_4 l1_5) else (callboardref18_Same.j0 k true a0_0 a0_1 l0_2 l0_3 l0_4 l0_5 a1_0 a1_1 l1_2 l1_3 l1_4 l1_5)) else (callboardref18_Same.j0 k true a0_0 a0_1 l0_2 l0_3 l0_4 l0_5 a1_0 a1_1 l1_2 l1_3 l1_4 l1_5)) else (callboardref18_Same.j0 k true a0_0 a0_1 l0_2 l0_3 l0_4 l0_5 a1_0 a1_1 l1_2 l1_3 l1_4 l1_5)) else (callboardref18_Same.j0 k true a0_0 a0_1 l0_2 l0_3 l0_4 l0_5 a1_0 a1_1 l1_2 l1_3 l1_4 l1_5)) else (callboardref18_Same.j0 k true a0_0 a0_1 l0_2 l0_3 l0_4 l0_5 a1_0 a1_1 l1_2 l1_3 l1_4 l1_5)) = some r := h
 clear h
 have HC3 := Aside0.mk H
 clear H
 go_enter Try.func46, Try.ntmps46
 go_upto_region 1 with (first | ((with_reducible refine gate_dst (N := 2) rfl ?_); (try (refine gate_guard (by rfl) ?_; dsimp only)); refine box_event ?hg (N := 2) ?hd (cs := #[.int .i64 a0_0, .int .i64 a0_1, .slice A0_2 l0_2.length c0_2, .slice A0_3 l0_3.length c0_3, .slice A0_4 l0_4.length c0_4, .slice A0_5 l0_5.length c0_5]) (t := 27) ?hr ?_; (case hd => rfl); (case hg => rfl); (case hr => first | (go_simp; done) | (go_simp; rfl)); intro gb285 hg w4 hbox hb; have BK285 := Aside0.mk (hbox); have GW285 := Aside0.mk ((by rw [hg]; exact (below_size (kl HB)) : w.heap.size ≤ gb285)); have GE285 := Aside0.mk ((by rw [hg]; exact (below_size (kl HB)) : w.heap.size ≤ gb285)); replace HB := Aside0.mk (below_step (kl HB) hb); clear hb hbox hg) | ((with_reducible refine gate_dst (N := 3) rfl ?_); (try (refine gate_guard (by rfl) ?_; dsimp only)); refine box_event ?hg (N := 3) ?hd (cs := #[.int .i64 a1_0, .int .i64 a1_1, .slice A1_2 l1_2.length c1_2, .slice A1_3 l1_3.length c1_3, .slice A1_4 l1_4.length c1_4, .slice A1_5 l1_5.length c1_5]) (t := 27) ?hr ?_; (case hd => rfl); (case hg => rfl); (case hr => first | (go_simp; done) | (go_simp; rfl)); intro gb286 hg w5 hbox hb; have BK286 := Aside0.mk (hbox); have GW286 := Aside0.mk ((by rw [hg]; exact (below_size (kl HB)) : w.heap.size ≤ gb286)); have GE286 := Aside0.mk ((by rw [hg]; exact (below_size (kl HB)) : w.heap.size ≤ gb286)); replace HB := Aside0.mk (below_step (kl HB) hb); have NB285_286 := Aside0.mk ((by rw [hg]; exact Nat.ne_of_lt (bl BK285) : gb285 ≠ gb286)); have NB286_285 := Aside0.mk ((by rw [hg]; exact Nat.ne_of_gt (bl BK285) : gb286 ≠ gb285)); replace BK285 := bb BK285 hb; clear hb hbox hg))
 (try simp only [Act.put, List.setIfInBounds_toArray, List.set_cons_zero, List.set_cons_succ])
 go_cut [56] (fun v56 wc => ∃ (kq : Nat) (x56_2 : Bool), v56 = .bool x56_2 ∧ Aside0 (callboardref18_Same.j0 kq x56_2 a0_0 a0_1 l0_2 l0_3 l0_4 l0_5 a1_0 a1_1 l1_2 l1_3 l1_4 l1_5 = some r) ∧ Aside0 (kq ≤ k) ∧ Aside0 (wc.heap[gb285]? = some (.cells #[.int .i64 a0_0, .int .i64 a0_1, (.slice A0_2 l0_2.length c0_2), (.slice A0_3 l0_3.length c0_3), (.slice A0_4 l0_4.length c0_4), (.slice A0_5 l0_5.length c0_5)] 27 (0, 0))) ∧ Aside0 (wc.heap[gb286]? = some (.cells #[.int .i64 a1_0, .int .i64 a1_1, (.slice A1_2 l1_2.length c1_2), (.slice A1_3 l1_3.length c1_3), (.slice A1_4 l1_4.length c1_4), (.slice A1_5 l1_5.length c1_5)] 27 (0, 0))) ∧ Aside0 (Below w.heap.size w wc))
 case first =>
  have H := HC3.out
  clear HC3
  by_cases c6 : a0_0 = a1_0
  ·rw [if_pos c6] at H
   have c6b0 : (a0_0 == a1_0) = true := beq_iff_eq.mpr c6
   have c6b1 : (a0_0 != a1_0) = false := bne_eq_false_iff_eq.mpr c6
   clear c6
   (first | rw [c6b0] | (simp only [i64_w, i32_w]; rw [c6b0]) | skip)
   by_cases c7 : a0_1 = a1_1
   ·rw [if_pos c7] at H
    have c7b0 : (a0_1 == a1_1) = true := beq_iff_eq.mpr c7
    have c7b1 : (a0_1 != a1_1) = false := bne_eq_false_iff_eq.mpr c7
    clear c7
    by_cases c8 : (l0_2.length : Int) = (l1_2.length : Int)
    ·rw [if_pos c8] at H
     have c8b0 : ((l0_2.length : Int) == (l1_2.length : Int)) = true := beq_iff_eq.mpr c8
     have c8b1 : ((l0_2.length : Int) != (l1_2.length : Int)) = false := bne_eq_false_iff_eq.mpr c8
     have c8b2 : (l0_2.length == l1_2.length) = true := by first | simpa using c8 | (simp at c8 ⊢; omega)
     clear c8
     by_cases c9 : (l0_3.length : Int) = (l1_3.length : Int)
     ·rw [if_pos c9] at H
      have c9b0 : ((l0_3.length : Int) == (l1_3.length : Int)) = true := beq_iff_eq.mpr c9
      have c9b1 : ((l0_3.length : Int) != (l1_3.length : Int)) = false := bne_eq_false_iff_eq.mpr c9
      have c9b2 : (l0_3.length == l1_3.length) = true := by first | simpa using c9 | (simp at c9 ⊢; omega)
      clear c9
      by_cases c10 : (l0_4.length : Int) = (l1_4.length : Int)
      ·rw [if_pos c10] at H
       have c10b0 : ((l0_4.length : Int) == (l1_4.length : Int)) = true := beq_iff_eq.mpr c10
       have c10b1 : ((l0_4.length : Int) != (l1_4.length : Int)) = false := bne_eq_false_iff_eq.mpr c10
       have c10b2 : (l0_4.length == l1_4.length) = true := by first | simpa using c10 | (simp at c10 ⊢; omega)
       clear c10
       have H' := Aside0.mk H
       clear H
       have hnb11 := NB285_286.out
       have hnc11 := NB286_285.out
       have hcz12_0 : w5.cell? ⟨gb285, 0, none⟩ = some (.int .i64 a0_0) := bc BK285 0
       have hcz12_1 : w5.cell? ⟨gb285, 1, none⟩ = some (.int .i64 a0_1) := bc BK285 1
       have hcz12_2 : w5.cell? ⟨gb285, 2, none⟩ = some (.slice A0_2 l0_2.length c0_2) := bc BK285 2
       have hcz12_3 : w5.cell? ⟨gb285, 3, none⟩ = some (.slice A0_3 l0_3.length c0_3) := bc BK285 3
       have hcz12_4 : w5.cell? ⟨gb285, 4, none⟩ = some (.slice A0_4 l0_4.length c0_4) := bc BK285 4
       have hcz12_5 : w5.cell? ⟨gb285, 5, none⟩ = some (.slice A0_5 l0_5.length c0_5) := bc BK285 5
       have hfz12_0 := blk_frozen BK285.out 0
       have hfz12_1 := blk_frozen BK285.out 1
       have hfz12_2 := blk_frozen BK285.out 2
       have hfz12_3 := blk_frozen BK285.out 3
       have hfz12_4 := blk_frozen BK285.out 4
       have hfz12_5 := blk_frozen BK285.out 5
       have hcz13_0 : w5.cell? ⟨gb286, 0, none⟩ = some (.int .i64 a1_0) := bc BK286 0
       have hcz13_1 : w5.cell? ⟨gb286, 1, none⟩ = some (.int .i64 a1_1) := bc BK286 1
       have hcz13_2 : w5.cell? ⟨gb286, 2, none⟩ = some (.slice A1_2 l1_2.length c1_2) := bc BK286 2
       have hcz13_3 : w5.cell? ⟨gb286, 3, none⟩ = some (.slice A1_3 l1_3.length c1_3) := bc BK286 3
       have hcz13_4 : w5.cell? ⟨gb286, 4, none⟩ = some (.slice A1_4 l1_4.length c1_4) := bc BK286 4
       have hcz13_5 : w5.cell? ⟨gb286, 5, none⟩ = some (.slice A1_5 l1_5.length c1_5) := bc BK286 5
       have hfz13_0 := blk_frozen BK286.out 0
       have hfz13_1 := blk_frozen BK286.out 1
       have hfz13_2 := blk_frozen BK286.out 2
       have hfz13_3 := blk_frozen BK286.out 3
       have hfz13_4 := blk_frozen BK286.out 4
       have hfz13_5 := blk_frozen BK286.out 5
       go_wp2
       go_meet
       case rel => exact ⟨_, (((l0_5.length : Int) != (l1_5.length : Int))), (by first | rfl | (simp; done) | (simp [*]; done)), H', ⟨by first | omega | exact Nat.le_refl _⟩, ⟨kb BK285⟩, ⟨kb BK286⟩, ⟨kl HB⟩⟩
      ·rw [if_neg c10] at H
       exact absurd (H.trans (congrArg some hT.out)) (callboardref18_Same.dead_j0_0 _ _ _ _ _ _ _ _ _ _ _ _ _)
     ·rw [if_neg c9] at H
      exact absurd (H.trans (congrArg some hT.out)) (callboardref18_Same.dead_j0_0 _ _ _ _ _ _ _ _ _ _ _ _ _)
    ·rw [if_neg c8] at H
     exact absurd (H.trans (congrArg some hT.out)) (callboardref18_Same.dead_j0_0 _ _ _ _ _ _ _ _ _ _ _ _ _)
   ·rw [if_neg c7] at H
    exact absurd (H.trans (congrArg some hT.out)) (callboardref18_Same.dead_j0_0 _ _ _ _ _ _ _ _ _ _ _ _ _)
  ·rw [if_neg c6] at H
   exact absurd (H.trans (congrArg some hT.out)) (callboardref18_Same.dead_j0_0 _ _ _ _ _ _ _ _ _ _ _ _ _)
 case rest =>
  clear HC3
  try clear c1
  try clear p2
  try clear c4
  try clear c6
  try clear c6b0
  try clear c6b1
  try clear c7
  try clear c7b0
  try clear c7b1
  try clear c8
  try clear c8b0
  try clear c8b1
  try clear c8b2
  try clear c9
  try clear c9b0
  try clear c9b1
  try clear c9b2
  try clear c10
  try clear c10b0
  try clear c10b1
  try clear c10b2
  try clear c11
  try clear hcz12_0
  try clear hcz12_1
  try clear hcz12_2
  try clear hcz12_3
  try clear hcz12_4
  try clear hcz12_5
  try clear hcz13_0
  try clear hcz13_1
  try clear hcz13_2
  try clear hcz13_3
  try clear hcz13_4
  try clear hcz13_5
  try clear hfz12_0
  try clear hfz12_1
  try clear hfz12_2
  try clear hfz12_3
  try clear hfz12_4
  try clear hfz12_5
  try clear hfz13_0
  try clear hfz13_1
  try clear hfz13_2
  try clear hfz13_3
  try clear hfz13_4
  try clear hfz13_5
  obtain ⟨kq, x56_2, rfl, HA, HJ2, BK285, BK286, HB⟩ := hcut
  cases kq with
  | zero => exact absurd HA.out (by simp [callboardref18_Same.j0])
  | succ kj2 =>
   have H := HA.out
   clear HA
   simp only [callboardref18_Same.j0] at H
   by_cases c14 : x56_2 = true
   ·subst c14
    have H1 : (some false) = some r := by rw [if_pos rfl] at H; exact H
    clear H
    have H := H1
    clear H1
    exact absurd (H.trans (congrArg some hT.out)) (by decide)
   ·replace c14 := Bool.eq_false_iff.mpr c14
    subst c14
    have H1 : (callboardref18_Same.l0 kj2 0 a0_0 a0_1 l0_2 l0_3 l0_4 l0_5 a1_0 a1_1 l1_2 l1_3 l1_4 l1_5) = some r := by rw [if_neg (show ¬ (false = true) by decide)] at H; exact H
    clear H
    have H := H1
    clear H1
    have H' := Aside0.mk H
    clear H
    go_wp2
    go_loopg [5] kj2 (fun kq v5 w' => ∃ (x5_2 : Int), v5 = .int .i64 x5_2 ∧ Aside0 (callboardref18_Same.l0 kq x5_2 a0_0 a0_1 l0_2 l0_3 l0_4 l0_5 a1_0 a1_1 l1_2 l1_3 l1_4 l1_5 = some r) ∧ Aside0 (kq ≤ kj2) ∧ Aside0 (w'.heap[gb285]? = some (.cells #[.int .i64 a0_0, .int .i64 a0_1, (.slice A0_2 l0_2.length c0_2), (.slice A0_3 l0_3.length c0_3), (.slice A0_4 l0_4.length c0_4), (.slice A0_5 l0_5.length c0_5)] 27 (0, 0))) ∧ Aside0 (w'.heap[gb286]? = some (.cells #[.int .i64 a1_0, .int .i64 a1_1, (.slice A1_2 l1_2.length c1_2), (.slice A1_3 l1_3.length c1_3), (.slice A1_4 l1_4.length c1_4), (.slice A1_5 l1_5.length c1_5)] 27 (0, 0))) ∧ Aside0 (Below w.heap.size w w'))
    case atStart => exact ⟨(0), (by first | rfl | (simp; done) | (simp [*]; done)), H', ⟨Nat.le_refl _⟩, ⟨kb BK285⟩, ⟨kb BK286⟩, ⟨kl HB⟩⟩
    case round =>
     clear H'
     try clear c1
     try clear p2
     try clear c4
     try clear c6
     try clear c6b0
     try clear c6b1
     try clear c7
     try clear c7b0
     try clear c7b1
     try clear c8
     try clear c8b0
     try clear c8b1
     try clear c8b2
     try clear c9
     try clear c9b0
     try clear c9b1
     try clear c9b2
     try clear c10
     try clear c10b0
     try clear c10b1
     try clear c10b2
     try clear c11
     try clear c14
     try clear hcz12_0
     try clear hcz12_1
     try clear hcz12_2
     try clear hcz12_3
     try clear hcz12_4
     try clear hcz12_5
     try clear hcz13_0
     try clear hcz13_1
     try clear hcz13_2
     try clear hcz13_3
     try clear hcz13_4
     try clear hcz13_5
     try clear hfz12_0
     try clear hfz12_1
     try clear hfz12_2
     try clear hfz12_3
     try clear hfz12_4
     try clear hfz12_5
     try clear hfz13_0
     try clear hfz13_1
     try clear hfz13_2
     try clear hfz13_3
     try clear hfz13_4
     try clear hfz13_5
     try clear p2
     obtain ⟨x5_2, rfl, HA, HK2, BK285, BK286, HB⟩ := hrel
     cases gk with
     | zero => exact absurd HA.out (by simp [callboardref18_Same.l0])
     | succ k2 =>
      have H := HA.out
      clear HA
      simp only [callboardref18_Same.l0] at H
      by_cases c15 : x5_2 < (l0_2.length : Int)
      ·rw [if_pos c15] at H
       have c15b0 : decide (x5_2 < (l0_2.length : Int)) = true := decide_eq_true c15
       clear c15
       by_cases c16 : 0 ≤ x5_2
       ·rw [if_pos c16] at H
        have c16b0 : decide (0 ≤ x5_2) = true := decide_eq_true c16
        clear c16
        by_cases c17 : x5_2 < (l1_2.length : Int)
        ·rw [if_pos c17] at H
         have c17b0 : decide (x5_2 < (l1_2.length : Int)) = true := decide_eq_true c17
         clear c17
         replace H := Option.bind_eq_some_iff.mp H
         obtain ⟨t289, A180, H⟩ := H
         replace H : (if t289 = true then (callboardref18_Same.l0 k2 (wrap64 (x5_2 + 1)) a0_0 a0_1 l0_2 l0_3 l0_4 l0_5 a1_0 a1_1 l1_2 l1_3 l1_4 l1_5) else (some false)) = some r := H
         have A18 := Aside0.mk A180
         clear A180
         by_cases c19 : t289 = true
         ·subst c19
          have H1 : (callboardref18_Same.l0 k2 (wrap64 (x5_2 + 1)) a0_0 a0_1 l0_2 l0_3 l0_4 l0_5 a1_0 a1_1 l1_2 l1_3 l1_4 l1_5) = some r := by rw [if_pos rfl] at H; exact H
          clear H
          have H := H1
          clear H1
          have H' := Aside0.mk H
          clear H
          have hnb20 := NB285_286.out
          have hnc20 := NB286_285.out
          have hcz21_0 : wr.cell? ⟨gb285, 0, none⟩ = some (.int .i64 a0_0) := bc BK285 0
          have hcz21_1 : wr.cell? ⟨gb285, 1, none⟩ = some (.int .i64 a0_1) := bc BK285 1
          have hcz21_2 : wr.cell? ⟨gb285, 2, none⟩ = some (.slice A0_2 l0_2.length c0_2) := bc BK285 2
          have hcz21_3 : wr.cell? ⟨gb285, 3, none⟩ = some (.slice A0_3 l0_3.length c0_3) := bc BK285 3
          have hcz21_4 : wr.cell? ⟨gb285, 4, none⟩ = some (.slice A0_4 l0_4.length c0_4) := bc BK285 4
          have hcz21_5 : wr.cell? ⟨gb285, 5, none⟩ = some (.slice A0_5 l0_5.length c0_5) := bc BK285 5
          have hfz21_0 := blk_frozen BK285.out 0
          have hfz21_1 := blk_frozen BK285.out 1
          have hfz21_2 := blk_frozen BK285.out 2
          have hfz21_3 := blk_frozen BK285.out 3
          have hfz21_4 := blk_frozen BK285.out 4
          have hfz21_5 := blk_frozen BK285.out 5
          try go_wp2
          replace BK285 := Aside0.mk (blk_drew BK285.out)
          replace BK286 := Aside0.mk (blk_drew BK286.out)
          replace HB := Aside0.mk (below_drew1 HB.out)
          have p287 : 0 ≤ (x5_2 : Int) := of_decide_eq_true (by first | (with_reducible assumption) | assumption)
          have q287 : x5_2 < (l0_2.length : Int) := of_decide_eq_true (by first | (with_reducible assumption) | assumption)
          obtain ⟨ad287, A287_1, c287_1, A287_2, c287_2, A287_3, c287_3, e287, hx287_0, hx287_1, hx287_2, hx287_3, hl287_1, hi287_1, hl287_2, hi287_2, hl287_3, hi287_3⟩ := at_T34 HR0_2.out x5_2 p287 q287
          have hw287_3 := hx287_3
          have hw287_2 := hx287_2
          have hw287_1 := hx287_1
          have hw287_0 := hx287_0
          cases e287
          replace hx287_0 := (HB.out.cell (World.block_lt_of_cell? w _ hx287_0)).trans hx287_0
          replace hx287_1 := (HB.out.cell (World.block_lt_of_cell? w _ hx287_1)).trans hx287_1
          replace hx287_2 := (HB.out.cell (World.block_lt_of_cell? w _ hx287_2)).trans hx287_2
          replace hx287_3 := (HB.out.cell (World.block_lt_of_cell? w _ hx287_3)).trans hx287_3
          have HR287_1 := Aside0.mk hi287_1
          have HC287_1 := Aside0.mk hl287_1
          clear hi287_1 hl287_1
          have HR287_2 := Aside0.mk hi287_2
          have HC287_2 := Aside0.mk hl287_2
          clear hi287_2 hl287_2
          have HR287_3 := Aside0.mk hi287_3
          have HC287_3 := Aside0.mk hl287_3
          clear hi287_3 hl287_3
          replace p287 := eq_true p287
          replace q287 := eq_true q287
          have p288 : 0 ≤ (x5_2 : Int) := of_decide_eq_true (by first | (with_reducible assumption) | assumption)
          have q288 : x5_2 < (l1_2.length : Int) := of_decide_eq_true (by first | (with_reducible assumption) | assumption)
          obtain ⟨ad288, A288_1, c288_1, A288_2, c288_2, A288_3, c288_3, e288, hx288_0, hx288_1, hx288_2, hx288_3, hl288_1, hi288_1, hl288_2, hi288_2, hl288_3, hi288_3⟩ := at_T34 HR1_2.out x5_2 p288 q288
          have hw288_3 := hx288_3
          have hw288_2 := hx288_2
          have hw288_1 := hx288_1
          have hw288_0 := hx288_0
          cases e288
          replace hx288_0 := (HB.out.cell (World.block_lt_of_cell? w _ hx288_0)).trans hx288_0
          replace hx288_1 := (HB.out.cell (World.block_lt_of_cell? w _ hx288_1)).trans hx288_1
          replace hx288_2 := (HB.out.cell (World.block_lt_of_cell? w _ hx288_2)).trans hx288_2
          replace hx288_3 := (HB.out.cell (World.block_lt_of_cell? w _ hx288_3)).trans hx288_3
          have HR288_1 := Aside0.mk hi288_1
          have HC288_1 := Aside0.mk hl288_1
          clear hi288_1 hl288_1
          have HR288_2 := Aside0.mk hi288_2
          have HC288_2 := Aside0.mk hl288_2
          clear hi288_2 hl288_2
          have HR288_3 := Aside0.mk hi288_3
          have HC288_3 := Aside0.mk hl288_3
          clear hi288_3 hl288_3
          replace p288 := eq_true p288
          replace q288 := eq_true q288
          refine start_ (n := 12) (S := fun w' => w'.cell? ⟨gb285, 0, none⟩ = some (.int .i64 a0_0) ∧ w'.cell? ⟨gb285, 1, none⟩ = some (.int .i64 a0_1) ∧ w'.cell? ⟨gb285, 2, none⟩ = some (.slice (some ad287) l0_2.length c0_2) ∧ w'.cell? ⟨gb285, 3, none⟩ = some (.slice A0_3 l0_3.length c0_3) ∧ w'.cell? ⟨gb285, 4, none⟩ = some (.slice A0_4 l0_4.length c0_4) ∧ w'.cell? ⟨gb285, 5, none⟩ = some (.slice A0_5 l0_5.length c0_5) ∧ w'.cell? ⟨gb286, 0, none⟩ = some (.int .i64 a1_0) ∧ w'.cell? ⟨gb286, 1, none⟩ = some (.int .i64 a1_1) ∧ w'.cell? ⟨gb286, 2, none⟩ = some (.slice (some ad288) l1_2.length c1_2) ∧ w'.cell? ⟨gb286, 3, none⟩ = some (.slice A1_3 l1_3.length c1_3) ∧ w'.cell? ⟨gb286, 4, none⟩ = some (.slice A1_4 l1_4.length c1_4) ∧ w'.cell? ⟨gb286, 5, none⟩ = some (.slice A1_5 l1_5.length c1_5) ∧ w'.cell? (ad287.add ((x5_2).toNat * 4)) = some (.string ((rd_T34 l0_2 x5_2).f0)) ∧ w'.cell? ⟨(ad287.add ((x5_2).toNat * 4)).block, (ad287.add ((x5_2).toNat * 4)).off + 1, none⟩ = some (.slice A287_1 ((rd_T34 l0_2 x5_2).f1).length c287_1) ∧ w'.cell? ⟨(ad287.add ((x5_2).toNat * 4)).block, (ad287.add ((x5_2).toNat * 4)).off + 2, none⟩ = some (.slice A287_2 ((rd_T34 l0_2 x5_2).f2).length c287_2) ∧ w'.cell? ⟨(ad287.add ((x5_2).toNat * 4)).block, (ad287.add ((x5_2).toNat * 4)).off + 3, none⟩ = some (.slice A287_3 ((rd_T34 l0_2 x5_2).f3).length c287_3) ∧ w'.cell? (ad288.add ((x5_2).toNat * 4)) = some (.string ((rd_T34 l1_2 x5_2).f0)) ∧ w'.cell? ⟨(ad288.add ((x5_2).toNat * 4)).block, (ad288.add ((x5_2).toNat * 4)).off + 1, none⟩ = some (.slice A288_1 ((rd_T34 l1_2 x5_2).f1).length c288_1) ∧ w'.cell? ⟨(ad288.add ((x5_2).toNat * 4)).block, (ad288.add ((x5_2).toNat * 4)).off + 2, none⟩ = some (.slice A288_2 ((rd_T34 l1_2 x5_2).f2).length c288_2) ∧ w'.cell? ⟨(ad288.add ((x5_2).toNat * 4)).block, (ad288.add ((x5_2).toNat * 4)).off + 3, none⟩ = some (.slice A288_3 ((rd_T34 l1_2 x5_2).f3).length c288_3)) (ds := []) #[N,N,N,N,N,N,N,N,N,N,N,N] (by kernel_rfl) rfl rfl ⟨bc BK285 0, bc BK285 1, bc BK285 2, bc BK285 3, bc BK285 4, bc BK285 5, bc BK286 0, bc BK286 1, bc BK286 2, bc BK286 3, bc BK286 4, bc BK286 5, ((HB.out.cell (World.block_lt_of_cell? w _ hw287_0)).trans hw287_0), ((HB.out.cell (World.block_lt_of_cell? w _ hw287_1)).trans hw287_1), ((HB.out.cell (World.block_lt_of_cell? w _ hw287_2)).trans hw287_2), ((HB.out.cell (World.block_lt_of_cell? w _ hw287_3)).trans hw287_3), ((HB.out.cell (World.block_lt_of_cell? w _ hw288_0)).trans hw288_0), ((HB.out.cell (World.block_lt_of_cell? w _ hw288_1)).trans hw288_1), ((HB.out.cell (World.block_lt_of_cell? w _ hw288_2)).trans hw288_2), ((HB.out.cell (World.block_lt_of_cell? w _ hw288_3)).trans hw288_3)⟩ (fun hHeld => ?_); refine with_tabW callboardref18_Same.tab6 callboardref18_Same.bits6 (fun HT_ HW_ => ?_)
          generalize wr.drew = w22 at BK285 BK286 HB HR287_1 HR287_2 HR287_3 HR288_1 HR288_2 HR288_3 hx287_0 hx287_1 hx287_2 hx287_3 hx288_0 hx288_1 hx288_2 hx288_3 hHeld ⊢
          refine pure_ (i := 0) (N := some 64) (v := ?_) (a' := ?_) #[Y,N,N,N,N,N,N,N,N,N,N,N] rfl rfl (any_of HT_.out (by kernel_rfl)) (fun _ _ _ h => h) (Or.inl ⟨by rfl, ?_⟩) ?_ ?_
          rotate_left
          ·intro w'
           go_simp
           with_reducible rfl
          rotate_left
          ·simp only [Act.put, List.setIfInBounds_toArray, List.set_cons_zero, List.set_cons_succ, i64_w, i32_w]
           rfl
          refine pure_ (i := 2) (N := some 66) (v := ?_) (a' := ?_) #[Y,N,Y,N,N,N,N,N,N,N,N,N] rfl rfl (any_of HT_.out (by kernel_rfl)) (fun _ _ _ h => h) (Or.inl ⟨by rfl, ?_⟩) ?_ ?_
          rotate_left
          ·intro w'
           go_simp
           with_reducible rfl
          rotate_left
          ·simp only [Act.put, List.setIfInBounds_toArray, List.set_cons_zero, List.set_cons_succ, i64_w, i32_w]
           rfl
          refine pure_ (i := 5) (N := some 69) (v := ?_) (a' := ?_) #[Y,N,Y,N,N,Y,N,N,N,N,N,N] rfl rfl (any_of HT_.out (by kernel_rfl)) (fun _ _ _ h => h) (Or.inl ⟨by rfl, ?_⟩) ?_ ?_
          rotate_left
          ·intro w'
           go_simp
           with_reducible rfl
          rotate_left
          ·simp only [Act.put, List.setIfInBounds_toArray, List.set_cons_zero, List.set_cons_succ, i64_w, i32_w]
           rfl
          refine pure_ (i := 7) (N := some 71) (v := ?_) (a' := ?_) #[Y,N,Y,N,N,Y,N,Y,N,N,N,N] rfl rfl (any_of HT_.out (by kernel_rfl)) (fun _ _ _ h => h) (Or.inl ⟨by rfl, ?_⟩) ?_ ?_
          rotate_left
          ·intro w'
           go_simp
           with_reducible rfl
          rotate_left
          ·simp only [Act.put, List.setIfInBounds_toArray, List.set_cons_zero, List.set_cons_succ, i64_w, i32_w]
           rfl
          refine take_ (i := 1) (N := some 65) (v := ?_) (a' := ?_) #[Y,Y,Y,N,N,Y,N,Y,N,N,N,N] rfl rfl (take_ofW HT_.out HW_.out (by kernel_rfl)) (fun _ _ _ h => h) (Or.inl ⟨by rfl, ?_⟩) hHeld ?_ ?_
          rotate_left
          ·rintro w' ⟨s0, s1, s2, s3, s4, s5, s6, s7, s8, s9, s10, s11, s12, s13, s14, s15, s16, s17, s18, s19⟩
           go_simp
           with_reducible rfl
          rotate_left
          ·simp only [Act.put, List.setIfInBounds_toArray, List.set_cons_zero, List.set_cons_succ, i64_w, i32_w]
           rfl
          refine pure_ (i := 3) (N := some 67) (v := ?_) (a' := ?_) #[Y,Y,Y,Y,N,Y,N,Y,N,N,N,N] rfl rfl (any_of HT_.out (by kernel_rfl)) (fun _ _ _ h => h) (Or.inl ⟨by rfl, ?_⟩) ?_ ?_
          rotate_left
          ·intro w'
           go_simp
           with_reducible rfl
          rotate_left
          ·simp only [Act.put, List.setIfInBounds_toArray, List.set_cons_zero, List.set_cons_succ, i64_w, i32_w]
           rfl
          refine take_ (i := 4) (N := some 68) (v := ?_) (a' := ?_) #[Y,Y,Y,Y,Y,Y,N,Y,N,N,N,N] rfl rfl (take_ofW HT_.out HW_.out (by kernel_rfl)) (fun _ _ _ h => h) (Or.inl ⟨by rfl, ?_⟩) hHeld ?_ ?_
          rotate_left
          ·rintro w' ⟨s0, s1, s2, s3, s4, s5, s6, s7, s8, s9, s10, s11, s12, s13, s14, s15, s16, s17, s18, s19⟩
           go_simp
           with_reducible rfl
          rotate_left
          ·simp only [Act.put, List.setIfInBounds_toArray, List.set_cons_zero, List.set_cons_succ, i64_w, i32_w]
           rfl
          refine take_ (i := 6) (N := some 70) (v := ?_) (a' := ?_) #[Y,Y,Y,Y,Y,Y,Y,Y,N,N,N,N] rfl rfl (take_ofW HT_.out HW_.out (by kernel_rfl)) (fun _ _ _ h => h) (Or.inl ⟨by rfl, ?_⟩) hHeld ?_ ?_
          rotate_left
          ·rintro w' ⟨s0, s1, s2, s3, s4, s5, s6, s7, s8, s9, s10, s11, s12, s13, s14, s15, s16, s17, s18, s19⟩
           go_simp
           with_reducible rfl
          rotate_left
          ·simp only [Act.put, List.setIfInBounds_toArray, List.set_cons_zero, List.set_cons_succ, i64_w, i32_w]
           rfl
          refine pure_ (i := 8) (N := some 72) (v := ?_) (a' := ?_) #[Y,Y,Y,Y,Y,Y,Y,Y,Y,N,N,N] rfl rfl (any_of HT_.out (by kernel_rfl)) (fun _ _ _ h => h) (Or.inl ⟨by rfl, ?_⟩) ?_ ?_
          rotate_left
          ·intro w'
           go_simp
           with_reducible rfl
          rotate_left
          ·simp only [Act.put, List.setIfInBounds_toArray, List.set_cons_zero, List.set_cons_succ, i64_w, i32_w]
           rfl
          refine take_ (i := 9) (N := some 73) (v := ?_) (a' := ?_) #[Y,Y,Y,Y,Y,Y,Y,Y,Y,Y,N,N] rfl rfl (take_ofW HT_.out HW_.out (by kernel_rfl)) (fun _ _ _ h => h) (Or.inl ⟨by rfl, ?_⟩) hHeld ?_ ?_
          rotate_left
          ·rintro w' ⟨s0, s1, s2, s3, s4, s5, s6, s7, s8, s9, s10, s11, s12, s13, s14, s15, s16, s17, s18, s19⟩
           go_simp
           with_reducible rfl
          rotate_left
          ·simp only [Act.put, List.setIfInBounds_toArray, List.set_cons_zero, List.set_cons_succ, i64_w, i32_w]
           rfl
          refine one_ (i := 10) (N := some 74) #[Y,Y,Y,Y,Y,Y,Y,Y,Y,Y,Y,N] rfl rfl (one_of HT_.out (by kernel_rfl)) (by decide) (fun K hK => ?_)
          refine goes_ Try.func107 (by kernel_rfl) rfl #[.agg #[.string ((rd_T34 l0_2 x5_2).f0), .slice A287_1 ((rd_T34 l0_2 x5_2).f1).length c287_1, .slice A287_2 ((rd_T34 l0_2 x5_2).f2).length c287_2, .slice A287_3 ((rd_T34 l0_2 x5_2).f3).length c287_3], .agg #[.string ((rd_T34 l1_2 x5_2).f0), .slice A288_1 ((rd_T34 l1_2 x5_2).f1).length c288_1, .slice A288_2 ((rd_T34 l1_2 x5_2).f2).length c288_2, .slice A288_3 ((rd_T34 l1_2 x5_2).f3).length c288_3]] (by rfl) rfl rfl (by (try simp only [List.map_toArray, List.map_cons, List.map_nil]); first | done | rfl | (simp only [List.length_drop, List.length_take]; rfl)) ?_
          with_reducible refine (callboardref14_Same.calls ((rd_T34 l0_2 x5_2).f0) _ _ ((rd_T34 l0_2 x5_2).f1) _ _ ((rd_T34 l0_2 x5_2).f2) _ _ ((rd_T34 l0_2 x5_2).f3) ((rd_T34 l1_2 x5_2).f0) _ _ ((rd_T34 l1_2 x5_2).f1) _ _ ((rd_T34 l1_2 x5_2).f2) _ _ ((rd_T34 l1_2 x5_2).f3) true _ ?side1 ?side2 ?side3 ?side4 ?side5 ?side6 ?side7 ?side8 ?side9 ?side10 ?side11 ?side12 A18.out).mono ?_
          (case side1 => exact kc (Kd.C_below HR287_1.out HB.out))
          (case side2 => exact HC287_1.out)
          (case side3 => exact kc (Kd.C_below HR287_2.out HB.out))
          (case side4 => exact HC287_2.out)
          (case side5 => exact kc (Kd.C_below HR287_3.out HB.out))
          (case side6 => exact HC287_3.out)
          (case side7 => exact kc (Kd.C_below HR288_1.out HB.out))
          (case side8 => exact HC288_1.out)
          (case side9 => exact kc (Kd.C_below HR288_2.out HB.out))
          (case side10 => exact HC288_2.out)
          (case side11 => exact kc (Kd.C_below HR288_3.out HB.out))
          (case side12 => exact HC288_3.out)
          rintro e w23 ⟨rfl, hb⟩
          refine ⟨_, rfl, ?_⟩
          replace BK285 := bb BK285 hb
          replace BK286 := bb BK286 hb
          replace HB := Aside0.mk (below_step (kl HB) hb)
          (try clear hb)
          (try clear hb2)
          (try clear hk)
          (try clear hi)
          refine hK.out _ _ ⟨bc BK285 0, bc BK285 1, bc BK285 2, bc BK285 3, bc BK285 4, bc BK285 5, bc BK286 0, bc BK286 1, bc BK286 2, bc BK286 3, bc BK286 4, bc BK286 5, ((HB.out.cell (World.block_lt_of_cell? w _ hw287_0)).trans hw287_0), ((HB.out.cell (World.block_lt_of_cell? w _ hw287_1)).trans hw287_1), ((HB.out.cell (World.block_lt_of_cell? w _ hw287_2)).trans hw287_2), ((HB.out.cell (World.block_lt_of_cell? w _ hw287_3)).trans hw287_3), ((HB.out.cell (World.block_lt_of_cell? w _ hw288_0)).trans hw288_0), ((HB.out.cell (World.block_lt_of_cell? w _ hw288_1)).trans hw288_1), ((HB.out.cell (World.block_lt_of_cell? w _ hw288_2)).trans hw288_2), ((HB.out.cell (World.block_lt_of_cell? w _ hw288_3)).trans hw288_3)⟩ (fun hHeld => ?_)
          clear hK K
          refine norm_ (a' := ?_) ?_ ?_
          rotate_left
          ·show Act.put _ (some 74) _ = _
           simp only [Act.put, List.setIfInBounds_toArray, List.set_cons_zero, List.set_cons_succ, i64_w, i32_w]
           rfl
          refine pure_ (i := 11) (N := some 75) (v := ?_) (a' := ?_) #[Y,Y,Y,Y,Y,Y,Y,Y,Y,Y,Y,Y] rfl rfl (any_of HT_.out (by kernel_rfl)) (fun _ _ _ h => h) (Or.inl ⟨by rfl, ?_⟩) ?_ ?_
          rotate_left
          ·intro w'
           go_simp
           with_reducible rfl
          rotate_left
          ·simp only [Act.put, List.setIfInBounds_toArray, List.set_cons_zero, List.set_cons_succ, i64_w, i32_w]
           rfl
          refine done_ (done_of HT_.out (by kernel_rfl)) ?_
          try go_wp2
          go_roundg k2
          case measure => have := HJ2.out; have := HK2.out; omega
          case rel => exact ⟨(wrap64 (x5_2 + 1)), (by first | rfl | (simp; done) | (simp [*]; done)), H', ⟨by have := HJ2.out; have := HK2.out; omega⟩, ⟨kb BK285⟩, ⟨kb BK286⟩, ⟨kl HB⟩⟩
         ·replace c19 := Bool.eq_false_iff.mpr c19
          subst c19
          have H1 : (some false) = some r := by rw [if_neg (show ¬ (false = true) by decide)] at H; exact H
          clear H
          have H := H1
          clear H1
          exact absurd (H.trans (congrArg some hT.out)) (by decide)
        ·rw [if_neg c17] at H
         exact absurd H (by simp)
       ·rw [if_neg c16] at H
        exact absurd H (by simp)
      ·rw [if_neg c15] at H
       have c15b0 : decide (x5_2 < (l0_2.length : Int)) = false := decide_eq_false c15
       clear c15
       have H' := Aside0.mk H
       clear H
       have hnb24 := NB285_286.out
       have hnc24 := NB286_285.out
       have hcz25_0 : wr.cell? ⟨gb285, 0, none⟩ = some (.int .i64 a0_0) := bc BK285 0
       have hcz25_1 : wr.cell? ⟨gb285, 1, none⟩ = some (.int .i64 a0_1) := bc BK285 1
       have hcz25_2 : wr.cell? ⟨gb285, 2, none⟩ = some (.slice A0_2 l0_2.length c0_2) := bc BK285 2
       have hcz25_3 : wr.cell? ⟨gb285, 3, none⟩ = some (.slice A0_3 l0_3.length c0_3) := bc BK285 3
       have hcz25_4 : wr.cell? ⟨gb285, 4, none⟩ = some (.slice A0_4 l0_4.length c0_4) := bc BK285 4
       have hcz25_5 : wr.cell? ⟨gb285, 5, none⟩ = some (.slice A0_5 l0_5.length c0_5) := bc BK285 5
       have hfz25_0 := blk_frozen BK285.out 0
       have hfz25_1 := blk_frozen BK285.out 1
       have hfz25_2 := blk_frozen BK285.out 2
       have hfz25_3 := blk_frozen BK285.out 3
       have hfz25_4 := blk_frozen BK285.out 4
       have hfz25_5 := blk_frozen BK285.out 5
       go_wp2
       go_loopg [6] k2 (fun kq v6 w' => ∃ (x6_3 : Int), v6 = .int .i64 x6_3 ∧ Aside0 (callboardref18_Same.l1 kq x6_3 a0_0 a0_1 l0_2 l0_3 l0_4 l0_5 a1_0 a1_1 l1_2 l1_3 l1_4 l1_5 = some r) ∧ Aside0 (kq ≤ k2) ∧ Aside0 (w'.heap[gb285]? = some (.cells #[.int .i64 a0_0, .int .i64 a0_1, (.slice A0_2 l0_2.length c0_2), (.slice A0_3 l0_3.length c0_3), (.slice A0_4 l0_4.length c0_4), (.slice A0_5 l0_5.length c0_5)] 27 (0, 0))) ∧ Aside0 (w'.heap[gb286]? = some (.cells #[.int .i64 a1_0, .int .i64 a1_1, (.slice A1_2 l1_2.length c1_2), (.slice A1_3 l1_3.length c1_3), (.slice A1_4 l1_4.length c1_4), (.slice A1_5 l1_5.length c1_5)] 27 (0, 0))) ∧ Aside0 (Below w.heap.size w w'))
       case atStart => exact ⟨(0), (by first | rfl | (simp; done) | (simp [*]; done)), H', ⟨Nat.le_refl _⟩, ⟨kb BK285⟩, ⟨kb BK286⟩, ⟨kl HB⟩⟩
       case round =>
        clear H'
        try clear c1
        try clear c2
        try clear p2
        try clear q2
        try clear hx2
        try clear c4
        try clear c6
        try clear c6b0
        try clear c6b1
        try clear p6
        try clear c7
        try clear c7b0
        try clear c7b1
        try clear c8
        try clear c8b0
        try clear c8b1
        try clear c8b2
        try clear c9
        try clear c9b0
        try clear c9b1
        try clear c9b2
        try clear c10
        try clear c10b0
        try clear c10b1
        try clear c10b2
        try clear c11
        try clear c14
        try clear c15
        try clear c15b0
        try clear c16
        try clear c16b0
        try clear c17
        try clear c17b0
        try clear c19
        try clear c20
        try clear c24
        try clear hcz12_0
        try clear hcz12_1
        try clear hcz12_2
        try clear hcz12_3
        try clear hcz12_4
        try clear hcz12_5
        try clear hcz13_0
        try clear hcz13_1
        try clear hcz13_2
        try clear hcz13_3
        try clear hcz13_4
        try clear hcz13_5
        try clear hcz21_0
        try clear hcz21_1
        try clear hcz21_2
        try clear hcz21_3
        try clear hcz21_4
        try clear hcz21_5
        try clear hcz25_0
        try clear hcz25_1
        try clear hcz25_2
        try clear hcz25_3
        try clear hcz25_4
        try clear hcz25_5
        try clear hfz12_0
        try clear hfz12_1
        try clear hfz12_2
        try clear hfz12_3
        try clear hfz12_4
        try clear hfz12_5
        try clear hfz13_0
        try clear hfz13_1
        try clear hfz13_2
        try clear hfz13_3
        try clear hfz13_4
        try clear hfz13_5
        try clear hfz21_0
        try clear hfz21_1
        try clear hfz21_2
        try clear hfz21_3
        try clear hfz21_4
        try clear hfz21_5
        try clear hfz25_0
        try clear hfz25_1
        try clear hfz25_2
        try clear hfz25_3
        try clear hfz25_4
        try clear hfz25_5
        try clear hx287_0
        try clear hx287_1
        try clear hx287_2
        try clear hx287_3
        try clear hx288_0
        try clear hx288_1
        try clear hx288_2
        try clear hx288_3
        try clear p2
        try clear p287
        try clear p288
        try clear q287
        try clear q288
        obtain ⟨x6_3, rfl, HA, HK3, BK285, BK286, HB⟩ := hrel
        cases gk with
        | zero => exact absurd HA.out (by simp [callboardref18_Same.l1])
        | succ k3 =>
         have H := HA.out
         clear HA
         simp only [callboardref18_Same.l1] at H
         by_cases c26 : x6_3 < (l0_3.length : Int)
         ·rw [if_pos c26] at H
          have c26b0 : decide (x6_3 < (l0_3.length : Int)) = true := decide_eq_true c26
          clear c26
          by_cases c27 : 0 ≤ x6_3
          ·rw [if_pos c27] at H
           have c27b0 : decide (0 ≤ x6_3) = true := decide_eq_true c27
           clear c27
           by_cases c28 : x6_3 < (l1_3.length : Int)
           ·rw [if_pos c28] at H
            have c28b0 : decide (x6_3 < (l1_3.length : Int)) = true := decide_eq_true c28
            clear c28
            by_cases c29 : (!(((rd_T43 l0_3 x6_3).f0) == ((rd_T43 l1_3 x6_3).f0)) || (!(((rd_T43 l0_3 x6_3).f1) == ((rd_T43 l1_3 x6_3).f1)) || (!(((rd_T43 l0_3 x6_3).f2) == ((rd_T43 l1_3 x6_3).f2)) || (!((((rd_T43 l0_3 x6_3).f3).toList) == (((rd_T43 l1_3 x6_3).f3).toList)) || (!(((rd_T43 l0_3 x6_3).f4) == ((rd_T43 l1_3 x6_3).f4)) || (!(((rd_T43 l0_3 x6_3).f5) == ((rd_T43 l1_3 x6_3).f5)) || (!(((rd_T43 l0_3 x6_3).f6) == ((rd_T43 l1_3 x6_3).f6)) || (!((((rd_T43 l0_3 x6_3).f7).toList) == (((rd_T43 l1_3 x6_3).f7).toList)))))))))) = true
            ·rw [if_pos c29] at H
             exact absurd (H.trans (congrArg some hT.out)) (by decide)
            ·rw [if_neg c29] at H
             have c29b0 : (!(((rd_T43 l0_3 x6_3).f0) == ((rd_T43 l1_3 x6_3).f0)) || (!(((rd_T43 l0_3 x6_3).f1) == ((rd_T43 l1_3 x6_3).f1)) || (!(((rd_T43 l0_3 x6_3).f2) == ((rd_T43 l1_3 x6_3).f2)) || (!((((rd_T43 l0_3 x6_3).f3).toList) == (((rd_T43 l1_3 x6_3).f3).toList)) || (!(((rd_T43 l0_3 x6_3).f4) == ((rd_T43 l1_3 x6_3).f4)) || (!(((rd_T43 l0_3 x6_3).f5) == ((rd_T43 l1_3 x6_3).f5)) || (!(((rd_T43 l0_3 x6_3).f6) == ((rd_T43 l1_3 x6_3).f6)) || (!((((rd_T43 l0_3 x6_3).f7).toList) == (((rd_T43 l1_3 x6_3).f7).toList)))))))))) = false := by simpa using c29
             clear c29
             have H' := Aside0.mk H
             clear H
             have hnb30 := NB285_286.out
             have hnc30 := NB286_285.out
             have hcz31_0 : wr.cell? ⟨gb285, 0, none⟩ = some (.int .i64 a0_0) := bc BK285 0
             have hcz31_1 : wr.cell? ⟨gb285, 1, none⟩ = some (.int .i64 a0_1) := bc BK285 1
             have hcz31_2 : wr.cell? ⟨gb285, 2, none⟩ = some (.slice A0_2 l0_2.length c0_2) := bc BK285 2
             have hcz31_3 : wr.cell? ⟨gb285, 3, none⟩ = some (.slice A0_3 l0_3.length c0_3) := bc BK285 3
             have hcz31_4 : wr.cell? ⟨gb285, 4, none⟩ = some (.slice A0_4 l0_4.length c0_4) := bc BK285 4
             have hcz31_5 : wr.cell? ⟨gb285, 5, none⟩ = some (.slice A0_5 l0_5.length c0_5) := bc BK285 5
             have hfz31_0 := blk_frozen BK285.out 0
             have hfz31_1 := blk_frozen BK285.out 1
             have hfz31_2 := blk_frozen BK285.out 2
             have hfz31_3 := blk_frozen BK285.out 3
             have hfz31_4 := blk_frozen BK285.out 4
             have hfz31_5 := blk_frozen BK285.out 5
             try go_wp2
             replace BK285 := Aside0.mk (blk_drew BK285.out)
             replace BK286 := Aside0.mk (blk_drew BK286.out)
             replace HB := Aside0.mk (below_drew1 HB.out)
             have p290 : 0 ≤ (x6_3 : Int) := of_decide_eq_true (by first | (with_reducible assumption) | assumption)
             have q290 : x6_3 < (l0_3.length : Int) := of_decide_eq_true (by first | (with_reducible assumption) | assumption)
             obtain ⟨ad290, e290, hx290_0, hx290_1, hx290_2, hx290_3, hx290_4, hx290_5, hx290_6, hx290_7⟩ := at_T43 HR0_3.out x6_3 p290 q290
             have hw290_7 := hx290_7
             have hw290_6 := hx290_6
             have hw290_5 := hx290_5
             have hw290_4 := hx290_4
             have hw290_3 := hx290_3
             have hw290_2 := hx290_2
             have hw290_1 := hx290_1
             have hw290_0 := hx290_0
             cases e290
             replace hx290_0 := (HB.out.cell (World.block_lt_of_cell? w _ hx290_0)).trans hx290_0
             replace hx290_1 := (HB.out.cell (World.block_lt_of_cell? w _ hx290_1)).trans hx290_1
             replace hx290_2 := (HB.out.cell (World.block_lt_of_cell? w _ hx290_2)).trans hx290_2
             replace hx290_3 := (HB.out.cell (World.block_lt_of_cell? w _ hx290_3)).trans hx290_3
             replace hx290_4 := (HB.out.cell (World.block_lt_of_cell? w _ hx290_4)).trans hx290_4
             replace hx290_5 := (HB.out.cell (World.block_lt_of_cell? w _ hx290_5)).trans hx290_5
             replace hx290_6 := (HB.out.cell (World.block_lt_of_cell? w _ hx290_6)).trans hx290_6
             replace hx290_7 := (HB.out.cell (World.block_lt_of_cell? w _ hx290_7)).trans hx290_7
             replace p290 := eq_true p290
             replace q290 := eq_true q290
             have p291 : 0 ≤ (x6_3 : Int) := of_decide_eq_true (by first | (with_reducible assumption) | assumption)
             have q291 : x6_3 < (l1_3.length : Int) := of_decide_eq_true (by first | (with_reducible assumption) | assumption)
             obtain ⟨ad291, e291, hx291_0, hx291_1, hx291_2, hx291_3, hx291_4, hx291_5, hx291_6, hx291_7⟩ := at_T43 HR1_3.out x6_3 p291 q291
             have hw291_7 := hx291_7
             have hw291_6 := hx291_6
             have hw291_5 := hx291_5
             have hw291_4 := hx291_4
             have hw291_3 := hx291_3
             have hw291_2 := hx291_2
             have hw291_1 := hx291_1
             have hw291_0 := hx291_0
             cases e291
             replace hx291_0 := (HB.out.cell (World.block_lt_of_cell? w _ hx291_0)).trans hx291_0
             replace hx291_1 := (HB.out.cell (World.block_lt_of_cell? w _ hx291_1)).trans hx291_1
             replace hx291_2 := (HB.out.cell (World.block_lt_of_cell? w _ hx291_2)).trans hx291_2
             replace hx291_3 := (HB.out.cell (World.block_lt_of_cell? w _ hx291_3)).trans hx291_3
             replace hx291_4 := (HB.out.cell (World.block_lt_of_cell? w _ hx291_4)).trans hx291_4
             replace hx291_5 := (HB.out.cell (World.block_lt_of_cell? w _ hx291_5)).trans hx291_5
             replace hx291_6 := (HB.out.cell (World.block_lt_of_cell? w _ hx291_6)).trans hx291_6
             replace hx291_7 := (HB.out.cell (World.block_lt_of_cell? w _ hx291_7)).trans hx291_7
             replace p291 := eq_true p291
             replace q291 := eq_true q291
             refine start_ (n := 11) (S := fun w' => w'.cell? ⟨gb285, 0, none⟩ = some (.int .i64 a0_0) ∧ w'.cell? ⟨gb285, 1, none⟩ = some (.int .i64 a0_1) ∧ w'.cell? ⟨gb285, 2, none⟩ = some (.slice A0_2 l0_2.length c0_2) ∧ w'.cell? ⟨gb285, 3, none⟩ = some (.slice (some ad290) l0_3.length c0_3) ∧ w'.cell? ⟨gb285, 4, none⟩ = some (.slice A0_4 l0_4.length c0_4) ∧ w'.cell? ⟨gb285, 5, none⟩ = some (.slice A0_5 l0_5.length c0_5) ∧ w'.cell? ⟨gb286, 0, none⟩ = some (.int .i64 a1_0) ∧ w'.cell? ⟨gb286, 1, none⟩ = some (.int .i64 a1_1) ∧ w'.cell? ⟨gb286, 2, none⟩ = some (.slice A1_2 l1_2.length c1_2) ∧ w'.cell? ⟨gb286, 3, none⟩ = some (.slice (some ad291) l1_3.length c1_3) ∧ w'.cell? ⟨gb286, 4, none⟩ = some (.slice A1_4 l1_4.length c1_4) ∧ w'.cell? ⟨gb286, 5, none⟩ = some (.slice A1_5 l1_5.length c1_5) ∧ w'.cell? (ad290.add ((x6_3).toNat * 8)) = some (.int .i64 ((rd_T43 l0_3 x6_3).f0)) ∧ w'.cell? ⟨(ad290.add ((x6_3).toNat * 8)).block, (ad290.add ((x6_3).toNat * 8)).off + 1, none⟩ = some (.int .i64 ((rd_T43 l0_3 x6_3).f1)) ∧ w'.cell? ⟨(ad290.add ((x6_3).toNat * 8)).block, (ad290.add ((x6_3).toNat * 8)).off + 2, none⟩ = some (.int .u8 ((rd_T43 l0_3 x6_3).f2)) ∧ w'.cell? ⟨(ad290.add ((x6_3).toNat * 8)).block, (ad290.add ((x6_3).toNat * 8)).off + 3, none⟩ = some (.string ((rd_T43 l0_3 x6_3).f3)) ∧ w'.cell? ⟨(ad290.add ((x6_3).toNat * 8)).block, (ad290.add ((x6_3).toNat * 8)).off + 4, none⟩ = some (.int .i64 ((rd_T43 l0_3 x6_3).f4)) ∧ w'.cell? ⟨(ad290.add ((x6_3).toNat * 8)).block, (ad290.add ((x6_3).toNat * 8)).off + 5, none⟩ = some (.int .i64 ((rd_T43 l0_3 x6_3).f5)) ∧ w'.cell? ⟨(ad290.add ((x6_3).toNat * 8)).block, (ad290.add ((x6_3).toNat * 8)).off + 6, none⟩ = some (.int .u8 ((rd_T43 l0_3 x6_3).f6)) ∧ w'.cell? ⟨(ad290.add ((x6_3).toNat * 8)).block, (ad290.add ((x6_3).toNat * 8)).off + 7, none⟩ = some (.string ((rd_T43 l0_3 x6_3).f7)) ∧ w'.cell? (ad291.add ((x6_3).toNat * 8)) = some (.int .i64 ((rd_T43 l1_3 x6_3).f0)) ∧ w'.cell? ⟨(ad291.add ((x6_3).toNat * 8)).block, (ad291.add ((x6_3).toNat * 8)).off + 1, none⟩ = some (.int .i64 ((rd_T43 l1_3 x6_3).f1)) ∧ w'.cell? ⟨(ad291.add ((x6_3).toNat * 8)).block, (ad291.add ((x6_3).toNat * 8)).off + 2, none⟩ = some (.int .u8 ((rd_T43 l1_3 x6_3).f2)) ∧ w'.cell? ⟨(ad291.add ((x6_3).toNat * 8)).block, (ad291.add ((x6_3).toNat * 8)).off + 3, none⟩ = some (.string ((rd_T43 l1_3 x6_3).f3)) ∧ w'.cell? ⟨(ad291.add ((x6_3).toNat * 8)).block, (ad291.add ((x6_3).toNat * 8)).off + 4, none⟩ = some (.int .i64 ((rd_T43 l1_3 x6_3).f4)) ∧ w'.cell? ⟨(ad291.add ((x6_3).toNat * 8)).block, (ad291.add ((x6_3).toNat * 8)).off + 5, none⟩ = some (.int .i64 ((rd_T43 l1_3 x6_3).f5)) ∧ w'.cell? ⟨(ad291.add ((x6_3).toNat * 8)).block, (ad291.add ((x6_3).toNat * 8)).off + 6, none⟩ = some (.int .u8 ((rd_T43 l1_3 x6_3).f6)) ∧ w'.cell? ⟨(ad291.add ((x6_3).toNat * 8)).block, (ad291.add ((x6_3).toNat * 8)).off + 7, none⟩ = some (.string ((rd_T43 l1_3 x6_3).f7))) (ds := []) #[N,N,N,N,N,N,N,N,N,N,N] (by kernel_rfl) rfl rfl ⟨bc BK285 0, bc BK285 1, bc BK285 2, bc BK285 3, bc BK285 4, bc BK285 5, bc BK286 0, bc BK286 1, bc BK286 2, bc BK286 3, bc BK286 4, bc BK286 5, ((HB.out.cell (World.block_lt_of_cell? w _ hw290_0)).trans hw290_0), ((HB.out.cell (World.block_lt_of_cell? w _ hw290_1)).trans hw290_1), ((HB.out.cell (World.block_lt_of_cell? w _ hw290_2)).trans hw290_2), ((HB.out.cell (World.block_lt_of_cell? w _ hw290_3)).trans hw290_3), ((HB.out.cell (World.block_lt_of_cell? w _ hw290_4)).trans hw290_4), ((HB.out.cell (World.block_lt_of_cell? w _ hw290_5)).trans hw290_5), ((HB.out.cell (World.block_lt_of_cell? w _ hw290_6)).trans hw290_6), ((HB.out.cell (World.block_lt_of_cell? w _ hw290_7)).trans hw290_7), ((HB.out.cell (World.block_lt_of_cell? w _ hw291_0)).trans hw291_0), ((HB.out.cell (World.block_lt_of_cell? w _ hw291_1)).trans hw291_1), ((HB.out.cell (World.block_lt_of_cell? w _ hw291_2)).trans hw291_2), ((HB.out.cell (World.block_lt_of_cell? w _ hw291_3)).trans hw291_3), ((HB.out.cell (World.block_lt_of_cell? w _ hw291_4)).trans hw291_4), ((HB.out.cell (World.block_lt_of_cell? w _ hw291_5)).trans hw291_5), ((HB.out.cell (World.block_lt_of_cell? w _ hw291_6)).trans hw291_6), ((HB.out.cell (World.block_lt_of_cell? w _ hw291_7)).trans hw291_7)⟩ (fun hHeld => ?_); refine with_tabW callboardref18_Same.tab11 callboardref18_Same.bits11 (fun HT_ HW_ => ?_)
             generalize wr.drew = w32 at BK285 BK286 HB hx290_0 hx290_1 hx290_2 hx290_3 hx290_4 hx290_5 hx290_6 hx290_7 hx291_0 hx291_1 hx291_2 hx291_3 hx291_4 hx291_5 hx291_6 hx291_7 hHeld ⊢
             refine pure_ (i := 0) (N := some 83) (v := ?_) (a' := ?_) #[Y,N,N,N,N,N,N,N,N,N,N] rfl rfl (any_of HT_.out (by kernel_rfl)) (fun _ _ _ h => h) (Or.inl ⟨by rfl, ?_⟩) ?_ ?_
             rotate_left
             ·intro w'
              go_simp
              with_reducible rfl
             rotate_left
             ·simp only [Act.put, List.setIfInBounds_toArray, List.set_cons_zero, List.set_cons_succ, i64_w, i32_w]
              rfl
             refine pure_ (i := 2) (N := some 85) (v := ?_) (a' := ?_) #[Y,N,Y,N,N,N,N,N,N,N,N] rfl rfl (any_of HT_.out (by kernel_rfl)) (fun _ _ _ h => h) (Or.inl ⟨by rfl, ?_⟩) ?_ ?_
             rotate_left
             ·intro w'
              go_simp
              with_reducible rfl
             rotate_left
             ·simp only [Act.put, List.setIfInBounds_toArray, List.set_cons_zero, List.set_cons_succ, i64_w, i32_w]
              rfl
             refine pure_ (i := 5) (N := some 88) (v := ?_) (a' := ?_) #[Y,N,Y,N,N,Y,N,N,N,N,N] rfl rfl (any_of HT_.out (by kernel_rfl)) (fun _ _ _ h => h) (Or.inl ⟨by rfl, ?_⟩) ?_ ?_
             rotate_left
             ·intro w'
              go_simp
              with_reducible rfl
             rotate_left
             ·simp only [Act.put, List.setIfInBounds_toArray, List.set_cons_zero, List.set_cons_succ, i64_w, i32_w]
              rfl
             refine pure_ (i := 7) (N := some 90) (v := ?_) (a' := ?_) #[Y,N,Y,N,N,Y,N,Y,N,N,N] rfl rfl (any_of HT_.out (by kernel_rfl)) (fun _ _ _ h => h) (Or.inl ⟨by rfl, ?_⟩) ?_ ?_
             rotate_left
             ·intro w'
              go_simp
              with_reducible rfl
             rotate_left
             ·simp only [Act.put, List.setIfInBounds_toArray, List.set_cons_zero, List.set_cons_succ, i64_w, i32_w]
              rfl
             refine take_ (i := 1) (N := some 84) (v := ?_) (a' := ?_) #[Y,Y,Y,N,N,Y,N,Y,N,N,N] rfl rfl (take_ofW HT_.out HW_.out (by kernel_rfl)) (fun _ _ _ h => h) (Or.inl ⟨by rfl, ?_⟩) hHeld ?_ ?_
             rotate_left
             ·rintro w' ⟨s0, s1, s2, s3, s4, s5, s6, s7, s8, s9, s10, s11, s12, s13, s14, s15, s16, s17, s18, s19, s20, s21, s22, s23, s24, s25, s26, s27⟩
              go_simp
              with_reducible rfl
             rotate_left
             ·simp only [Act.put, List.setIfInBounds_toArray, List.set_cons_zero, List.set_cons_succ, i64_w, i32_w]
              rfl
             refine pure_ (i := 3) (N := some 86) (v := ?_) (a' := ?_) #[Y,Y,Y,Y,N,Y,N,Y,N,N,N] rfl rfl (any_of HT_.out (by kernel_rfl)) (fun _ _ _ h => h) (Or.inl ⟨by rfl, ?_⟩) ?_ ?_
             rotate_left
             ·intro w'
              go_simp
              with_reducible rfl
             rotate_left
             ·simp only [Act.put, List.setIfInBounds_toArray, List.set_cons_zero, List.set_cons_succ, i64_w, i32_w]
              rfl
             refine take_ (i := 4) (N := some 87) (v := ?_) (a' := ?_) #[Y,Y,Y,Y,Y,Y,N,Y,N,N,N] rfl rfl (take_ofW HT_.out HW_.out (by kernel_rfl)) (fun _ _ _ h => h) (Or.inl ⟨by rfl, ?_⟩) hHeld ?_ ?_
             rotate_left
             ·rintro w' ⟨s0, s1, s2, s3, s4, s5, s6, s7, s8, s9, s10, s11, s12, s13, s14, s15, s16, s17, s18, s19, s20, s21, s22, s23, s24, s25, s26, s27⟩
              go_simp
              with_reducible rfl
             rotate_left
             ·simp only [Act.put, List.setIfInBounds_toArray, List.set_cons_zero, List.set_cons_succ, i64_w, i32_w]
              rfl
             refine take_ (i := 6) (N := some 89) (v := ?_) (a' := ?_) #[Y,Y,Y,Y,Y,Y,Y,Y,N,N,N] rfl rfl (take_ofW HT_.out HW_.out (by kernel_rfl)) (fun _ _ _ h => h) (Or.inl ⟨by rfl, ?_⟩) hHeld ?_ ?_
             rotate_left
             ·rintro w' ⟨s0, s1, s2, s3, s4, s5, s6, s7, s8, s9, s10, s11, s12, s13, s14, s15, s16, s17, s18, s19, s20, s21, s22, s23, s24, s25, s26, s27⟩
              go_simp
              with_reducible rfl
             rotate_left
             ·simp only [Act.put, List.setIfInBounds_toArray, List.set_cons_zero, List.set_cons_succ, i64_w, i32_w]
              rfl
             refine pure_ (i := 8) (N := some 91) (v := ?_) (a' := ?_) #[Y,Y,Y,Y,Y,Y,Y,Y,Y,N,N] rfl rfl (any_of HT_.out (by kernel_rfl)) (fun _ _ _ h => h) (Or.inl ⟨by rfl, ?_⟩) ?_ ?_
             rotate_left
             ·intro w'
              go_simp
              with_reducible rfl
             rotate_left
             ·simp only [Act.put, List.setIfInBounds_toArray, List.set_cons_zero, List.set_cons_succ, i64_w, i32_w]
              rfl
             refine take_ (i := 9) (N := some 92) (v := ?_) (a' := ?_) #[Y,Y,Y,Y,Y,Y,Y,Y,Y,Y,N] rfl rfl (take_ofW HT_.out HW_.out (by kernel_rfl)) (fun _ _ _ h => h) (Or.inl ⟨by rfl, ?_⟩) hHeld ?_ ?_
             rotate_left
             ·rintro w' ⟨s0, s1, s2, s3, s4, s5, s6, s7, s8, s9, s10, s11, s12, s13, s14, s15, s16, s17, s18, s19, s20, s21, s22, s23, s24, s25, s26, s27⟩
              go_simp
              with_reducible rfl
             rotate_left
             ·simp only [Act.put, List.setIfInBounds_toArray, List.set_cons_zero, List.set_cons_succ, i64_w, i32_w]
              rfl
             refine pure_ (i := 10) (N := some 93) (v := ?_) (a' := ?_) #[Y,Y,Y,Y,Y,Y,Y,Y,Y,Y,Y] rfl rfl (any_of HT_.out (by kernel_rfl)) (fun _ _ _ h => h) (Or.inl ⟨by rfl, ?_⟩) ?_ ?_
             rotate_left
             ·intro w'
              go_simp
              with_reducible rfl
             rotate_left
             ·simp only [Act.put, List.setIfInBounds_toArray, List.set_cons_zero, List.set_cons_succ, i64_w, i32_w]
              rfl
             refine done_ (done_of HT_.out (by kernel_rfl)) ?_
             try go_wp2
             go_roundg k3
             case measure => have := HJ2.out; have := HK2.out; have := HK3.out; omega
             case rel => exact ⟨(wrap64 (x6_3 + 1)), (by first | rfl | (simp; done) | (simp [*]; done)), H', ⟨by have := HJ2.out; have := HK2.out; have := HK3.out; omega⟩, ⟨kb BK285⟩, ⟨kb BK286⟩, ⟨kl HB⟩⟩
           ·rw [if_neg c28] at H
            exact absurd H (by simp)
          ·rw [if_neg c27] at H
           exact absurd H (by simp)
         ·rw [if_neg c26] at H
          have c26b0 : decide (x6_3 < (l0_3.length : Int)) = false := decide_eq_false c26
          clear c26
          have H' := Aside0.mk H
          clear H
          have hnb33 := NB285_286.out
          have hnc33 := NB286_285.out
          have hcz34_0 : wr.cell? ⟨gb285, 0, none⟩ = some (.int .i64 a0_0) := bc BK285 0
          have hcz34_1 : wr.cell? ⟨gb285, 1, none⟩ = some (.int .i64 a0_1) := bc BK285 1
          have hcz34_2 : wr.cell? ⟨gb285, 2, none⟩ = some (.slice A0_2 l0_2.length c0_2) := bc BK285 2
          have hcz34_3 : wr.cell? ⟨gb285, 3, none⟩ = some (.slice A0_3 l0_3.length c0_3) := bc BK285 3
          have hcz34_4 : wr.cell? ⟨gb285, 4, none⟩ = some (.slice A0_4 l0_4.length c0_4) := bc BK285 4
          have hcz34_5 : wr.cell? ⟨gb285, 5, none⟩ = some (.slice A0_5 l0_5.length c0_5) := bc BK285 5
          have hfz34_0 := blk_frozen BK285.out 0
          have hfz34_1 := blk_frozen BK285.out 1
          have hfz34_2 := blk_frozen BK285.out 2
          have hfz34_3 := blk_frozen BK285.out 3
          have hfz34_4 := blk_frozen BK285.out 4
          have hfz34_5 := blk_frozen BK285.out 5
          go_wp2
          go_loopg [7] k3 (fun kq v7 w' => ∃ (x7_4 : Int), v7 = .int .i64 x7_4 ∧ Aside0 (callboardref18_Same.l2 kq x7_4 a0_0 a0_1 l0_2 l0_3 l0_4 l0_5 a1_0 a1_1 l1_2 l1_3 l1_4 l1_5 = some r) ∧ Aside0 (kq ≤ k3) ∧ Aside0 (w'.heap[gb285]? = some (.cells #[.int .i64 a0_0, .int .i64 a0_1, (.slice A0_2 l0_2.length c0_2), (.slice A0_3 l0_3.length c0_3), (.slice A0_4 l0_4.length c0_4), (.slice A0_5 l0_5.length c0_5)] 27 (0, 0))) ∧ Aside0 (w'.heap[gb286]? = some (.cells #[.int .i64 a1_0, .int .i64 a1_1, (.slice A1_2 l1_2.length c1_2), (.slice A1_3 l1_3.length c1_3), (.slice A1_4 l1_4.length c1_4), (.slice A1_5 l1_5.length c1_5)] 27 (0, 0))) ∧ Aside0 (Below w.heap.size w w'))
          case atStart => exact ⟨(0), (by first | rfl | (simp; done) | (simp [*]; done)), H', ⟨Nat.le_refl _⟩, ⟨kb BK285⟩, ⟨kb BK286⟩, ⟨kl HB⟩⟩
          case round =>
           clear H'
           try clear c1
           try clear c2
           try clear p2
           try clear q2
           try clear hx2
           try clear c3
           try clear c4
           try clear c6
           try clear c6b0
           try clear c6b1
           try clear p6
           try clear c7
           try clear c7b0
           try clear c7b1
           try clear c8
           try clear c8b0
           try clear c8b1
           try clear c8b2
           try clear c9
           try clear c9b0
           try clear c9b1
           try clear c9b2
           try clear c10
           try clear c10b0
           try clear c10b1
           try clear c10b2
           try clear c11
           try clear c14
           try clear c15
           try clear c15b0
           try clear c16
           try clear c16b0
           try clear c17
           try clear c17b0
           try clear c19
           try clear c20
           try clear c24
           try clear c26
           try clear c26b0
           try clear c27
           try clear c27b0
           try clear c28
           try clear c28b0
           try clear p28
           try clear q28
           try clear hx28
           try clear c29
           try clear c29b0
           try clear p29
           try clear q29
           try clear hx29
           try clear c30
           try clear c33
           try clear hcz12_0
           try clear hcz12_1
           try clear hcz12_2
           try clear hcz12_3
           try clear hcz12_4
           try clear hcz12_5
           try clear hcz13_0
           try clear hcz13_1
           try clear hcz13_2
           try clear hcz13_3
           try clear hcz13_4
           try clear hcz13_5
           try clear hcz21_0
           try clear hcz21_1
           try clear hcz21_2
           try clear hcz21_3
           try clear hcz21_4
           try clear hcz21_5
           try clear hcz25_0
           try clear hcz25_1
           try clear hcz25_2
           try clear hcz25_3
           try clear hcz25_4
           try clear hcz25_5
           try clear hcz31_0
           try clear hcz31_1
           try clear hcz31_2
           try clear hcz31_3
           try clear hcz31_4
           try clear hcz31_5
           try clear hcz34_0
           try clear hcz34_1
           try clear hcz34_2
           try clear hcz34_3
           try clear hcz34_4
           try clear hcz34_5
           try clear hfz12_0
           try clear hfz12_1
           try clear hfz12_2
           try clear hfz12_3
           try clear hfz12_4
           try clear hfz12_5
           try clear hfz13_0
           try clear hfz13_1
           try clear hfz13_2
           try clear hfz13_3
           try clear hfz13_4
           try clear hfz13_5
           try clear hfz21_0
           try clear hfz21_1
           try clear hfz21_2
           try clear hfz21_3
           try clear hfz21_4
           try clear hfz21_5
           try clear hfz25_0
           try clear hfz25_1
           try clear hfz25_2
           try clear hfz25_3
           try clear hfz25_4
           try clear hfz25_5
           try clear hfz31_0
           try clear hfz31_1
           try clear hfz31_2
           try clear hfz31_3
           try clear hfz31_4
           try clear hfz31_5
           try clear hfz34_0
           try clear hfz34_1
           try clear hfz34_2
           try clear hfz34_3
           try clear hfz34_4
           try clear hfz34_5
           try clear hx287_0
           try clear hx287_1
           try clear hx287_2
           try clear hx287_3
           try clear hx288_0
           try clear hx288_1
           try clear hx288_2
           try clear hx288_3
           try clear hx290_0
           try clear hx290_1
           try clear hx290_2
           try clear hx290_3
           try clear hx290_4
           try clear hx290_5
           try clear hx290_6
           try clear hx290_7
           try clear hx291_0
           try clear hx291_1
           try clear hx291_2
           try clear hx291_3
           try clear hx291_4
           try clear hx291_5
           try clear hx291_6
           try clear hx291_7
           try clear p2
           try clear p287
           try clear p288
           try clear p290
           try clear p291
           try clear p6
           try clear q2
           try clear q287
           try clear q288
           try clear q290
           try clear q291
           obtain ⟨x7_4, rfl, HA, HK4, BK285, BK286, HB⟩ := hrel
           cases gk with
           | zero => exact absurd HA.out (by simp [callboardref18_Same.l2])
           | succ k4 =>
            have H := HA.out
            clear HA
            simp only [callboardref18_Same.l2] at H
            by_cases c35 : x7_4 < (l0_4.length : Int)
            ·rw [if_pos c35] at H
             have c35b0 : decide (x7_4 < (l0_4.length : Int)) = true := decide_eq_true c35
             clear c35
             by_cases c36 : 0 ≤ x7_4
             ·rw [if_pos c36] at H
              have c36b0 : decide (0 ≤ x7_4) = true := decide_eq_true c36
              clear c36
              by_cases c37 : x7_4 < (l1_4.length : Int)
              ·rw [if_pos c37] at H
               have c37b0 : decide (x7_4 < (l1_4.length : Int)) = true := decide_eq_true c37
               clear c37
               by_cases c38 : (!(((rd_T129 l0_4 x7_4).f0) == ((rd_T129 l1_4 x7_4).f0)) || (!((((rd_T129 l0_4 x7_4).f1).toList) == (((rd_T129 l1_4 x7_4).f1).toList)) || ((!(((rd_T129 l0_4 x7_4).f2.f0) == ((rd_T129 l1_4 x7_4).f2.f0)) || (!(((rd_T129 l0_4 x7_4).f2.f1) == ((rd_T129 l1_4 x7_4).f2.f1)) || (!((((rd_T129 l0_4 x7_4).f2.f2).toList) == (((rd_T129 l1_4 x7_4).f2.f2).toList)))))))) = true
               ·rw [if_pos c38] at H
                exact absurd (H.trans (congrArg some hT.out)) (by decide)
               ·rw [if_neg c38] at H
                have c38b0 : (!(((rd_T129 l0_4 x7_4).f0) == ((rd_T129 l1_4 x7_4).f0)) || (!((((rd_T129 l0_4 x7_4).f1).toList) == (((rd_T129 l1_4 x7_4).f1).toList)) || ((!(((rd_T129 l0_4 x7_4).f2.f0) == ((rd_T129 l1_4 x7_4).f2.f0)) || (!(((rd_T129 l0_4 x7_4).f2.f1) == ((rd_T129 l1_4 x7_4).f2.f1)) || (!((((rd_T129 l0_4 x7_4).f2.f2).toList) == (((rd_T129 l1_4 x7_4).f2.f2).toList)))))))) = false := by simpa using c38
                clear c38
                have H' := Aside0.mk H
                clear H
                have hnb39 := NB285_286.out
                have hnc39 := NB286_285.out
                have hcz40_0 : wr.cell? ⟨gb285, 0, none⟩ = some (.int .i64 a0_0) := bc BK285 0
                have hcz40_1 : wr.cell? ⟨gb285, 1, none⟩ = some (.int .i64 a0_1) := bc BK285 1
                have hcz40_2 : wr.cell? ⟨gb285, 2, none⟩ = some (.slice A0_2 l0_2.length c0_2) := bc BK285 2
                have hcz40_3 : wr.cell? ⟨gb285, 3, none⟩ = some (.slice A0_3 l0_3.length c0_3) := bc BK285 3
                have hcz40_4 : wr.cell? ⟨gb285, 4, none⟩ = some (.slice A0_4 l0_4.length c0_4) := bc BK285 4
                have hcz40_5 : wr.cell? ⟨gb285, 5, none⟩ = some (.slice A0_5 l0_5.length c0_5) := bc BK285 5
                have hfz40_0 := blk_frozen BK285.out 0
                have hfz40_1 := blk_frozen BK285.out 1
                have hfz40_2 := blk_frozen BK285.out 2
                have hfz40_3 := blk_frozen BK285.out 3
                have hfz40_4 := blk_frozen BK285.out 4
                have hfz40_5 := blk_frozen BK285.out 5
                try go_wp2
                replace BK285 := Aside0.mk (blk_drew BK285.out)
                replace BK286 := Aside0.mk (blk_drew BK286.out)
                replace HB := Aside0.mk (below_drew1 HB.out)
                have p292 : 0 ≤ (x7_4 : Int) := of_decide_eq_true (by first | (with_reducible assumption) | assumption)
                have q292 : x7_4 < (l0_4.length : Int) := of_decide_eq_true (by first | (with_reducible assumption) | assumption)
                obtain ⟨ad292, e292, hx292_0, hx292_1, hx292_2, hx292_3, hx292_4⟩ := at_T129 HR0_4.out x7_4 p292 q292
                have hw292_4 := hx292_4
                have hw292_3 := hx292_3
                have hw292_2 := hx292_2
                have hw292_1 := hx292_1
                have hw292_0 := hx292_0
                cases e292
                replace hx292_0 := (HB.out.cell (World.block_lt_of_cell? w _ hx292_0)).trans hx292_0
                replace hx292_1 := (HB.out.cell (World.block_lt_of_cell? w _ hx292_1)).trans hx292_1
                replace hx292_2 := (HB.out.cell (World.block_lt_of_cell? w _ hx292_2)).trans hx292_2
                replace hx292_3 := (HB.out.cell (World.block_lt_of_cell? w _ hx292_3)).trans hx292_3
                replace hx292_4 := (HB.out.cell (World.block_lt_of_cell? w _ hx292_4)).trans hx292_4
                replace p292 := eq_true p292
                replace q292 := eq_true q292
                have p293 : 0 ≤ (x7_4 : Int) := of_decide_eq_true (by first | (with_reducible assumption) | assumption)
                have q293 : x7_4 < (l1_4.length : Int) := of_decide_eq_true (by first | (with_reducible assumption) | assumption)
                obtain ⟨ad293, e293, hx293_0, hx293_1, hx293_2, hx293_3, hx293_4⟩ := at_T129 HR1_4.out x7_4 p293 q293
                have hw293_4 := hx293_4
                have hw293_3 := hx293_3
                have hw293_2 := hx293_2
                have hw293_1 := hx293_1
                have hw293_0 := hx293_0
                cases e293
                replace hx293_0 := (HB.out.cell (World.block_lt_of_cell? w _ hx293_0)).trans hx293_0
                replace hx293_1 := (HB.out.cell (World.block_lt_of_cell? w _ hx293_1)).trans hx293_1
                replace hx293_2 := (HB.out.cell (World.block_lt_of_cell? w _ hx293_2)).trans hx293_2
                replace hx293_3 := (HB.out.cell (World.block_lt_of_cell? w _ hx293_3)).trans hx293_3
                replace hx293_4 := (HB.out.cell (World.block_lt_of_cell? w _ hx293_4)).trans hx293_4
                replace p293 := eq_true p293
                replace q293 := eq_true q293
                refine start_ (n := 11) (S := fun w' => w'.cell? ⟨gb285, 0, none⟩ = some (.int .i64 a0_0) ∧ w'.cell? ⟨gb285, 1, none⟩ = some (.int .i64 a0_1) ∧ w'.cell? ⟨gb285, 2, none⟩ = some (.slice A0_2 l0_2.length c0_2) ∧ w'.cell? ⟨gb285, 3, none⟩ = some (.slice A0_3 l0_3.length c0_3) ∧ w'.cell? ⟨gb285, 4, none⟩ = some (.slice (some ad292) l0_4.length c0_4) ∧ w'.cell? ⟨gb285, 5, none⟩ = some (.slice A0_5 l0_5.length c0_5) ∧ w'.cell? ⟨gb286, 0, none⟩ = some (.int .i64 a1_0) ∧ w'.cell? ⟨gb286, 1, none⟩ = some (.int .i64 a1_1) ∧ w'.cell? ⟨gb286, 2, none⟩ = some (.slice A1_2 l1_2.length c1_2) ∧ w'.cell? ⟨gb286, 3, none⟩ = some (.slice A1_3 l1_3.length c1_3) ∧ w'.cell? ⟨gb286, 4, none⟩ = some (.slice (some ad293) l1_4.length c1_4) ∧ w'.cell? ⟨gb286, 5, none⟩ = some (.slice A1_5 l1_5.length c1_5) ∧ w'.cell? (ad292.add ((x7_4).toNat * 5)) = some (.int .i64 ((rd_T129 l0_4 x7_4).f0)) ∧ w'.cell? ⟨(ad292.add ((x7_4).toNat * 5)).block, (ad292.add ((x7_4).toNat * 5)).off + 1, none⟩ = some (.string ((rd_T129 l0_4 x7_4).f1)) ∧ w'.cell? ⟨(ad292.add ((x7_4).toNat * 5)).block, (ad292.add ((x7_4).toNat * 5)).off + 2, none⟩ = some (.int .u8 ((rd_T129 l0_4 x7_4).f2.f0)) ∧ w'.cell? ⟨(ad292.add ((x7_4).toNat * 5)).block, (ad292.add ((x7_4).toNat * 5)).off + 3, none⟩ = some (.int .i64 ((rd_T129 l0_4 x7_4).f2.f1)) ∧ w'.cell? ⟨(ad292.add ((x7_4).toNat * 5)).block, (ad292.add ((x7_4).toNat * 5)).off + 4, none⟩ = some (.string ((rd_T129 l0_4 x7_4).f2.f2)) ∧ w'.cell? (ad293.add ((x7_4).toNat * 5)) = some (.int .i64 ((rd_T129 l1_4 x7_4).f0)) ∧ w'.cell? ⟨(ad293.add ((x7_4).toNat * 5)).block, (ad293.add ((x7_4).toNat * 5)).off + 1, none⟩ = some (.string ((rd_T129 l1_4 x7_4).f1)) ∧ w'.cell? ⟨(ad293.add ((x7_4).toNat * 5)).block, (ad293.add ((x7_4).toNat * 5)).off + 2, none⟩ = some (.int .u8 ((rd_T129 l1_4 x7_4).f2.f0)) ∧ w'.cell? ⟨(ad293.add ((x7_4).toNat * 5)).block, (ad293.add ((x7_4).toNat * 5)).off + 3, none⟩ = some (.int .i64 ((rd_T129 l1_4 x7_4).f2.f1)) ∧ w'.cell? ⟨(ad293.add ((x7_4).toNat * 5)).block, (ad293.add ((x7_4).toNat * 5)).off + 4, none⟩ = some (.string ((rd_T129 l1_4 x7_4).f2.f2))) (ds := []) #[N,N,N,N,N,N,N,N,N,N,N] (by kernel_rfl) rfl rfl ⟨bc BK285 0, bc BK285 1, bc BK285 2, bc BK285 3, bc BK285 4, bc BK285 5, bc BK286 0, bc BK286 1, bc BK286 2, bc BK286 3, bc BK286 4, bc BK286 5, ((HB.out.cell (World.block_lt_of_cell? w _ hw292_0)).trans hw292_0), ((HB.out.cell (World.block_lt_of_cell? w _ hw292_1)).trans hw292_1), ((HB.out.cell (World.block_lt_of_cell? w _ hw292_2)).trans hw292_2), ((HB.out.cell (World.block_lt_of_cell? w _ hw292_3)).trans hw292_3), ((HB.out.cell (World.block_lt_of_cell? w _ hw292_4)).trans hw292_4), ((HB.out.cell (World.block_lt_of_cell? w _ hw293_0)).trans hw293_0), ((HB.out.cell (World.block_lt_of_cell? w _ hw293_1)).trans hw293_1), ((HB.out.cell (World.block_lt_of_cell? w _ hw293_2)).trans hw293_2), ((HB.out.cell (World.block_lt_of_cell? w _ hw293_3)).trans hw293_3), ((HB.out.cell (World.block_lt_of_cell? w _ hw293_4)).trans hw293_4)⟩ (fun hHeld => ?_); refine with_tabW callboardref18_Same.tab16 callboardref18_Same.bits16 (fun HT_ HW_ => ?_)
                generalize wr.drew = w41 at BK285 BK286 HB hx292_0 hx292_1 hx292_2 hx292_3 hx292_4 hx293_0 hx293_1 hx293_2 hx293_3 hx293_4 hHeld ⊢
                refine pure_ (i := 0) (N := some 101) (v := ?_) (a' := ?_) #[Y,N,N,N,N,N,N,N,N,N,N] rfl rfl (any_of HT_.out (by kernel_rfl)) (fun _ _ _ h => h) (Or.inl ⟨by rfl, ?_⟩) ?_ ?_
                rotate_left
                ·intro w'
                 go_simp
                 with_reducible rfl
                rotate_left
                ·simp only [Act.put, List.setIfInBounds_toArray, List.set_cons_zero, List.set_cons_succ, i64_w, i32_w]
                 rfl
                refine pure_ (i := 2) (N := some 103) (v := ?_) (a' := ?_) #[Y,N,Y,N,N,N,N,N,N,N,N] rfl rfl (any_of HT_.out (by kernel_rfl)) (fun _ _ _ h => h) (Or.inl ⟨by rfl, ?_⟩) ?_ ?_
                rotate_left
                ·intro w'
                 go_simp
                 with_reducible rfl
                rotate_left
                ·simp only [Act.put, List.setIfInBounds_toArray, List.set_cons_zero, List.set_cons_succ, i64_w, i32_w]
                 rfl
                refine pure_ (i := 5) (N := some 106) (v := ?_) (a' := ?_) #[Y,N,Y,N,N,Y,N,N,N,N,N] rfl rfl (any_of HT_.out (by kernel_rfl)) (fun _ _ _ h => h) (Or.inl ⟨by rfl, ?_⟩) ?_ ?_
                rotate_left
                ·intro w'
                 go_simp
                 with_reducible rfl
                rotate_left
                ·simp only [Act.put, List.setIfInBounds_toArray, List.set_cons_zero, List.set_cons_succ, i64_w, i32_w]
                 rfl
                refine pure_ (i := 7) (N := some 108) (v := ?_) (a' := ?_) #[Y,N,Y,N,N,Y,N,Y,N,N,N] rfl rfl (any_of HT_.out (by kernel_rfl)) (fun _ _ _ h => h) (Or.inl ⟨by rfl, ?_⟩) ?_ ?_
                rotate_left
                ·intro w'
                 go_simp
                 with_reducible rfl
                rotate_left
                ·simp only [Act.put, List.setIfInBounds_toArray, List.set_cons_zero, List.set_cons_succ, i64_w, i32_w]
                 rfl
                refine take_ (i := 1) (N := some 102) (v := ?_) (a' := ?_) #[Y,Y,Y,N,N,Y,N,Y,N,N,N] rfl rfl (take_ofW HT_.out HW_.out (by kernel_rfl)) (fun _ _ _ h => h) (Or.inl ⟨by rfl, ?_⟩) hHeld ?_ ?_
                rotate_left
                ·rintro w' ⟨s0, s1, s2, s3, s4, s5, s6, s7, s8, s9, s10, s11, s12, s13, s14, s15, s16, s17, s18, s19, s20, s21⟩
                 go_simp
                 with_reducible rfl
                rotate_left
                ·simp only [Act.put, List.setIfInBounds_toArray, List.set_cons_zero, List.set_cons_succ, i64_w, i32_w]
                 rfl
                refine pure_ (i := 3) (N := some 104) (v := ?_) (a' := ?_) #[Y,Y,Y,Y,N,Y,N,Y,N,N,N] rfl rfl (any_of HT_.out (by kernel_rfl)) (fun _ _ _ h => h) (Or.inl ⟨by rfl, ?_⟩) ?_ ?_
                rotate_left
                ·intro w'
                 go_simp
                 with_reducible rfl
                rotate_left
                ·simp only [Act.put, List.setIfInBounds_toArray, List.set_cons_zero, List.set_cons_succ, i64_w, i32_w]
                 rfl
                refine take_ (i := 4) (N := some 105) (v := ?_) (a' := ?_) #[Y,Y,Y,Y,Y,Y,N,Y,N,N,N] rfl rfl (take_ofW HT_.out HW_.out (by kernel_rfl)) (fun _ _ _ h => h) (Or.inl ⟨by rfl, ?_⟩) hHeld ?_ ?_
                rotate_left
                ·rintro w' ⟨s0, s1, s2, s3, s4, s5, s6, s7, s8, s9, s10, s11, s12, s13, s14, s15, s16, s17, s18, s19, s20, s21⟩
                 go_simp
                 with_reducible rfl
                rotate_left
                ·simp only [Act.put, List.setIfInBounds_toArray, List.set_cons_zero, List.set_cons_succ, i64_w, i32_w]
                 rfl
                refine take_ (i := 6) (N := some 107) (v := ?_) (a' := ?_) #[Y,Y,Y,Y,Y,Y,Y,Y,N,N,N] rfl rfl (take_ofW HT_.out HW_.out (by kernel_rfl)) (fun _ _ _ h => h) (Or.inl ⟨by rfl, ?_⟩) hHeld ?_ ?_
                rotate_left
                ·rintro w' ⟨s0, s1, s2, s3, s4, s5, s6, s7, s8, s9, s10, s11, s12, s13, s14, s15, s16, s17, s18, s19, s20, s21⟩
                 go_simp
                 with_reducible rfl
                rotate_left
                ·simp only [Act.put, List.setIfInBounds_toArray, List.set_cons_zero, List.set_cons_succ, i64_w, i32_w]
                 rfl
                refine pure_ (i := 8) (N := some 109) (v := ?_) (a' := ?_) #[Y,Y,Y,Y,Y,Y,Y,Y,Y,N,N] rfl rfl (any_of HT_.out (by kernel_rfl)) (fun _ _ _ h => h) (Or.inl ⟨by rfl, ?_⟩) ?_ ?_
                rotate_left
                ·intro w'
                 go_simp
                 with_reducible rfl
                rotate_left
                ·simp only [Act.put, List.setIfInBounds_toArray, List.set_cons_zero, List.set_cons_succ, i64_w, i32_w]
                 rfl
                refine take_ (i := 9) (N := some 110) (v := ?_) (a' := ?_) #[Y,Y,Y,Y,Y,Y,Y,Y,Y,Y,N] rfl rfl (take_ofW HT_.out HW_.out (by kernel_rfl)) (fun _ _ _ h => h) (Or.inl ⟨by rfl, ?_⟩) hHeld ?_ ?_
                rotate_left
                ·rintro w' ⟨s0, s1, s2, s3, s4, s5, s6, s7, s8, s9, s10, s11, s12, s13, s14, s15, s16, s17, s18, s19, s20, s21⟩
                 go_simp
                 with_reducible rfl
                rotate_left
                ·simp only [Act.put, List.setIfInBounds_toArray, List.set_cons_zero, List.set_cons_succ, i64_w, i32_w]
                 rfl
                refine pure_ (i := 10) (N := some 111) (v := ?_) (a' := ?_) #[Y,Y,Y,Y,Y,Y,Y,Y,Y,Y,Y] rfl rfl (any_of HT_.out (by kernel_rfl)) (fun _ _ _ h => h) (Or.inl ⟨by rfl, ?_⟩) ?_ ?_
                rotate_left
                ·intro w'
                 go_simp
                 with_reducible rfl
                rotate_left
                ·simp only [Act.put, List.setIfInBounds_toArray, List.set_cons_zero, List.set_cons_succ, i64_w, i32_w]
                 rfl
                refine done_ (done_of HT_.out (by kernel_rfl)) ?_
                try go_wp2
                go_roundg k4
                case measure => have := HJ2.out; have := HK2.out; have := HK3.out; have := HK4.out; omega
                case rel => exact ⟨(wrap64 (x7_4 + 1)), (by first | rfl | (simp; done) | (simp [*]; done)), H', ⟨by have := HJ2.out; have := HK2.out; have := HK3.out; have := HK4.out; omega⟩, ⟨kb BK285⟩, ⟨kb BK286⟩, ⟨kl HB⟩⟩
              ·rw [if_neg c37] at H
               exact absurd H (by simp)
             ·rw [if_neg c36] at H
              exact absurd H (by simp)
            ·rw [if_neg c35] at H
             have c35b0 : decide (x7_4 < (l0_4.length : Int)) = false := decide_eq_false c35
             clear c35
             have H' := Aside0.mk H
             clear H
             have hnb42 := NB285_286.out
             have hnc42 := NB286_285.out
             have hcz43_0 : wr.cell? ⟨gb285, 0, none⟩ = some (.int .i64 a0_0) := bc BK285 0
             have hcz43_1 : wr.cell? ⟨gb285, 1, none⟩ = some (.int .i64 a0_1) := bc BK285 1
             have hcz43_2 : wr.cell? ⟨gb285, 2, none⟩ = some (.slice A0_2 l0_2.length c0_2) := bc BK285 2
             have hcz43_3 : wr.cell? ⟨gb285, 3, none⟩ = some (.slice A0_3 l0_3.length c0_3) := bc BK285 3
             have hcz43_4 : wr.cell? ⟨gb285, 4, none⟩ = some (.slice A0_4 l0_4.length c0_4) := bc BK285 4
             have hcz43_5 : wr.cell? ⟨gb285, 5, none⟩ = some (.slice A0_5 l0_5.length c0_5) := bc BK285 5
             have hfz43_0 := blk_frozen BK285.out 0
             have hfz43_1 := blk_frozen BK285.out 1
             have hfz43_2 := blk_frozen BK285.out 2
             have hfz43_3 := blk_frozen BK285.out 3
             have hfz43_4 := blk_frozen BK285.out 4
             have hfz43_5 := blk_frozen BK285.out 5
             go_wp2
             go_loopg [8] k4 (fun kq v8 w' => ∃ (x8_5 : Int), v8 = .int .i64 x8_5 ∧ Aside0 (callboardref18_Same.l3 kq x8_5 a0_0 a0_1 l0_2 l0_3 l0_4 l0_5 a1_0 a1_1 l1_2 l1_3 l1_4 l1_5 = some r) ∧ Aside0 (kq ≤ k4) ∧ Aside0 (w'.heap[gb285]? = some (.cells #[.int .i64 a0_0, .int .i64 a0_1, (.slice A0_2 l0_2.length c0_2), (.slice A0_3 l0_3.length c0_3), (.slice A0_4 l0_4.length c0_4), (.slice A0_5 l0_5.length c0_5)] 27 (0, 0))) ∧ Aside0 (w'.heap[gb286]? = some (.cells #[.int .i64 a1_0, .int .i64 a1_1, (.slice A1_2 l1_2.length c1_2), (.slice A1_3 l1_3.length c1_3), (.slice A1_4 l1_4.length c1_4), (.slice A1_5 l1_5.length c1_5)] 27 (0, 0))) ∧ Aside0 (Below w.heap.size w w'))
             case atStart => exact ⟨(0), (by first | rfl | (simp; done) | (simp [*]; done)), H', ⟨Nat.le_refl _⟩, ⟨kb BK285⟩, ⟨kb BK286⟩, ⟨kl HB⟩⟩
             case round =>
              clear H'
              try clear c1
              try clear c2
              try clear p2
              try clear q2
              try clear hx2
              try clear c3
              try clear c4
              try clear c6
              try clear c6b0
              try clear c6b1
              try clear p6
              try clear c7
              try clear c7b0
              try clear c7b1
              try clear c8
              try clear c8b0
              try clear c8b1
              try clear c8b2
              try clear c9
              try clear c9b0
              try clear c9b1
              try clear c9b2
              try clear c10
              try clear c10b0
              try clear c10b1
              try clear c10b2
              try clear c11
              try clear c14
              try clear c15
              try clear c15b0
              try clear c16
              try clear c16b0
              try clear c17
              try clear c17b0
              try clear c19
              try clear c20
              try clear c24
              try clear c26
              try clear c26b0
              try clear c27
              try clear c27b0
              try clear c28
              try clear c28b0
              try clear p28
              try clear q28
              try clear hx28
              try clear c29
              try clear c29b0
              try clear p29
              try clear q29
              try clear hx29
              try clear c30
              try clear c33
              try clear c35
              try clear c35b0
              try clear c36
              try clear c36b0
              try clear c37
              try clear c37b0
              try clear c38
              try clear c38b0
              try clear c39
              try clear c42
              try clear hcz12_0
              try clear hcz12_1
              try clear hcz12_2
              try clear hcz12_3
              try clear hcz12_4
              try clear hcz12_5
              try clear hcz13_0
              try clear hcz13_1
              try clear hcz13_2
              try clear hcz13_3
              try clear hcz13_4
              try clear hcz13_5
              try clear hcz21_0
              try clear hcz21_1
              try clear hcz21_2
              try clear hcz21_3
              try clear hcz21_4
              try clear hcz21_5
              try clear hcz25_0
              try clear hcz25_1
              try clear hcz25_2
              try clear hcz25_3
              try clear hcz25_4
              try clear hcz25_5
              try clear hcz31_0
              try clear hcz31_1
              try clear hcz31_2
              try clear hcz31_3
              try clear hcz31_4
              try clear hcz31_5
              try clear hcz34_0
              try clear hcz34_1
              try clear hcz34_2
              try clear hcz34_3
              try clear hcz34_4
              try clear hcz34_5
              try clear hcz40_0
              try clear hcz40_1
              try clear hcz40_2
              try clear hcz40_3
              try clear hcz40_4
              try clear hcz40_5
              try clear hcz43_0
              try clear hcz43_1
              try clear hcz43_2
              try clear hcz43_3
              try clear hcz43_4
              try clear hcz43_5
              try clear hfz12_0
              try clear hfz12_1
              try clear hfz12_2
              try clear hfz12_3
              try clear hfz12_4
              try clear hfz12_5
              try clear hfz13_0
              try clear hfz13_1
              try clear hfz13_2
              try clear hfz13_3
              try clear hfz13_4
              try clear hfz13_5
              try clear hfz21_0
              try clear hfz21_1
              try clear hfz21_2
              try clear hfz21_3
              try clear hfz21_4
              try clear hfz21_5
              try clear hfz25_0
              try clear hfz25_1
              try clear hfz25_2
              try clear hfz25_3
              try clear hfz25_4
              try clear hfz25_5
              try clear hfz31_0
              try clear hfz31_1
              try clear hfz31_2
              try clear hfz31_3
              try clear hfz31_4
              try clear hfz31_5
              try clear hfz34_0
              try clear hfz34_1
              try clear hfz34_2
              try clear hfz34_3
              try clear hfz34_4
              try clear hfz34_5
              try clear hfz40_0
              try clear hfz40_1
              try clear hfz40_2
              try clear hfz40_3
              try clear hfz40_4
              try clear hfz40_5
              try clear hfz43_0
              try clear hfz43_1
              try clear hfz43_2
              try clear hfz43_3
              try clear hfz43_4
              try clear hfz43_5
              try clear hx287_0
              try clear hx287_1
              try clear hx287_2
              try clear hx287_3
              try clear hx288_0
              try clear hx288_1
              try clear hx288_2
              try clear hx288_3
              try clear hx290_0
              try clear hx290_1
              try clear hx290_2
              try clear hx290_3
              try clear hx290_4
              try clear hx290_5
              try clear hx290_6
              try clear hx290_7
              try clear hx291_0
              try clear hx291_1
              try clear hx291_2
              try clear hx291_3
              try clear hx291_4
              try clear hx291_5
              try clear hx291_6
              try clear hx291_7
              try clear hx292_0
              try clear hx292_1
              try clear hx292_2
              try clear hx292_3
              try clear hx292_4
              try clear hx293_0
              try clear hx293_1
              try clear hx293_2
              try clear hx293_3
              try clear hx293_4
              try clear p2
              try clear p28
              try clear p287
              try clear p288
              try clear p29
              try clear p290
              try clear p291
              try clear p292
              try clear p293
              try clear p6
              try clear q2
              try clear q28
              try clear q287
              try clear q288
              try clear q29
              try clear q290
              try clear q291
              try clear q292
              try clear q293
              obtain ⟨x8_5, rfl, HA, HK5, BK285, BK286, HB⟩ := hrel
              cases gk with
              | zero => exact absurd HA.out (by simp [callboardref18_Same.l3])
              | succ k5 =>
               have H := HA.out
               clear HA
               simp only [callboardref18_Same.l3] at H
               by_cases c44 : x8_5 < (l0_5.length : Int)
               ·rw [if_pos c44] at H
                have c44b0 : decide (x8_5 < (l0_5.length : Int)) = true := decide_eq_true c44
                clear c44
                by_cases c45 : 0 ≤ x8_5
                ·rw [if_pos c45] at H
                 have c45b0 : decide (0 ≤ x8_5) = true := decide_eq_true c45
                 clear c45
                 by_cases c46 : x8_5 < (l1_5.length : Int)
                 ·rw [if_pos c46] at H
                  have c46b0 : decide (x8_5 < (l1_5.length : Int)) = true := decide_eq_true c46
                  clear c46
                  by_cases c47 : (!(((rd_T132 l0_5 x8_5).f0) == ((rd_T132 l1_5 x8_5).f0)) || (!(((rd_T132 l0_5 x8_5).f1) == ((rd_T132 l1_5 x8_5).f1)) || (!(((rd_T132 l0_5 x8_5).f2) == ((rd_T132 l1_5 x8_5).f2)) || (!(((rd_T132 l0_5 x8_5).f3) == ((rd_T132 l1_5 x8_5).f3)) || (!((((rd_T132 l0_5 x8_5).f4).toList) == (((rd_T132 l1_5 x8_5).f4).toList)) || (!(((rd_T132 l0_5 x8_5).f5) == ((rd_T132 l1_5 x8_5).f5)) || (!(((rd_T132 l0_5 x8_5).f6) == ((rd_T132 l1_5 x8_5).f6))))))))) = true
                  ·rw [if_pos c47] at H
                   exact absurd (H.trans (congrArg some hT.out)) (by decide)
                  ·rw [if_neg c47] at H
                   have c47b0 : (!(((rd_T132 l0_5 x8_5).f0) == ((rd_T132 l1_5 x8_5).f0)) || (!(((rd_T132 l0_5 x8_5).f1) == ((rd_T132 l1_5 x8_5).f1)) || (!(((rd_T132 l0_5 x8_5).f2) == ((rd_T132 l1_5 x8_5).f2)) || (!(((rd_T132 l0_5 x8_5).f3) == ((rd_T132 l1_5 x8_5).f3)) || (!((((rd_T132 l0_5 x8_5).f4).toList) == (((rd_T132 l1_5 x8_5).f4).toList)) || (!(((rd_T132 l0_5 x8_5).f5) == ((rd_T132 l1_5 x8_5).f5)) || (!(((rd_T132 l0_5 x8_5).f6) == ((rd_T132 l1_5 x8_5).f6))))))))) = false := by simpa using c47
                   clear c47
                   have H' := Aside0.mk H
                   clear H
                   have hnb48 := NB285_286.out
                   have hnc48 := NB286_285.out
                   have hcz49_0 : wr.cell? ⟨gb285, 0, none⟩ = some (.int .i64 a0_0) := bc BK285 0
                   have hcz49_1 : wr.cell? ⟨gb285, 1, none⟩ = some (.int .i64 a0_1) := bc BK285 1
                   have hcz49_2 : wr.cell? ⟨gb285, 2, none⟩ = some (.slice A0_2 l0_2.length c0_2) := bc BK285 2
                   have hcz49_3 : wr.cell? ⟨gb285, 3, none⟩ = some (.slice A0_3 l0_3.length c0_3) := bc BK285 3
                   have hcz49_4 : wr.cell? ⟨gb285, 4, none⟩ = some (.slice A0_4 l0_4.length c0_4) := bc BK285 4
                   have hcz49_5 : wr.cell? ⟨gb285, 5, none⟩ = some (.slice A0_5 l0_5.length c0_5) := bc BK285 5
                   have hfz49_0 := blk_frozen BK285.out 0
                   have hfz49_1 := blk_frozen BK285.out 1
                   have hfz49_2 := blk_frozen BK285.out 2
                   have hfz49_3 := blk_frozen BK285.out 3
                   have hfz49_4 := blk_frozen BK285.out 4
                   have hfz49_5 := blk_frozen BK285.out 5
                   try go_wp2
                   replace BK285 := Aside0.mk (blk_drew BK285.out)
                   replace BK286 := Aside0.mk (blk_drew BK286.out)
                   replace HB := Aside0.mk (below_drew1 HB.out)
                   have p294 : 0 ≤ (x8_5 : Int) := of_decide_eq_true (by first | (with_reducible assumption) | assumption)
                   have q294 : x8_5 < (l0_5.length : Int) := of_decide_eq_true (by first | (with_reducible assumption) | assumption)
                   obtain ⟨ad294, e294, hx294_0, hx294_1, hx294_2, hx294_3, hx294_4, hx294_5, hx294_6⟩ := at_T132 HR0_5.out x8_5 p294 q294
                   have hw294_6 := hx294_6
                   have hw294_5 := hx294_5
                   have hw294_4 := hx294_4
                   have hw294_3 := hx294_3
                   have hw294_2 := hx294_2
                   have hw294_1 := hx294_1
                   have hw294_0 := hx294_0
                   cases e294
                   replace hx294_0 := (HB.out.cell (World.block_lt_of_cell? w _ hx294_0)).trans hx294_0
                   replace hx294_1 := (HB.out.cell (World.block_lt_of_cell? w _ hx294_1)).trans hx294_1
                   replace hx294_2 := (HB.out.cell (World.block_lt_of_cell? w _ hx294_2)).trans hx294_2
                   replace hx294_3 := (HB.out.cell (World.block_lt_of_cell? w _ hx294_3)).trans hx294_3
                   replace hx294_4 := (HB.out.cell (World.block_lt_of_cell? w _ hx294_4)).trans hx294_4
                   replace hx294_5 := (HB.out.cell (World.block_lt_of_cell? w _ hx294_5)).trans hx294_5
                   replace hx294_6 := (HB.out.cell (World.block_lt_of_cell? w _ hx294_6)).trans hx294_6
                   replace p294 := eq_true p294
                   replace q294 := eq_true q294
                   have p295 : 0 ≤ (x8_5 : Int) := of_decide_eq_true (by first | (with_reducible assumption) | assumption)
                   have q295 : x8_5 < (l1_5.length : Int) := of_decide_eq_true (by first | (with_reducible assumption) | assumption)
                   obtain ⟨ad295, e295, hx295_0, hx295_1, hx295_2, hx295_3, hx295_4, hx295_5, hx295_6⟩ := at_T132 HR1_5.out x8_5 p295 q295
                   have hw295_6 := hx295_6
                   have hw295_5 := hx295_5
                   have hw295_4 := hx295_4
                   have hw295_3 := hx295_3
                   have hw295_2 := hx295_2
                   have hw295_1 := hx295_1
                   have hw295_0 := hx295_0
                   cases e295
                   replace hx295_0 := (HB.out.cell (World.block_lt_of_cell? w _ hx295_0)).trans hx295_0
                   replace hx295_1 := (HB.out.cell (World.block_lt_of_cell? w _ hx295_1)).trans hx295_1
                   replace hx295_2 := (HB.out.cell (World.block_lt_of_cell? w _ hx295_2)).trans hx295_2
                   replace hx295_3 := (HB.out.cell (World.block_lt_of_cell? w _ hx295_3)).trans hx295_3
                   replace hx295_4 := (HB.out.cell (World.block_lt_of_cell? w _ hx295_4)).trans hx295_4
                   replace hx295_5 := (HB.out.cell (World.block_lt_of_cell? w _ hx295_5)).trans hx295_5
                   replace hx295_6 := (HB.out.cell (World.block_lt_of_cell? w _ hx295_6)).trans hx295_6
                   replace p295 := eq_true p295
                   replace q295 := eq_true q295
                   refine start_ (n := 11) (S := fun w' => w'.cell? ⟨gb285, 0, none⟩ = some (.int .i64 a0_0) ∧ w'.cell? ⟨gb285, 1, none⟩ = some (.int .i64 a0_1) ∧ w'.cell? ⟨gb285, 2, none⟩ = some (.slice A0_2 l0_2.length c0_2) ∧ w'.cell? ⟨gb285, 3, none⟩ = some (.slice A0_3 l0_3.length c0_3) ∧ w'.cell? ⟨gb285, 4, none⟩ = some (.slice A0_4 l0_4.length c0_4) ∧ w'.cell? ⟨gb285, 5, none⟩ = some (.slice (some ad294) l0_5.length c0_5) ∧ w'.cell? ⟨gb286, 0, none⟩ = some (.int .i64 a1_0) ∧ w'.cell? ⟨gb286, 1, none⟩ = some (.int .i64 a1_1) ∧ w'.cell? ⟨gb286, 2, none⟩ = some (.slice A1_2 l1_2.length c1_2) ∧ w'.cell? ⟨gb286, 3, none⟩ = some (.slice A1_3 l1_3.length c1_3) ∧ w'.cell? ⟨gb286, 4, none⟩ = some (.slice A1_4 l1_4.length c1_4) ∧ w'.cell? ⟨gb286, 5, none⟩ = some (.slice (some ad295) l1_5.length c1_5) ∧ w'.cell? (ad294.add ((x8_5).toNat * 7)) = some (.int .i64 ((rd_T132 l0_5 x8_5).f0)) ∧ w'.cell? ⟨(ad294.add ((x8_5).toNat * 7)).block, (ad294.add ((x8_5).toNat * 7)).off + 1, none⟩ = some (.int .i64 ((rd_T132 l0_5 x8_5).f1)) ∧ w'.cell? ⟨(ad294.add ((x8_5).toNat * 7)).block, (ad294.add ((x8_5).toNat * 7)).off + 2, none⟩ = some (.int .i64 ((rd_T132 l0_5 x8_5).f2)) ∧ w'.cell? ⟨(ad294.add ((x8_5).toNat * 7)).block, (ad294.add ((x8_5).toNat * 7)).off + 3, none⟩ = some (.int .u8 ((rd_T132 l0_5 x8_5).f3)) ∧ w'.cell? ⟨(ad294.add ((x8_5).toNat * 7)).block, (ad294.add ((x8_5).toNat * 7)).off + 4, none⟩ = some (.string ((rd_T132 l0_5 x8_5).f4)) ∧ w'.cell? ⟨(ad294.add ((x8_5).toNat * 7)).block, (ad294.add ((x8_5).toNat * 7)).off + 5, none⟩ = some (.int .i64 ((rd_T132 l0_5 x8_5).f5)) ∧ w'.cell? ⟨(ad294.add ((x8_5).toNat * 7)).block, (ad294.add ((x8_5).toNat * 7)).off + 6, none⟩ = some (.bool ((rd_T132 l0_5 x8_5).f6)) ∧ w'.cell? (ad295.add ((x8_5).toNat * 7)) = some (.int .i64 ((rd_T132 l1_5 x8_5).f0)) ∧ w'.cell? ⟨(ad295.add ((x8_5).toNat * 7)).block, (ad295.add ((x8_5).toNat * 7)).off + 1, none⟩ = some (.int .i64 ((rd_T132 l1_5 x8_5).f1)) ∧ w'.cell? ⟨(ad295.add ((x8_5).toNat * 7)).block, (ad295.add ((x8_5).toNat * 7)).off + 2, none⟩ = some (.int .i64 ((rd_T132 l1_5 x8_5).f2)) ∧ w'.cell? ⟨(ad295.add ((x8_5).toNat * 7)).block, (ad295.add ((x8_5).toNat * 7)).off + 3, none⟩ = some (.int .u8 ((rd_T132 l1_5 x8_5).f3)) ∧ w'.cell? ⟨(ad295.add ((x8_5).toNat * 7)).block, (ad295.add ((x8_5).toNat * 7)).off + 4, none⟩ = some (.string ((rd_T132 l1_5 x8_5).f4)) ∧ w'.cell? ⟨(ad295.add ((x8_5).toNat * 7)).block, (ad295.add ((x8_5).toNat * 7)).off + 5, none⟩ = some (.int .i64 ((rd_T132 l1_5 x8_5).f5)) ∧ w'.cell? ⟨(ad295.add ((x8_5).toNat * 7)).block, (ad295.add ((x8_5).toNat * 7)).off + 6, none⟩ = some (.bool ((rd_T132 l1_5 x8_5).f6))) (ds := []) #[N,N,N,N,N,N,N,N,N,N,N] (by kernel_rfl) rfl rfl ⟨bc BK285 0, bc BK285 1, bc BK285 2, bc BK285 3, bc BK285 4, bc BK285 5, bc BK286 0, bc BK286 1, bc BK286 2, bc BK286 3, bc BK286 4, bc BK286 5, ((HB.out.cell (World.block_lt_of_cell? w _ hw294_0)).trans hw294_0), ((HB.out.cell (World.block_lt_of_cell? w _ hw294_1)).trans hw294_1), ((HB.out.cell (World.block_lt_of_cell? w _ hw294_2)).trans hw294_2), ((HB.out.cell (World.block_lt_of_cell? w _ hw294_3)).trans hw294_3), ((HB.out.cell (World.block_lt_of_cell? w _ hw294_4)).trans hw294_4), ((HB.out.cell (World.block_lt_of_cell? w _ hw294_5)).trans hw294_5), ((HB.out.cell (World.block_lt_of_cell? w _ hw294_6)).trans hw294_6), ((HB.out.cell (World.block_lt_of_cell? w _ hw295_0)).trans hw295_0), ((HB.out.cell (World.block_lt_of_cell? w _ hw295_1)).trans hw295_1), ((HB.out.cell (World.block_lt_of_cell? w _ hw295_2)).trans hw295_2), ((HB.out.cell (World.block_lt_of_cell? w _ hw295_3)).trans hw295_3), ((HB.out.cell (World.block_lt_of_cell? w _ hw295_4)).trans hw295_4), ((HB.out.cell (World.block_lt_of_cell? w _ hw295_5)).trans hw295_5), ((HB.out.cell (World.block_lt_of_cell? w _ hw295_6)).trans hw295_6)⟩ (fun hHeld => ?_); refine with_tabW callboardref18_Same.tab21 callboardref18_Same.bits21 (fun HT_ HW_ => ?_)
                   generalize wr.drew = w50 at BK285 BK286 HB hx294_0 hx294_1 hx294_2 hx294_3 hx294_4 hx294_5 hx294_6 hx295_0 hx295_1 hx295_2 hx295_3 hx295_4 hx295_5 hx295_6 hHeld ⊢
                   refine pure_ (i := 0) (N := some 119) (v := ?_) (a' := ?_) #[Y,N,N,N,N,N,N,N,N,N,N] rfl rfl (any_of HT_.out (by kernel_rfl)) (fun _ _ _ h => h) (Or.inl ⟨by rfl, ?_⟩) ?_ ?_
                   rotate_left
                   ·intro w'
                    go_simp
                    with_reducible rfl
                   rotate_left
                   ·simp only [Act.put, List.setIfInBounds_toArray, List.set_cons_zero, List.set_cons_succ, i64_w, i32_w]
                    rfl
                   refine pure_ (i := 2) (N := some 121) (v := ?_) (a' := ?_) #[Y,N,Y,N,N,N,N,N,N,N,N] rfl rfl (any_of HT_.out (by kernel_rfl)) (fun _ _ _ h => h) (Or.inl ⟨by rfl, ?_⟩) ?_ ?_
                   rotate_left
                   ·intro w'
                    go_simp
                    with_reducible rfl
                   rotate_left
                   ·simp only [Act.put, List.setIfInBounds_toArray, List.set_cons_zero, List.set_cons_succ, i64_w, i32_w]
                    rfl
                   refine pure_ (i := 5) (N := some 124) (v := ?_) (a' := ?_) #[Y,N,Y,N,N,Y,N,N,N,N,N] rfl rfl (any_of HT_.out (by kernel_rfl)) (fun _ _ _ h => h) (Or.inl ⟨by rfl, ?_⟩) ?_ ?_
                   rotate_left
                   ·intro w'
                    go_simp
                    with_reducible rfl
                   rotate_left
                   ·simp only [Act.put, List.setIfInBounds_toArray, List.set_cons_zero, List.set_cons_succ, i64_w, i32_w]
                    rfl
                   refine pure_ (i := 7) (N := some 126) (v := ?_) (a' := ?_) #[Y,N,Y,N,N,Y,N,Y,N,N,N] rfl rfl (any_of HT_.out (by kernel_rfl)) (fun _ _ _ h => h) (Or.inl ⟨by rfl, ?_⟩) ?_ ?_
                   rotate_left
                   ·intro w'
                    go_simp
                    with_reducible rfl
                   rotate_left
                   ·simp only [Act.put, List.setIfInBounds_toArray, List.set_cons_zero, List.set_cons_succ, i64_w, i32_w]
                    rfl
                   refine take_ (i := 1) (N := some 120) (v := ?_) (a' := ?_) #[Y,Y,Y,N,N,Y,N,Y,N,N,N] rfl rfl (take_ofW HT_.out HW_.out (by kernel_rfl)) (fun _ _ _ h => h) (Or.inl ⟨by rfl, ?_⟩) hHeld ?_ ?_
                   rotate_left
                   ·rintro w' ⟨s0, s1, s2, s3, s4, s5, s6, s7, s8, s9, s10, s11, s12, s13, s14, s15, s16, s17, s18, s19, s20, s21, s22, s23, s24, s25⟩
                    go_simp
                    with_reducible rfl
                   rotate_left
                   ·simp only [Act.put, List.setIfInBounds_toArray, List.set_cons_zero, List.set_cons_succ, i64_w, i32_w]
                    rfl
                   refine pure_ (i := 3) (N := some 122) (v := ?_) (a' := ?_) #[Y,Y,Y,Y,N,Y,N,Y,N,N,N] rfl rfl (any_of HT_.out (by kernel_rfl)) (fun _ _ _ h => h) (Or.inl ⟨by rfl, ?_⟩) ?_ ?_
                   rotate_left
                   ·intro w'
                    go_simp
                    with_reducible rfl
                   rotate_left
                   ·simp only [Act.put, List.setIfInBounds_toArray, List.set_cons_zero, List.set_cons_succ, i64_w, i32_w]
                    rfl
                   refine take_ (i := 4) (N := some 123) (v := ?_) (a' := ?_) #[Y,Y,Y,Y,Y,Y,N,Y,N,N,N] rfl rfl (take_ofW HT_.out HW_.out (by kernel_rfl)) (fun _ _ _ h => h) (Or.inl ⟨by rfl, ?_⟩) hHeld ?_ ?_
                   rotate_left
                   ·rintro w' ⟨s0, s1, s2, s3, s4, s5, s6, s7, s8, s9, s10, s11, s12, s13, s14, s15, s16, s17, s18, s19, s20, s21, s22, s23, s24, s25⟩
                    go_simp
                    with_reducible rfl
                   rotate_left
                   ·simp only [Act.put, List.setIfInBounds_toArray, List.set_cons_zero, List.set_cons_succ, i64_w, i32_w]
                    rfl
                   refine take_ (i := 6) (N := some 125) (v := ?_) (a' := ?_) #[Y,Y,Y,Y,Y,Y,Y,Y,N,N,N] rfl rfl (take_ofW HT_.out HW_.out (by kernel_rfl)) (fun _ _ _ h => h) (Or.inl ⟨by rfl, ?_⟩) hHeld ?_ ?_
                   rotate_left
                   ·rintro w' ⟨s0, s1, s2, s3, s4, s5, s6, s7, s8, s9, s10, s11, s12, s13, s14, s15, s16, s17, s18, s19, s20, s21, s22, s23, s24, s25⟩
                    go_simp
                    with_reducible rfl
                   rotate_left
                   ·simp only [Act.put, List.setIfInBounds_toArray, List.set_cons_zero, List.set_cons_succ, i64_w, i32_w]
                    rfl
                   refine pure_ (i := 8) (N := some 127) (v := ?_) (a' := ?_) #[Y,Y,Y,Y,Y,Y,Y,Y,Y,N,N] rfl rfl (any_of HT_.out (by kernel_rfl)) (fun _ _ _ h => h) (Or.inl ⟨by rfl, ?_⟩) ?_ ?_
                   rotate_left
                   ·intro w'
                    go_simp
                    with_reducible rfl
                   rotate_left
                   ·simp only [Act.put, List.setIfInBounds_toArray, List.set_cons_zero, List.set_cons_succ, i64_w, i32_w]
                    rfl
                   refine take_ (i := 9) (N := some 128) (v := ?_) (a' := ?_) #[Y,Y,Y,Y,Y,Y,Y,Y,Y,Y,N] rfl rfl (take_ofW HT_.out HW_.out (by kernel_rfl)) (fun _ _ _ h => h) (Or.inl ⟨by rfl, ?_⟩) hHeld ?_ ?_
                   rotate_left
                   ·rintro w' ⟨s0, s1, s2, s3, s4, s5, s6, s7, s8, s9, s10, s11, s12, s13, s14, s15, s16, s17, s18, s19, s20, s21, s22, s23, s24, s25⟩
                    go_simp
                    with_reducible rfl
                   rotate_left
                   ·simp only [Act.put, List.setIfInBounds_toArray, List.set_cons_zero, List.set_cons_succ, i64_w, i32_w]
                    rfl
                   refine pure_ (i := 10) (N := some 129) (v := ?_) (a' := ?_) #[Y,Y,Y,Y,Y,Y,Y,Y,Y,Y,Y] rfl rfl (any_of HT_.out (by kernel_rfl)) (fun _ _ _ h => h) (Or.inl ⟨by rfl, ?_⟩) ?_ ?_
                   rotate_left
                   ·intro w'
                    go_simp
                    with_reducible rfl
                   rotate_left
                   ·simp only [Act.put, List.setIfInBounds_toArray, List.set_cons_zero, List.set_cons_succ, i64_w, i32_w]
                    rfl
                   refine done_ (done_of HT_.out (by kernel_rfl)) ?_
                   try go_wp2
                   go_roundg k5
                   case measure => have := HJ2.out; have := HK2.out; have := HK3.out; have := HK4.out; have := HK5.out; omega
                   case rel => exact ⟨(wrap64 (x8_5 + 1)), (by first | rfl | (simp; done) | (simp [*]; done)), H', ⟨by have := HJ2.out; have := HK2.out; have := HK3.out; have := HK4.out; have := HK5.out; omega⟩, ⟨kb BK285⟩, ⟨kb BK286⟩, ⟨kl HB⟩⟩
                 ·rw [if_neg c46] at H
                  exact absurd H (by simp)
                ·rw [if_neg c45] at H
                 exact absurd H (by simp)
               ·rw [if_neg c44] at H
                have c44b0 : decide (x8_5 < (l0_5.length : Int)) = false := decide_eq_false c44
                clear c44
                obtain rfl := Option.some.inj H
                have hnb51 := NB285_286.out
                have hnc51 := NB286_285.out
                have hcz52_0 : wr.cell? ⟨gb285, 0, none⟩ = some (.int .i64 a0_0) := bc BK285 0
                have hcz52_1 : wr.cell? ⟨gb285, 1, none⟩ = some (.int .i64 a0_1) := bc BK285 1
                have hcz52_2 : wr.cell? ⟨gb285, 2, none⟩ = some (.slice A0_2 l0_2.length c0_2) := bc BK285 2
                have hcz52_3 : wr.cell? ⟨gb285, 3, none⟩ = some (.slice A0_3 l0_3.length c0_3) := bc BK285 3
                have hcz52_4 : wr.cell? ⟨gb285, 4, none⟩ = some (.slice A0_4 l0_4.length c0_4) := bc BK285 4
                have hcz52_5 : wr.cell? ⟨gb285, 5, none⟩ = some (.slice A0_5 l0_5.length c0_5) := bc BK285 5
                have hfz52_0 := blk_frozen BK285.out 0
                have hfz52_1 := blk_frozen BK285.out 1
                have hfz52_2 := blk_frozen BK285.out 2
                have hfz52_3 := blk_frozen BK285.out 3
                have hfz52_4 := blk_frozen BK285.out 4
                have hfz52_5 := blk_frozen BK285.out 5
                go_wp2
                go_ret
                exact ⟨by first | rfl | (simp [errW_none, errW_some] <;> rfl) | (simp [*, errW_none, errW_some] <;> rfl), kl HB⟩

end Go.Proofs.Ythonmfcollafkaa.P
-- GENERATED by wip/gen.py (this session's own driver of a mended copy of the printer). Not trusted: Lean checks it.
namespace Go.Proofs.Ythonmfcollafkaa.P
open Go.RowKit Go.Proofs.YthonmfcollafkaaW.PrintWords Go.Proofs.YthonmfcollafkaaW.PrintLast Go.Proofs.YthonmfcollafkaaW.PrintMore
attribute [local go_sem] Go.Proofs.YthonmfcollafkaaB.less_swap Go.Proofs.YthonmfcollafkaaB.less_or max2_int min2_int max_two min_two max_three min_three max_four min_four   -- for this text's walks alone
set_option linter.unusedVariables false
set_option linter.unusedSimpArgs false

/-! ### callboardlaw21_large: function 44 -/
def callboardlaw21_large.f (a0_0 : Int) (a0_1 : Int) (l0_2 : List (S34)) (l0_3 : List (S43)) (l0_4 : List (S129)) (l0_5 : List (S132)) : Option (Bool) := if (l0_3.length : Int) > 170 then (some true) else (if (l0_4.length : Int) > 300 then (some true) else (if (l0_5.length : Int) > 300 then (some true) else (some (decide ((l0_2.length : Int) > 12)))))
set_option maxHeartbeats 8000000 in
set_option maxRecDepth 100000 in
theorem callboardlaw21_large.calls (a0_0 : Int) (a0_1 : Int) (A0_2 : Option Addr) (c0_2 : Nat) (l0_2 : List (S34)) (A0_3 : Option Addr) (c0_3 : Nat) (l0_3 : List (S43)) (A0_4 : Option Addr) (c0_4 : Nat) (l0_4 : List (S129)) (A0_5 : Option Addr) (c0_5 : Nat) (l0_5 : List (S132)) (r : Bool) (w : World) (hr0_2 : Kd.C k34 w A0_2 l0_2.length l0_2) (hc0_2 : l0_2.length ≤ c0_2) (hr0_3 : Kd.C k43 w A0_3 l0_3.length l0_3) (hc0_3 : l0_3.length ≤ c0_3) (hr0_4 : Kd.C k129 w A0_4 l0_4.length l0_4) (hc0_4 : l0_4.length ≤ c0_4) (hr0_5 : Kd.C k132 w A0_5 l0_5.length l0_5) (hc0_5 : l0_5.length ≤ c0_5) (h : callboardlaw21_large.f a0_0 a0_1 l0_2 l0_3 l0_4 l0_5 = some r) :
  Calls Try.prog 44 #[.agg #[.int .i64 a0_0, .int .i64 a0_1, .slice A0_2 l0_2.length c0_2, .slice A0_3 l0_3.length c0_3, .slice A0_4 l0_4.length c0_4, .slice A0_5 l0_5.length c0_5]] w fun e w' => e = .returned (.bool r) ∧ Below w.heap.size w w' := by
 have hu27 := Try.underlying27
 have HR0_2 := Aside0.mk hr0_2
 have HC0_2 := Aside0.mk hc0_2
 clear hr0_2 hc0_2
 have HR0_3 := Aside0.mk hr0_3
 have HC0_3 := Aside0.mk hc0_3
 clear hr0_3 hc0_3
 have HR0_4 := Aside0.mk hr0_4
 have HC0_4 := Aside0.mk hc0_4
 clear hr0_4 hc0_4
 have HR0_5 := Aside0.mk hr0_5
 have HC0_5 := Aside0.mk hc0_5
 clear hr0_5 hc0_5
 have HB := Aside0.mk (Below.refl w.heap.size w)
 have H : (if (l0_3.length : Int) > 170 then (some true) else (if (l0_4.length : Int) > 300 then (some true) else (if (l0_5.length : Int) > 300 then (some true) else (some (decide ((l0_2.length : Int) > 12)))))) = some r := h
 clear h
 by_cases c2 : (l0_3.length : Int) > 170
 ·rw [if_pos c2] at H
  have c2b0 : decide (170 < (l0_3.length : Int)) = true := decide_eq_true c2
  have c2b1 : decide (170 < l0_3.length) = true := decide_eq_true (by omega)
  clear c2
  obtain rfl := Option.some.inj H
  go_enter Try.func44, Try.ntmps44
  go_wp2_with (first | ((with_reducible refine gate_dst (N := 1) rfl ?_); (try (refine gate_guard (by rfl) ?_; dsimp only)); refine box_event ?hg (N := 1) ?hd (cs := #[.int .i64 a0_0, .int .i64 a0_1, .slice A0_2 l0_2.length c0_2, .slice A0_3 l0_3.length c0_3, .slice A0_4 l0_4.length c0_4, .slice A0_5 l0_5.length c0_5]) (t := 27) ?hr ?_; (case hd => rfl); (case hg => rfl); (case hr => first | (go_simp; done) | (go_simp; rfl)); intro gb280 hg w3 hbox hb; have BK280 := Aside0.mk (hbox); have GW280 := Aside0.mk ((by rw [hg]; exact (below_size (kl HB)) : w.heap.size ≤ gb280)); have GE280 := Aside0.mk ((by rw [hg]; exact (below_size (kl HB)) : w.heap.size ≤ gb280)); replace HB := Aside0.mk (below_step (kl HB) hb); clear hb hbox hg; have hcz4_0 : w3.cell? ⟨gb280, 0, none⟩ = some (.int .i64 a0_0) := bc BK280 0; have hcz4_1 : w3.cell? ⟨gb280, 1, none⟩ = some (.int .i64 a0_1) := bc BK280 1; have hcz4_2 : w3.cell? ⟨gb280, 2, none⟩ = some (.slice A0_2 l0_2.length c0_2) := bc BK280 2; have hcz4_3 : w3.cell? ⟨gb280, 3, none⟩ = some (.slice A0_3 l0_3.length c0_3) := bc BK280 3; have hcz4_4 : w3.cell? ⟨gb280, 4, none⟩ = some (.slice A0_4 l0_4.length c0_4) := bc BK280 4; have hcz4_5 : w3.cell? ⟨gb280, 5, none⟩ = some (.slice A0_5 l0_5.length c0_5) := bc BK280 5; have hfz4_0 := blk_frozen BK280.out 0; have hfz4_1 := blk_frozen BK280.out 1; have hfz4_2 := blk_frozen BK280.out 2; have hfz4_3 := blk_frozen BK280.out 3; have hfz4_4 := blk_frozen BK280.out 4; have hfz4_5 := blk_frozen BK280.out 5))
  go_ret
  exact ⟨by first | rfl | (simp [errW_none, errW_some] <;> rfl) | (simp [*, errW_none, errW_some] <;> rfl), kl HB⟩
 ·rw [if_neg c2] at H
  have c2b0 : decide (170 < (l0_3.length : Int)) = false := decide_eq_false c2
  have c2b1 : decide (170 < l0_3.length) = false := decide_eq_false (by omega)
  clear c2
  by_cases c5 : (l0_4.length : Int) > 300
  ·rw [if_pos c5] at H
   have c5b0 : decide (300 < (l0_4.length : Int)) = true := decide_eq_true c5
   have c5b1 : decide (300 < l0_4.length) = true := decide_eq_true (by omega)
   clear c5
   obtain rfl := Option.some.inj H
   go_enter Try.func44, Try.ntmps44
   go_wp2_with (first | ((with_reducible refine gate_dst (N := 1) rfl ?_); (try (refine gate_guard (by rfl) ?_; dsimp only)); refine box_event ?hg (N := 1) ?hd (cs := #[.int .i64 a0_0, .int .i64 a0_1, .slice A0_2 l0_2.length c0_2, .slice A0_3 l0_3.length c0_3, .slice A0_4 l0_4.length c0_4, .slice A0_5 l0_5.length c0_5]) (t := 27) ?hr ?_; (case hd => rfl); (case hg => rfl); (case hr => first | (go_simp; done) | (go_simp; rfl)); intro gb280 hg w6 hbox hb; have BK280 := Aside0.mk (hbox); have GW280 := Aside0.mk ((by rw [hg]; exact (below_size (kl HB)) : w.heap.size ≤ gb280)); have GE280 := Aside0.mk ((by rw [hg]; exact (below_size (kl HB)) : w.heap.size ≤ gb280)); replace HB := Aside0.mk (below_step (kl HB) hb); clear hb hbox hg; have hcz7_0 : w6.cell? ⟨gb280, 0, none⟩ = some (.int .i64 a0_0) := bc BK280 0; have hcz7_1 : w6.cell? ⟨gb280, 1, none⟩ = some (.int .i64 a0_1) := bc BK280 1; have hcz7_2 : w6.cell? ⟨gb280, 2, none⟩ = some (.slice A0_2 l0_2.length c0_2) := bc BK280 2; have hcz7_3 : w6.cell? ⟨gb280, 3, none⟩ = some (.slice A0_3 l0_3.length c0_3) := bc BK280 3; have hcz7_4 : w6.cell? ⟨gb280, 4, none⟩ = some (.slice A0_4 l0_4.length c0_4) := bc BK280 4; have hcz7_5 : w6.cell? ⟨gb280, 5, none⟩ = some (.slice A0_5 l0_5.length c0_5) := bc BK280 5; have hfz7_0 := blk_frozen BK280.out 0; have hfz7_1 := blk_frozen BK280.out 1; have hfz7_2 := blk_frozen BK280.out 2; have hfz7_3 := blk_frozen BK280.out 3; have hfz7_4 := blk_frozen BK280.out 4; have hfz7_5 := blk_frozen BK280.out 5))
   go_ret
   exact ⟨by first | rfl | (simp [errW_none, errW_some] <;> rfl) | (simp [*, errW_none, errW_some] <;> rfl), kl HB⟩
  ·rw [if_neg c5] at H
   have c5b0 : decide (300 < (l0_4.length : Int)) = false := decide_eq_false c5
   have c5b1 : decide (300 < l0_4.length) = false := decide_eq_false (by omega)
   clear c5
   by_cases c8 : (l0_5.length : Int) > 300
   ·rw [if_pos c8] at H
    have c8b0 : decide (300 < (l0_5.length : Int)) = true := decide_eq_true c8
    have c8b1 : decide (300 < l0_5.length) = true := decide_eq_true (by omega)
    clear c8
    obtain rfl := Option.some.inj H
    go_enter Try.func44, Try.ntmps44
    go_wp2_with (first | ((with_reducible refine gate_dst (N := 1) rfl ?_); (try (refine gate_guard (by rfl) ?_; dsimp only)); refine box_event ?hg (N := 1) ?hd (cs := #[.int .i64 a0_0, .int .i64 a0_1, .slice A0_2 l0_2.length c0_2, .slice A0_3 l0_3.length c0_3, .slice A0_4 l0_4.length c0_4, .slice A0_5 l0_5.length c0_5]) (t := 27) ?hr ?_; (case hd => rfl); (case hg => rfl); (case hr => first | (go_simp; done) | (go_simp; rfl)); intro gb280 hg w9 hbox hb; have BK280 := Aside0.mk (hbox); have GW280 := Aside0.mk ((by rw [hg]; exact (below_size (kl HB)) : w.heap.size ≤ gb280)); have GE280 := Aside0.mk ((by rw [hg]; exact (below_size (kl HB)) : w.heap.size ≤ gb280)); replace HB := Aside0.mk (below_step (kl HB) hb); clear hb hbox hg; have hcz10_0 : w9.cell? ⟨gb280, 0, none⟩ = some (.int .i64 a0_0) := bc BK280 0; have hcz10_1 : w9.cell? ⟨gb280, 1, none⟩ = some (.int .i64 a0_1) := bc BK280 1; have hcz10_2 : w9.cell? ⟨gb280, 2, none⟩ = some (.slice A0_2 l0_2.length c0_2) := bc BK280 2; have hcz10_3 : w9.cell? ⟨gb280, 3, none⟩ = some (.slice A0_3 l0_3.length c0_3) := bc BK280 3; have hcz10_4 : w9.cell? ⟨gb280, 4, none⟩ = some (.slice A0_4 l0_4.length c0_4) := bc BK280 4; have hcz10_5 : w9.cell? ⟨gb280, 5, none⟩ = some (.slice A0_5 l0_5.length c0_5) := bc BK280 5; have hfz10_0 := blk_frozen BK280.out 0; have hfz10_1 := blk_frozen BK280.out 1; have hfz10_2 := blk_frozen BK280.out 2; have hfz10_3 := blk_frozen BK280.out 3; have hfz10_4 := blk_frozen BK280.out 4; have hfz10_5 := blk_frozen BK280.out 5))
    go_ret
    exact ⟨by first | rfl | (simp [errW_none, errW_some] <;> rfl) | (simp [*, errW_none, errW_some] <;> rfl), kl HB⟩
   ·rw [if_neg c8] at H
    have c8b0 : decide (300 < (l0_5.length : Int)) = false := decide_eq_false c8
    have c8b1 : decide (300 < l0_5.length) = false := decide_eq_false (by omega)
    clear c8
    obtain rfl := Option.some.inj H
    go_enter Try.func44, Try.ntmps44
    go_wp2_with (first | ((with_reducible refine gate_dst (N := 1) rfl ?_); (try (refine gate_guard (by rfl) ?_; dsimp only)); refine box_event ?hg (N := 1) ?hd (cs := #[.int .i64 a0_0, .int .i64 a0_1, .slice A0_2 l0_2.length c0_2, .slice A0_3 l0_3.length c0_3, .slice A0_4 l0_4.length c0_4, .slice A0_5 l0_5.length c0_5]) (t := 27) ?hr ?_; (case hd => rfl); (case hg => rfl); (case hr => first | (go_simp; done) | (go_simp; rfl)); intro gb280 hg w11 hbox hb; have BK280 := Aside0.mk (hbox); have GW280 := Aside0.mk ((by rw [hg]; exact (below_size (kl HB)) : w.heap.size ≤ gb280)); have GE280 := Aside0.mk ((by rw [hg]; exact (below_size (kl HB)) : w.heap.size ≤ gb280)); replace HB := Aside0.mk (below_step (kl HB) hb); clear hb hbox hg; have hcz12_0 : w11.cell? ⟨gb280, 0, none⟩ = some (.int .i64 a0_0) := bc BK280 0; have hcz12_1 : w11.cell? ⟨gb280, 1, none⟩ = some (.int .i64 a0_1) := bc BK280 1; have hcz12_2 : w11.cell? ⟨gb280, 2, none⟩ = some (.slice A0_2 l0_2.length c0_2) := bc BK280 2; have hcz12_3 : w11.cell? ⟨gb280, 3, none⟩ = some (.slice A0_3 l0_3.length c0_3) := bc BK280 3; have hcz12_4 : w11.cell? ⟨gb280, 4, none⟩ = some (.slice A0_4 l0_4.length c0_4) := bc BK280 4; have hcz12_5 : w11.cell? ⟨gb280, 5, none⟩ = some (.slice A0_5 l0_5.length c0_5) := bc BK280 5; have hfz12_0 := blk_frozen BK280.out 0; have hfz12_1 := blk_frozen BK280.out 1; have hfz12_2 := blk_frozen BK280.out 2; have hfz12_3 := blk_frozen BK280.out 3; have hfz12_4 := blk_frozen BK280.out 4; have hfz12_5 := blk_frozen BK280.out 5))
    go_ret
    exact ⟨by first | rfl | (simp [errW_none, errW_some] <;> rfl) | (simp [*, errW_none, errW_some] <;> rfl), kl HB⟩

end Go.Proofs.Ythonmfcollafkaa.P
/- What goes when an item is taken away: the plain law, with no program in sight. -/
namespace Go.Proofs.Ythonmfcollafkaa.P
open Classical
set_option linter.unusedSimpArgs false
set_option linter.unusedVariables false

/-- x is a kid of y: an item of that ID whose Up is y. -/
def kidOf (its : List S43) (y x : Int) : Prop := ∃ it ∈ its, it.f1 = y ∧ it.f0 = x ∧ x ≠ y
/-- x is below a. -/
inductive Desc (its : List S43) (a : Int) : Int → Prop
  | kid {x : Int} : kidOf its a x → Desc its a x
  | step {y x : Int} : Desc its a y → kidOf its y x → Desc its a x
def There (its : List S43) (a : Int) : Prop := ∃ it ∈ its, it.f0 = a
/-- What goes with a: nothing, if a is none. -/
def Gone (its : List S43) (a x : Int) : Prop := There its a ∧ (x = a ∨ Desc its a x)

structure Stt where
  clk : Int
  nxt : Int
  defs : List S34
  items : List S43
  cells : List S129
  wats : List S132
noncomputable def cut (s : Stt) (p q : Int → Prop) : Stt :=
  { s with items := s.items.filter (fun x => !decide (p x.f0)), cells := s.cells.filter (fun x => !decide (p x.f0)), wats := s.wats.filter (fun x => !decide (q x.f1)) }
theorem cut_cut (s : Stt) (p q p' q' : Int → Prop) : cut (cut s p q) p' q' = cut s (fun x => p x ∨ p' x) (fun x => q x ∨ q' x) := by
  unfold cut
  simp only [List.filter_filter, Stt.mk.injEq, true_and]
  refine ⟨?_, ?_, ?_⟩ <;> (apply List.filter_congr; intro x _; simp [not_or, Bool.and_comm])
theorem cut_congr (s : Stt) (p q p' q' : Int → Prop) (h : ∀ x, p x ↔ p' x) (h' : ∀ x, q x ↔ q' x) : cut s p q = cut s p' q' := by
  have e : p = p' := funext fun x => propext (h x)
  have e' : q = q' := funext fun x => propext (h' x)
  rw [e, e']
theorem cut_none (s : Stt) (p q : Int → Prop) (h : ∀ x, ¬ p x) (h' : ∀ x, ¬ q x) : cut s p q = s := by
  unfold cut
  have e1 : ∀ l : List S43, l.filter (fun x => !decide (p x.f0)) = l := fun l => List.filter_eq_self.2 (fun x _ => by simp [h])
  have e2 : ∀ l : List S129, l.filter (fun x => !decide (p x.f0)) = l := fun l => List.filter_eq_self.2 (fun x _ => by simp [h])
  have e3 : ∀ l : List S132, l.filter (fun x => !decide (q x.f1)) = l := fun l => List.filter_eq_self.2 (fun x _ => by simp [h'])
  rw [e1, e2, e3]
noncomputable def takeS (s : Stt) (a : Int) : Stt := cut s (Gone s.items a) (Gone s.items a)

theorem Gone.refl {its : List S43} {a : Int} (h : There its a) : Gone its a a := ⟨h, .inl rfl⟩
theorem Gone.kid {its : List S43} {a y x : Int} (h : Gone its a y) (k : kidOf its y x) : Gone its a x := by
  obtain ⟨ht, rfl | hd⟩ := h
  · exact ⟨ht, .inr (.kid k)⟩
  · exact ⟨ht, .inr (.step hd k)⟩
theorem Gone.desc {its : List S43} {a y x : Int} (h : Gone its a y) (k : Desc its y x) : Gone its a x := by
  induction k with
  | kid k => exact h.kid k
  | step _ k ih => exact ih.kid k
theorem kidOf.mono {its its' : List S43} (h : ∀ x ∈ its, x ∈ its') {y x : Int} (k : kidOf its y x) : kidOf its' y x := by
  obtain ⟨it, hm, r⟩ := k
  exact ⟨it, h it hm, r⟩
theorem Desc.mono {its its' : List S43} (h : ∀ x ∈ its, x ∈ its') {a x : Int} (k : Desc its a x) : Desc its' a x := by
  induction k with
  | kid k => exact .kid (k.mono h)
  | step _ k ih => exact .step ih (k.mono h)
theorem There.mono {its its' : List S43} (h : ∀ x ∈ its, x ∈ its') {a : Int} (k : There its a) : There its' a := by
  obtain ⟨it, hm, r⟩ := k
  exact ⟨it, h it hm, r⟩
theorem Gone.mono {its its' : List S43} (h : ∀ x ∈ its, x ∈ its') {a x : Int} (k : Gone its a x) : Gone its' a x := ⟨k.1.mono h, k.2.imp id (fun d => d.mono h)⟩
theorem mem_left {its : List S43} {p : Int → Prop} {it : S43} : it ∈ its.filter (fun x => !decide (p x.f0)) ↔ it ∈ its ∧ ¬ p it.f0 := by simp
/-- What is not gone with a stays below b when a has been taken away. -/
theorem desc_left {its : List S43} {a b x : Int} (k : Desc its b x) : ¬ Gone its a x → Desc (its.filter (fun x => !decide (Gone its a x.f0))) b x := by
  induction k with
  | kid k =>
    intro hn
    obtain ⟨it, hm, h1, h2, h3⟩ := k
    exact .kid ⟨it, mem_left.2 ⟨hm, by rw [h2]; exact hn⟩, h1, h2, h3⟩
  | step _ k ih =>
    intro hn
    have hy := ih (fun h => hn (h.kid k))
    obtain ⟨it, hm, h1, h2, h3⟩ := k
    exact .step hy ⟨it, mem_left.2 ⟨hm, by rw [h2]; exact hn⟩, h1, h2, h3⟩
theorem gone_two (its : List S43) (a b x : Int) : (Gone its a x ∨ Gone (its.filter (fun x => !decide (Gone its a x.f0))) b x) ↔ (Gone its a x ∨ Gone its b x) := by
  constructor
  · rintro (h | h)
    · exact .inl h
    · exact .inr (h.mono (fun x hx => (mem_left.1 hx).1))
  · rintro (h | h)
    · exact .inl h
    · by_cases ha : Gone its a x
      · exact .inl ha
      · refine .inr ⟨?_, ?_⟩
        · obtain ⟨it, hm, hi⟩ := h.1
          refine ⟨it, mem_left.2 ⟨hm, fun hg => ha ?_⟩, hi⟩
          rw [hi] at hg
          rcases h.2 with rfl | hd
          · exact hg
          · exact hg.desc hd
        · exact h.2.imp id (fun hd => desc_left hd ha)
theorem take_comm (s : Stt) (a b : Int) : takeS (takeS s a) b = takeS (takeS s b) a := by
  unfold takeS
  rw [cut_cut, cut_cut]
  have h : ∀ x, (Gone s.items a x ∨ Gone (cut s (Gone s.items a) (Gone s.items a)).items b x) ↔ (Gone s.items b x ∨ Gone (cut s (Gone s.items b) (Gone s.items b)).items a x) := by
    intro x
    show (Gone s.items a x ∨ Gone (s.items.filter (fun x => !decide (Gone s.items a x.f0))) b x) ↔ (Gone s.items b x ∨ Gone (s.items.filter (fun x => !decide (Gone s.items b x.f0))) a x)
    rw [gone_two, gone_two, or_comm]
  exact cut_congr _ _ _ _ _ h h
theorem gone_once (its : List S43) (a x : Int) : ¬ Gone (its.filter (fun x => !decide (Gone its a x.f0))) a x := by
  rintro ⟨⟨it, hm, hi⟩, _⟩
  obtain ⟨hm, hn⟩ := mem_left.1 hm
  exact hn (by rw [hi]; exact .refl ⟨it, hm, hi⟩)
theorem take_once (s : Stt) (a : Int) : takeS (takeS s a) a = takeS s a := by
  have h := gone_once s.items a
  exact cut_none _ _ _ h h
theorem take_not (s : Stt) (a : Int) (h : ¬ There s.items a) : takeS s a = s := cut_none _ _ _ (fun _ k => h k.1) (fun _ k => h k.1)
/-- Clear: what is below goes. -/
def Below' (its : List S43) (a x : Int) : Prop := There its a ∧ Desc its a x ∧ x ≠ a
noncomputable def clearS (s : Stt) (a : Int) : Stt := cut s (Below' s.items a) (Below' s.items a)
noncomputable def breakS (s : Stt) (a : Int) : Stt := if There s.items a then cut (clearS s a) (fun _ => False) (fun x => x = a) else s
/-- A row that is closed under kids and has a, all of which go: it is what goes. -/
theorem gone_of (its : List S43) (a : Int) (l : List Int) (ht : There its a) (h0 : a ∈ l) (hc : ∀ it ∈ its, it.f1 ∈ l → it.f0 ∈ l) (hs : ∀ x ∈ l, x = a ∨ Desc its a x) (x : Int) : Gone its a x ↔ x ∈ l := by
  constructor
  · rintro ⟨_, rfl | hd⟩
    · exact h0
    · induction hd with
      | kid k =>
        obtain ⟨it, hm, h1, h2, _⟩ := k
        rw [← h2]
        exact hc it hm (by rw [h1]; exact h0)
      | step _ k ih =>
        obtain ⟨it, hm, h1, h2, _⟩ := k
        rw [← h2]
        exact hc it hm (by rw [h1]; exact ih)
  · intro hx
    exact ⟨ht, hs x hx⟩
theorem len_of_sub : ∀ (l m : List Int), l.Nodup → (∀ x ∈ l, x ∈ m) → l.length ≤ m.length
  | [], _, _, _ => Nat.zero_le _
  | x :: l, m, hn, hs => by
    have hx : x ∈ m := hs x List.mem_cons_self
    have h1 := len_of_sub l (m.erase x) (List.nodup_cons.1 hn).2 (fun y hy => (List.mem_erase_of_ne (fun e => (List.nodup_cons.1 hn).1 (by rw [← e]; exact hy))).2 (hs y (List.mem_cons_of_mem _ hy)))
    have h2 := List.length_erase_of_mem hx
    have h3 : 0 < m.length := List.length_pos_of_mem hx
    rw [List.length_cons]
    omega
/-- While what is below is looked for. -/
structure BInv (its : List S43) (id : Int) (done work out : List Int) : Prop where
  row : id :: out = done ++ work
  nodup : (id :: out).Nodup
  desc : ∀ x ∈ out, Desc its id x
  closed : ∀ y ∈ done, ∀ x, kidOf its y x → x ∈ id :: out
theorem BInv.start (its : List S43) (id : Int) : BInv its id [] [id] [] := ⟨rfl, by simp, (fun _ h => absurd h List.not_mem_nil), (fun _ h => absurd h List.not_mem_nil)⟩
theorem BInv.push {its : List S43} {id y k : Int} {done work out : List Int} (h : BInv its id done (y :: work) out) (hk : kidOf its y k) (hn : k ∉ id :: out) : BInv its id done (y :: (work ++ [k])) (out ++ [k]) := by
  refine ⟨?_, ?_, ?_, ?_⟩
  · rw [← List.cons_append, h.row]; simp
  · rw [← List.cons_append]
    exact List.nodup_append.2 ⟨h.nodup, by simp, fun a ha b hb e => hn (by rw [List.mem_singleton.1 hb] at e; exact e ▸ ha)⟩
  · intro x hx
    rcases List.mem_append.1 hx with hx | hx
    · exact h.desc x hx
    · obtain rfl := List.mem_singleton.1 hx
      have hy : y ∈ id :: out := by rw [h.row]; simp
      rcases List.mem_cons.1 hy with rfl | hy
      · exact .kid hk
      · exact .step (h.desc y hy) hk
  · intro y' hy' x hx
    have := h.closed y' hy' x hx
    rw [← List.cons_append]
    exact List.mem_append_left _ this
theorem BInv.pop {its : List S43} {id y : Int} {done work out : List Int} (h : BInv its id done (y :: work) out) (hk : ∀ x, kidOf its y x → x ∈ id :: out) : BInv its id (done ++ [y]) work out := by
  refine ⟨by rw [h.row]; simp, h.nodup, h.desc, fun y' hy' => ?_⟩
  rcases List.mem_append.1 hy' with hy' | hy'
  · exact h.closed y' hy'
  · obtain rfl := List.mem_singleton.1 hy'
    exact hk
theorem BInv.done {its : List S43} {id : Int} {done out : List Int} (h : BInv its id done [] out) (x : Int) : x ∈ out ↔ Desc its id x ∧ x ≠ id := by
  constructor
  · intro hx
    exact ⟨h.desc x hx, fun e => (List.nodup_cons.1 h.nodup).1 (e ▸ hx)⟩
  · rintro ⟨hd, hne⟩
    have hc : ∀ y ∈ id :: out, ∀ x, kidOf its y x → x ∈ id :: out := by
      intro y hy
      rw [h.row, List.append_nil] at hy
      exact h.closed y hy
    have : x ∈ id :: out := by
      induction hd with
      | kid k => exact hc id List.mem_cons_self _ k
      | @step y x hy k ih =>
        by_cases e : y = id
        · subst e; exact hc _ List.mem_cons_self _ k
        · exact hc y (ih e) _ k
    exact (List.mem_cons.1 this).resolve_left hne
theorem BInv.len {its : List S43} {id : Int} {done work out : List Int} (h : BInv its id done work out) : out.length ≤ its.length := by
  rw [← List.length_map (fun x : S43 => x.f0)]
  refine len_of_sub _ _ (List.nodup_cons.1 h.nodup).2 (fun x hx => ?_)
  have hd := h.desc x hx
  cases hd with
  | kid k => obtain ⟨it, hm, _, h2, _⟩ := k; exact List.mem_map.2 ⟨it, hm, h2⟩
  | step _ k => obtain ⟨it, hm, _, h2, _⟩ := k; exact List.mem_map.2 ⟨it, hm, h2⟩
end Go.Proofs.Ythonmfcollafkaa.P
-- GENERATED by wip/gen.py (this session's own driver of a mended copy of the printer). Not trusted: Lean checks it.
namespace Go.Proofs.Ythonmfcollafkaa.P
open Go.RowKit Go.Proofs.YthonmfcollafkaaW.PrintWords Go.Proofs.YthonmfcollafkaaW.PrintLast Go.Proofs.YthonmfcollafkaaW.PrintMore
attribute [local go_sem] Go.Proofs.YthonmfcollafkaaB.less_swap Go.Proofs.YthonmfcollafkaaB.less_or max2_int min2_int max_two min_two max_three min_three max_four min_four   -- for this text's walks alone
set_option linter.unusedVariables false
set_option linter.unusedSimpArgs false

end Go.Proofs.Ythonmfcollafkaa.P
