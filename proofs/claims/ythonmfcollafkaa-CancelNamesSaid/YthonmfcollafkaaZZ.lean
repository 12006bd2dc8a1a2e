import Derived.Test.YthonmfcollafkaaWMore
/- Short words for what the printed walks say again and again. -/
namespace Go.Proofs.Ythonmfcollafkaa.P
open Go.RowKit Go.Proofs.YthonmfcollafkaaW.PrintWords Go.Proofs.YthonmfcollafkaaW.PrintLast Go.Proofs.YthonmfcollafkaaW.PrintMore
abbrev Y := true
abbrev N := false
/-- A row's fact, in a world that has drawn or made more. -/
theorem kr {P Q : Prop} (h : Aside0 P) (f : P → Q := by (intro h_; (with_reducible repeat (first | apply Kd.R_alloc | apply Kd.R_drewN | apply Kd.R_drew)); exact h_)) : Q := f h.out
/-- A block's fact. -/
theorem kb {P Q : Prop} (h : Aside0 P) (f : P → Q := by (intro h_; (with_reducible repeat (first | refine blk_drewN ?_ _ | refine blk_drew ?_ | refine blk_alloc ?_ _)); exact h_)) : Q := f h.out
/-- Nothing that was there before has changed. -/
theorem kl {P Q : Prop} (h : Aside0 P) (f : P → Q := by (intro h_; repeat (first | (with_reducible first | exact h_ | apply below_alloc | apply pw_below_drewN | apply below_drew1) | (with_reducible refine below_set ?_ (Aside0.out (by assumption))) | exact h_))) : Q := f h.out
/-- What a row reads as. -/
theorem kc {P Q : Prop} (h : P) (f : P → Q := by (intro h_; repeat (first | exact h_ | (with_reducible refine Kd.C_alloc ?_ _) | (with_reducible refine Kd.C_drewN ?_ _) | (with_reducible refine Kd.C_drew ?_)))) : Q := f h
theorem bc {w : World} {g : Nat} {t : TypeId} {cs : Array Value} {v : Value} (h : Aside0 (w.heap[g]? = some (.cells cs t (0, 0)))) (i : Nat) (e : cs[i]? = some v := by rfl) : w.cell? ⟨g, i, none⟩ = some v := (blk_cell h.out i).trans e
theorem bb {W0 W w2 : World} {g : Nat} {o : Obj} (h : Aside0 (W0.heap[g]? = some o)) (hb : Below W.heap.size W w2) (f : W0.heap[g]? = some o → W.heap[g]? = some o := by (intro h_; (with_reducible repeat (first | refine blk_drewN ?_ _ | refine blk_drew ?_ | refine blk_alloc ?_ _)); exact h_)) : Aside0 (w2.heap[g]? = some o) := ⟨blk_below (f h.out) hb⟩
theorem bl {W0 W : World} {g : Nat} {o : Obj} (h : Aside0 (W0.heap[g]? = some o)) (f : W0.heap[g]? = some o → W.heap[g]? = some o := by (intro h_; (with_reducible repeat (first | refine blk_drewN ?_ _ | refine blk_drew ?_ | refine blk_alloc ?_ _)); exact h_)) : g < W.heap.size := blk_lt (f h.out)
theorem kf {P Q R : Prop} (n : Aside0 R) (h : Aside0 P) (f : R → P → Q := by (intro n_ h_; (repeat (first | (with_reducible first | refine blk_drewN ?_ _ | refine blk_drew ?_ | refine blk_alloc ?_ _) | (refine blk_far ?_ n_ _))); exact h_)) : Q := f n.out h.out
theorem bf {R : Prop} {W0 W w2 : World} {g : Nat} {o : Obj} (n : Aside0 R) (h : Aside0 (W0.heap[g]? = some o)) (hb : Below W.heap.size W w2) (f : R → W0.heap[g]? = some o → W.heap[g]? = some o := by (intro n_ h_; (repeat (first | (with_reducible first | refine blk_drewN ?_ _ | refine blk_drew ?_ | refine blk_alloc ?_ _) | (refine blk_far ?_ n_ _))); exact h_)) : Aside0 (w2.heap[g]? = some o) := ⟨blk_below (f n.out h.out) hb⟩
theorem rb {α : Type} {K : Kd α} {e : TypeId} {W0 W w2 : World} {base : Nat} {ok : Nat → Prop} {v : Value} {xs : List α} (h : Aside0 (K.R e W0 base ok v xs)) (hb : Below W.heap.size W w2) (f : K.R e W0 base ok v xs → K.R e W base ok v xs := by (intro h_; (with_reducible repeat (first | apply Kd.R_alloc | apply Kd.R_drewN | apply Kd.R_drew)); exact h_)) : Aside0 (K.R e w2 base ok v xs) := ⟨Kd.R_below (f h.out) hb⟩
end Go.Proofs.Ythonmfcollafkaa.P
