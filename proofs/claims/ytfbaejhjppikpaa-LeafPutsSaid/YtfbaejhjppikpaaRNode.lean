import Derived.Test.YtfbaejhjppikpaaPx0
import Derived.Test.YtfbaejhjppikpaaROpen
/- A node that came in. -/
namespace Go.Proofs.Ytfbaejhjppikpaa.P
open Go.RowKit Go.Proofs.YtfbaejhjppikpaaW.PrintWords Go.Proofs.YtfbaejhjppikpaaR

def kN : Kd (Bool × (List S75 × List S76)) := Kd.pair Kd.bool (Kd.pair (Kd.slice 75 k75) (Kd.slice 76 k76))
section
variable {H : Type} {enc : TypeId × Value → H} {w : World}
theorem open75 : ∃ Q, Opens enc Try.prog w (fun _ => true) true 75 k75 Q :=
  ⟨_, opens_struct (g := fun z => (⟨z.1, z.2⟩ : S75)) Try.underlying75 (by kernel_rfl) (opensFs_cons rfl (by kernel_rfl) (opens_string Try.underlying9) (opensFs_one rfl (by kernel_rfl) (opens_string Try.underlying9))) _ (fun _ => rfl)⟩
theorem open76 : ∃ Q, Opens enc Try.prog w (fun _ => true) true 76 k76 Q :=
  ⟨_, opens_struct (g := fun z => (⟨z.1, z.2⟩ : S76)) Try.underlying76 (by kernel_rfl) (opensFs_cons rfl (by kernel_rfl) (opens_string Try.underlying9) (opensFs_one rfl (by kernel_rfl) (opens_int Try.underlying3))) _ (fun _ => rfl)⟩
theorem openN : ∃ Q, Opens enc Try.prog w (fun _ => true) true 25 (Kd.iso kN id) Q := by
  obtain ⟨Q1, h1⟩ := open75 (enc := enc) (w := w)
  obtain ⟨Q2, h2⟩ := open76 (enc := enc) (w := w)
  exact ⟨_, opens_struct (g := id) Try.underlying25 (by kernel_rfl) (opensFs_cons rfl (by kernel_rfl) (opens_bool Try.underlying4) (opensFs_cons rfl (by kernel_rfl) (opens_slice Try.underlying22 (by kernel_rfl) h1) (opensFs_one rfl (by kernel_rfl) (opens_slice Try.underlying23 (by kernel_rfl) h2)))) id (fun _ => rfl)⟩
/-- A node, as an argument. -/
theorem argN {v : Value} {d : DataW H} {p : List MemPlace} (hv : ∃ cs, v = .agg cs ∧ cs.size = Try.prog.cellsOf 25) (h : DataW.Trod enc Try.prog w 0 (fun _ => true) true 25 v d p) :
    ∃ (a : Bool) (A : Option Addr) (c : Nat) (l : List S75) (A' : Option Addr) (c' : Nat) (m : List S76), v = .agg #[.bool a, .slice A l.length c, .slice A' m.length c'] ∧ l.length ≤ c ∧ Kd.C k75 w A l.length l ∧ m.length ≤ c' ∧ Kd.C k76 w A' m.length m := by
  obtain ⟨cs, rfl, _⟩ := hv
  obtain ⟨fuel, hf⟩ := h
  obtain ⟨Q, ho⟩ := openN (enc := enc) (w := w)
  obtain ⟨⟨a, l, m⟩, hK, _⟩ := ho _ _ _ hf
  obtain ⟨_, _, e, rfl, _, _, rfl, ⟨A, c, rfl, hl, hC⟩, ⟨A', c', rfl, hm, hC'⟩⟩ := hK
  refine ⟨a, A, c, l, A', c', m, ?_, hl, hC, hm, hC'⟩
  have e2 : cs.toList = [.bool a, .slice A l.length c, .slice A' m.length c'] := e
  rw [show cs = #[.bool a, .slice A l.length c, .slice A' m.length c'] from by rw [← e2]]
end
end Go.Proofs.Ytfbaejhjppikpaa.P
