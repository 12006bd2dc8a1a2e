import Derived.Test.YtfbaejhjppikpaaKLeafSplits2
import Derived.Test.YtfbaejhjppikpaaKLeafSplits3
import Derived.Test.YtfbaejhjppikpaaWWords
import Derived.Test.YtfbaejhjppikpaaWKept
import Derived.ProofKit
import Derived.Test.YtfbaejhjppikpaaKLeafSplits0
/- The plain law of LeafSplits. -/
namespace Go.Proofs.Ytfbaejhjppikpaa.P
open Go.RowKit Go.Proofs.YtfbaejhjppikpaaW.PrintWords Go.Proofs.YtfbaejhjppikpaaW.PrintLast Go.Proofs.YtfbaejhjppikpaaW.PrintMore
open Go.Proofs.YtfbaejhjppikpaaB

theorem sizeN_take {a : Bool} {E : List S47} {M : List S36} (h : if a then M = [] else E = []) (b : Nat) : sizeN (E.take b) (M.take b) = 1 + sumTo (sizesN E M) b ∧ sizeN (E.drop b) (M.drop b) = 1 + ((sizesN E M).sum - sumTo (sizesN E M) b) := by
  obtain ⟨h1, h2⟩ := sizes_take h b
  have h3 := sum_split (sizesN E M) b
  unfold sizeN
  rw [h1, h2]
  refine ⟨rfl, ?_⟩
  omega
theorem putE_tells' (E : List S47) (k v : ByteArray) (h : E.length ≤ 1000) : leaf_Put.f E k v = some (putE E k v) := by unfold leaf_Put.f; rw [if_pos (by omega)]
/-- The greater leaf: both parts fit. -/
theorem splits_more (P : List S47) (hS : Small P []) (hM : mayB true P [] = true) (hf : ¬ sizeN P [] ≤ 254) (hs : (P.map sizeE).sum ≤ 379) (K : Nat) (hK : 9000 ≤ K) :
    callboardlaw06_LeafSplits.j3 (K + 1) false true P = some true := by
  obtain ⟨h0, h1, _⟩ := may_parts hM
  have hok := ok_sizes P h1
  have hL : ∀ x ∈ sizesN P [], 2 ≤ x ∧ x ≤ 126 := by
    intro x hx
    unfold sizesN at hx
    simp only [List.map_nil, List.append_nil] at hx
    obtain ⟨e, he, rfl⟩ := List.mem_map.1 hx
    have := hok e he
    unfold sizeE; omega
  have hsum : (sizesN P []).sum = (P.map sizeE).sum := by unfold sizesN; simp
  have hlow : 254 ≤ (sizesN P []).sum := by unfold sizeN at hf; omega
  have hlen := (sum_bd (sizesN P []) 126 (fun x hx => by have := hL x hx; omega)).2
  rw [sizesN_len] at hlen
  have hc : canSplit true P [] = true := by
    unfold canSplit
    rw [hM, Bool.true_and, decide_eq_true_eq]; omega
  obtain ⟨b, hb, hsp⟩ := split_tells true P [] hS hc K (by omega)
  obtain ⟨f1, f2⟩ := best_fits _ hL hlow (by omega) b hb
  obtain ⟨z1, z2⟩ := sizeN_take h0 b
  obtain ⟨s1, s2⟩ := small_take hS b
  simp only [callboardlaw06_LeafSplits.j3, Bool.false_eq_true, if_false]
  rw [hsp]
  simp only [Option.bind_some, if_true]
  rw [fits_tells' true _ _ s1 K (by omega), decide_eq_true (by omega)]
  simp only [Option.bind_some, if_true]
  rw [fits_tells' true _ _ s2 K (by omega), decide_eq_true (by omega)]
  rfl
theorem splits_put (E : List S47) (key val : ByteArray) (hE : Small E []) (hr : Rise E) (hf : sizeN E [] ≤ 254) (hl : E.length ≤ 200) (hk : key.size ≤ 300) (hv : val.size ≤ 300) (K : Nat) (hK : 9000 ≤ K) :
    callboardlaw06_LeafSplits.j2 (K + 2) key val false true E [] = some true := by
  obtain ⟨p1, p2, p3, p4, p5, p6, p7, p8⟩ := put_spec E key val hr
  have hpl : (putE E key val).length ≤ 201 := by rw [p5]; split <;> omega
  have hS : Small (putE E key val) [] := ⟨by omega, by simp, fun x hx => by
    rcases put_mem E key val hr x hx with rfl | hx
    · exact ⟨by simp only; omega, by simp only; omega⟩
    · exact hE.l_all x hx, fun x hx => by simp at hx⟩
  obtain ⟨q1, q2⟩ := put_sum E key val hr
  have hEs : sizeN E [] = 1 + (E.map sizeE).sum := by unfold sizeN sizesN; simp
  simp only [callboardlaw06_LeafSplits.j2, Bool.false_eq_true, if_false]
  rw [putE_tells' E key val (by omega)]
  simp only [Option.bind_some]
  rw [may_tells' true _ _ hS (K + 1) (by omega)]
  simp only [Option.bind_some]
  cases hM : mayB true (putE E key val) [] with
  | false => simp only [Bool.false_eq_true, if_false, callboardlaw06_LeafSplits.j3, if_true]
  | true =>
    simp only [if_true]
    rw [fits_tells' true _ _ hS (K + 1) (by omega)]
    simp only [Option.bind_some]
    by_cases hfit : sizeN (putE E key val) [] ≤ 254
    · rw [decide_eq_true hfit]; simp only [callboardlaw06_LeafSplits.j3, if_true]
    · rw [decide_eq_false hfit]
      have hn := ok_sizes _ (may_parts hM).2.1 _ q2
      exact splits_more _ hS hM hfit (by have : sizeE ⟨key, val⟩ ≤ 126 := by { unfold sizeE; simp only at hn ⊢; omega }
                                         omega) K hK
theorem splits_j1 (a : Bool) (E : List S47) (M : List S36) (key val : ByteArray) (hS : Small E M) (hl : E.length ≤ 200) (hk : key.size ≤ 300) (hv : val.size ≤ 300) (K : Nat) (hK : 9000 ≤ K) :
    callboardlaw06_LeafSplits.j1 (K + 3) key val a E M = some true := by
  simp only [callboardlaw06_LeafSplits.j1]
  rw [may_tells' a E M hS (K + 2) (by omega)]
  simp only [Option.bind_some]
  cases hM : mayB a E M with
  | false => simp only [Bool.false_eq_true, if_false, callboardlaw06_LeafSplits.j2, if_true]
  | true =>
    simp only [if_true]
    cases a with
    | false => simp only [Bool.false_eq_true, if_false, callboardlaw06_LeafSplits.j2, if_true]
    | true =>
      simp only [if_true]
      rw [fits_tells' true E M hS (K + 2) (by omega)]
      simp only [Option.bind_some]
      obtain ⟨h0, h1, _⟩ := may_parts hM
      simp only [if_true] at h0
      subst h0
      by_cases hfit : sizeN E [] ≤ 254
      · rw [decide_eq_true hfit]
        exact splits_put E key val hS (rise_of_okE _ h1) hfit hl hk hv K hK
      · rw [decide_eq_false hfit]; simp only [Bool.not_false, callboardlaw06_LeafSplits.j2, if_true]
theorem splits_j0 (a : Bool) (l : List S75) (m : List S76) (key val : ByteArray) (hl : l.length ≤ 200) (hm : m.length ≤ 200) (hS : Small (l.map toE) (m.map toB)) (hk : key.size ≤ 300) (hv : val.size ≤ 300) (K : Nat) (hK : 9000 ≤ K) :
    callboardlaw06_LeafSplits.j0 (K + 4) key val false a l m = some true := by
  have hlen : (l.map toE).length ≤ 200 := by rw [List.length_map]; exact hl
  have hmen : (m.map toB).length ≤ 200 := by rw [List.length_map]; exact hm
  have hj := splits_j1 a (l.map toE) (m.map toB) key val hS hlen hk hv K hK
  simp only [callboardlaw06_LeafSplits.j0, Bool.false_eq_true, if_false]
  rw [given_tells a l m (by omega) (by omega) (K + 3) (by omega)]
  simp only [Option.bind_some]
  generalize l.map toE = E at *
  generalize m.map toB = M at *
  cases hc : canSplit a E M with
  | false =>
    rw [split_not a E M hS hc (K + 3) (by omega)]
    simp only [Option.bind_some]
    rw [if_neg (by omega)]
    exact hj
  | true =>
    obtain ⟨b, hb, hsp⟩ := split_tells a E M hS hc (K + 3) (by omega)
    rw [hsp]
    simp only [Option.bind_some, if_true, List.length_nil, Nat.zero_add, List.nil_append]
    have hM : mayB a E M = true := by unfold canSplit at hc; simp only [Bool.and_eq_true] at hc; exact hc.1
    obtain ⟨h0, _, _⟩ := may_parts hM
    obtain ⟨z1, z2⟩ := sizeN_take h0 b
    obtain ⟨s1, s2⟩ := small_take hS b
    have hz : sizeN E M = 1 + (sizesN E M).sum := rfl
    have hall := sizesN_all E M hS
    have hbd := sumTo_bd (sizesN E M) (fun x hx => by have := hall x hx; omega) (by rw [sizesN_len]; omega) b
    have hpos1 : 0 < sumTo (sizesN E M) b := by
      have := sum_pos ((sizesN E M).take b) (fun x hx => (hall x (List.mem_of_mem_take hx)).1) (by have := hb.lo; have := hb.hi; rw [List.length_take]; omega)
      exact this
    have hpos2 : 0 < (sizesN E M).sum - sumTo (sizesN E M) b := by
      have := sum_pos ((sizesN E M).drop b) (fun x hx => (hall x (List.mem_of_mem_drop hx)).1) (by have := hb.hi; rw [List.length_drop]; omega)
      have h4 := sum_split (sizesN E M) b
      omega
    rw [if_pos (by rw [List.length_take]; omega), if_pos (by rw [List.length_take, List.length_drop]; omega), if_pos (by rw [List.length_take]; omega), if_pos (by rw [List.length_take, List.length_drop]; omega)]
    rw [List.take_append_drop, List.take_append_drop, same_tells a E M a E M (by omega) (by omega) (K + 3) (by omega)]
    rw [show sameN a E M a E M = true from by simp [sameN]]
    simp only [Option.bind_some, if_true]
    rw [size_tells' a _ _ s1 (K + 3) (by omega), size_tells' a E M hS (K + 3) (by omega)]
    simp only [Option.bind_some]
    rw [if_neg (by omega), size_tells' a _ _ s2 (K + 3) (by omega)]
    simp only [Option.bind_some]
    rw [if_neg (by omega), may_tells' a _ _ s1 (K + 3) (by omega), may_take hM b]
    simp only [Option.bind_some, if_true]
    rw [may_tells' a _ _ s2 (K + 3) (by omega), may_drop hM b]
    simp only [Option.bind_some, if_true]
    rw [if_pos (by rw [z1, z2, hz]; congr 1; omega)]
    exact hj
theorem leafSplits_pure (a : Bool) (l : List S75) (m : List S76) (key val : ByteArray) : ∃ k, callboardlaw06_LeafSplits.f k a l m key val = some true := by
  have HA := awake_tells
  obtain ⟨K, hK⟩ : ∃ K, K = 9000 := ⟨_, rfl⟩
  refine ⟨K + 4, ?_⟩
  have hstop : callboardlaw06_LeafSplits.j0 (K + 4) key val true a l m = some true := by
    simp only [callboardlaw06_LeafSplits.j0, if_true]
    rw [HA (K + 3) (by omega)]; rfl
  unfold callboardlaw06_LeafSplits.f
  rw [large_tells a l m (K + 4) (by omega)]
  simp only [Option.bind_some]
  cases hL : largeB l m with
  | true => rw [if_pos rfl]; exact hstop
  | false =>
    rw [if_neg (by decide)]
    obtain ⟨h1, h2, h3, h4, hs⟩ := small_given l m hL
    by_cases hk : (key.size : Int) > 300
    · rw [if_pos hk]; exact hstop
    rw [if_neg hk]
    by_cases hv : (val.size : Int) > 300
    · rw [if_pos hv]; exact hstop
    rw [if_neg hv, HA (K + 4) (by omega)]
    exact splits_j0 a l m key val h1 h2 hs (by omega) (by omega) K (by omega)
theorem leafSplits_walk (a : Bool) (A : Option Addr) (c : Nat) (l : List S75) (A' : Option Addr) (c' : Nat) (m : List S76) (key val : ByteArray) (w : World) (hr : Kd.C k75 w A l.length l) (hc : l.length ≤ c) (hr' : Kd.C k76 w A' m.length m) (hc' : m.length ≤ c') (_ : key.size ≤ 140737488351232) (_ : val.size ≤ 140737488351232) :
    Calls Try.prog 8 #[.agg #[.bool a, .slice A l.length c, .slice A' m.length c'], .string key, .string val] w fun e w' => e = .returned (.bool true) ∧ Below w.heap.size w w' := by
  obtain ⟨k, hk⟩ := leafSplits_pure a l m key val
  exact callboardlaw06_LeafSplits.calls k a A c l A' c' m key val true w hr hc hr' hc' hk ⟨rfl⟩
end Go.Proofs.Ytfbaejhjppikpaa.P
/- What came in, read as data, is of its kind: structs and slices of whatever depth. -/
namespace Go.Proofs.YtfbaejhjppikpaaR
open Go.RowKit Go.Proofs.YtfbaejhjppikpaaW.PrintWords
open Go.Proofs.YtfbaejhjppikpaaW

section
variable {H : Type} {enc : TypeId × Value → H} {P : Program} {w : World} {spare : Nat → Bool} {held : Bool}

/-- Whatever reads as data at type t is of kind d, and Q holds of it. -/
def Opens {α : Type} (enc : TypeId × Value → H) (P : Program) (w : World) (spare : Nat → Bool) (held : Bool) (t : TypeId) (d : Kd α) (Q : α → Prop) : Prop :=
  ∀ (fuel : Nat) (cs : List Value) (x : DataW H × List MemPlace), DataW.trod enc P w 0 spare held fuel t cs = some x → ∃ v : α, d.K w v cs ∧ Q v

theorem opens_int {t : TypeId} {k : IntKind} (ht : P.underlying t = some (.int k)) : Opens enc P w spare held t (Kd.int k) (fun n => (Lit.int k n).wf = true) := by
  intro fuel cs x h
  obtain ⟨n, rfl, rfl, hw⟩ := DataW.trod_int ht h
  exact ⟨n, rfl, hw⟩
theorem opens_bool {t : TypeId} (ht : P.underlying t = some .bool) : Opens enc P w spare held t Kd.bool (fun _ => True) := by
  intro fuel cs x h
  obtain ⟨n, rfl, rfl⟩ := DataW.trod_bool ht h
  exact ⟨n, rfl, trivial⟩
theorem opens_string {t : TypeId} (ht : P.underlying t = some .string) : Opens enc P w spare held t Kd.string (fun s => s.size ≤ maxLen) := by
  intro fuel cs x h
  obtain ⟨s, rfl, rfl, hs⟩ := DataW.trod_string ht h
  exact ⟨s, rfl, hs⟩

theorem add_add (a : Addr) (n m : Nat) : (a.add n).add m = a.add (n + m) := by
  unfold Addr.add
  by_cases h : n = 0
  · subst h; simp
  · by_cases h2 : m = 0
    · subst h2; simp [h]
    · have : n + m ≠ 0 := by omega
      simp [h, h2]; omega

/-- A choice for each place of a list. -/
theorem choose_list {α : Type} (p : Nat → α → Prop) : ∀ n, (∀ i, i < n → ∃ v, p i v) → ∃ l : List α, l.length = n ∧ ∀ i v, l[i]? = some v → p i v := by
  intro n
  induction n with
  | zero => intro _; exact ⟨[], rfl, fun i v h => by simp at h⟩
  | succ n ih =>
    intro h
    obtain ⟨l, hl, hp⟩ := ih (fun i hi => h i (by omega))
    obtain ⟨v, hv⟩ := h n (by omega)
    refine ⟨l ++ [v], by simp [hl], fun i u hu => ?_⟩
    rw [List.getElem?_append] at hu
    split at hu
    · exact hp i u hu
    · rename_i hn
      have : i = n := by
        rcases Nat.lt_or_ge (i - l.length) 1 with h1 | h1
        · omega
        · rw [List.getElem?_eq_none (by simpa using h1)] at hu; cases hu
      subst this
      simp [hl] at hu
      exact hu ▸ hv

theorem opens_slice {α : Type} {t e : TypeId} {d : Kd α} {Q : α → Prop} (ht : P.underlying t = some (.slice e)) (hs : P.cellsOf e = d.sz) (he : Opens enc P w spare held e d Q) :
    Opens enc P w spare held t (Kd.slice e d) (fun l => l.length ≤ maxLen ∧ ∀ x ∈ l, Q x) := by
  intro fuel cs x h
  rcases DataW.trod_slice ht h with ⟨rfl, rfl⟩ | ⟨a, len, cap, elems, rest, n, rfl, rfl, rfl, hb, hl, hc, hel, hget, _⟩
  · exact ⟨[], ⟨none, 0, rfl, Nat.le_refl _, Kd.C_nil d w⟩, by simp [maxLen], fun x hx => by simp at hx⟩
  · obtain ⟨l, hll, hlp⟩ := choose_list (fun i v => ∃ c, w.cells? 0 (a.add (i * d.sz)) d.sz = some c ∧ d.K w v c ∧ Q v) len (fun i hi => by
      have h1 := hget i hi
      have h2 : elems[i]? = some (elems[i]'(by omega)) := List.getElem?_eq_getElem (by omega)
      rw [h2, hs] at h1
      obtain ⟨c, hc1, hc2⟩ := Option.bind_eq_some_iff.1 h1
      obtain ⟨v, hv, hq⟩ := he _ _ _ hc2
      exact ⟨v, c, hc1, hv, hq⟩)
    refine ⟨l, ⟨some a, cap, by rw [hll], by omega, by rw [hll], by rw [hll]; unfold maxLen at hc; omega, fun hpos => ⟨a, rfl, fun j p hj => ?_⟩⟩, by rw [hll]; omega, fun y hy => ?_⟩
    · obtain ⟨c, hc1, hc2, _⟩ := hlp j p hj
      have hc3 := World.cells?_some hc1
      refine ⟨c, hc3.2.1, hc2, fun i u hu => ?_⟩
      have hi : i < d.sz := by
        have := (List.getElem?_eq_some_iff.1 hu).1
        rw [hc3.2.1] at this
        exact this
      rw [← add_add, hc3.2.2 i hi]
      exact hu
    · obtain ⟨i, hi⟩ := List.getElem?_of_mem hy
      obtain ⟨c, _, _, hq⟩ := hlp i y hi
      exact hq

/-- The fields of a struct, from cell o on, are of kind d. -/
def OpensFs {α : Type} (enc : TypeId × Value → H) (P : Program) (w : World) (spare : Nat → Bool) (held : Bool) (fs : List Field) (o : Nat) (d : Kd α) (Q : α → Prop) : Prop :=
  ∀ (fuel : Nat) (cs : List Value), cs.length = o + d.sz → (∀ f ∈ fs, ∃ x, DataW.trod enc P w 0 spare held fuel f.type ((cs.drop f.offset).take (P.cellsOf f.type)) = some x) → ∃ v : α, d.K w v (cs.drop o) ∧ Q v
theorem opensFs_one {α : Type} {f : Field} {o : Nat} {d : Kd α} {Q : α → Prop} (ho : f.offset = o) (hs : P.cellsOf f.type = d.sz) (he : Opens enc P w spare held f.type d Q) : OpensFs enc P w spare held [f] o d Q := by
  intro fuel cs hl h
  obtain ⟨x, hx⟩ := h f (List.mem_singleton.2 rfl)
  rw [ho, hs, List.take_of_length_le (by simp; omega)] at hx
  exact he _ _ _ hx
theorem opensFs_cons {α β : Type} {f : Field} {fs : List Field} {o : Nat} {d : Kd α} {d' : Kd β} {Q : α → Prop} {Q' : β → Prop} (ho : f.offset = o) (hs : P.cellsOf f.type = d.sz) (he : Opens enc P w spare held f.type d Q) (hr : OpensFs enc P w spare held fs (o + d.sz) d' Q') :
    OpensFs enc P w spare held (f :: fs) o (Kd.pair d d') (fun z => Q z.1 ∧ Q' z.2) := by
  intro fuel cs hl h
  have hl' : cs.length = o + (d.sz + d'.sz) := hl
  obtain ⟨x, hx⟩ := h f (List.mem_cons_self ..)
  rw [ho, hs] at hx
  obtain ⟨v, hv, hq⟩ := he _ _ _ hx
  obtain ⟨v', hv', hq'⟩ := hr fuel cs (by omega) (fun g hg => h g (List.mem_cons_of_mem _ hg))
  refine ⟨(v, v'), ⟨(cs.drop o).take d.sz, cs.drop (o + d.sz), ?_, hv, hv'⟩, hq, hq'⟩
  rw [← List.drop_drop, List.take_append_drop]
theorem opens_struct {α β : Type} {t : TypeId} {fs : Array Field} {d : Kd α} {Q : α → Prop} (ht : P.underlying t = some (.struct fs)) (hs : P.cellsOf t = d.sz) (he : OpensFs enc P w spare held fs.toList 0 d Q) (g : α → β) (f : β → α) (hfg : ∀ a, f (g a) = a) :
    Opens enc P w spare held t (Kd.iso d f) (fun b => Q (f b)) := by
  intro fuel cs x h
  obtain ⟨xs, n, rfl, rfl, hl, hn, hget⟩ := DataW.trod_struct ht h
  obtain ⟨v, hv, hq⟩ := he n cs (by omega) (fun fd hfd => by
    obtain ⟨i, hi⟩ := List.getElem?_of_mem hfd
    have h1 := hget i fd (by simpa using hi)
    have hlt : i < xs.length := by
      have := (List.getElem?_eq_some_iff.1 hi).1
      simp at this
      omega
    rw [List.getElem?_eq_getElem hlt] at h1
    exact ⟨_, h1⟩)
  exact ⟨g v, by show d.K w (f (g v)) cs; rw [hfg]; exact hv, by show Q (f (g v)); rw [hfg]; exact hq⟩
end
end Go.Proofs.YtfbaejhjppikpaaR
/- A node that came in. -/
namespace Go.Proofs.Ytfbaejhjppikpaa.P
open Go.RowKit Go.Proofs.YtfbaejhjppikpaaW.PrintWords Go.Proofs.YtfbaejhjppikpaaR

def kN : Kd (Bool × (List S75 × List S76)) := Kd.pair Kd.bool (Kd.pair (Kd.slice 75 k75) (Kd.slice 76 k76))
section
variable {H : Type} {enc : TypeId × Value → H} {w : World}
theorem open75 : ∃ Q, Opens enc Try.prog w (fun _ => true) true 75 k75 Q :=
  ⟨_, opens_struct (g := fun z => (⟨z.1, z.2⟩ : S75)) Try.underlying75 (by kernel_rfl) (opensFs_cons rfl (by kernel_rfl) (opens_string Try.underlying9) (opensFs_one rfl (by kernel_rfl) (opens_string Try.underlying9))) _ (fun _ => rfl)⟩
theorem open76 : ∃ Q, Opens enc Try.prog w (fun _ => true) true 76 k76 Q :=
  ⟨_, opens_struct (g := fun z => (⟨z.1, z.2⟩ : S76)) Try.underlying76 (by kernel_rfl) (opensFs_cons rfl (by kernel_rfl) (opens_string Try.underlying9) (opensFs_one rfl (by kernel_rfl) (opens_int Try.underlying3))) _ (fun _ => rfl)⟩
theorem openN : ∃ Q, Opens enc Try.prog w (fun _ => true) true 25 (Kd.iso kN id) Q := by
  obtain ⟨Q1, h1⟩ := open75 (enc := enc) (w := w)
  obtain ⟨Q2, h2⟩ := open76 (enc := enc) (w := w)
  exact ⟨_, opens_struct (g := id) Try.underlying25 (by kernel_rfl) (opensFs_cons rfl (by kernel_rfl) (opens_bool Try.underlying4) (opensFs_cons rfl (by kernel_rfl) (opens_slice Try.underlying22 (by kernel_rfl) h1) (opensFs_one rfl (by kernel_rfl) (opens_slice Try.underlying23 (by kernel_rfl) h2)))) id (fun _ => rfl)⟩
/-- A node, as an argument. -/
theorem argN {v : Value} {d : DataW H} {p : List MemPlace} (hv : ∃ cs, v = .agg cs ∧ cs.size = Try.prog.cellsOf 25) (h : DataW.Trod enc Try.prog w 0 (fun _ => true) true 25 v d p) :
    ∃ (a : Bool) (A : Option Addr) (c : Nat) (l : List S75) (A' : Option Addr) (c' : Nat) (m : List S76), v = .agg #[.bool a, .slice A l.length c, .slice A' m.length c'] ∧ l.length ≤ c ∧ Kd.C k75 w A l.length l ∧ m.length ≤ c' ∧ Kd.C k76 w A' m.length m := by
  obtain ⟨cs, rfl, _⟩ := hv
  obtain ⟨fuel, hf⟩ := h
  obtain ⟨Q, ho⟩ := openN (enc := enc) (w := w)
  obtain ⟨⟨a, l, m⟩, hK, _⟩ := ho _ _ _ hf
  obtain ⟨_, _, e, rfl, _, _, rfl, ⟨A, c, rfl, hl, hC⟩, ⟨A', c', rfl, hm, hC'⟩⟩ := hK
  refine ⟨a, A, c, l, A', c', m, ?_, hl, hC, hm, hC'⟩
  have e2 : cs.toList = [.bool a, .slice A l.length c, .slice A' m.length c'] := e
  rw [show cs = #[.bool a, .slice A l.length c, .slice A' m.length c'] from by rw [← e2]]
end
end Go.Proofs.Ytfbaejhjppikpaa.P
