import Derived.Test.YthonmfcollafkaaHShelf
/- slices.Sort and slices.Compact over a row of the call's own. -/
namespace Go.Proofs.Ythonmfcollafkaa.P
open Go.RowKit Go.Proofs.YthonmfcollafkaaW.PrintWords Go.Proofs.YthonmfcollafkaaW.PrintLast Go.Proofs.YthonmfcollafkaaW.PrintMore
set_option linter.unusedVariables false
set_option linter.unusedSimpArgs false

def sortL (l : List Int) : List Int := l.mergeSort (fun x y => decide (x ≤ y))
theorem sortL_len (l : List Int) : (sortL l).length = l.length := by unfold sortL; exact List.length_mergeSort l
/-- slices.Sort: function 108. -/
def slices_Sort_int_int.f (l0 : List Int) : Option (List Int) := if l0.length ≤ 1000000000 then some (sortL l0) else none
theorem slices_Sort_int_int.calls (P0_ : Nat → Prop) (u9000_ : Value) (l0 : List Int) (r : List Int) (w0 w : World) (hB : Below w0.heap.size w0 w) (ho0 : Kd.R (Kd.int .i64) 3 w w0.heap.size P0_ u9000_ l0) (h : slices_Sort_int_int.f l0 = some r) :
    Calls Try.prog 108 #[u9000_] w fun e w' => e = .returned (.tuple #[]) ∧ Kd.R (Kd.int .i64) 3 w' w0.heap.size (fun k_ => (P0_ k_ ∨ w.heap.size ≤ k_)) u9000_ r ∧ Below w0.heap.size w0 w' ∧ Kept w w' (fun k_ => P0_ k_) := by
  unfold slices_Sort_int_int.f at h
  by_cases hl : l0.length ≤ 1000000000
  case neg => rw [if_neg hl] at h; cases h
  rw [if_pos hl] at h
  obtain rfl := Option.some.inj h
  have hok := ho0.1
  obtain ⟨hlen, ⟨rfl, h0⟩ | ⟨g, cap, cur, rfl, hbase, hb, h1, h2, h3, h4⟩⟩ := Kd.own_of_R ho0
  · obtain rfl := List.eq_nil_of_length_eq_zero h0
    refine (Shelf.slices_Sort_int_none none 0 w).mono ?_
    rintro e w' ⟨rfl, rfl⟩
    exact ⟨rfl, by simpa [sortL] using Kd.R_nil _ _ _ _ _, hB, Kept.refl _ _⟩
  · rw [Nat.mul_one] at h4
    have hH := holds_of_blockI (ss := l0) hb h4
    refine (Shelf.slices_Sort_int g 0 cap l0 w hH (blk_lt hb) (by omega)).mono ?_
    rintro e w' ⟨rfl, n, os, rfl⟩
    have hg : w.grownBy (Sort.grow (Sort.putRow (Value.int .i64) (Sort.ahead w n) g 0 (sortL l0).toArray) os) (some g) := grownBy_sortedI _
    have how := ownsRow_sortedI (n := n) (os := os) (ss := l0) (ts := sortL l0) (sortL_len l0) hbase hb h1 h2 h3
    rw [← sortL_len l0] at how
    refine ⟨rfl, ?_, pw_below_grown hB _ hB.size hg (fun k hk => by injection hk with hk; omega), Kept.of_grown hg (Kept.refl _ _) (fun k hk => .inl (hok k hk))⟩
    rw [← sortL_len l0]
    exact Kd.R_of_own how (fun k hk => .inl (hok k hk))
/-- slices.Compact: function 70. -/
def slices_Compact_int_int.f (l0 : List Int) : Option (List Int) := if l0.length ≤ 1000000000 then some (Lib.compact l0) else none
theorem compact_len (l : List Int) : (Lib.compact l).length ≤ l.length := by
  unfold Lib.compact Lib.compactUpTo
  rw [List.length_map]
  exact Nat.le_trans (List.length_filter_le _ _) (by rw [List.length_range]; exact Nat.le_refl _)
theorem slices_Compact_int_int.calls (P0_ : Nat → Prop) (u9000_ : Value) (l0 : List Int) (r : List Int) (w0 w : World) (hB : Below w0.heap.size w0 w) (ho0 : Kd.R (Kd.int .i64) 3 w w0.heap.size P0_ u9000_ l0) (h : slices_Compact_int_int.f l0 = some r) :
    Calls Try.prog 70 #[u9000_] w fun e w' => ∃ v0_ : Value, e = .returned (v0_) ∧ Kd.R (Kd.int .i64) 3 w' w0.heap.size (fun k_ => (P0_ k_ ∨ w.heap.size ≤ k_)) v0_ r ∧ Below w0.heap.size w0 w' ∧ Kept w w' (fun k_ => P0_ k_) := by
  unfold slices_Compact_int_int.f at h
  by_cases hl : l0.length ≤ 1000000000
  case neg => rw [if_neg hl] at h; cases h
  rw [if_pos hl] at h
  obtain rfl := Option.some.inj h
  have hok := ho0.1
  obtain ⟨hlen, ⟨rfl, h0⟩ | ⟨g, cap, cur, rfl, hbase, hb, h1, h2, h3, h4⟩⟩ := Kd.own_of_R ho0
  · obtain rfl := List.eq_nil_of_length_eq_zero h0
    refine (Shelf.slices_Compact_int_empty none 0 w).mono ?_
    rintro e w' ⟨rfl, rfl⟩
    exact ⟨_, rfl, by simpa [Lib.compact, Lib.compactUpTo] using Kd.R_nil _ _ _ _ _, hB, Kept.refl _ _⟩
  · rw [Nat.mul_one] at h4
    have hH := holds_of_blockI (ss := l0) hb h4
    have hc := compact_len l0
    refine (Shelf.slices_Compact_int g 0 cap l0 w hH (by omega) h1).mono ?_
    rintro e w' ⟨rfl, n, rfl⟩
    obtain ⟨ts, hts⟩ : ∃ ts, ts = Lib.compact l0 ++ List.replicate (l0.length - (Lib.compact l0).length) 0 := ⟨_, rfl⟩
    have htl : ts.length = l0.length := by rw [hts, List.length_append, List.length_replicate]; omega
    rw [← hts]
    have hg : w.grownBy (Sort.grow (Sort.putRow (Value.int .i64) (Sort.ahead w n) g 0 ts.toArray) #[]) (some g) := grownBy_sortedI _
    obtain ⟨_, ⟨hn, _⟩ | ⟨g', cap', cur', e', b', hb', i1, i2, i3, i4⟩⟩ := ownsRow_sortedI (n := n) (os := #[]) (ss := l0) (ts := ts) htl hbase hb h1 h2 h3
    · cases hn
    · injection e' with e1 e2 e3
      injection e1 with e1
      injection e1 with e1
      subst e1
      subst e3
      rw [Sort.grow_empty] at hg hb'
      refine ⟨_, rfl, Kd.R_of_own ⟨by simp [encs], .inr ⟨g, cap, cur', rfl, hbase, hb', by omega, h2, i3, ?_⟩⟩ (fun k hk => .inl (hok k hk)), pw_below_grown hB _ hB.size hg (fun k hk => by injection hk with hk; omega), Kept.of_grown hg (Kept.refl _ _) (fun k hk => .inl (hok k hk))⟩
      rw [Nat.mul_one] at i4 ⊢
      have : cur'.toList.take (Lib.compact l0).length = (cur'.toList.take l0.length).take (Lib.compact l0).length := by rw [List.take_take, Nat.min_eq_left hc]
      rw [this, i4, hts]
      simp [encs]
end Go.Proofs.Ythonmfcollafkaa.P
