import Derived.Test.YthonmfcollafkaaHDel
import Derived.Maps.Own
import Derived.Maps.OwnOps
/- Closures that look into a map that they have captured. -/
namespace Go.Proofs.Ythonmfcollafkaa.P
open Go.RowKit Go.Proofs.YthonmfcollafkaaW.PrintWords Go.Proofs.YthonmfcollafkaaW.PrintLast Go.Proofs.YthonmfcollafkaaW.PrintMore
open Go.Maps
set_option linter.unusedVariables false
set_option linter.unusedSimpArgs false
theorem keyed3 : Keyed Try.prog 3 := int_keyed Try.underlying3
def cntOf (D : DataW Unit) (k : Int) : Int := match D.atKey (.int .i64 k) (.lit (.int .i64 0)) with | .lit (.int .i64 c) => c | _ => 0
theorem cntOf_at {D : DataW Unit} {k c : Int} (h : D.atKey (.int .i64 k) (.lit (.int .i64 0)) = .lit (.int .i64 c)) : cntOf D k = c := by unfold cntOf; rw [h]
set_option maxHeartbeats 1000000 in
theorem clo144 (x : S43) (D : DataW Unit) (bq mb n : Nat) (w : World) (hq : w.heap[bq]? = some (.cells #[.map (some mb)] 135 (0, 0))) (hm : w.ownsMap Try.prog 3 (plainElem Try.prog 3) mb n D) (hx : (Lit.int .i64 x.f0).wf = true) :
    Calls Try.prog 144 #[.agg #[.int .i64 x.f0, .int .i64 x.f1, .int .u8 x.f2, .string x.f3, .int .i64 x.f4, .int .i64 x.f5, .int .u8 x.f6, .string x.f7], .pointer (some ⟨bq, 0, none⟩)] w fun e w' => e = .returned (.bool (decide (0 < cntOf D x.f0))) ∧ Below w.heap.size w w' := by
  have hu := Try.underlying43
  have hc := cell_old hq
  have hlt := blk_lt hq
  have hown := hm.alloc
  have hkey := keyOf_int_mk Try.underlying3 hx
  clear hq
  go_enter Try.func144, Try.ntmps144
  go_wp2_with (at_lookup; refine wpList_lookup_own_int _ rfl _ _ 135 rfl 3 3 .i64 keyed3 Try.underlying135 Try.underlying3 (Try.zeroValue3 _) mb n D rfl (hown _) _ _ rfl hkey ?_; intro c hat hwc)
  go_ret
  refine ⟨?_, (Below.refl _ _).alloc (Nat.le_refl _) _⟩
  rw [cntOf_at hat]
  rfl
set_option maxHeartbeats 1000000 in
theorem clo151 (x : S132) (D : DataW Unit) (bq mb n : Nat) (w : World) (hq : w.heap[bq]? = some (.cells #[.map (some mb)] 135 (0, 0))) (hm : w.ownsMap Try.prog 3 (plainElem Try.prog 3) mb n D) (hx : (Lit.int .i64 x.f1).wf = true) :
    Calls Try.prog 151 #[.agg #[.int .i64 x.f0, .int .i64 x.f1, .int .i64 x.f2, .int .u8 x.f3, .string x.f4, .int .i64 x.f5, .bool x.f6], .pointer (some ⟨bq, 0, none⟩)] w fun e w' => e = .returned (.bool (decide (0 < cntOf D x.f1))) ∧ Below w.heap.size w w' := by
  have hu := Try.underlying132
  have hc := cell_old hq
  have hlt := blk_lt hq
  have hown := hm.alloc
  have hkey := keyOf_int_mk Try.underlying3 hx
  clear hq
  go_enter Try.func151, Try.ntmps151
  go_wp2_with (at_lookup; refine wpList_lookup_own_int _ rfl _ _ 135 rfl 3 3 .i64 keyed3 Try.underlying135 Try.underlying3 (Try.zeroValue3 _) mb n D rfl (hown _) _ _ rfl hkey ?_; intro c hat hwc)
  go_ret
  refine ⟨?_, (Below.refl _ _).alloc (Nat.le_refl _) _⟩
  rw [cntOf_at hat]
  rfl
end Go.Proofs.Ythonmfcollafkaa.P
