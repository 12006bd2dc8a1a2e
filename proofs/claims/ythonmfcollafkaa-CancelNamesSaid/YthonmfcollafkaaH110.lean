import Derived.Test.YthonmfcollafkaaHDel
namespace Go.Proofs.Ythonmfcollafkaa.P
open Go.RowKit Go.Proofs.YthonmfcollafkaaW.PrintWords Go.Proofs.YthonmfcollafkaaW.PrintLast Go.Proofs.YthonmfcollafkaaW.PrintMore
theorem clo110 (x id : Int) (bq : Nat) (w : World) (hq : w.heap[bq]? = some (.cells #[.int .i64 id] 3 (0, 0))) :
    Calls Try.prog 110 #[.int .i64 x, .pointer (some ⟨bq, 0, none⟩)] w fun e w' => e = .returned (.bool (x == id)) ∧ Below w.heap.size w w' := by
  have hc := cell_old hq
  have hlt := blk_lt hq
  clear hq
  go_enter Try.func110, Try.ntmps110
  go_wp2
  go_ret
  exact ⟨rfl, Below.refl _ _⟩
end Go.Proofs.Ythonmfcollafkaa.P
