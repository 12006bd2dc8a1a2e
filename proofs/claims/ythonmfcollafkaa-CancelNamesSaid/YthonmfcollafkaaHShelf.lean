import Derived.Shelf.Sort.Plain
import Derived.Shelf.Slices.CompactI
import Derived.Shelf.Slices.In.SortNone
import Derived.Sort.OwnSortedInts
import Derived.Test.YthonmfcollafkaaPx0
/- The library's Sort and Compact at []int: contracts of the kit's shelf at this seat's numbers (written by the kit's lay-plain). -/
namespace Go.Proofs.Ythonmfcollafkaa
open Go.Shelf
def Shelf.lays189_ren : Go.Shelf.Ren := ⟨fun | 189 => 108 | 125 => 148 | 257 => 147 | 128 => 177 | 129 => 178 | 294 => 168 | 295 => 169 | 296 => 170 | 297 => 171 | 298 => 172 | 299 => 173 | 216 => 174 | 300 => 175 | 301 => 176 | 328 => 183 | 329 => 184 | 330 => 185 | 331 => 186 | 332 => 187 | 215 => 188 | 343 => 190 | n => n, fun | 28 => 51 | 3 => 3 | 46 => 166 | 0 => 0 | 51 => 188 | 53 => 190 | 4 => 4 | 183 => 181 | 182 => 180 | 131 => 68 | 5 => 5 | 9 => 9 | 218 => 196 | 222 => 200 | 228 => 203 | 229 => 204 | n => n, fun | n => n⟩
theorem Shelf.lays189 : Go.Proofs.Lays.n189 Try.prog Shelf.lays189_ren := {
  mixed := by kernel_rfl
  f125 := Try.func148.trans (congrArg some (by kernel_rfl))
  f128 := Try.func177.trans (congrArg some (by kernel_rfl))
  f129 := Try.func178.trans (congrArg some (by kernel_rfl))
  f189 := Try.func108.trans (congrArg some (by kernel_rfl))
  f215 := Try.func188.trans (congrArg some (by kernel_rfl))
  f216 := Try.func174.trans (congrArg some (by kernel_rfl))
  f257 := Try.func147.trans (congrArg some (by kernel_rfl))
  f294 := Try.func168.trans (congrArg some (by kernel_rfl))
  f295 := Try.func169.trans (congrArg some (by kernel_rfl))
  f296 := Try.func170.trans (congrArg some (by kernel_rfl))
  f297 := Try.func171.trans (congrArg some (by kernel_rfl))
  f298 := Try.func172.trans (congrArg some (by kernel_rfl))
  f299 := Try.func173.trans (congrArg some (by kernel_rfl))
  f300 := Try.func175.trans (congrArg some (by kernel_rfl))
  f301 := Try.func176.trans (congrArg some (by kernel_rfl))
  f328 := Try.func183.trans (congrArg some (by kernel_rfl))
  f329 := Try.func184.trans (congrArg some (by kernel_rfl))
  f330 := Try.func185.trans (congrArg some (by kernel_rfl))
  f331 := Try.func186.trans (congrArg some (by kernel_rfl))
  f332 := Try.func187.trans (congrArg some (by kernel_rfl))
  f343 := Try.func190.trans (congrArg some (by kernel_rfl))
  t0 := Try.underlying0
  a0 := Try.isAgg0
  z0 := Try.sizeOf0
  v0 := Try.zeroValue0
  t3 := Try.underlying3
  a3 := Try.isAgg3
  z3 := Try.sizeOf3
  v3 := Try.zeroValue3
  t4 := Try.underlying4
  a4 := Try.isAgg4
  z4 := Try.sizeOf4
  v4 := Try.zeroValue4
  t5 := Try.underlying5
  a5 := Try.isAgg5
  z5 := Try.sizeOf5
  v5 := Try.zeroValue5
  t9 := Try.underlying9
  a9 := Try.isAgg9
  z9 := Try.sizeOf9
  v9 := Try.zeroValue9
  t28 := Try.underlying51
  a28 := Try.isAgg51
  z28 := Try.sizeOf51
  v28 := Try.zeroValue51
  t46 := Try.underlying166
  a46 := Try.isAgg166
  z46 := Try.sizeOf166
  v46 := Try.zeroValue166
  t51 := Try.underlying188
  a51 := Try.isAgg188
  z51 := Try.sizeOf188
  v51 := Try.zeroValue188
  t53 := Try.underlying190
  a53 := Try.isAgg190
  z53 := Try.sizeOf190
  v53 := Try.zeroValue190
  t131 := Try.underlying68
  a131 := Try.isAgg68
  z131 := Try.sizeOf68
  v131 := Try.zeroValue68
  t182 := Try.underlying180
  a182 := Try.isAgg180
  z182 := Try.sizeOf180
  v182 := Try.zeroValue180
  t183 := Try.underlying181
  a183 := Try.isAgg181
  z183 := Try.sizeOf181
  v183 := Try.zeroValue181
  t218 := Try.underlying196
  a218 := Try.isAgg196
  z218 := Try.sizeOf196
  v218 := Try.zeroValue196
  t222 := Try.underlying200
  a222 := Try.isAgg200
  z222 := Try.sizeOf200
  v222 := Try.zeroValue200
  t228 := Try.underlying203
  a228 := Try.isAgg203
  z228 := Try.sizeOf203
  v228 := Try.zeroValue203
  t229 := Try.underlying204
  a229 := Try.isAgg204
  z229 := Try.sizeOf204
  v229 := Try.zeroValue204 }
open Go.Sort Go.RowKit in
theorem Shelf.slices_Sort_int (blk off cap : Nat) (zs : List Int) (w : World) (hH : Holds (Value.int .i64) w blk off zs.toArray) (hblk : blk < w.heap.size) (hsz : zs.length < 4611686018427387904) :
    Calls Try.prog 108 #[.slice (some ⟨blk, off, none⟩) zs.length cap] w fun e w' =>
      e = .returned (.tuple #[]) ∧ ∃ n os, w' = grow (putRow (Value.int .i64) (Sort.ahead w n) blk off (zs.mergeSort fun x y => decide (x ≤ y)).toArray) os := Any.slices_Sort_int Shelf.lays189 blk off cap zs w hH hblk hsz
def Shelf.laysNm220_ren : Go.Shelf.Ren := ⟨fun | 20 => 70 | n => n, fun | 22 => 51 | 3 => 3 | 4 => 4 | 0 => 0 | n => n, fun | n => n⟩
theorem Shelf.laysNm220 : Go.Proofs.Lays2.n20 Try.prog Shelf.laysNm220_ren := {
  mixed := by kernel_rfl
  f20 := Try.func70.trans (congrArg some (by kernel_rfl))
  t0 := Try.underlying0
  a0 := Try.isAgg0
  z0 := Try.sizeOf0
  v0 := Try.zeroValue0
  t3 := Try.underlying3
  a3 := Try.isAgg3
  z3 := Try.sizeOf3
  v3 := Try.zeroValue3
  t4 := Try.underlying4
  a4 := Try.isAgg4
  z4 := Try.sizeOf4
  v4 := Try.zeroValue4
  t22 := Try.underlying51
  a22 := Try.isAgg51
  z22 := Try.sizeOf51
  v22 := Try.zeroValue51
  i3 := by kernel_rfl }
open Go.RowKit Go.Lib Go.Sort in
theorem Shelf.slices_Compact_int (blk off cap : Nat) (zs : List Int) (w : World) (hH : Holds (Value.int .i64) w blk off zs.toArray) (hsz : zs.length ≤ 9223372036854775807) (hcap : zs.length ≤ cap) :
    Calls Try.prog 70 #[.slice (some ⟨blk, off, none⟩) zs.length cap] w fun e w' => e = .returned (.slice (some ⟨blk, off, none⟩) (Lib.compact zs).length cap) ∧ ∃ q, w' = putRow (Value.int .i64) (Sort.ahead w q) blk off (Lib.compact zs ++ List.replicate (zs.length - (Lib.compact zs).length) 0).toArray := Any.slices_Compact_int Shelf.laysNm220 blk off cap zs w hH hsz hcap
open Go.RowKit Go.Lib Go.Sort in
theorem Shelf.slices_Compact_int_empty (a : Option Addr) (cap : Nat) (w : World) :
    Calls Try.prog 70 #[.slice a 0 cap] w fun e w' => e = .returned (.slice a 0 cap) ∧ w' = w := Any.slices_Compact_int_empty Shelf.laysNm220 a cap w
open Go.RowKit Go.Sort in
theorem Shelf.slices_Sort_int_none (p : Option Addr) (cap : Nat) (w : World) :
    Calls Try.prog 108 #[.slice p 0 cap] w fun e w' => e = .returned (.tuple #[]) ∧ w' = w := Any.slices_Sort_int_none Shelf.lays189 p cap w
end Go.Proofs.Ythonmfcollafkaa
