import Derived.Test.YthonmfcollafkaaHRows
/- slices.DeleteFunc (by hand: it calls a closure). -/
namespace Go.Proofs.Ythonmfcollafkaa.P
open Go.RowKit Go.Proofs.YthonmfcollafkaaW.PrintWords Go.Proofs.YthonmfcollafkaaW.PrintLast Go.Proofs.YthonmfcollafkaaW.PrintMore
set_option linter.unusedVariables false
set_option linter.unusedSimpArgs false

/-- All but the row of v lies as it lay. -/
structure Left (v : Value) (w W : World) : Prop where
  os : W.os = w.os
  tape : W.tape = w.tape
  output : W.output = w.output
  size : w.heap.size ≤ W.heap.size
  block : ∀ k, k < w.heap.size → some k ≠ v.ownBlock → W.heap[k]? = w.heap[k]?
theorem Left.of_below {v : Value} {w W : World} (h : Below w.heap.size w W) : Left v w W := ⟨h.os, h.tape, h.output, h.size, fun k hk _ => h.block k hk⟩
theorem Left.below {v : Value} {w W W2 : World} (h : Left v w W) (hb : Below W.heap.size W W2) : Left v w W2 :=
  ⟨hb.os.trans h.os, hb.tape.trans h.tape, hb.output.trans h.output, Nat.le_trans h.size hb.size, fun k hk hne => (hb.block k (Nat.lt_of_lt_of_le hk h.size)).trans (h.block k hk hne)⟩
theorem Left.refl (v : Value) (w : World) : Left v w w := .of_below (Below.refl _ _)
theorem Left.alloc {v : Value} {w W : World} (h : Left v w W) (o : Obj) : Left v w (W.alloc o) := h.below ((Below.refl _ _).alloc (Nat.le_refl _) _)
theorem Left.to {v : Value} {w W : World} {base : Nat} (h : Left v w W) (hb : base ≤ w.heap.size) (hv : ∀ b, v.ownBlock = some b → base ≤ b) : Below base w W :=
  ⟨h.os, h.tape, h.output, h.size, fun k hk => h.block k (Nat.lt_of_lt_of_le hk hb) (fun e => absurd (hv k e.symm) (by omega))⟩
theorem first_of {α : Type} (p : α → Bool) (l : List α) (h : ¬ ∀ j, (hj : j < l.length) → p l[j] = false) : ∃ i, ∃ hi : i < l.length, p l[i] = true ∧ ∀ j, (hj : j < l.length) → j < i → p l[j] = false := by
  have hx : ∃ x ∈ l, p x = true := Classical.byContradiction fun hh => h fun j hj => by
    cases e : p l[j]
    · rfl
    · exact absurd ⟨l[j], List.getElem_mem hj, e⟩ hh
  have hi := List.findIdx_lt_length_of_exists hx
  exact ⟨_, hi, List.findIdx_getElem, fun j hj hlt => by simpa using List.not_of_lt_findIdx hlt⟩
theorem there_of {w : World} {b o : Nat} {cur : Array Value} {e : TypeId} {n : Nat} (h : w.heap[b]? = some (.cells cur e (0, 0))) (hn : o + n ≤ cur.size) : w.there b o n := fun j hj => by
  refine ⟨?_, blk_frozen h _⟩
  rw [blk_cell h, Array.getElem?_eq_getElem (by omega)]; rfl
theorem Left.setCells {v : Value} {w : World} {b : Nat} (hv : v.ownBlock = some b) : ∀ {W : World}, Left v w W → ∀ (o : Nat) (vs : List Value), Left v w (W.setCells b o vs) := by
  intro W h o vs
  obtain ⟨h1, h2, h3, h4⟩ := setCells_same b vs o W
  exact ⟨h1.trans h.os, h2.trans h.tape, h3.trans h.output, by rw [h4]; exact h.size, fun k hk hne => (setCells_far vs o k (fun e => hne (by rw [hv, e]))).trans (h.block k hk hne)⟩
theorem zeroCells_size (z : Array Value) (n : Nat) : (Builtin.zeroCells z n).size = n * z.size := by
  unfold Builtin.zeroCells
  simp
theorem zeroCells_one' (z : Array Value) (n : Nat) (h : z.all (·.oneCell') = true) : ∀ v ∈ (Builtin.zeroCells z n).toList, v.oneCell' = true := by
  intro v hv
  simp only [Builtin.zeroCells, Array.toList_map, List.mem_map] at hv
  obtain ⟨i, hi, rfl⟩ := hv
  have hlt : i < n * z.size := by simpa using hi
  have hz : 0 < z.size := by
    rcases Nat.eq_zero_or_pos z.size with e | e
    · rw [e] at hlt; omega
    · exact e
  have hm := Nat.mod_lt i hz
  rw [getElem!_pos z _ hm]
  exact Array.all_eq_true.1 h _ hm
theorem high_cons {α : Type} {sz : Nat} {enc : α → List Value} {p : α → Bool} {xs : List α} {c i j : Nat} {cur : List Value} (h : DInv sz enc p xs c i j cur) (hj : j < xs.length) : (cur.drop (j * sz)).take ((xs.length - j) * sz) = cellsOf enc (xs[j] :: xs.drop (j + 1)) := by
  rw [h.high, List.drop_eq_getElem_cons hj]
def DelRel {α : Type} (e sz : Nat) (enc : α → List Value) (p : α → Bool) (xs : List α) (b c : Nat) (w : World) (v5 v6 : Value) (wr : World) : Prop :=
  ∃ (i j : Nat) (cur : Array Value), v5 = .int .i64 i ∧ v6 = .int .i64 j ∧ i < j ∧ j ≤ xs.length ∧ Aside0 (DInv sz enc p xs c i j cur.toList) ∧ Aside0 (wr.heap[b]? = some (.cells cur e (0, 0))) ∧ Aside0 (Left (.slice (some ⟨b, 0, none⟩) xs.length c) w wr)
def enc43 (x : S43) : List Value := [.int .i64 x.f0, .int .i64 x.f1, .int .u8 x.f2, .string x.f3, .int .i64 x.f4, .int .i64 x.f5, .int .u8 x.f6, .string x.f7]
theorem enc43_ok : Enc k43 8 enc43 := ⟨rfl, fun _ => rfl, fun x v hv => by
  simp only [enc43, List.mem_cons, List.not_mem_nil, or_false] at hv
  rcases hv with rfl | rfl | rfl | rfl | rfl | rfl | rfl | rfl <;> rfl, fun h => k43_openM h, fun w base ok x => k43_mkM w base ok x⟩
def enc129 (x : S129) : List Value := [.int .i64 x.f0, .string x.f1, .int .u8 x.f2.f0, .int .i64 x.f2.f1, .string x.f2.f2]
theorem enc129_ok : Enc k129 5 enc129 := ⟨rfl, fun _ => rfl, fun x v hv => by
  simp only [enc129, List.mem_cons, List.not_mem_nil, or_false] at hv
  rcases hv with rfl | rfl | rfl | rfl | rfl <;> rfl, fun h => k129_openM h, fun w base ok x => k129_mkM w base ok x⟩
def enc132 (x : S132) : List Value := [.int .i64 x.f0, .int .i64 x.f1, .int .i64 x.f2, .int .u8 x.f3, .string x.f4, .int .i64 x.f5, .bool x.f6]
theorem enc132_ok : Enc k132 7 enc132 := ⟨rfl, fun _ => rfl, fun x v hv => by
  simp only [enc132, List.mem_cons, List.not_mem_nil, or_false] at hv
  rcases hv with rfl | rfl | rfl | rfl | rfl | rfl | rfl <;> rfl, fun h => k132_openM h, fun w base ok x => k132_mkM w base ok x⟩
set_option maxHeartbeats 2000000 in
set_option maxRecDepth 100000 in
/-- slices.IndexFunc: function 123, with the closure 144. -/
theorem index_123_144 (A0 : Option Addr) (c0 : Nat) (l0 : List S43) (bq : Nat) (p : S43 → Bool) (w : World) (hr0 : Kd.C k43 w A0 l0.length l0) (hc0 : l0.length ≤ c0) (hlen : l0.length ≤ 1000000000) (hp : ∀ W (x : S43), x ∈ l0 → Below w.heap.size w W → Calls Try.prog 144 #[.agg #[.int .i64 x.f0, .int .i64 x.f1, .int .u8 x.f2, .string x.f3, .int .i64 x.f4, .int .i64 x.f5, .int .u8 x.f6, .string x.f7], .pointer (some ⟨bq, 0, none⟩)] W fun e W' => e = .returned (.bool (p x)) ∧ Below W.heap.size W W') :
    Calls Try.prog 123 #[.slice A0 l0.length c0, .func (.func 144) #[] #[.pointer (some ⟨bq, 0, none⟩)]] w fun e w' => e = .returned (.int .i64 (idxI p l0)) ∧ Below w.heap.size w w' := by
  have hu := Try.underlying43
  have hm : l0.length ≤ 9223372036854775807 := hr0.2.1
  have HR := Aside0.mk hr0
  have HP0 := Aside0.mk hp
  clear hr0 hp
  go_enter Try.func123, Try.ntmps123
  go_wp2
  go_loopw [8] (fun v8 w' => ∃ i : Nat, v8 = .int .i64 i ∧ i ≤ l0.length ∧ Aside0 (∀ j, (hj : j < l0.length) → j < i → p l0[j] = false) ∧ Aside0 (Below w.heap.size w w')) (fun v8 _ => l0.length - (intOf v8).toNat)
  case atStart => exact ⟨0, rfl, Nat.zero_le _, ⟨fun j hj h => absurd h (Nat.not_lt_zero _)⟩, ⟨Below.refl _ _⟩⟩
  case round =>
    obtain ⟨i, rfl, hi, HP, HB⟩ := hrel
    by_cases hlt : i < l0.length
    · have h1 : 0 ≤ ((i : Nat) : Int) := by omega
      have h2 : ((i : Nat) : Int) < (l0.length : Int) := by omega
      obtain ⟨ad, e, hx0, hx1, hx2, hx3, hx4, hx5, hx6, hx7⟩ := at_T43 HR.out _ h1 h2
      cases e
      replace hx0 := (HB.out.cell (World.block_lt_of_cell? w _ hx0)).trans hx0
      replace hx1 := (HB.out.cell (World.block_lt_of_cell? w _ hx1)).trans hx1
      replace hx2 := (HB.out.cell (World.block_lt_of_cell? w _ hx2)).trans hx2
      replace hx3 := (HB.out.cell (World.block_lt_of_cell? w _ hx3)).trans hx3
      replace hx4 := (HB.out.cell (World.block_lt_of_cell? w _ hx4)).trans hx4
      replace hx5 := (HB.out.cell (World.block_lt_of_cell? w _ hx5)).trans hx5
      replace hx6 := (HB.out.cell (World.block_lt_of_cell? w _ hx6)).trans hx6
      replace hx7 := (HB.out.cell (World.block_lt_of_cell? w _ hx7)).trans hx7
      simp only [Int.toNat_natCast] at hx0 hx1 hx2 hx3 hx4 hx5 hx6 hx7
      have hrd : rd_T43 l0 (i : Int) = l0[i] := by unfold rd_T43; simp [List.getD_eq_getElem?_getD, hlt]
      rw [hrd] at hx0 hx1 hx2 hx3 hx4 hx5 hx6 hx7
      clear hrd
      cases hq : p l0[i] with
      | true =>
        have HQ := Aside0.mk hq
        clear hq
        go_wp2_with (go_at_call 144; refine (HP0.out _ l0[i] (List.getElem_mem hlt) HB.out).mono ?_; rintro e w1 ⟨rfl, hb⟩; replace HB := Aside0.mk (below_step HB.out hb); clear hb; rw [HQ.out])
        go_ret
        refine ⟨?_, HB.out⟩
        have hf : idxI p l0 = (i : Int) := idxI_at _ l0 i hlt HQ.out (fun j hj h => HP.out j hj h)
        rw [hf]
        rfl
      | false =>
        have HQ := Aside0.mk hq
        clear hq
        go_wp2_with (go_at_call 144; refine (HP0.out _ l0[i] (List.getElem_mem hlt) HB.out).mono ?_; rintro e w1 ⟨rfl, hb⟩; replace HB := Aside0.mk (below_step HB.out hb); clear hb; rw [HQ.out])
        go_roundw
        case rel => exact ⟨i + 1, by go_num, by omega, ⟨fun j hj h => by
          by_cases e : j = i
          · subst e; exact HQ.out
          · exact HP.out j hj (by omega)⟩, ⟨HB.out⟩⟩
        case measure => simp [intOf]; omega
    · go_wp2
      go_ret
      refine ⟨?_, HB.out⟩
      have hf : idxI p l0 = -1 := idxI_none _ l0 (fun j hj => HP.out j hj (by omega))
      rw [hf]
      rfl

set_option maxHeartbeats 4000000 in
set_option maxRecDepth 100000 in
/-- slices.DeleteFunc: function 143, with the closure 144. -/
theorem del_143_144 (v : Value) (xs : List S43) (bq : Nat) (p : S43 → Bool) (base : Nat) (w : World) (hv : Kd.R k43 43 w base (fun _ => True) v xs) (hlen : xs.length ≤ 1000000000) (hbase : base ≤ w.heap.size)
    (hp : ∀ W (x : S43), x ∈ xs → Left v w W → Calls Try.prog 144 #[.agg #[.int .i64 x.f0, .int .i64 x.f1, .int .u8 x.f2, .string x.f3, .int .i64 x.f4, .int .i64 x.f5, .int .u8 x.f6, .string x.f7], .pointer (some ⟨bq, 0, none⟩)] W fun e W' => e = .returned (.bool (p x)) ∧ Below W.heap.size W W') :
    Calls Try.prog 143 #[v, .func (.func 144) #[] #[.pointer (some ⟨bq, 0, none⟩)]] w fun e w' => ∃ v', e = .returned v' ∧ Kd.R k43 43 w' base (fun _ => True) v' (xs.filter fun x => !p x) ∧ Left v w w' := by
  have hu := Try.underlying43
  obtain ⟨A, c, rfl, hc, hC⟩ := Kd.R_reads hv
  have HI := Aside0.mk (index_123_144 A c xs bq p w hC hc hlen (fun W x hm hb => hp W x hm (Left.of_below hb)))
  have HP := Aside0.mk hp
  have HV := Aside0.mk hv
  clear hp hC hv
  go_enter Try.func143, Try.ntmps143
  by_cases hn : ∀ j, (hj : j < xs.length) → p xs[j] = false
  · have hi := idxI_none p xs hn
    have HN := Aside0.mk hn
    clear hn
    rw [hi] at HI
    clear hi
    go_wp2_with (go_at_call 123; refine HI.out.mono ?_; rintro e w1 ⟨rfl, hb⟩)
    go_ret
    have hf : xs.filter (fun x => !p x) = xs := List.filter_eq_self.2 (fun x hx => by
      obtain ⟨j, hj, rfl⟩ := List.getElem_of_mem hx
      rw [HN.out j hj]; rfl)
    rw [hf]
    exact ⟨_, rfl, Kd.R_below HV.out hb, Left.of_below hb⟩
  · obtain ⟨i0, hi0, hpi, hfst⟩ := first_of p xs hn
    clear hn
    have hi := idxI_at p xs i0 hi0 hpi hfst
    rw [hi] at HI
    clear hi
    have ho := own_of_row enc43_ok HV.out
    obtain ⟨_, ⟨hA, h0⟩ | ⟨b, c', cur0, hA, hbb, hb, hnc, hcm, hcs, hct⟩⟩ := ho
    · omega
    injection hA with e1 e2 e3
    subst e1
    subst e3
    have HD0 := Aside0.mk (DInv.start enc43_ok (c := c) (by rw [Array.length_toList]; exact hcs) hnc hct hi0 hpi hfst)
    have HB0 := Aside0.mk hb
    clear hb hct hcs hpi hfst HV
    have hlt0 := blk_lt HB0.out
    go_wp2_with (go_at_call 123; refine HI.out.mono ?_; rintro e w1 ⟨rfl, hbl⟩; have HB1 := Aside0.mk (blk_below HB0.out hbl); have HL1 := Aside0.mk (Left.of_below (v := .slice (some ⟨b, 0, none⟩) xs.length c) hbl); clear hbl)
    clear HI
    go_loopw [5, 6] (fun v5 v6 w' => DelRel 43 8 enc43 p xs b c w v5 v6 w') (fun _ v6 _ => xs.length - (intOf v6).toNat)
    case atStart => exact ⟨i0, i0 + 1, cur0, rfl, by go_num, by omega, by omega, HD0, HB1, HL1⟩
    case round =>
      unfold DelRel at hrel
      obtain ⟨i, j, cur, rfl, rfl, hij, hj, HD, HBk, HL⟩ := hrel
      by_cases hlt : j < xs.length
      · have hx0 : wr.cell? ⟨b, j * 8, none⟩ = _ := elem_cells enc43_ok HBk.out (high_cons HD.out hlt) 0 _ rfl
        have hx1 := elem_cells enc43_ok HBk.out (high_cons HD.out hlt) 1 _ rfl
        have hx2 := elem_cells enc43_ok HBk.out (high_cons HD.out hlt) 2 _ rfl
        have hx3 := elem_cells enc43_ok HBk.out (high_cons HD.out hlt) 3 _ rfl
        have hx4 := elem_cells enc43_ok HBk.out (high_cons HD.out hlt) 4 _ rfl
        have hx5 := elem_cells enc43_ok HBk.out (high_cons HD.out hlt) 5 _ rfl
        have hx6 := elem_cells enc43_ok HBk.out (high_cons HD.out hlt) 6 _ rfl
        have hx7 := elem_cells enc43_ok HBk.out (high_cons HD.out hlt) 7 _ rfl
        cases hq : p xs[j] with
        | true =>
          have HQ := Aside0.mk hq
          clear hq
          go_wp2_with (go_at_call 144; refine (HP.out _ xs[j] (List.getElem_mem hlt) (Left.alloc HL.out _)).mono ?_; rintro e w2 ⟨rfl, hb⟩; have HBk2 := Aside0.mk (blk_below (blk_alloc HBk.out _) hb); have HL2 := Aside0.mk (Left.below (Left.alloc HL.out _) hb); clear hb; rw [HQ.out])
          go_roundw
          case rel => refine ⟨_, _, _, _, _, _, _, _, _, _, _, _, _, _, _, _, _, _, _, _, _, _, _, ?_, rfl⟩; unfold DelRel; exact ⟨i, j + 1, cur, rfl, by go_num, by omega, by omega, ⟨DInv.gone enc43_ok HD.out hlt HQ.out⟩, HBk2, HL2⟩
          case measure => simp [intOf]; omega
        | false =>
          have HQ := Aside0.mk hq
          clear hq
          have hil : i * 8 + 8 ≤ cur.size := by
            have h1 := HD.out.size
            have h2 := HD.out.cap
            rw [Array.length_toList] at h1
            omega
          go_wp2_with (first | (go_at_call 144; refine (HP.out _ xs[j] (List.getElem_mem hlt) (Left.alloc HL.out _)).mono ?_; rintro e w2 ⟨rfl, hb⟩; have HBk2 := Aside0.mk (blk_below (blk_alloc HBk.out _) hb); have HNw2 := Aside0.mk (blk_below (blk_new wr _) hb); have HL2 := Aside0.mk (Left.below (Left.alloc HL.out _) hb); clear hb; rw [HQ.out]; have hz0 := blk_cell HNw2.out 0; have hz1 := blk_cell HNw2.out 1; have hz2 := blk_cell HNw2.out 2; have hz3 := blk_cell HNw2.out 3; have hz4 := blk_cell HNw2.out 4; have hz5 := blk_cell HNw2.out 5; have hz6 := blk_cell HNw2.out 6; have hz7 := blk_cell HNw2.out 7; simp only [List.getElem?_toArray, List.getElem?_cons_zero, List.getElem?_cons_succ] at hz0 hz1 hz2 hz3 hz4 hz5 hz6 hz7) | ((with_reducible refine gate_store (t := 43) (p := 33) rfl ?_); refine wpList_store_mid rfl 43 (.tmp 33) (.tmp 32) rfl b (i * 8) (enc43 xs[j]).toArray rfl rfl (there_of HBk2.out hil) (by kernel_rfl) (all_oneCell_toArray (enc43_ok.one _)) ?_))
          obtain ⟨cur', k1, k2, k3⟩ := setCells_row (g := b) (e := 43) (enc43 xs[j]) (i * 8) _ cur HBk2.out hil
          go_roundw
          case rel => refine ⟨_, _, _, _, _, _, _, _, _, _, _, _, _, _, _, _, _, _, _, _, _, _, _, ?_, rfl⟩; unfold DelRel; exact ⟨i + 1, j + 1, cur', by go_num, by go_num, by omega, by omega, ⟨DInv.stay enc43_ok HD.out hlt HQ.out k3⟩, ⟨k1⟩, ⟨HL2.out.setCells rfl _ _⟩⟩
          case measure => simp [intOf]; omega
      · obtain rfl : j = xs.length := by omega
        have HG := Aside0.mk HD.out.done
        have hsz0 : cur.size = c * 8 := by have := HD.out.size; rw [Array.length_toList] at this; exact this
        have hzl : (Builtin.zeroCells (Value.agg #[(.int .i64 0), (.int .i64 0), (.int .u8 0), (.string ⟨#[]⟩), (.int .i64 0), (.int .i64 0), (.int .u8 0), (.string ⟨#[]⟩)]).cells (xs.length - i)).size = (xs.length - i) * 8 := by rw [zeroCells_size]; rfl
        have h1 : ∀ v ∈ (Builtin.zeroCells (Value.agg #[(.int .i64 0), (.int .i64 0), (.int .u8 0), (.string ⟨#[]⟩), (.int .i64 0), (.int .i64 0), (.int .u8 0), (.string ⟨#[]⟩)]).cells (xs.length - i)).toList, v.oneCell' = true := zeroCells_one' _ _ (by kernel_rfl)
        have hth : wr.there b (i * 8) ((xs.length - i) * 8) := there_of HBk.out (by rw [hsz0]; omega)
        have hcl : ∀ ty c', (Builtin.clear_ #[23] ty #[.slice (some ⟨b, i * 8, none⟩) (xs.length - i) c']).run Try.prog wr = .ok (.tuple #[]) (wr.setCells b (i * 8) (Builtin.zeroCells (Value.agg #[(.int .i64 0), (.int .i64 0), (.int .u8 0), (.string ⟨#[]⟩), (.int .i64 0), (.int .i64 0), (.int .u8 0), (.string ⟨#[]⟩)]).cells (xs.length - i)).toList) := fun ty c' => run_clear_rows wr 23 ty 43 _ b (i * 8) (xs.length - i) c' (by omega) Try.underlying23 (fun w => Try.zeroValue43 w) (fun j hj => (hth j (by rw [← hzl]; exact hj)).1) (fun j hj => (hth j (by rw [← hzl]; exact hj)).2) h1
        generalize (Builtin.zeroCells (Value.agg #[(.int .i64 0), (.int .i64 0), (.int .u8 0), (.string ⟨#[]⟩), (.int .i64 0), (.int .i64 0), (.int .u8 0), (.string ⟨#[]⟩)]).cells (xs.length - i)) = Z at hzl h1 hcl
        obtain ⟨cur2, k1, k2, k3⟩ := setCells_row (g := b) (e := 43) Z.toList (i * 8) wr cur HBk.out (by rw [Array.length_toList, hzl, hsz0]; omega)
        have K1 := Aside0.mk k1
        have K2 := Aside0.mk k2
        have K3 := Aside0.mk k3
        clear hzl h1 hth k1 k2 k3
        go_wp2
        go_ret
        have hle := HD.out.le
        refine ⟨_, rfl, row_of_own enc43_ok (n := i) HG.out.1.symm ⟨by rw [cellsOf_len enc43_ok, ← HG.out.1], Or.inr ⟨b, c, cur2, rfl, hbb, K1.out, by omega, hcm, by rw [K2.out]; exact hsz0, ?_⟩⟩, HL.out.setCells rfl _ _⟩
        rw [← HG.out.2, K3.out]
        have hl : (cur.toList.take (i * 8)).length = i * 8 := by rw [List.length_take, Array.length_toList, hsz0]; omega
        rw [List.append_assoc]
        refine (List.take_append_of_le_length (by omega)).trans ?_
        exact List.take_of_length_le (by omega)
set_option maxHeartbeats 2000000 in
set_option maxRecDepth 100000 in
/-- slices.IndexFunc: function 181, with the closure 166. -/
theorem index_181_166 (A0 : Option Addr) (c0 : Nat) (l0 : List S129) (bq : Nat) (p : S129 → Bool) (w : World) (hr0 : Kd.C k129 w A0 l0.length l0) (hc0 : l0.length ≤ c0) (hlen : l0.length ≤ 1000000000) (hp : ∀ W (x : S129), x ∈ l0 → Below w.heap.size w W → Calls Try.prog 166 #[.agg #[.int .i64 x.f0, .string x.f1, .int .u8 x.f2.f0, .int .i64 x.f2.f1, .string x.f2.f2], .pointer (some ⟨bq, 0, none⟩)] W fun e W' => e = .returned (.bool (p x)) ∧ Below W.heap.size W W') :
    Calls Try.prog 181 #[.slice A0 l0.length c0, .func (.func 166) #[] #[.pointer (some ⟨bq, 0, none⟩)]] w fun e w' => e = .returned (.int .i64 (idxI p l0)) ∧ Below w.heap.size w w' := by
  have hu := Try.underlying129
  have hm : l0.length ≤ 9223372036854775807 := hr0.2.1
  have HR := Aside0.mk hr0
  have HP0 := Aside0.mk hp
  clear hr0 hp
  go_enter Try.func181, Try.ntmps181
  go_wp2
  go_loopw [8] (fun v8 w' => ∃ i : Nat, v8 = .int .i64 i ∧ i ≤ l0.length ∧ Aside0 (∀ j, (hj : j < l0.length) → j < i → p l0[j] = false) ∧ Aside0 (Below w.heap.size w w')) (fun v8 _ => l0.length - (intOf v8).toNat)
  case atStart => exact ⟨0, rfl, Nat.zero_le _, ⟨fun j hj h => absurd h (Nat.not_lt_zero _)⟩, ⟨Below.refl _ _⟩⟩
  case round =>
    obtain ⟨i, rfl, hi, HP, HB⟩ := hrel
    by_cases hlt : i < l0.length
    · have h1 : 0 ≤ ((i : Nat) : Int) := by omega
      have h2 : ((i : Nat) : Int) < (l0.length : Int) := by omega
      obtain ⟨ad, e, hx0, hx1, hx2, hx3, hx4⟩ := at_T129 HR.out _ h1 h2
      cases e
      replace hx0 := (HB.out.cell (World.block_lt_of_cell? w _ hx0)).trans hx0
      replace hx1 := (HB.out.cell (World.block_lt_of_cell? w _ hx1)).trans hx1
      replace hx2 := (HB.out.cell (World.block_lt_of_cell? w _ hx2)).trans hx2
      replace hx3 := (HB.out.cell (World.block_lt_of_cell? w _ hx3)).trans hx3
      replace hx4 := (HB.out.cell (World.block_lt_of_cell? w _ hx4)).trans hx4
      simp only [Int.toNat_natCast] at hx0 hx1 hx2 hx3 hx4
      have hrd : rd_T129 l0 (i : Int) = l0[i] := by unfold rd_T129; simp [List.getD_eq_getElem?_getD, hlt]
      rw [hrd] at hx0 hx1 hx2 hx3 hx4
      clear hrd
      cases hq : p l0[i] with
      | true =>
        have HQ := Aside0.mk hq
        clear hq
        go_wp2_with (go_at_call 166; refine (HP0.out _ l0[i] (List.getElem_mem hlt) HB.out).mono ?_; rintro e w1 ⟨rfl, hb⟩; replace HB := Aside0.mk (below_step HB.out hb); clear hb; rw [HQ.out])
        go_ret
        refine ⟨?_, HB.out⟩
        have hf : idxI p l0 = (i : Int) := idxI_at _ l0 i hlt HQ.out (fun j hj h => HP.out j hj h)
        rw [hf]
        rfl
      | false =>
        have HQ := Aside0.mk hq
        clear hq
        go_wp2_with (go_at_call 166; refine (HP0.out _ l0[i] (List.getElem_mem hlt) HB.out).mono ?_; rintro e w1 ⟨rfl, hb⟩; replace HB := Aside0.mk (below_step HB.out hb); clear hb; rw [HQ.out])
        go_roundw
        case rel => exact ⟨i + 1, by go_num, by omega, ⟨fun j hj h => by
          by_cases e : j = i
          · subst e; exact HQ.out
          · exact HP.out j hj (by omega)⟩, ⟨HB.out⟩⟩
        case measure => simp [intOf]; omega
    · go_wp2
      go_ret
      refine ⟨?_, HB.out⟩
      have hf : idxI p l0 = -1 := idxI_none _ l0 (fun j hj => HP.out j hj (by omega))
      rw [hf]
      rfl

set_option maxHeartbeats 4000000 in
set_option maxRecDepth 100000 in
/-- slices.DeleteFunc: function 164, with the closure 166. -/
theorem del_164_166 (v : Value) (xs : List S129) (bq : Nat) (p : S129 → Bool) (base : Nat) (w : World) (hv : Kd.R k129 129 w base (fun _ => True) v xs) (hlen : xs.length ≤ 1000000000) (hbase : base ≤ w.heap.size)
    (hp : ∀ W (x : S129), x ∈ xs → Left v w W → Calls Try.prog 166 #[.agg #[.int .i64 x.f0, .string x.f1, .int .u8 x.f2.f0, .int .i64 x.f2.f1, .string x.f2.f2], .pointer (some ⟨bq, 0, none⟩)] W fun e W' => e = .returned (.bool (p x)) ∧ Below W.heap.size W W') :
    Calls Try.prog 164 #[v, .func (.func 166) #[] #[.pointer (some ⟨bq, 0, none⟩)]] w fun e w' => ∃ v', e = .returned v' ∧ Kd.R k129 129 w' base (fun _ => True) v' (xs.filter fun x => !p x) ∧ Left v w w' := by
  have hu := Try.underlying129
  obtain ⟨A, c, rfl, hc, hC⟩ := Kd.R_reads hv
  have HI := Aside0.mk (index_181_166 A c xs bq p w hC hc hlen (fun W x hm hb => hp W x hm (Left.of_below hb)))
  have HP := Aside0.mk hp
  have HV := Aside0.mk hv
  clear hp hC hv
  go_enter Try.func164, Try.ntmps164
  by_cases hn : ∀ j, (hj : j < xs.length) → p xs[j] = false
  · have hi := idxI_none p xs hn
    have HN := Aside0.mk hn
    clear hn
    rw [hi] at HI
    clear hi
    go_wp2_with (go_at_call 181; refine HI.out.mono ?_; rintro e w1 ⟨rfl, hb⟩)
    go_ret
    have hf : xs.filter (fun x => !p x) = xs := List.filter_eq_self.2 (fun x hx => by
      obtain ⟨j, hj, rfl⟩ := List.getElem_of_mem hx
      rw [HN.out j hj]; rfl)
    rw [hf]
    exact ⟨_, rfl, Kd.R_below HV.out hb, Left.of_below hb⟩
  · obtain ⟨i0, hi0, hpi, hfst⟩ := first_of p xs hn
    clear hn
    have hi := idxI_at p xs i0 hi0 hpi hfst
    rw [hi] at HI
    clear hi
    have ho := own_of_row enc129_ok HV.out
    obtain ⟨_, ⟨hA, h0⟩ | ⟨b, c', cur0, hA, hbb, hb, hnc, hcm, hcs, hct⟩⟩ := ho
    · omega
    injection hA with e1 e2 e3
    subst e1
    subst e3
    have HD0 := Aside0.mk (DInv.start enc129_ok (c := c) (by rw [Array.length_toList]; exact hcs) hnc hct hi0 hpi hfst)
    have HB0 := Aside0.mk hb
    clear hb hct hcs hpi hfst HV
    have hlt0 := blk_lt HB0.out
    go_wp2_with (go_at_call 181; refine HI.out.mono ?_; rintro e w1 ⟨rfl, hbl⟩; have HB1 := Aside0.mk (blk_below HB0.out hbl); have HL1 := Aside0.mk (Left.of_below (v := .slice (some ⟨b, 0, none⟩) xs.length c) hbl); clear hbl)
    clear HI
    go_loopw [5, 6] (fun v5 v6 w' => DelRel 129 5 enc129 p xs b c w v5 v6 w') (fun _ v6 _ => xs.length - (intOf v6).toNat)
    case atStart => exact ⟨i0, i0 + 1, cur0, rfl, by go_num, by omega, by omega, HD0, HB1, HL1⟩
    case round =>
      unfold DelRel at hrel
      obtain ⟨i, j, cur, rfl, rfl, hij, hj, HD, HBk, HL⟩ := hrel
      by_cases hlt : j < xs.length
      · have hx0 : wr.cell? ⟨b, j * 5, none⟩ = _ := elem_cells enc129_ok HBk.out (high_cons HD.out hlt) 0 _ rfl
        have hx1 := elem_cells enc129_ok HBk.out (high_cons HD.out hlt) 1 _ rfl
        have hx2 := elem_cells enc129_ok HBk.out (high_cons HD.out hlt) 2 _ rfl
        have hx3 := elem_cells enc129_ok HBk.out (high_cons HD.out hlt) 3 _ rfl
        have hx4 := elem_cells enc129_ok HBk.out (high_cons HD.out hlt) 4 _ rfl
        cases hq : p xs[j] with
        | true =>
          have HQ := Aside0.mk hq
          clear hq
          go_wp2_with (go_at_call 166; refine (HP.out _ xs[j] (List.getElem_mem hlt) (Left.alloc HL.out _)).mono ?_; rintro e w2 ⟨rfl, hb⟩; have HBk2 := Aside0.mk (blk_below (blk_alloc HBk.out _) hb); have HL2 := Aside0.mk (Left.below (Left.alloc HL.out _) hb); clear hb; rw [HQ.out])
          go_roundw
          case rel => refine ⟨_, _, _, _, _, _, _, _, _, _, _, _, _, _, _, _, _, _, _, _, _, _, _, ?_, rfl⟩; unfold DelRel; exact ⟨i, j + 1, cur, rfl, by go_num, by omega, by omega, ⟨DInv.gone enc129_ok HD.out hlt HQ.out⟩, HBk2, HL2⟩
          case measure => simp [intOf]; omega
        | false =>
          have HQ := Aside0.mk hq
          clear hq
          have hil : i * 5 + 5 ≤ cur.size := by
            have h1 := HD.out.size
            have h2 := HD.out.cap
            rw [Array.length_toList] at h1
            omega
          go_wp2_with (first | (go_at_call 166; refine (HP.out _ xs[j] (List.getElem_mem hlt) (Left.alloc HL.out _)).mono ?_; rintro e w2 ⟨rfl, hb⟩; have HBk2 := Aside0.mk (blk_below (blk_alloc HBk.out _) hb); have HNw2 := Aside0.mk (blk_below (blk_new wr _) hb); have HL2 := Aside0.mk (Left.below (Left.alloc HL.out _) hb); clear hb; rw [HQ.out]; have hz0 := blk_cell HNw2.out 0; have hz1 := blk_cell HNw2.out 1; have hz2 := blk_cell HNw2.out 2; have hz3 := blk_cell HNw2.out 3; have hz4 := blk_cell HNw2.out 4; simp only [List.getElem?_toArray, List.getElem?_cons_zero, List.getElem?_cons_succ] at hz0 hz1 hz2 hz3 hz4) | ((with_reducible refine gate_store (t := 129) (p := 33) rfl ?_); refine wpList_store_mid rfl 129 (.tmp 33) (.tmp 32) rfl b (i * 5) (enc129 xs[j]).toArray rfl rfl (there_of HBk2.out hil) (by kernel_rfl) (all_oneCell_toArray (enc129_ok.one _)) ?_))
          obtain ⟨cur', k1, k2, k3⟩ := setCells_row (g := b) (e := 129) (enc129 xs[j]) (i * 5) _ cur HBk2.out hil
          go_roundw
          case rel => refine ⟨_, _, _, _, _, _, _, _, _, _, _, _, _, _, _, _, _, _, _, _, _, _, _, ?_, rfl⟩; unfold DelRel; exact ⟨i + 1, j + 1, cur', by go_num, by go_num, by omega, by omega, ⟨DInv.stay enc129_ok HD.out hlt HQ.out k3⟩, ⟨k1⟩, ⟨HL2.out.setCells rfl _ _⟩⟩
          case measure => simp [intOf]; omega
      · obtain rfl : j = xs.length := by omega
        have HG := Aside0.mk HD.out.done
        have hsz0 : cur.size = c * 5 := by have := HD.out.size; rw [Array.length_toList] at this; exact this
        have hzl : (Builtin.zeroCells (Value.agg #[(.int .i64 0), (.string ⟨#[]⟩), (.int .u8 0), (.int .i64 0), (.string ⟨#[]⟩)]).cells (xs.length - i)).size = (xs.length - i) * 5 := by rw [zeroCells_size]; rfl
        have h1 : ∀ v ∈ (Builtin.zeroCells (Value.agg #[(.int .i64 0), (.string ⟨#[]⟩), (.int .u8 0), (.int .i64 0), (.string ⟨#[]⟩)]).cells (xs.length - i)).toList, v.oneCell' = true := zeroCells_one' _ _ (by kernel_rfl)
        have hth : wr.there b (i * 5) ((xs.length - i) * 5) := there_of HBk.out (by rw [hsz0]; omega)
        have hcl : ∀ ty c', (Builtin.clear_ #[24] ty #[.slice (some ⟨b, i * 5, none⟩) (xs.length - i) c']).run Try.prog wr = .ok (.tuple #[]) (wr.setCells b (i * 5) (Builtin.zeroCells (Value.agg #[(.int .i64 0), (.string ⟨#[]⟩), (.int .u8 0), (.int .i64 0), (.string ⟨#[]⟩)]).cells (xs.length - i)).toList) := fun ty c' => run_clear_rows wr 24 ty 129 _ b (i * 5) (xs.length - i) c' (by omega) Try.underlying24 (fun w => Try.zeroValue129 w) (fun j hj => (hth j (by rw [← hzl]; exact hj)).1) (fun j hj => (hth j (by rw [← hzl]; exact hj)).2) h1
        generalize (Builtin.zeroCells (Value.agg #[(.int .i64 0), (.string ⟨#[]⟩), (.int .u8 0), (.int .i64 0), (.string ⟨#[]⟩)]).cells (xs.length - i)) = Z at hzl h1 hcl
        obtain ⟨cur2, k1, k2, k3⟩ := setCells_row (g := b) (e := 129) Z.toList (i * 5) wr cur HBk.out (by rw [Array.length_toList, hzl, hsz0]; omega)
        have K1 := Aside0.mk k1
        have K2 := Aside0.mk k2
        have K3 := Aside0.mk k3
        clear hzl h1 hth k1 k2 k3
        go_wp2
        go_ret
        have hle := HD.out.le
        refine ⟨_, rfl, row_of_own enc129_ok (n := i) HG.out.1.symm ⟨by rw [cellsOf_len enc129_ok, ← HG.out.1], Or.inr ⟨b, c, cur2, rfl, hbb, K1.out, by omega, hcm, by rw [K2.out]; exact hsz0, ?_⟩⟩, HL.out.setCells rfl _ _⟩
        rw [← HG.out.2, K3.out]
        have hl : (cur.toList.take (i * 5)).length = i * 5 := by rw [List.length_take, Array.length_toList, hsz0]; omega
        rw [List.append_assoc]
        refine (List.take_append_of_le_length (by omega)).trans ?_
        exact List.take_of_length_le (by omega)
set_option maxHeartbeats 2000000 in
set_option maxRecDepth 100000 in
/-- slices.IndexFunc: function 179, with the closure 151. -/
theorem index_179_151 (A0 : Option Addr) (c0 : Nat) (l0 : List S132) (bq : Nat) (p : S132 → Bool) (w : World) (hr0 : Kd.C k132 w A0 l0.length l0) (hc0 : l0.length ≤ c0) (hlen : l0.length ≤ 1000000000) (hp : ∀ W (x : S132), x ∈ l0 → Below w.heap.size w W → Calls Try.prog 151 #[.agg #[.int .i64 x.f0, .int .i64 x.f1, .int .i64 x.f2, .int .u8 x.f3, .string x.f4, .int .i64 x.f5, .bool x.f6], .pointer (some ⟨bq, 0, none⟩)] W fun e W' => e = .returned (.bool (p x)) ∧ Below W.heap.size W W') :
    Calls Try.prog 179 #[.slice A0 l0.length c0, .func (.func 151) #[] #[.pointer (some ⟨bq, 0, none⟩)]] w fun e w' => e = .returned (.int .i64 (idxI p l0)) ∧ Below w.heap.size w w' := by
  have hu := Try.underlying132
  have hm : l0.length ≤ 9223372036854775807 := hr0.2.1
  have HR := Aside0.mk hr0
  have HP0 := Aside0.mk hp
  clear hr0 hp
  go_enter Try.func179, Try.ntmps179
  go_wp2
  go_loopw [8] (fun v8 w' => ∃ i : Nat, v8 = .int .i64 i ∧ i ≤ l0.length ∧ Aside0 (∀ j, (hj : j < l0.length) → j < i → p l0[j] = false) ∧ Aside0 (Below w.heap.size w w')) (fun v8 _ => l0.length - (intOf v8).toNat)
  case atStart => exact ⟨0, rfl, Nat.zero_le _, ⟨fun j hj h => absurd h (Nat.not_lt_zero _)⟩, ⟨Below.refl _ _⟩⟩
  case round =>
    obtain ⟨i, rfl, hi, HP, HB⟩ := hrel
    by_cases hlt : i < l0.length
    · have h1 : 0 ≤ ((i : Nat) : Int) := by omega
      have h2 : ((i : Nat) : Int) < (l0.length : Int) := by omega
      obtain ⟨ad, e, hx0, hx1, hx2, hx3, hx4, hx5, hx6⟩ := at_T132 HR.out _ h1 h2
      cases e
      replace hx0 := (HB.out.cell (World.block_lt_of_cell? w _ hx0)).trans hx0
      replace hx1 := (HB.out.cell (World.block_lt_of_cell? w _ hx1)).trans hx1
      replace hx2 := (HB.out.cell (World.block_lt_of_cell? w _ hx2)).trans hx2
      replace hx3 := (HB.out.cell (World.block_lt_of_cell? w _ hx3)).trans hx3
      replace hx4 := (HB.out.cell (World.block_lt_of_cell? w _ hx4)).trans hx4
      replace hx5 := (HB.out.cell (World.block_lt_of_cell? w _ hx5)).trans hx5
      replace hx6 := (HB.out.cell (World.block_lt_of_cell? w _ hx6)).trans hx6
      simp only [Int.toNat_natCast] at hx0 hx1 hx2 hx3 hx4 hx5 hx6
      have hrd : rd_T132 l0 (i : Int) = l0[i] := by unfold rd_T132; simp [List.getD_eq_getElem?_getD, hlt]
      rw [hrd] at hx0 hx1 hx2 hx3 hx4 hx5 hx6
      clear hrd
      cases hq : p l0[i] with
      | true =>
        have HQ := Aside0.mk hq
        clear hq
        go_wp2_with (go_at_call 151; refine (HP0.out _ l0[i] (List.getElem_mem hlt) HB.out).mono ?_; rintro e w1 ⟨rfl, hb⟩; replace HB := Aside0.mk (below_step HB.out hb); clear hb; rw [HQ.out])
        go_ret
        refine ⟨?_, HB.out⟩
        have hf : idxI p l0 = (i : Int) := idxI_at _ l0 i hlt HQ.out (fun j hj h => HP.out j hj h)
        rw [hf]
        rfl
      | false =>
        have HQ := Aside0.mk hq
        clear hq
        go_wp2_with (go_at_call 151; refine (HP0.out _ l0[i] (List.getElem_mem hlt) HB.out).mono ?_; rintro e w1 ⟨rfl, hb⟩; replace HB := Aside0.mk (below_step HB.out hb); clear hb; rw [HQ.out])
        go_roundw
        case rel => exact ⟨i + 1, by go_num, by omega, ⟨fun j hj h => by
          by_cases e : j = i
          · subst e; exact HQ.out
          · exact HP.out j hj (by omega)⟩, ⟨HB.out⟩⟩
        case measure => simp [intOf]; omega
    · go_wp2
      go_ret
      refine ⟨?_, HB.out⟩
      have hf : idxI p l0 = -1 := idxI_none _ l0 (fun j hj => HP.out j hj (by omega))
      rw [hf]
      rfl

set_option maxHeartbeats 4000000 in
set_option maxRecDepth 100000 in
/-- slices.DeleteFunc: function 149, with the closure 151. -/
theorem del_149_151 (v : Value) (xs : List S132) (bq : Nat) (p : S132 → Bool) (base : Nat) (w : World) (hv : Kd.R k132 132 w base (fun _ => True) v xs) (hlen : xs.length ≤ 1000000000) (hbase : base ≤ w.heap.size)
    (hp : ∀ W (x : S132), x ∈ xs → Left v w W → Calls Try.prog 151 #[.agg #[.int .i64 x.f0, .int .i64 x.f1, .int .i64 x.f2, .int .u8 x.f3, .string x.f4, .int .i64 x.f5, .bool x.f6], .pointer (some ⟨bq, 0, none⟩)] W fun e W' => e = .returned (.bool (p x)) ∧ Below W.heap.size W W') :
    Calls Try.prog 149 #[v, .func (.func 151) #[] #[.pointer (some ⟨bq, 0, none⟩)]] w fun e w' => ∃ v', e = .returned v' ∧ Kd.R k132 132 w' base (fun _ => True) v' (xs.filter fun x => !p x) ∧ Left v w w' := by
  have hu := Try.underlying132
  obtain ⟨A, c, rfl, hc, hC⟩ := Kd.R_reads hv
  have HI := Aside0.mk (index_179_151 A c xs bq p w hC hc hlen (fun W x hm hb => hp W x hm (Left.of_below hb)))
  have HP := Aside0.mk hp
  have HV := Aside0.mk hv
  clear hp hC hv
  go_enter Try.func149, Try.ntmps149
  by_cases hn : ∀ j, (hj : j < xs.length) → p xs[j] = false
  · have hi := idxI_none p xs hn
    have HN := Aside0.mk hn
    clear hn
    rw [hi] at HI
    clear hi
    go_wp2_with (go_at_call 179; refine HI.out.mono ?_; rintro e w1 ⟨rfl, hb⟩)
    go_ret
    have hf : xs.filter (fun x => !p x) = xs := List.filter_eq_self.2 (fun x hx => by
      obtain ⟨j, hj, rfl⟩ := List.getElem_of_mem hx
      rw [HN.out j hj]; rfl)
    rw [hf]
    exact ⟨_, rfl, Kd.R_below HV.out hb, Left.of_below hb⟩
  · obtain ⟨i0, hi0, hpi, hfst⟩ := first_of p xs hn
    clear hn
    have hi := idxI_at p xs i0 hi0 hpi hfst
    rw [hi] at HI
    clear hi
    have ho := own_of_row enc132_ok HV.out
    obtain ⟨_, ⟨hA, h0⟩ | ⟨b, c', cur0, hA, hbb, hb, hnc, hcm, hcs, hct⟩⟩ := ho
    · omega
    injection hA with e1 e2 e3
    subst e1
    subst e3
    have HD0 := Aside0.mk (DInv.start enc132_ok (c := c) (by rw [Array.length_toList]; exact hcs) hnc hct hi0 hpi hfst)
    have HB0 := Aside0.mk hb
    clear hb hct hcs hpi hfst HV
    have hlt0 := blk_lt HB0.out
    go_wp2_with (go_at_call 179; refine HI.out.mono ?_; rintro e w1 ⟨rfl, hbl⟩; have HB1 := Aside0.mk (blk_below HB0.out hbl); have HL1 := Aside0.mk (Left.of_below (v := .slice (some ⟨b, 0, none⟩) xs.length c) hbl); clear hbl)
    clear HI
    go_loopw [5, 6] (fun v5 v6 w' => DelRel 132 7 enc132 p xs b c w v5 v6 w') (fun _ v6 _ => xs.length - (intOf v6).toNat)
    case atStart => exact ⟨i0, i0 + 1, cur0, rfl, by go_num, by omega, by omega, HD0, HB1, HL1⟩
    case round =>
      unfold DelRel at hrel
      obtain ⟨i, j, cur, rfl, rfl, hij, hj, HD, HBk, HL⟩ := hrel
      by_cases hlt : j < xs.length
      · have hx0 : wr.cell? ⟨b, j * 7, none⟩ = _ := elem_cells enc132_ok HBk.out (high_cons HD.out hlt) 0 _ rfl
        have hx1 := elem_cells enc132_ok HBk.out (high_cons HD.out hlt) 1 _ rfl
        have hx2 := elem_cells enc132_ok HBk.out (high_cons HD.out hlt) 2 _ rfl
        have hx3 := elem_cells enc132_ok HBk.out (high_cons HD.out hlt) 3 _ rfl
        have hx4 := elem_cells enc132_ok HBk.out (high_cons HD.out hlt) 4 _ rfl
        have hx5 := elem_cells enc132_ok HBk.out (high_cons HD.out hlt) 5 _ rfl
        have hx6 := elem_cells enc132_ok HBk.out (high_cons HD.out hlt) 6 _ rfl
        cases hq : p xs[j] with
        | true =>
          have HQ := Aside0.mk hq
          clear hq
          go_wp2_with (go_at_call 151; refine (HP.out _ xs[j] (List.getElem_mem hlt) (Left.alloc HL.out _)).mono ?_; rintro e w2 ⟨rfl, hb⟩; have HBk2 := Aside0.mk (blk_below (blk_alloc HBk.out _) hb); have HL2 := Aside0.mk (Left.below (Left.alloc HL.out _) hb); clear hb; rw [HQ.out])
          go_roundw
          case rel => refine ⟨_, _, _, _, _, _, _, _, _, _, _, _, _, _, _, _, _, _, _, _, _, _, _, ?_, rfl⟩; unfold DelRel; exact ⟨i, j + 1, cur, rfl, by go_num, by omega, by omega, ⟨DInv.gone enc132_ok HD.out hlt HQ.out⟩, HBk2, HL2⟩
          case measure => simp [intOf]; omega
        | false =>
          have HQ := Aside0.mk hq
          clear hq
          have hil : i * 7 + 7 ≤ cur.size := by
            have h1 := HD.out.size
            have h2 := HD.out.cap
            rw [Array.length_toList] at h1
            omega
          go_wp2_with (first | (go_at_call 151; refine (HP.out _ xs[j] (List.getElem_mem hlt) (Left.alloc HL.out _)).mono ?_; rintro e w2 ⟨rfl, hb⟩; have HBk2 := Aside0.mk (blk_below (blk_alloc HBk.out _) hb); have HNw2 := Aside0.mk (blk_below (blk_new wr _) hb); have HL2 := Aside0.mk (Left.below (Left.alloc HL.out _) hb); clear hb; rw [HQ.out]; have hz0 := blk_cell HNw2.out 0; have hz1 := blk_cell HNw2.out 1; have hz2 := blk_cell HNw2.out 2; have hz3 := blk_cell HNw2.out 3; have hz4 := blk_cell HNw2.out 4; have hz5 := blk_cell HNw2.out 5; have hz6 := blk_cell HNw2.out 6; simp only [List.getElem?_toArray, List.getElem?_cons_zero, List.getElem?_cons_succ] at hz0 hz1 hz2 hz3 hz4 hz5 hz6) | ((with_reducible refine gate_store (t := 132) (p := 33) rfl ?_); refine wpList_store_mid rfl 132 (.tmp 33) (.tmp 32) rfl b (i * 7) (enc132 xs[j]).toArray rfl rfl (there_of HBk2.out hil) (by kernel_rfl) (all_oneCell_toArray (enc132_ok.one _)) ?_))
          obtain ⟨cur', k1, k2, k3⟩ := setCells_row (g := b) (e := 132) (enc132 xs[j]) (i * 7) _ cur HBk2.out hil
          go_roundw
          case rel => refine ⟨_, _, _, _, _, _, _, _, _, _, _, _, _, _, _, _, _, _, _, _, _, _, _, ?_, rfl⟩; unfold DelRel; exact ⟨i + 1, j + 1, cur', by go_num, by go_num, by omega, by omega, ⟨DInv.stay enc132_ok HD.out hlt HQ.out k3⟩, ⟨k1⟩, ⟨HL2.out.setCells rfl _ _⟩⟩
          case measure => simp [intOf]; omega
      · obtain rfl : j = xs.length := by omega
        have HG := Aside0.mk HD.out.done
        have hsz0 : cur.size = c * 7 := by have := HD.out.size; rw [Array.length_toList] at this; exact this
        have hzl : (Builtin.zeroCells (Value.agg #[(.int .i64 0), (.int .i64 0), (.int .i64 0), (.int .u8 0), (.string ⟨#[]⟩), (.int .i64 0), (.bool false)]).cells (xs.length - i)).size = (xs.length - i) * 7 := by rw [zeroCells_size]; rfl
        have h1 : ∀ v ∈ (Builtin.zeroCells (Value.agg #[(.int .i64 0), (.int .i64 0), (.int .i64 0), (.int .u8 0), (.string ⟨#[]⟩), (.int .i64 0), (.bool false)]).cells (xs.length - i)).toList, v.oneCell' = true := zeroCells_one' _ _ (by kernel_rfl)
        have hth : wr.there b (i * 7) ((xs.length - i) * 7) := there_of HBk.out (by rw [hsz0]; omega)
        have hcl : ∀ ty c', (Builtin.clear_ #[25] ty #[.slice (some ⟨b, i * 7, none⟩) (xs.length - i) c']).run Try.prog wr = .ok (.tuple #[]) (wr.setCells b (i * 7) (Builtin.zeroCells (Value.agg #[(.int .i64 0), (.int .i64 0), (.int .i64 0), (.int .u8 0), (.string ⟨#[]⟩), (.int .i64 0), (.bool false)]).cells (xs.length - i)).toList) := fun ty c' => run_clear_rows wr 25 ty 132 _ b (i * 7) (xs.length - i) c' (by omega) Try.underlying25 (fun w => Try.zeroValue132 w) (fun j hj => (hth j (by rw [← hzl]; exact hj)).1) (fun j hj => (hth j (by rw [← hzl]; exact hj)).2) h1
        generalize (Builtin.zeroCells (Value.agg #[(.int .i64 0), (.int .i64 0), (.int .i64 0), (.int .u8 0), (.string ⟨#[]⟩), (.int .i64 0), (.bool false)]).cells (xs.length - i)) = Z at hzl h1 hcl
        obtain ⟨cur2, k1, k2, k3⟩ := setCells_row (g := b) (e := 132) Z.toList (i * 7) wr cur HBk.out (by rw [Array.length_toList, hzl, hsz0]; omega)
        have K1 := Aside0.mk k1
        have K2 := Aside0.mk k2
        have K3 := Aside0.mk k3
        clear hzl h1 hth k1 k2 k3
        go_wp2
        go_ret
        have hle := HD.out.le
        refine ⟨_, rfl, row_of_own enc132_ok (n := i) HG.out.1.symm ⟨by rw [cellsOf_len enc132_ok, ← HG.out.1], Or.inr ⟨b, c, cur2, rfl, hbb, K1.out, by omega, hcm, by rw [K2.out]; exact hsz0, ?_⟩⟩, HL.out.setCells rfl _ _⟩
        rw [← HG.out.2, K3.out]
        have hl : (cur.toList.take (i * 7)).length = i * 7 := by rw [List.length_take, Array.length_toList, hsz0]; omega
        rw [List.append_assoc]
        refine (List.take_append_of_le_length (by omega)).trans ?_
        exact List.take_of_length_le (by omega)
end Go.Proofs.Ythonmfcollafkaa.P
