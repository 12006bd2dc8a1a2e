import Derived.Test.YtfbaejhjppikpaaKLeafTells0
import Derived.Test.YtfbaejhjppikpaaKLeafTells2
namespace Go.Proofs.Ytfbaejhjppikpaa.P
open Go.RowKit Go.Proofs.YtfbaejhjppikpaaW.PrintWords Go.Proofs.YtfbaejhjppikpaaW.PrintLast Go.Proofs.YtfbaejhjppikpaaW.PrintMore
attribute [local go_sem] max2_int min2_int max_two min_two max_three min_three max_four min_four
set_option linter.unusedVariables false
set_option linter.unusedSimpArgs false
mutual
def rf_Decode.j0 : Nat → ByteArray → Bool → Option (Bool × (List S75) × (List S76) × Int)
 | 0, _, _ => none
 | k + 1, x0, x24 => if x24 = true then (some (false, ([] : List S75), ([] : List S76), 4)) else (if 0 < (x0.size : Int) then (rf_Decode.l0 k x0 1 ((bt x0 0) == 1) ([] : List S75) ([] : List S76)) else (none))
def rf_Decode.l0 : Nat → ByteArray → Int → Bool → List S75 → List S76 → Option (Bool × (List S75) × (List S76) × Int)
 | 0, _, _, _, _, _ => none
 | k + 1, x0, x5, x449000, x449001, x449002 => if x5 < (x0.size : Int) then (if 0 ≤ x5 then (if (wrap64 ((wrap64 (x5 + 1)) + (wrap64 (bt x0 x5)))) > (x0.size : Int) then (some (false, ([] : List S75), ([] : List S76), 8)) else (if 0 ≤ (wrap64 (x5 + 1)) then (if (wrap64 (x5 + 1)) ≤ (wrap64 ((wrap64 (x5 + 1)) + (wrap64 (bt x0 x5)))) then (if (wrap64 ((wrap64 (x5 + 1)) + (wrap64 (bt x0 x5)))) ≤ (x0.size : Int) then (if x449000 = true then (if (wrap64 ((wrap64 (x5 + 1)) + (wrap64 (bt x0 x5)))) ≥ (x0.size : Int) then (some (false, ([] : List S75), ([] : List S76), 8)) else (if 0 ≤ (wrap64 ((wrap64 (x5 + 1)) + (wrap64 (bt x0 x5)))) then (if (wrap64 ((wrap64 (x5 + 1)) + (wrap64 (bt x0 x5)))) < (x0.size : Int) then (if (wrap64 ((wrap64 ((wrap64 ((wrap64 (x5 + 1)) + (wrap64 (bt x0 x5)))) + 1)) + (wrap64 (bt x0 (wrap64 ((wrap64 (x5 + 1)) + (wrap64 (bt x0 x5)))))))) > (x0.size : Int) then (some (false, ([] : List S75), ([] : List S76), 8)) else (if 0 ≤ (wrap64 ((wrap64 ((wrap64 (x5 + 1)) + (wrap64 (bt x0 x5)))) + 1)) then (if (wrap64 ((wrap64 ((wrap64 (x5 + 1)) + (wrap64 (bt x0 x5)))) + 1)) ≤ (wrap64 ((wrap64 ((wrap64 ((wrap64 (x5 + 1)) + (wrap64 (bt x0 x5)))) + 1)) + (wrap64 (bt x0 (wrap64 ((wrap64 (x5 + 1)) + (wrap64 (bt x0 x5)))))))) then (if (wrap64 ((wrap64 ((wrap64 ((wrap64 (x5 + 1)) + (wrap64 (bt x0 x5)))) + 1)) + (wrap64 (bt x0 (wrap64 ((wrap64 (x5 + 1)) + (wrap64 (bt x0 x5)))))))) ≤ (x0.size : Int) then (if x449001.length < 4398046511104 then (rf_Decode.l0 k x0 (wrap64 ((wrap64 ((wrap64 ((wrap64 (x5 + 1)) + (wrap64 (bt x0 x5)))) + 1)) + (wrap64 (bt x0 (wrap64 ((wrap64 (x5 + 1)) + (wrap64 (bt x0 x5)))))))) x449000 (x449001 ++ [(⟨x0.extract ((wrap64 (x5 + 1)) : Int).toNat ((wrap64 ((wrap64 (x5 + 1)) + (wrap64 (bt x0 x5)))) : Int).toNat, x0.extract ((wrap64 ((wrap64 ((wrap64 (x5 + 1)) + (wrap64 (bt x0 x5)))) + 1)) : Int).toNat ((wrap64 ((wrap64 ((wrap64 ((wrap64 (x5 + 1)) + (wrap64 (bt x0 x5)))) + 1)) + (wrap64 (bt x0 (wrap64 ((wrap64 (x5 + 1)) + (wrap64 (bt x0 x5)))))))) : Int).toNat⟩ : S75)]) x449002) else (none)) else (none)) else (none)) else (none))) else (none)) else (none))) else (if (wrap64 ((wrap64 ((wrap64 (x5 + 1)) + (wrap64 (bt x0 x5)))) + 2)) > (x0.size : Int) then (some (false, ([] : List S75), ([] : List S76), 8)) else (if 0 ≤ (wrap64 ((wrap64 (x5 + 1)) + (wrap64 (bt x0 x5)))) then (if (wrap64 ((wrap64 (x5 + 1)) + (wrap64 (bt x0 x5)))) < (x0.size : Int) then (if 0 ≤ (wrap64 ((wrap64 ((wrap64 (x5 + 1)) + (wrap64 (bt x0 x5)))) + 1)) then (if (wrap64 ((wrap64 ((wrap64 (x5 + 1)) + (wrap64 (bt x0 x5)))) + 1)) < (x0.size : Int) then (if x449002.length < 5864062014805 then (rf_Decode.l0 k x0 (wrap64 ((wrap64 ((wrap64 (x5 + 1)) + (wrap64 (bt x0 x5)))) + 2)) x449000 x449001 (x449002 ++ [(⟨x0.extract ((wrap64 (x5 + 1)) : Int).toNat ((wrap64 ((wrap64 (x5 + 1)) + (wrap64 (bt x0 x5)))) : Int).toNat, wrap64 ((wrap64 ((wrap64 (bt x0 (wrap64 ((wrap64 (x5 + 1)) + (wrap64 (bt x0 x5)))))) * 256)) + (wrap64 (bt x0 (wrap64 ((wrap64 ((wrap64 (x5 + 1)) + (wrap64 (bt x0 x5)))) + 1)))))⟩ : S76)])) else (none)) else (none)) else (none)) else (none)) else (none)))) else (none)) else (none)) else (none))) else (none)) else ((rf_May.f k x449000 x449001 x449002).bind fun t449 => (if t449 = true then (some (x449000, x449001, x449002, 0)) else (some (false, ([] : List S75), ([] : List S76), 4))))
end
def rf_Decode.f (k : Nat) (a0 : ByteArray) : Option (Bool × (List S75) × (List S76) × Int) := if (a0.size : Int) > 254 then (some (false, ([] : List S75), ([] : List S76), 40)) else (if (a0.size : Int) = 0 then (some (false, ([] : List S75), ([] : List S76), 8)) else (if 0 < (a0.size : Int) then (if (bt a0 0) = 1 then (rf_Decode.j0 k a0 false) else (rf_Decode.j0 k a0 ((bt a0 0) != 2))) else (none)))
def rf_Decode.T19 : Bool × List (List Nat × List Nat) := (true, [([], []), ([0], [0]), ([], []), ([], []), ([], []), ([4], [4]), ([], []), ([6], [6]), ([], []), ([7, 8], [7, 8]), ([3, 5, 9], [3, 5, 9]), ([2, 10], [2, 10]), ([11], [11]), ([1, 12], [1, 12]), ([0, 1, 2, 3, 4, 5, 6, 7, 8, 9, 10, 11, 12, 13], []), ([14, 13, 13, 0, 1, 2, 3, 4, 5, 6, 7, 8, 9, 10, 11, 12, 13], [13, 14])])
def rf_Decode.B19 : List Nat := [0, 1, 0, 0, 0, 16, 0, 64, 0, 448, 1016, 2044, 4092, 8191, 16383, 32767]
theorem rf_Decode.tab19 : rtab .any (opsOf Try.f26 19) = rf_Decode.T19 := by kernel_rfl
theorem rf_Decode.bits19 : waitsOk rf_Decode.T19.2 rf_Decode.B19 = true := by kernel_rfl
def rf_Decode.T23 : Bool × List (List Nat × List Nat) := (true, [([], []), ([0], [0]), ([], []), ([], []), ([], []), ([3, 4], [3, 4]), ([5], [5]), ([6], [6]), ([], []), ([], []), ([9], [9]), ([8, 10], [8, 10]), ([11], [11]), ([7, 12], [7, 12]), ([2, 13], [2, 13]), ([14], [14]), ([1, 15], [1, 15]), ([0, 1, 2, 3, 4, 5, 6, 7, 8, 9, 10, 11, 12, 13, 14, 15, 16], []), ([17, 16, 16, 0, 1, 2, 3, 4, 5, 6, 7, 8, 9, 10, 11, 12, 13, 14, 15, 16], [16, 17])])
def rf_Decode.B23 : List Nat := [0, 1, 0, 0, 0, 24, 56, 120, 0, 0, 512, 1792, 3840, 8184, 16380, 32764, 65535, 131071, 262143]
theorem rf_Decode.tab23 : rtab .any (opsOf Try.f26 23) = rf_Decode.T23 := by kernel_rfl
theorem rf_Decode.bits23 : waitsOk rf_Decode.T23.2 rf_Decode.B23 = true := by kernel_rfl
set_option maxHeartbeats 8000000 in
set_option maxRecDepth 100000 in
theorem rf_Decode.calls (k : Nat) (a0 : ByteArray) (r1 : Bool) (r2 : List S75) (r3 : List S76) (r4 : Int) (w : World) (h : rf_Decode.f k a0 = some (r1, r2, r3, r4)) :
  Calls Try.prog 26 #[.string a0] w fun e w' => ∃ v1_ v2_ : Value, e = .returned (.tuple #[.agg #[.bool r1, v1_, v2_], .int .i64 r4]) ∧ Kd.R k75 75 w' w.heap.size (fun _ => True) v1_ r2 ∧ Kd.R k76 76 w' w.heap.size (fun _ => True) v2_ r3 ∧ Below w.heap.size w w' := by
 have hu25 := Try.underlying25
 have hu75 := Try.underlying75
 have hu76 := Try.underlying76
 have HB := aM (Below.refl w.heap.size w)
 have H : (if (a0.size : Int) > 254 then (some (false, ([] : List S75), ([] : List S76), 40)) else (if (a0.size : Int) = 0 then (some (false, ([] : List S75), ([] : List S76), 8)) else (if 0 < (a0.size : Int) then (if (bt a0 0) = 1 then (rf_Decode.j0 k a0 false) else (rf_Decode.j0 k a0 ((bt a0 0) != 2))) else (none)))) = some (r1, r2, r3, r4) := h
 clear h
 by_cases c2 : (a0.size : Int) > 254
 ·rw [if_pos c2] at H
  have c2b0 : decide (254 < (a0.size : Int)) = true := decide_eq_true c2
  have c2b1 : decide (254 < a0.size) = true := decide_eq_true (by omega)
  clear c2
  simp only [Option.some.injEq, Prod.mk.injEq] at H
  obtain ⟨rfl, rfl, rfl, rfl⟩ := H
  go_enter Try.func26, Try.ntmps26
  go_wp2_with (first | ((with_reducible refine gate_dst (N := 2) rfl ?_); (try (refine gate_guard (by rfl) ?_; dsimp only)); refine box_event ?hg (N := 2) ?hd (cs := #[.bool false, .slice none 0 0, .slice none 0 0]) (t := 25) ?hr ?_; (case hd => rfl); (case hg => rfl); (case hr => first | (go_simp; done) | (go_simp; rfl)); intro gb447 hg w3 hbox hb; have BK447 := aM (hbox); have GW447 := gw hg HB; have GE447 := gw hg HB; replace HB := aM (below_step (kl HB) hb); clear hb hbox hg; have hcz4_0 : w3.cell? ⟨gb447, 0, none⟩ = some (.bool false) := bc BK447 0; have hcz4_1 : w3.cell? ⟨gb447, 1, none⟩ = some (.slice none 0 0) := bc BK447 1; have hcz4_2 : w3.cell? ⟨gb447, 2, none⟩ = some (.slice none 0 0) := bc BK447 2; have hfz4_0 := blk_frozen BK447.out 0; have hfz4_1 := blk_frozen BK447.out 1; have hfz4_2 := blk_frozen BK447.out 2))
  refine bodyPost_ret (results_ct rfl _ _ gb447 25 #[.bool false, .slice none 0 0, .slice none 0 0] (0, 0) _ rfl (by (with_reducible repeat (first | refine blk_drewN ?_ _ | refine blk_drew ?_ | refine blk_alloc ?_ _)); refine blk_put (cs := #[.bool false, .slice none 0 0, .slice none 0 0]) ?_ 2 _ rfl; (with_reducible repeat (first | refine blk_drewN ?_ _ | refine blk_drew ?_ | refine blk_alloc ?_ _)); refine blk_put (cs := #[.bool false, .slice none 0 0, .slice none 0 0]) ?_ 1 _ rfl; (with_reducible repeat (first | refine blk_drewN ?_ _ | refine blk_drew ?_ | refine blk_alloc ?_ _)); refine blk_put (cs := #[.bool false, .slice none 0 0, .slice none 0 0]) ?_ 0 _ rfl; exact kb BK447) Try.underlying25 rfl (by kernel_rfl)) rfl ?_
  exact ⟨_, _, by first | rfl | (simp [errW_none, errW_some] <;> rfl) | (simp [*, errW_none, errW_some] <;> rfl), by first | exact Kd.R_nil _ _ _ _ _ | exact Kd.N_nil _ _ _ _ _ | exact Kd.V_nil _ _ _ _ _ | exact Kd.Q_nil _ _ _ _ _ | exact Kd.S_nil _ _ _ _ _, by first | exact Kd.R_nil _ _ _ _ _ | exact Kd.N_nil _ _ _ _ _ | exact Kd.V_nil _ _ _ _ _ | exact Kd.Q_nil _ _ _ _ _ | exact Kd.S_nil _ _ _ _ _, kl HB⟩
 rw [if_neg c2] at H
 have c2b0 : decide (254 < (a0.size : Int)) = false := decide_eq_false c2
 have c2b1 : decide (254 < a0.size) = false := decide_eq_false (by omega)
 clear c2
 by_cases c5 : (a0.size : Int) = 0
 ·rw [if_pos c5] at H
  have c5b0 : ((a0.size : Int) == 0) = true := beq_iff_eq.mpr c5
  have c5b1 : ((a0.size : Int) != 0) = false := bne_eq_false_iff_eq.mpr c5
  clear c5
  simp only [Option.some.injEq, Prod.mk.injEq] at H
  obtain ⟨rfl, rfl, rfl, rfl⟩ := H
  go_enter Try.func26, Try.ntmps26
  go_wp2_with (first | ((with_reducible refine gate_dst (N := 2) rfl ?_); (try (refine gate_guard (by rfl) ?_; dsimp only)); refine box_event ?hg (N := 2) ?hd (cs := #[.bool false, .slice none 0 0, .slice none 0 0]) (t := 25) ?hr ?_; (case hd => rfl); (case hg => rfl); (case hr => first | (go_simp; done) | (go_simp; rfl)); intro gb447 hg w6 hbox hb; have BK447 := aM (hbox); have GW447 := gw hg HB; have GE447 := gw hg HB; replace HB := aM (below_step (kl HB) hb); clear hb hbox hg; have hcz7_0 : w6.cell? ⟨gb447, 0, none⟩ = some (.bool false) := bc BK447 0; have hcz7_1 : w6.cell? ⟨gb447, 1, none⟩ = some (.slice none 0 0) := bc BK447 1; have hcz7_2 : w6.cell? ⟨gb447, 2, none⟩ = some (.slice none 0 0) := bc BK447 2; have hfz7_0 := blk_frozen BK447.out 0; have hfz7_1 := blk_frozen BK447.out 1; have hfz7_2 := blk_frozen BK447.out 2))
  refine bodyPost_ret (results_ct rfl _ _ gb447 25 #[.bool false, .slice none 0 0, .slice none 0 0] (0, 0) _ rfl (by (with_reducible repeat (first | refine blk_drewN ?_ _ | refine blk_drew ?_ | refine blk_alloc ?_ _)); refine blk_put (cs := #[.bool false, .slice none 0 0, .slice none 0 0]) ?_ 2 _ rfl; (with_reducible repeat (first | refine blk_drewN ?_ _ | refine blk_drew ?_ | refine blk_alloc ?_ _)); refine blk_put (cs := #[.bool false, .slice none 0 0, .slice none 0 0]) ?_ 1 _ rfl; (with_reducible repeat (first | refine blk_drewN ?_ _ | refine blk_drew ?_ | refine blk_alloc ?_ _)); refine blk_put (cs := #[.bool false, .slice none 0 0, .slice none 0 0]) ?_ 0 _ rfl; exact kb BK447) Try.underlying25 rfl (by kernel_rfl)) rfl ?_
  exact ⟨_, _, by first | rfl | (simp [errW_none, errW_some] <;> rfl) | (simp [*, errW_none, errW_some] <;> rfl), by first | exact Kd.R_nil _ _ _ _ _ | exact Kd.N_nil _ _ _ _ _ | exact Kd.V_nil _ _ _ _ _ | exact Kd.Q_nil _ _ _ _ _ | exact Kd.S_nil _ _ _ _ _, by first | exact Kd.R_nil _ _ _ _ _ | exact Kd.N_nil _ _ _ _ _ | exact Kd.V_nil _ _ _ _ _ | exact Kd.Q_nil _ _ _ _ _ | exact Kd.S_nil _ _ _ _ _, kl HB⟩
 rw [if_neg c5] at H
 have c5b0 : ((a0.size : Int) == 0) = false := beq_eq_false_iff_ne.mpr c5
 have c5b1 : ((a0.size : Int) != 0) = true := bne_iff_ne.mpr c5
 have HC8 := aM H
 clear H
 go_enter Try.func26, Try.ntmps26
 go_upto_region 5 with (first | ((with_reducible refine gate_dst (N := 2) rfl ?_); (try (refine gate_guard (by rfl) ?_; dsimp only)); refine box_event ?hg (N := 2) ?hd (cs := #[.bool false, .slice none 0 0, .slice none 0 0]) (t := 25) ?hr ?_; (case hd => rfl); (case hg => rfl); (case hr => first | (go_simp; done) | (go_simp; rfl)); intro gb447 hg w9 hbox hb; have BK447 := aM (hbox); have GW447 := gw hg HB; have GE447 := gw hg HB; replace HB := aM (below_step (kl HB) hb); clear hb hbox hg))
 (try simp only [Act.put, List.setIfInBounds_toArray, List.set_cons_zero, List.set_cons_succ])
 go_cut [24] (fun v24 wc => ∃ (kq : Nat) (x24_7 : Bool), v24 = .bool x24_7 ∧ Aside0 (rf_Decode.j0 kq a0 x24_7 = some (r1, r2, r3, r4)) ∧ Aside0 (kq ≤ k) ∧ Aside0 (wc.heap[gb447]? = some (.cells #[.bool false, (.slice none 0 0), (.slice none 0 0)] 25 (0, 0))) ∧ Aside0 (Below w.heap.size w wc))
 case first =>
  have H := HC8.out
  clear HC8
  by_cases c10 : 0 < (a0.size : Int)
  rotate_left
  ·rw [if_neg c10] at H
   exact absurd H (by simp)
  rw [if_pos c10] at H
  have c10b0 : decide (0 < (a0.size : Int)) = true := decide_eq_true c10
  have c10b1 : decide (0 < a0.size) = true := decide_eq_true (by omega)
  clear c10
  (first | rw [c10b0] | (simp only [i64_w, i32_w]; rw [c10b0]) | skip)
  by_cases c12 : (bt a0 0) = 1
  ·rw [if_pos c12] at H
   have c12b0 : ((bt a0 0) == 1) = true := beq_iff_eq.mpr c12
   have c12b1 : ((bt a0 0) != 1) = false := bne_eq_false_iff_eq.mpr c12
   clear c12
   have H' := aM H
   clear H
   have p11 : 0 ≤ (0 : Int) := (by omega)
   have q11 : 0 < a0.size := (by have : (0 : Int) < (a0.size : Int) := of_decide_eq_true (by first | (with_reducible assumption) | assumption); omega)
   have hx11 : ∀ h : 0 < a0.size, ((a0[0]'h).toNat : Int) = bt a0 0 := bt_at a0 0
   clear p11
   have qi11 : (0 < (a0.size : Int)) = True := eq_true (of_decide_eq_true (by first | (with_reducible assumption) | assumption))
   replace q11 := eq_true q11
   go_wp2
   go_meet
   case rel => exact ⟨_, (false), (by first | rfl | (simp; done) | (simp [*]; done)), H', ⟨by first | omega | exact Nat.le_refl _⟩, ⟨kb BK447⟩, ⟨kl HB⟩⟩
  rw [if_neg c12] at H
  have c12b0 : ((bt a0 0) == 1) = false := beq_eq_false_iff_ne.mpr c12
  have c12b1 : ((bt a0 0) != 1) = true := bne_iff_ne.mpr c12
  have H' := aM H
  clear H
  have p11 : 0 ≤ (0 : Int) := (by omega)
  have q11 : 0 < a0.size := (by have : (0 : Int) < (a0.size : Int) := of_decide_eq_true (by first | (with_reducible assumption) | assumption); omega)
  have hx11 : ∀ h : 0 < a0.size, ((a0[0]'h).toNat : Int) = bt a0 0 := bt_at a0 0
  clear p11
  have qi11 : (0 < (a0.size : Int)) = True := eq_true (of_decide_eq_true (by first | (with_reducible assumption) | assumption))
  replace q11 := eq_true q11
  have p13 : 0 ≤ (0 : Int) := (by omega)
  have q13 : 0 < a0.size := (by have : (0 : Int) < (a0.size : Int) := of_decide_eq_true (by first | (with_reducible assumption) | assumption); omega)
  have hx13 : ∀ h : 0 < a0.size, ((a0[0]'h).toNat : Int) = bt a0 0 := bt_at a0 0
  clear p13
  have qi13 : (0 < (a0.size : Int)) = True := eq_true (of_decide_eq_true (by first | (with_reducible assumption) | assumption))
  replace q13 := eq_true q13
  go_wp2
  go_meet
  case rel => exact ⟨_, (((bt a0 0) != 2)), (by first | rfl | (simp; done) | (simp [*]; done)), H', ⟨by first | omega | exact Nat.le_refl _⟩, ⟨kb BK447⟩, ⟨kl HB⟩⟩
 case rest =>
  clear HC8
  try clear c1
  try clear p1
  try clear q1
  try clear hx1
  try clear qi1
  try clear c2
  try clear c2b0
  try clear c2b1
  try clear p2
  try clear c5
  try clear c5b0
  try clear c5b1
  try clear c10
  try clear c10b0
  try clear c10b1
  try clear p11
  try clear q11
  try clear hx11
  try clear qi11
  try clear c12
  try clear c12b0
  try clear c12b1
  try clear p13
  try clear q13
  try clear hx13
  try clear qi13
  try clear hcz4_0
  try clear hcz4_1
  try clear hcz4_2
  try clear hcz7_0
  try clear hcz7_1
  try clear hcz7_2
  try clear hfz4_0
  try clear hfz4_1
  try clear hfz4_2
  try clear hfz7_0
  try clear hfz7_1
  try clear hfz7_2
  try clear p11
  try clear p13
  try clear q11
  try clear q13
  obtain ⟨kq, x24_7, rfl, HA, HJ7, BK447, HB⟩ := hcut
  cases kq with
  | zero => exact absurd HA.out (by simp [rf_Decode.j0])
  | succ kj7 =>
   have H := HA.out
   clear HA
   simp only [rf_Decode.j0] at H
   by_cases c14 : x24_7 = true
   ·subst c14
    have H1 : (some (false, ([] : List S75), ([] : List S76), 4)) = some (r1, r2, r3, r4) := by rw [if_pos rfl] at H; exact H
    clear H
    have H := H1
    clear H1
    simp only [Option.some.injEq, Prod.mk.injEq] at H
    obtain ⟨rfl, rfl, rfl, rfl⟩ := H
    have hcz15_0 : wc.cell? ⟨gb447, 0, none⟩ = some (.bool false) := bc BK447 0
    have hcz15_1 : wc.cell? ⟨gb447, 1, none⟩ = some (.slice none 0 0) := bc BK447 1
    have hcz15_2 : wc.cell? ⟨gb447, 2, none⟩ = some (.slice none 0 0) := bc BK447 2
    have hfz15_0 := blk_frozen BK447.out 0
    have hfz15_1 := blk_frozen BK447.out 1
    have hfz15_2 := blk_frozen BK447.out 2
    go_wp2
    refine bodyPost_ret (results_ct rfl _ _ gb447 25 #[.bool false, .slice none 0 0, .slice none 0 0] (0, 0) _ rfl (by (with_reducible repeat (first | refine blk_drewN ?_ _ | refine blk_drew ?_ | refine blk_alloc ?_ _)); refine blk_put (cs := #[.bool false, .slice none 0 0, .slice none 0 0]) ?_ 2 _ rfl; (with_reducible repeat (first | refine blk_drewN ?_ _ | refine blk_drew ?_ | refine blk_alloc ?_ _)); refine blk_put (cs := #[.bool false, .slice none 0 0, .slice none 0 0]) ?_ 1 _ rfl; (with_reducible repeat (first | refine blk_drewN ?_ _ | refine blk_drew ?_ | refine blk_alloc ?_ _)); refine blk_put (cs := #[.bool false, .slice none 0 0, .slice none 0 0]) ?_ 0 _ rfl; exact kb BK447) Try.underlying25 rfl (by kernel_rfl)) rfl ?_
    exact ⟨_, _, by first | rfl | (simp [errW_none, errW_some] <;> rfl) | (simp [*, errW_none, errW_some] <;> rfl), by first | exact Kd.R_nil _ _ _ _ _ | exact Kd.N_nil _ _ _ _ _ | exact Kd.V_nil _ _ _ _ _ | exact Kd.Q_nil _ _ _ _ _ | exact Kd.S_nil _ _ _ _ _, by first | exact Kd.R_nil _ _ _ _ _ | exact Kd.N_nil _ _ _ _ _ | exact Kd.V_nil _ _ _ _ _ | exact Kd.Q_nil _ _ _ _ _ | exact Kd.S_nil _ _ _ _ _, kl HB⟩
   replace c14 := Bool.eq_false_iff.mpr c14
   subst c14
   have H1 : (if 0 < (a0.size : Int) then (rf_Decode.l0 kj7 a0 1 ((bt a0 0) == 1) ([] : List S75) ([] : List S76)) else (none)) = some (r1, r2, r3, r4) := by rw [if_neg (show ¬ (false = true) by decide)] at H; exact H
   clear H
   have H := H1
   clear H1
   by_cases c16 : 0 < (a0.size : Int)
   rotate_left
   ·rw [if_neg c16] at H
    exact absurd H (by simp)
   rw [if_pos c16] at H
   have c16b0 : decide (0 < (a0.size : Int)) = true := decide_eq_true c16
   have c16b1 : decide (0 < a0.size) = true := decide_eq_true (by omega)
   clear c16
   have H' := aM H
   clear H
   have p17 : 0 ≤ (0 : Int) := (by omega)
   have q17 : 0 < a0.size := (by have : (0 : Int) < (a0.size : Int) := of_decide_eq_true (by first | (with_reducible assumption) | assumption); omega)
   have hx17 : ∀ h : 0 < a0.size, ((a0[0]'h).toNat : Int) = bt a0 0 := bt_at a0 0
   clear p17
   have qi17 : (0 < (a0.size : Int)) = True := eq_true (of_decide_eq_true (by first | (with_reducible assumption) | assumption))
   replace q17 := eq_true q17
   go_wp2_with (first | ((with_reducible refine gate_dst (N := 4) rfl ?_); (try (refine gate_guard (by rfl) ?_; dsimp only)); refine box_event ?hg (N := 4) ?hd (cs := #[.bool false, .slice none 0 0, .slice none 0 0]) (t := 25) ?hr ?_; (case hd => rfl); (case hg => rfl); (case hr => first | (go_simp; done) | (go_simp; rfl)); intro gb448 hg w18 hbox hb; have BK448 := aM (hbox); have GE448 := gw hg HB; replace HB := aM (below_step (kl HB) hb); have NB447_448 := nl hg BK447; have NB448_447 := ng hg BK447; replace BK447 := bb BK447 hb; clear hb hbox hg; have hnb19 := NB448_447.out; have hnc19 := NB447_448.out; have hcz20_0 : w18.cell? ⟨gb448, 0, none⟩ = some (.bool false) := bc BK448 0; have hcz20_1 : w18.cell? ⟨gb448, 1, none⟩ = some (.slice none 0 0) := bc BK448 1; have hcz20_2 : w18.cell? ⟨gb448, 2, none⟩ = some (.slice none 0 0) := bc BK448 2; have hfz20_0 := blk_frozen BK448.out 0; have hfz20_1 := blk_frozen BK448.out 1; have hfz20_2 := blk_frozen BK448.out 2))
   obtain ⟨Z_, hZ_⟩ : ∃ z_ : Bool, ((bt a0 0) == 1) = z_ := ⟨_, rfl⟩
   have H := H'.out
   clear H'
   rw [hZ_] at H
   have H' := aM H
   clear H
   simp only [hZ_]
   have HZ_ := aM hZ_
   clear hZ_
   go_loopg [5] kj7 (fun kq v5 w' => ∃ (x5_2 : Int) (x448000_2 : Bool) (x449001_2 : List S75) (x449002_2 : List S76) (u449001 : Value) (u449002 : Value), v5 = .int .i64 x5_2 ∧ Aside0 (rf_Decode.l0 kq a0 x5_2 Z_ x449001_2 x449002_2 = some (r1, r2, r3, r4)) ∧ Aside0 (kq ≤ kj7) ∧ Aside0 (Kd.R k75 75 w' w.heap.size (fun _ => True) u449001 x449001_2) ∧ Aside0 (Kd.R k76 76 w' w.heap.size (fun _ => True) u449002 x449002_2) ∧ Aside0 (w'.heap[gb447]? = some (.cells #[.bool x448000_2, (.slice none 0 0), (.slice none 0 0)] 25 (0, 0))) ∧ Aside0 (w'.heap[gb448]? = some (.cells #[.bool Z_, u449001, u449002] 25 (0, 0))) ∧ Aside0 (Below w.heap.size w w'))
   case atStart => exact ⟨(1), (false), (([] : List S75)), (([] : List S76)), (.slice none 0 0), (.slice none 0 0), (by first | rfl | (simp; done) | (simp [*]; done)), H', ⟨Nat.le_refl _⟩, ⟨by first | exact Kd.R_nil _ _ _ _ _ | exact Kd.N_nil _ _ _ _ _ | exact Kd.V_nil _ _ _ _ _ | exact Kd.Q_nil _ _ _ _ _ | exact Kd.S_nil _ _ _ _ _⟩, ⟨by first | exact Kd.R_nil _ _ _ _ _ | exact Kd.N_nil _ _ _ _ _ | exact Kd.V_nil _ _ _ _ _ | exact Kd.Q_nil _ _ _ _ _ | exact Kd.S_nil _ _ _ _ _⟩, ⟨kf NB447_448 BK447⟩, ⟨by (with_reducible repeat (first | refine blk_drewN ?_ _ | refine blk_drew ?_ | refine blk_alloc ?_ _)); refine blk_put (cs := #[.bool Z_, .slice none 0 0, .slice none 0 0]) ?_ 2 _ rfl; (with_reducible repeat (first | refine blk_drewN ?_ _ | refine blk_drew ?_ | refine blk_alloc ?_ _)); refine blk_put (cs := #[.bool Z_, .slice none 0 0, .slice none 0 0]) ?_ 1 _ rfl; (with_reducible repeat (first | refine blk_drewN ?_ _ | refine blk_drew ?_ | refine blk_alloc ?_ _)); refine blk_put (cs := #[.bool false, .slice none 0 0, .slice none 0 0]) ?_ 0 _ rfl; exact kb BK448⟩, ⟨kl HB⟩⟩
   case round =>
    clear H'
    try clear c1
    try clear p1
    try clear q1
    try clear hx1
    try clear qi1
    try clear c2
    try clear c2b0
    try clear c2b1
    try clear p2
    try clear c5
    try clear c5b0
    try clear c5b1
    try clear c10
    try clear c10b0
    try clear c10b1
    try clear p11
    try clear q11
    try clear hx11
    try clear qi11
    try clear c12
    try clear c12b0
    try clear c12b1
    try clear p13
    try clear q13
    try clear hx13
    try clear qi13
    try clear c14
    try clear c16
    try clear c16b0
    try clear c16b1
    try clear p17
    try clear q17
    try clear hx17
    try clear qi17
    try clear c19
    try clear hcz15_0
    try clear hcz15_1
    try clear hcz15_2
    try clear hcz20_0
    try clear hcz20_1
    try clear hcz20_2
    try clear hcz4_0
    try clear hcz4_1
    try clear hcz4_2
    try clear hcz7_0
    try clear hcz7_1
    try clear hcz7_2
    try clear hfz15_0
    try clear hfz15_1
    try clear hfz15_2
    try clear hfz20_0
    try clear hfz20_1
    try clear hfz20_2
    try clear hfz4_0
    try clear hfz4_1
    try clear hfz4_2
    try clear hfz7_0
    try clear hfz7_1
    try clear hfz7_2
    try clear p1
    try clear p11
    try clear p13
    try clear p17
    try clear p2
    try clear q1
    try clear q11
    try clear q13
    try clear q17
    obtain ⟨x5_2, x448000_2, x449001_2, x449002_2, u449001, u449002, rfl, HA, HK2, HO_449001, HO_449002, BK447, BK448, HB⟩ := hrel
    cases gk with
    | zero => exact absurd HA.out (by simp [rf_Decode.l0])
    | succ k2 =>
     have H := HA.out
     clear HA
     simp only [rf_Decode.l0] at H
     by_cases c21 : x5_2 < (a0.size : Int)
     rotate_left
     ·rw [if_neg c21] at H
      have c21b0 : decide (x5_2 < (a0.size : Int)) = false := decide_eq_false c21
      clear c21
      replace H := Option.bind_eq_some_iff.mp H
      obtain ⟨t449, A750, H⟩ := H
      replace H : (if t449 = true then (some (Z_, x449001_2, x449002_2, 0)) else (some (false, ([] : List S75), ([] : List S76), 4))) = some (r1, r2, r3, r4) := H
      have A75 := aM A750
      clear A750
      by_cases c76 : t449 = true
      ·subst c76
       have H1 : (some (Z_, x449001_2, x449002_2, 0)) = some (r1, r2, r3, r4) := by rw [if_pos rfl] at H; exact H
       clear H
       have H := H1
       clear H1
       simp only [Option.some.injEq, Prod.mk.injEq] at H
       obtain ⟨rfl, rfl, rfl, rfl⟩ := H
       have hnb77 := NB448_447.out
       have hnc77 := NB447_448.out
       have hcz78_0 : wr.cell? ⟨gb448, 0, none⟩ = some (.bool Z_) := bc BK448 0
       have hcz78_1 : wr.cell? ⟨gb448, 1, none⟩ = some (u449001) := bc BK448 1
       have hcz78_2 : wr.cell? ⟨gb448, 2, none⟩ = some (u449002) := bc BK448 2
       have hfz78_0 := blk_frozen BK448.out 0
       have hfz78_1 := blk_frozen BK448.out 1
       have hfz78_2 := blk_frozen BK448.out 2
       obtain ⟨Ao79, co79, eo79⟩ := Kd.R_slice HO_449001.out
       subst eo79
       obtain ⟨Ao80, co80, eo80⟩ := Kd.R_slice HO_449002.out
       subst eo80
       go_wp2_with (first | ((with_reducible refine gate_callee (f := 21) rfl ?_); refine goesL_ (some 127) rfl rfl Try.func21 (by kernel_rfl) rfl #[.agg #[.bool Z_, .slice Ao79 x449001_2.length co79, .slice Ao80 x449002_2.length co80]] rfl (by (try simp only [List.map_toArray, List.map_cons, List.map_nil]); first | done | rfl | (simp only [List.length_drop, List.length_take]; rfl)) ?_; (with_reducible refine (rf_May.calls k2 Z_ _ _ x449001_2 _ _ x449002_2 true _ ?side1 ?side2 ?side3 ?side4 A75.out).mono ?_); (case side1 => exact kc (Kd.R_reads' HO_449001.out).2.2); (case side2 => exact (Kd.R_reads' HO_449001.out).2.1); (case side3 => exact kc (Kd.R_reads' HO_449002.out).2.2); (case side4 => exact (Kd.R_reads' HO_449002.out).2.1); rintro e w81 ⟨rfl, hb⟩; refine ⟨_, rfl, ?_⟩; replace HO_449001 := rb HO_449001 hb; replace HO_449002 := rb HO_449002 hb; replace BK447 := bb BK447 hb; replace BK448 := bb BK448 hb; replace HB := aM (below_step (kl HB) hb); clear hb; have hcz82_0 : w81.cell? ⟨gb448, 0, none⟩ = some (.bool Z_) := bc BK448 0; have hcz82_1 : w81.cell? ⟨gb448, 1, none⟩ = some (.slice Ao79 x449001_2.length co79) := bc BK448 1; have hcz82_2 : w81.cell? ⟨gb448, 2, none⟩ = some (.slice Ao80 x449002_2.length co80) := bc BK448 2; have hfz82_0 := blk_frozen BK448.out 0; have hfz82_1 := blk_frozen BK448.out 1; have hfz82_2 := blk_frozen BK448.out 2; have hcz83_0 : w81.cell? ⟨gb447, 0, none⟩ = some (.bool x448000_2) := bc BK447 0; have hcz83_1 : w81.cell? ⟨gb447, 1, none⟩ = some (.slice none 0 0) := bc BK447 1; have hcz83_2 : w81.cell? ⟨gb447, 2, none⟩ = some (.slice none 0 0) := bc BK447 2; have hfz83_0 := blk_frozen BK447.out 0; have hfz83_1 := blk_frozen BK447.out 1; have hfz83_2 := blk_frozen BK447.out 2))
       refine bodyPost_ret (results_ct rfl _ _ gb447 25 #[.bool Z_, .slice Ao79 x449001_2.length co79, .slice Ao80 x449002_2.length co80] (0, 0) _ rfl (by (with_reducible repeat (first | refine blk_drewN ?_ _ | refine blk_drew ?_ | refine blk_alloc ?_ _)); refine blk_put (cs := #[.bool Z_, .slice Ao79 x449001_2.length co79, .slice none 0 0]) ?_ 2 _ rfl; (with_reducible repeat (first | refine blk_drewN ?_ _ | refine blk_drew ?_ | refine blk_alloc ?_ _)); refine blk_put (cs := #[.bool Z_, .slice none 0 0, .slice none 0 0]) ?_ 1 _ rfl; (with_reducible repeat (first | refine blk_drewN ?_ _ | refine blk_drew ?_ | refine blk_alloc ?_ _)); refine blk_put (cs := #[.bool x448000_2, .slice none 0 0, .slice none 0 0]) ?_ 0 _ rfl; exact kb BK447) Try.underlying25 rfl (by kernel_rfl)) rfl ?_
       exact ⟨_, _, by first | rfl | (simp [errW_none, errW_some] <;> rfl) | (simp [*, errW_none, errW_some] <;> rfl), by exact Kd.R_mono (Kd.R_far (Kd.R_far (Kd.R_far (Kd.R_types HO_449001.out BK447.out (by decide)) (fun _ hk => hk.2) _) (fun _ hk => hk.2) _) (fun _ hk => hk.2) _) (fun _ hk => trivial), by exact Kd.R_mono (Kd.R_far (Kd.R_far (Kd.R_far (Kd.R_types HO_449002.out BK447.out (by decide)) (fun _ hk => hk.2) _) (fun _ hk => hk.2) _) (fun _ hk => hk.2) _) (fun _ hk => trivial), kl HB⟩
      replace c76 := Bool.eq_false_iff.mpr c76
      subst c76
      have H1 : (some (false, ([] : List S75), ([] : List S76), 4)) = some (r1, r2, r3, r4) := by rw [if_neg (show ¬ (false = true) by decide)] at H; exact H
      clear H
      have H := H1
      clear H1
      simp only [Option.some.injEq, Prod.mk.injEq] at H
      obtain ⟨rfl, rfl, rfl, rfl⟩ := H
      have hnb84 := NB448_447.out
      have hnc84 := NB447_448.out
      have hcz85_0 : wr.cell? ⟨gb448, 0, none⟩ = some (.bool Z_) := bc BK448 0
      have hcz85_1 : wr.cell? ⟨gb448, 1, none⟩ = some (u449001) := bc BK448 1
      have hcz85_2 : wr.cell? ⟨gb448, 2, none⟩ = some (u449002) := bc BK448 2
      have hfz85_0 := blk_frozen BK448.out 0
      have hfz85_1 := blk_frozen BK448.out 1
      have hfz85_2 := blk_frozen BK448.out 2
      obtain ⟨Ao86, co86, eo86⟩ := Kd.R_slice HO_449001.out
      subst eo86
      obtain ⟨Ao87, co87, eo87⟩ := Kd.R_slice HO_449002.out
      subst eo87
      go_wp2_with (first | ((with_reducible refine gate_callee (f := 21) rfl ?_); refine goesL_ (some 127) rfl rfl Try.func21 (by kernel_rfl) rfl #[.agg #[.bool Z_, .slice Ao86 x449001_2.length co86, .slice Ao87 x449002_2.length co87]] rfl (by (try simp only [List.map_toArray, List.map_cons, List.map_nil]); first | done | rfl | (simp only [List.length_drop, List.length_take]; rfl)) ?_; (with_reducible refine (rf_May.calls k2 Z_ _ _ x449001_2 _ _ x449002_2 false _ ?side1 ?side2 ?side3 ?side4 A75.out).mono ?_); (case side1 => exact kc (Kd.R_reads' HO_449001.out).2.2); (case side2 => exact (Kd.R_reads' HO_449001.out).2.1); (case side3 => exact kc (Kd.R_reads' HO_449002.out).2.2); (case side4 => exact (Kd.R_reads' HO_449002.out).2.1); rintro e w88 ⟨rfl, hb⟩; refine ⟨_, rfl, ?_⟩; replace HO_449001 := rb HO_449001 hb; replace HO_449002 := rb HO_449002 hb; replace BK447 := bb BK447 hb; replace BK448 := bb BK448 hb; replace HB := aM (below_step (kl HB) hb); clear hb; have hcz89_0 : w88.cell? ⟨gb447, 0, none⟩ = some (.bool x448000_2) := bc BK447 0; have hcz89_1 : w88.cell? ⟨gb447, 1, none⟩ = some (.slice none 0 0) := bc BK447 1; have hcz89_2 : w88.cell? ⟨gb447, 2, none⟩ = some (.slice none 0 0) := bc BK447 2; have hfz89_0 := blk_frozen BK447.out 0; have hfz89_1 := blk_frozen BK447.out 1; have hfz89_2 := blk_frozen BK447.out 2))
      refine bodyPost_ret (results_ct rfl _ _ gb447 25 #[.bool false, .slice none 0 0, .slice none 0 0] (0, 0) _ rfl (by (with_reducible repeat (first | refine blk_drewN ?_ _ | refine blk_drew ?_ | refine blk_alloc ?_ _)); refine blk_put (cs := #[.bool false, .slice none 0 0, .slice none 0 0]) ?_ 2 _ rfl; (with_reducible repeat (first | refine blk_drewN ?_ _ | refine blk_drew ?_ | refine blk_alloc ?_ _)); refine blk_put (cs := #[.bool false, .slice none 0 0, .slice none 0 0]) ?_ 1 _ rfl; (with_reducible repeat (first | refine blk_drewN ?_ _ | refine blk_drew ?_ | refine blk_alloc ?_ _)); refine blk_put (cs := #[.bool x448000_2, .slice none 0 0, .slice none 0 0]) ?_ 0 _ rfl; exact kb BK447) Try.underlying25 rfl (by kernel_rfl)) rfl ?_
      exact ⟨_, _, by first | rfl | (simp [errW_none, errW_some] <;> rfl) | (simp [*, errW_none, errW_some] <;> rfl), by first | exact Kd.R_nil _ _ _ _ _ | exact Kd.N_nil _ _ _ _ _ | exact Kd.V_nil _ _ _ _ _ | exact Kd.Q_nil _ _ _ _ _ | exact Kd.S_nil _ _ _ _ _, by first | exact Kd.R_nil _ _ _ _ _ | exact Kd.N_nil _ _ _ _ _ | exact Kd.V_nil _ _ _ _ _ | exact Kd.Q_nil _ _ _ _ _ | exact Kd.S_nil _ _ _ _ _, kl HB⟩
     rw [if_pos c21] at H
     have c21b0 : decide (x5_2 < (a0.size : Int)) = true := decide_eq_true c21
     clear c21
     by_cases c22 : 0 ≤ x5_2
     rotate_left
     ·rw [if_neg c22] at H
      exact absurd H (by simp)
     rw [if_pos c22] at H
     have c22b0 : decide (0 ≤ x5_2) = true := decide_eq_true c22
     clear c22
     by_cases c24 : (wrap64 ((wrap64 (x5_2 + 1)) + (wrap64 (bt a0 x5_2)))) > (a0.size : Int)
     ·rw [if_pos c24] at H
      have c24b0 : decide ((a0.size : Int) < (wrap64 ((wrap64 (x5_2 + 1)) + (wrap64 (bt a0 x5_2))))) = true := decide_eq_true c24
      clear c24
      simp only [Option.some.injEq, Prod.mk.injEq] at H
      obtain ⟨rfl, rfl, rfl, rfl⟩ := H
      have p23 : 0 ≤ (x5_2 : Int) := of_decide_eq_true (by first | (with_reducible assumption) | assumption)
      have q23 : x5_2 < (a0.size : Int) := of_decide_eq_true (by first | (with_reducible assumption) | assumption)
      have hx23 := bt_at a0 x5_2
      replace p23 := eq_true p23
      replace q23 := eq_true q23
      have hnb25 := NB447_448.out
      have hnc25 := NB448_447.out
      have hcz26_0 : wr.cell? ⟨gb447, 0, none⟩ = some (.bool x448000_2) := bc BK447 0
      have hcz26_1 : wr.cell? ⟨gb447, 1, none⟩ = some (.slice none 0 0) := bc BK447 1
      have hcz26_2 : wr.cell? ⟨gb447, 2, none⟩ = some (.slice none 0 0) := bc BK447 2
      have hfz26_0 := blk_frozen BK447.out 0
      have hfz26_1 := blk_frozen BK447.out 1
      have hfz26_2 := blk_frozen BK447.out 2
      go_wp2
      refine bodyPost_ret (results_ct rfl _ _ gb447 25 #[.bool false, .slice none 0 0, .slice none 0 0] (0, 0) _ rfl (by (with_reducible repeat (first | refine blk_drewN ?_ _ | refine blk_drew ?_ | refine blk_alloc ?_ _)); refine blk_put (cs := #[.bool false, .slice none 0 0, .slice none 0 0]) ?_ 2 _ rfl; (with_reducible repeat (first | refine blk_drewN ?_ _ | refine blk_drew ?_ | refine blk_alloc ?_ _)); refine blk_put (cs := #[.bool false, .slice none 0 0, .slice none 0 0]) ?_ 1 _ rfl; (with_reducible repeat (first | refine blk_drewN ?_ _ | refine blk_drew ?_ | refine blk_alloc ?_ _)); refine blk_put (cs := #[.bool x448000_2, .slice none 0 0, .slice none 0 0]) ?_ 0 _ rfl; exact kb BK447) Try.underlying25 rfl (by kernel_rfl)) rfl ?_
      exact ⟨_, _, by first | rfl | (simp [errW_none, errW_some] <;> rfl) | (simp [*, errW_none, errW_some] <;> rfl), by first | exact Kd.R_nil _ _ _ _ _ | exact Kd.N_nil _ _ _ _ _ | exact Kd.V_nil _ _ _ _ _ | exact Kd.Q_nil _ _ _ _ _ | exact Kd.S_nil _ _ _ _ _, by first | exact Kd.R_nil _ _ _ _ _ | exact Kd.N_nil _ _ _ _ _ | exact Kd.V_nil _ _ _ _ _ | exact Kd.Q_nil _ _ _ _ _ | exact Kd.S_nil _ _ _ _ _, kl HB⟩
     rw [if_neg c24] at H
     have c24b0 : decide ((a0.size : Int) < (wrap64 ((wrap64 (x5_2 + 1)) + (wrap64 (bt a0 x5_2))))) = false := decide_eq_false c24
     clear c24
     obtain ⟨ji27, hji27⟩ : ∃ j_ : Int, (wrap64 (x5_2 + 1)) = j_ := ⟨_, rfl⟩
     replace H : (if 0 ≤ (ji27) then (if (ji27) ≤ (wrap64 ((ji27) + (wrap64 (bt a0 x5_2)))) then (if (wrap64 ((ji27) + (wrap64 (bt a0 x5_2)))) ≤ (a0.size : Int) then (if Z_ = true then (if (wrap64 ((ji27) + (wrap64 (bt a0 x5_2)))) ≥ (a0.size : Int) then (some (false, ([] : List S75), ([] : List S76), 8)) else (if 0 ≤ (wrap64 ((ji27) + (wrap64 (bt a0 x5_2)))) then (if (wrap64 ((ji27) + (wrap64 (bt a0 x5_2)))) < (a0.size : Int) then (if (wrap64 ((wrap64 ((wrap64 ((ji27) + (wrap64 (bt a0 x5_2)))) + 1)) + (wrap64 (bt a0 (wrap64 ((ji27) + (wrap64 (bt a0 x5_2)))))))) > (a0.size : Int) then (some (false, ([] : List S75), ([] : List S76), 8)) else (if 0 ≤ (wrap64 ((wrap64 ((ji27) + (wrap64 (bt a0 x5_2)))) + 1)) then (if (wrap64 ((wrap64 ((ji27) + (wrap64 (bt a0 x5_2)))) + 1)) ≤ (wrap64 ((wrap64 ((wrap64 ((ji27) + (wrap64 (bt a0 x5_2)))) + 1)) + (wrap64 (bt a0 (wrap64 ((ji27) + (wrap64 (bt a0 x5_2)))))))) then (if (wrap64 ((wrap64 ((wrap64 ((ji27) + (wrap64 (bt a0 x5_2)))) + 1)) + (wrap64 (bt a0 (wrap64 ((ji27) + (wrap64 (bt a0 x5_2)))))))) ≤ (a0.size : Int) then (if x449001_2.length < 4398046511104 then (rf_Decode.l0 k2 a0 (wrap64 ((wrap64 ((wrap64 ((ji27) + (wrap64 (bt a0 x5_2)))) + 1)) + (wrap64 (bt a0 (wrap64 ((ji27) + (wrap64 (bt a0 x5_2)))))))) Z_ (x449001_2 ++ [(⟨a0.extract ((ji27) : Int).toNat ((wrap64 ((ji27) + (wrap64 (bt a0 x5_2)))) : Int).toNat, a0.extract ((wrap64 ((wrap64 ((ji27) + (wrap64 (bt a0 x5_2)))) + 1)) : Int).toNat ((wrap64 ((wrap64 ((wrap64 ((ji27) + (wrap64 (bt a0 x5_2)))) + 1)) + (wrap64 (bt a0 (wrap64 ((ji27) + (wrap64 (bt a0 x5_2)))))))) : Int).toNat⟩ : S75)]) x449002_2) else (none)) else (none)) else (none)) else (none))) else (none)) else (none))) else (if (wrap64 ((wrap64 ((ji27) + (wrap64 (bt a0 x5_2)))) + 2)) > (a0.size : Int) then (some (false, ([] : List S75), ([] : List S76), 8)) else (if 0 ≤ (wrap64 ((ji27) + (wrap64 (bt a0 x5_2)))) then (if (wrap64 ((ji27) + (wrap64 (bt a0 x5_2)))) < (a0.size : Int) then (if 0 ≤ (wrap64 ((wrap64 ((ji27) + (wrap64 (bt a0 x5_2)))) + 1)) then (if (wrap64 ((wrap64 ((ji27) + (wrap64 (bt a0 x5_2)))) + 1)) < (a0.size : Int) then (if x449002_2.length < 5864062014805 then (rf_Decode.l0 k2 a0 (wrap64 ((wrap64 ((ji27) + (wrap64 (bt a0 x5_2)))) + 2)) Z_ x449001_2 (x449002_2 ++ [(⟨a0.extract ((ji27) : Int).toNat ((wrap64 ((ji27) + (wrap64 (bt a0 x5_2)))) : Int).toNat, wrap64 ((wrap64 ((wrap64 (bt a0 (wrap64 ((ji27) + (wrap64 (bt a0 x5_2)))))) * 256)) + (wrap64 (bt a0 (wrap64 ((wrap64 ((ji27) + (wrap64 (bt a0 x5_2)))) + 1)))))⟩ : S76)])) else (none)) else (none)) else (none)) else (none)) else (none)))) else (none)) else (none)) else (none)) = some (r1, r2, r3, r4) := by first | (rw [hji27] at H; exact H) | (simp only [hji27] at H ⊢; exact H)
     (try rw [hji27] at c24b0)
     have hji27w : (IntKind.i64.wrap (x5_2 + 1)) = ji27 := (i64_w _).trans hji27
     by_cases c28 : 0 ≤ (ji27)
     rotate_left
     ·rw [if_neg c28] at H
      exact absurd H (by simp)
     rw [if_pos c28] at H
     have c28b0 := eq_true c28
     have c28b1 : decide (0 ≤ (ji27)) = true := decide_eq_true c28
     clear c28
     by_cases c29 : (ji27) ≤ (wrap64 ((ji27) + (wrap64 (bt a0 x5_2))))
     rotate_left
     ·rw [if_neg c29] at H
      exact absurd H (by simp)
     rw [if_pos c29] at H
     have c29b0 := eq_true c29
     have c29b1 : decide ((ji27) ≤ (wrap64 ((ji27) + (wrap64 (bt a0 x5_2))))) = true := decide_eq_true c29
     by_cases c30 : (wrap64 ((ji27) + (wrap64 (bt a0 x5_2)))) ≤ (a0.size : Int)
     rotate_left
     ·rw [if_neg c30] at H
      exact absurd H (by simp)
     rw [if_pos c30] at H
     have c30b0 := eq_true c30
     have c30b1 : decide ((wrap64 ((ji27) + (wrap64 (bt a0 x5_2)))) ≤ (a0.size : Int)) = true := decide_eq_true c30
     by_cases c31 : Z_ = true
     rotate_left
     ·rw [if_neg c31] at H
      replace c31 := Bool.eq_false_iff.mpr c31
      subst c31
      by_cases c56 : (wrap64 ((wrap64 ((ji27) + (wrap64 (bt a0 x5_2)))) + 2)) > (a0.size : Int)
      ·rw [if_pos c56] at H
       have c56b0 : decide ((a0.size : Int) < (wrap64 ((wrap64 ((ji27) + (wrap64 (bt a0 x5_2)))) + 2))) = true := decide_eq_true c56
       clear c56
       simp only [Option.some.injEq, Prod.mk.injEq] at H
       obtain ⟨rfl, rfl, rfl, rfl⟩ := H
       have p23 : 0 ≤ (x5_2 : Int) := of_decide_eq_true (by first | (with_reducible assumption) | assumption)
       have q23 : x5_2 < (a0.size : Int) := of_decide_eq_true (by first | (with_reducible assumption) | assumption)
       have hx23 := bt_at a0 x5_2
       replace p23 := eq_true p23
       replace q23 := eq_true q23
       have hnb57 := NB448_447.out
       have hnc57 := NB447_448.out
       have hcz58_0 : wr.cell? ⟨gb448, 0, none⟩ = some (.bool false) := bc BK448 0
       have hcz58_1 : wr.cell? ⟨gb448, 1, none⟩ = some (u449001) := bc BK448 1
       have hcz58_2 : wr.cell? ⟨gb448, 2, none⟩ = some (u449002) := bc BK448 2
       have hfz58_0 := blk_frozen BK448.out 0
       have hfz58_1 := blk_frozen BK448.out 1
       have hfz58_2 := blk_frozen BK448.out 2
       have hcz59_0 : wr.cell? ⟨gb447, 0, none⟩ = some (.bool x448000_2) := bc BK447 0
       have hcz59_1 : wr.cell? ⟨gb447, 1, none⟩ = some (.slice none 0 0) := bc BK447 1
       have hcz59_2 : wr.cell? ⟨gb447, 2, none⟩ = some (.slice none 0 0) := bc BK447 2
       have hfz59_0 := blk_frozen BK447.out 0
       have hfz59_1 := blk_frozen BK447.out 1
       have hfz59_2 := blk_frozen BK447.out 2
       go_wp2
       refine bodyPost_ret (results_ct rfl _ _ gb447 25 #[.bool false, .slice none 0 0, .slice none 0 0] (0, 0) _ rfl (by (with_reducible repeat (first | refine blk_drewN ?_ _ | refine blk_drew ?_ | refine blk_alloc ?_ _)); refine blk_put (cs := #[.bool false, .slice none 0 0, .slice none 0 0]) ?_ 2 _ rfl; (with_reducible repeat (first | refine blk_drewN ?_ _ | refine blk_drew ?_ | refine blk_alloc ?_ _)); refine blk_put (cs := #[.bool false, .slice none 0 0, .slice none 0 0]) ?_ 1 _ rfl; (with_reducible repeat (first | refine blk_drewN ?_ _ | refine blk_drew ?_ | refine blk_alloc ?_ _)); refine blk_put (cs := #[.bool x448000_2, .slice none 0 0, .slice none 0 0]) ?_ 0 _ rfl; exact kb BK447) Try.underlying25 rfl (by kernel_rfl)) rfl ?_
       exact ⟨_, _, by first | rfl | (simp [errW_none, errW_some] <;> rfl) | (simp only [← hji27]; first | rfl | (simp [errW_none, errW_some] <;> rfl)) | (simp [*, errW_none, errW_some] <;> rfl), by first | exact Kd.R_nil _ _ _ _ _ | exact Kd.N_nil _ _ _ _ _ | exact Kd.V_nil _ _ _ _ _ | exact Kd.Q_nil _ _ _ _ _ | exact Kd.S_nil _ _ _ _ _, by first | exact Kd.R_nil _ _ _ _ _ | exact Kd.N_nil _ _ _ _ _ | exact Kd.V_nil _ _ _ _ _ | exact Kd.Q_nil _ _ _ _ _ | exact Kd.S_nil _ _ _ _ _, kl HB⟩
      rw [if_neg c56] at H
      have c56b0 : decide ((a0.size : Int) < (wrap64 ((wrap64 ((ji27) + (wrap64 (bt a0 x5_2)))) + 2))) = false := decide_eq_false c56
      clear c56
      obtain ⟨ji60, hji60⟩ : ∃ j_ : Int, (wrap64 ((ji27) + (wrap64 (bt a0 x5_2)))) = j_ := ⟨_, rfl⟩
      replace H : (if 0 ≤ (ji60) then (if (ji60) < (a0.size : Int) then (if 0 ≤ (wrap64 ((ji60) + 1)) then (if (wrap64 ((ji60) + 1)) < (a0.size : Int) then (if x449002_2.length < 5864062014805 then (rf_Decode.l0 k2 a0 (wrap64 ((ji60) + 2)) false x449001_2 (x449002_2 ++ [(⟨a0.extract ((ji27) : Int).toNat ((ji60) : Int).toNat, wrap64 ((wrap64 ((wrap64 (bt a0 (ji60))) * 256)) + (wrap64 (bt a0 (wrap64 ((ji60) + 1)))))⟩ : S76)])) else (none)) else (none)) else (none)) else (none)) else (none)) = some (r1, r2, r3, r4) := by first | (rw [hji60] at H; exact H) | (simp only [hji60] at H ⊢; exact H)
      (try rw [hji60] at c29b0)
      (try rw [hji60] at c29b1)
      (try rw [hji60] at c29)
      (try rw [hji60] at c30b0)
      (try rw [hji60] at c30b1)
      (try rw [hji60] at c30)
      (try rw [hji60] at c56b0)
      have hji60w : (IntKind.i64.wrap ((ji27) + (wrap64 (bt a0 x5_2)))) = ji60 := (i64_w _).trans hji60
      by_cases c61 : 0 ≤ (ji60)
      rotate_left
      ·rw [if_neg c61] at H
       exact absurd H (by simp)
      rw [if_pos c61] at H
      have c61b0 : decide (0 ≤ (ji60)) = true := decide_eq_true c61
      clear c61
      by_cases c62 : (ji60) < (a0.size : Int)
      rotate_left
      ·rw [if_neg c62] at H
       exact absurd H (by simp)
      rw [if_pos c62] at H
      have c62b0 : decide ((ji60) < (a0.size : Int)) = true := decide_eq_true c62
      clear c62
      obtain ⟨ji64, hji64⟩ : ∃ j_ : Int, (wrap64 ((ji60) + 1)) = j_ := ⟨_, rfl⟩
      replace H : (if 0 ≤ (ji64) then (if (ji64) < (a0.size : Int) then (if x449002_2.length < 5864062014805 then (rf_Decode.l0 k2 a0 (wrap64 ((ji60) + 2)) false x449001_2 (x449002_2 ++ [(⟨a0.extract ((ji27) : Int).toNat ((ji60) : Int).toNat, wrap64 ((wrap64 ((wrap64 (bt a0 (ji60))) * 256)) + (wrap64 (bt a0 (ji64))))⟩ : S76)])) else (none)) else (none)) else (none)) = some (r1, r2, r3, r4) := by first | (rw [hji64] at H; exact H) | (simp only [hji64] at H ⊢; exact H)
      have hji64w : (IntKind.i64.wrap ((ji60) + 1)) = ji64 := (i64_w _).trans hji64
      by_cases c65 : 0 ≤ (ji64)
      rotate_left
      ·rw [if_neg c65] at H
       exact absurd H (by simp)
      rw [if_pos c65] at H
      have c65b0 : decide (0 ≤ (ji64)) = true := decide_eq_true c65
      clear c65
      by_cases c66 : (ji64) < (a0.size : Int)
      rotate_left
      ·rw [if_neg c66] at H
       exact absurd H (by simp)
      rw [if_pos c66] at H
      have c66b0 : decide ((ji64) < (a0.size : Int)) = true := decide_eq_true c66
      clear c66
      by_cases c68 : x449002_2.length < 5864062014805
      rotate_left
      ·rw [if_neg c68] at H
       exact absurd H (by simp)
      rw [if_pos c68] at H
      have LMc68 := aM c68
      clear c68
      obtain ⟨y453, hy453⟩ : ∃ y_ : List S76, y_ = (x449002_2 ++ [(⟨a0.extract ((ji27) : Int).toNat ((ji60) : Int).toNat, wrap64 ((wrap64 ((wrap64 (bt a0 (ji60))) * 256)) + (wrap64 (bt a0 (ji64))))⟩ : S76)]) := ⟨_, rfl⟩
      replace H : (rf_Decode.l0 k2 a0 (wrap64 ((ji60) + 2)) false x449001_2 y453) = some (r1, r2, r3, r4) := by first | (rw [hy453]; with_reducible exact H) | (have H2_ := (Option.bind_some _ _).symm.trans H; rw [hy453]; with_reducible exact H2_) | (have H2_ := (Option.bind_some _ _).symm.trans H; with_reducible exact H2_) | with_reducible exact H | (rw [hy453]; exact H) | exact H
      have Ny453 := aM hy453
      clear hy453
      have H' := aM H
      clear H
      have p23 : 0 ≤ (x5_2 : Int) := of_decide_eq_true (by first | (with_reducible assumption) | assumption)
      have q23 : x5_2 < (a0.size : Int) := of_decide_eq_true (by first | (with_reducible assumption) | assumption)
      have hx23 := bt_at a0 x5_2
      replace p23 := eq_true p23
      replace q23 := eq_true q23
      have hnb69 := NB448_447.out
      have hnc69 := NB447_448.out
      have hcz70_0 : wr.cell? ⟨gb448, 0, none⟩ = some (.bool false) := bc BK448 0
      have hcz70_1 : wr.cell? ⟨gb448, 1, none⟩ = some (u449001) := bc BK448 1
      have hcz70_2 : wr.cell? ⟨gb448, 2, none⟩ = some (u449002) := bc BK448 2
      have hfz70_0 := blk_frozen BK448.out 0
      have hfz70_1 := blk_frozen BK448.out 1
      have hfz70_2 := blk_frozen BK448.out 2
      try go_wp2
      replace HO_449001 := aM (Kd.R_drew HO_449001.out)
      replace HO_449002 := aM (Kd.R_drew HO_449002.out)
      replace BK447 := aM (blk_drew BK447.out)
      replace BK448 := aM (blk_drew BK448.out)
      replace HB := aM (below_drew1 HB.out)
      have p63 : 0 ≤ ((ji60) : Int) := of_decide_eq_true (by first | (with_reducible assumption) | assumption)
      have q63 : (ji60) < (a0.size : Int) := of_decide_eq_true (by first | (with_reducible assumption) | assumption)
      have hx63 := bt_at a0 (ji60)
      replace p63 := eq_true p63
      replace q63 := eq_true q63
      have p67 : 0 ≤ ((ji64) : Int) := of_decide_eq_true (by first | (with_reducible assumption) | assumption)
      have q67 : (ji64) < (a0.size : Int) := of_decide_eq_true (by first | (with_reducible assumption) | assumption)
      have hx67 := bt_at a0 (ji64)
      replace p67 := eq_true p67
      replace q67 := eq_true q67
      refine start_ (n := 19) (S := fun w' => w'.cell? ⟨gb448, 0, none⟩ = some (.bool false) ∧ w'.cell? ⟨gb448, 1, none⟩ = some (u449001) ∧ w'.cell? ⟨gb448, 2, none⟩ = some (u449002)) (ds := [18]) #[N,N,N,N,N,N,N,N,N,N,N,N,N,N,N,N,N,N,N] (by kernel_rfl) rfl rfl ⟨bc BK448 0, bc BK448 1, bc BK448 2⟩ (fun hHeld => ?_); refine with_tabW rf_Decode.tab23 rf_Decode.bits23 (fun HT_ HW_ => ?_)
      generalize wr.drew = w71 at HO_449001 HO_449002 BK447 BK448 HB hHeld ⊢
      refine pure_ (i := 0) (N := some 106) (v := ?_) (a' := ?_) #[Y,N,N,N,N,N,N,N,N,N,N,N,N,N,N,N,N,N,N] rfl rfl (any_of HT_.out (by kernel_rfl)) (fun _ _ _ h => h) (Or.inl ⟨by rfl, ?_⟩) ?_ ?_
      rotate_left
      ·intro w'
       go_simp
       with_reducible rfl
      rotate_left
      ·simp only [Act.put, List.setIfInBounds_toArray, List.set_cons_zero, List.set_cons_succ, i64_w, i32_w]
       rfl
      refine pure_ (i := 2) (N := some 108) (v := ?_) (a' := ?_) #[Y,N,Y,N,N,N,N,N,N,N,N,N,N,N,N,N,N,N,N] rfl rfl (any_of HT_.out (by kernel_rfl)) (fun _ _ _ h => h) (Or.inl ⟨by rfl, ?_⟩) ?_ ?_
      rotate_left
      ·intro w'
       go_simp
       with_reducible rfl
      rotate_left
      ·simp only [Act.put, List.setIfInBounds_toArray, List.set_cons_zero, List.set_cons_succ, i64_w, i32_w]
       rfl
      refine pure_ (i := 3) (N := some 109) (v := ?_) (a' := ?_) #[Y,N,Y,Y,N,N,N,N,N,N,N,N,N,N,N,N,N,N,N] rfl rfl (any_of HT_.out (by kernel_rfl)) (fun _ _ _ h => h) (Or.inl ⟨by rfl, ?_⟩) ?_ ?_
      rotate_left
      ·intro w'
       go_simp
       with_reducible rfl
      rotate_left
      ·simp only [Act.put, List.setIfInBounds_toArray, List.set_cons_zero, List.set_cons_succ, i64_w, i32_w]
       rfl
      refine pure_ (i := 4) (N := some 110) (v := ?_) (a' := ?_) #[Y,N,Y,Y,Y,N,N,N,N,N,N,N,N,N,N,N,N,N,N] rfl rfl (any_of HT_.out (by kernel_rfl)) (fun _ _ _ h => h) (Or.inl ⟨by rfl, ?_⟩) ?_ ?_
      rotate_left
      ·intro w'
       go_simp
       with_reducible rfl
      rotate_left
      ·simp only [Act.put, List.setIfInBounds_toArray, List.set_cons_zero, List.set_cons_succ, i64_w, i32_w]
       rfl
      refine pure_ (i := 8) (N := some 114) (v := ?_) (a' := ?_) #[Y,N,Y,Y,Y,N,N,N,Y,N,N,N,N,N,N,N,N,N,N] rfl rfl (any_of HT_.out (by kernel_rfl)) (fun _ _ _ h => h) (Or.inl ⟨by rfl, ?_⟩) ?_ ?_
      rotate_left
      ·intro w'
       go_simp
       with_reducible rfl
      rotate_left
      ·simp only [Act.put, List.setIfInBounds_toArray, List.set_cons_zero, List.set_cons_succ, i64_w, i32_w]
       rfl
      refine pure_ (i := 9) (N := some 115) (v := ?_) (a' := ?_) #[Y,N,Y,Y,Y,N,N,N,Y,Y,N,N,N,N,N,N,N,N,N] rfl rfl (any_of HT_.out (by kernel_rfl)) (fun _ _ _ h => h) (Or.inl ⟨by rfl, ?_⟩) ?_ ?_
      rotate_left
      ·intro w'
       go_simp
       with_reducible rfl
      rotate_left
      ·simp only [Act.put, List.setIfInBounds_toArray, List.set_cons_zero, List.set_cons_succ, i64_w, i32_w]
       rfl
      refine pure_ (i := 10) (N := some 116) (v := ?_) (a' := ?_) #[Y,N,Y,Y,Y,N,N,N,Y,Y,Y,N,N,N,N,N,N,N,N] rfl rfl (any_of HT_.out (by kernel_rfl)) (fun _ _ _ h => h) (Or.inl ⟨by rfl, ?_⟩) ?_ ?_
      rotate_left
      ·intro w'
       go_simp
       with_reducible rfl
      rotate_left
      ·simp only [Act.put, List.setIfInBounds_toArray, List.set_cons_zero, List.set_cons_succ, i64_w, i32_w]
       rfl
      refine take_ (i := 1) (N := some 107) (v := ?_) (a' := ?_) #[Y,Y,Y,Y,Y,N,N,N,Y,Y,Y,N,N,N,N,N,N,N,N] rfl rfl (take_ofW HT_.out HW_.out (by kernel_rfl)) (fun _ _ _ h => h) (Or.inl ⟨by rfl, ?_⟩) hHeld ?_ ?_
      rotate_left
      ·rintro w' ⟨s0, s1, s2⟩
       go_simp
       with_reducible rfl
      rotate_left
      ·simp only [Act.put, List.setIfInBounds_toArray, List.set_cons_zero, List.set_cons_succ, i64_w, i32_w]
       rfl
      refine take_ (i := 5) (N := some 111) (v := ?_) (a' := ?_) #[Y,Y,Y,Y,Y,Y,N,N,Y,Y,Y,N,N,N,N,N,N,N,N] rfl rfl (take_ofW HT_.out HW_.out (by kernel_rfl)) (fun _ _ _ h => h) (Or.inl ⟨by rfl, ?_⟩) hHeld ?_ ?_
      rotate_left
      ·rintro w' ⟨s0, s1, s2⟩
       go_simp
       with_reducible rfl
      rotate_left
      ·simp only [Act.put, List.setIfInBounds_toArray, List.set_cons_zero, List.set_cons_succ, i64_w, i32_w]
       rfl
      refine pure_ (i := 6) (N := some 112) (v := ?_) (a' := ?_) #[Y,Y,Y,Y,Y,Y,Y,N,Y,Y,Y,N,N,N,N,N,N,N,N] rfl rfl (any_of HT_.out (by kernel_rfl)) (fun _ _ _ h => h) (Or.inl ⟨by rfl, ?_⟩) ?_ ?_
      rotate_left
      ·intro w'
       go_simp
       with_reducible rfl
      rotate_left
      ·simp only [Act.put, List.setIfInBounds_toArray, List.set_cons_zero, List.set_cons_succ, i64_w, i32_w]
       rfl
      refine pure_ (i := 7) (N := some 113) (v := ?_) (a' := ?_) #[Y,Y,Y,Y,Y,Y,Y,Y,Y,Y,Y,N,N,N,N,N,N,N,N] rfl rfl (any_of HT_.out (by kernel_rfl)) (fun _ _ _ h => h) (Or.inl ⟨by rfl, ?_⟩) ?_ ?_
      rotate_left
      ·intro w'
       go_simp
       with_reducible rfl
      rotate_left
      ·simp only [Act.put, List.setIfInBounds_toArray, List.set_cons_zero, List.set_cons_succ, i64_w, i32_w]
       rfl
      refine take_ (i := 11) (N := some 117) (v := ?_) (a' := ?_) #[Y,Y,Y,Y,Y,Y,Y,Y,Y,Y,Y,Y,N,N,N,N,N,N,N] rfl rfl (take_ofW HT_.out HW_.out (by kernel_rfl)) (fun _ _ _ h => h) (Or.inl ⟨by rfl, ?_⟩) hHeld ?_ ?_
      rotate_left
      ·rintro w' ⟨s0, s1, s2⟩
       go_simp
       with_reducible rfl
      rotate_left
      ·simp only [Act.put, List.setIfInBounds_toArray, List.set_cons_zero, List.set_cons_succ, i64_w, i32_w]
       rfl
      refine pure_ (i := 12) (N := some 118) (v := ?_) (a' := ?_) #[Y,Y,Y,Y,Y,Y,Y,Y,Y,Y,Y,Y,Y,N,N,N,N,N,N] rfl rfl (any_of HT_.out (by kernel_rfl)) (fun _ _ _ h => h) (Or.inl ⟨by rfl, ?_⟩) ?_ ?_
      rotate_left
      ·intro w'
       go_simp
       with_reducible rfl
      rotate_left
      ·simp only [Act.put, List.setIfInBounds_toArray, List.set_cons_zero, List.set_cons_succ, i64_w, i32_w]
       rfl
      refine pure_ (i := 13) (N := some 119) (v := ?_) (a' := ?_) #[Y,Y,Y,Y,Y,Y,Y,Y,Y,Y,Y,Y,Y,Y,N,N,N,N,N] rfl rfl (any_of HT_.out (by kernel_rfl)) (fun _ _ _ h => h) (Or.inl ⟨by rfl, ?_⟩) ?_ ?_
      rotate_left
      ·intro w'
       go_simp
       with_reducible rfl
      rotate_left
      ·simp only [Act.put, List.setIfInBounds_toArray, List.set_cons_zero, List.set_cons_succ, i64_w, i32_w]
       rfl
      refine pure_ (i := 14) (N := some 120) (v := ?_) (a' := ?_) #[Y,Y,Y,Y,Y,Y,Y,Y,Y,Y,Y,Y,Y,Y,Y,N,N,N,N] rfl rfl (any_of HT_.out (by kernel_rfl)) (fun _ _ _ h => h) (Or.inl ⟨by rfl, ?_⟩) ?_ ?_
      rotate_left
      ·intro w'
       go_simp
       with_reducible rfl
      rotate_left
      ·simp only [Act.put, List.setIfInBounds_toArray, List.set_cons_zero, List.set_cons_succ, i64_w, i32_w]
       rfl
      refine one_ (i := 15) (N := some 121) #[Y,Y,Y,Y,Y,Y,Y,Y,Y,Y,Y,Y,Y,Y,Y,Y,N,N,N] rfl rfl (one_of HT_.out (by kernel_rfl)) (by decide) (fun K hK => ?_)
      refine value_ (w1 := ?_) (v := ?_) (by rfl) rfl ?_ ?_
      rotate_left 2
      ·go_simp
       constructor
       ·rfl
       ·rfl
      refine hK.out _ _ ⟨(blk_cell (blk_alloc BK448.out _) 0).trans rfl, (blk_cell (blk_alloc BK448.out _) 1).trans rfl, (blk_cell (blk_alloc BK448.out _) 2).trans rfl⟩ (fun hHeld => ?_)
      clear hK K
      refine norm_ (a' := ?_) ?_ ?_
      rotate_left
      ·show Act.put _ (some 121) _ = _
       simp only [Act.put, List.setIfInBounds_toArray, List.set_cons_zero, List.set_cons_succ, i64_w, i32_w]
       rfl
      refine one_ (i := 16) (N := some 122) #[Y,Y,Y,Y,Y,Y,Y,Y,Y,Y,Y,Y,Y,Y,Y,Y,Y,N,N] rfl rfl (one_of HT_.out (by kernel_rfl)) (by decide) (fun K hK => ?_)
      refine Kd.R_append_step k76 (w0 := w) w.heap.size (by rfl) (.tmp 107) (.tmp 121) 23 76 (.agg #[(.string ⟨#[]⟩), (.int .i64 0)]) 24 rfl Try.underlying23 info76 rfl (by decide) (by omega) u449002 x449002_2 (⟨a0.extract ((ji27) : Int).toNat ((ji60) : Int).toNat, wrap64 ((wrap64 ((wrap64 (bt a0 (ji60))) * 256)) + (wrap64 (bt a0 (ji64))))⟩ : S76) [.string (a0.extract ((ji27) : Int).toNat ((ji60) : Int).toNat), .int .i64 (wrap64 ((wrap64 ((wrap64 (bt a0 (ji60))) * 256)) + (wrap64 (bt a0 (ji64)))))] (fun _ => True) (fun _ => False) rfl rfl ?aP (fun _ hk => hk.elim) ?aF ?aO ?aB ?aS ?aL ?_
      (case aP => exact k76_mkM _ _ _ (⟨a0.extract ((ji27) : Int).toNat ((ji60) : Int).toNat, wrap64 ((wrap64 ((wrap64 (bt a0 (ji60))) * 256)) + (wrap64 (bt a0 (ji64))))⟩ : S76))
      (case aB => exact (kl HB))
      (case aF => exact (fun _ _ => trivial))
      (case aO => exact (kr HO_449002))
      (case aS => exact (below_size (kl HB)))
      (case aL => have := LMc68.out; omega)
      intro v454 w72 ho hb hg hat
      rw [← Ny453.out] at ho
      replace HO_449001 := aM (Kd.R_over' (kr HO_449001) (Kd.R_typed (kr HO_449002)) (by decide) hg)
      replace BK447 := aM (blk_grown (kb BK447) hg (Kd.R_ne HO_449002.out BK447.out (by decide)))
      replace BK448 := aM (blk_grown (kb BK448) hg (Kd.R_ne HO_449002.out BK448.out (by decide)))
      replace HB := aM (hb)
      have HO455 := aM (ho)
      clear HO_449002
      clear ho hb hg hat
      obtain ⟨Ao73, co73, eo73⟩ := Kd.R_slice HO455.out
      (first | subst eo73 | (injection eo73 with f1_ f2_ f3_; have f4_ := f1_.symm; have f5_ := f3_.symm; clear f1_ f2_ f3_; subst f4_; subst f5_))
      refine hK.out _ _ ⟨bc BK448 0, bc BK448 1, bc BK448 2⟩ (fun hHeld => ?_)
      clear hK K
      refine norm_ (a' := ?_) ?_ ?_
      rotate_left
      ·show Act.put _ (some 122) _ = _
       simp only [Act.put, List.setIfInBounds_toArray, List.set_cons_zero, List.set_cons_succ, i64_w, i32_w]
       rfl
      refine pure_ (i := 17) (N := some 123) (v := ?_) (a' := ?_) #[Y,Y,Y,Y,Y,Y,Y,Y,Y,Y,Y,Y,Y,Y,Y,Y,Y,Y,N] rfl rfl (any_of HT_.out (by kernel_rfl)) (fun _ _ _ h => h) (Or.inl ⟨by rfl, ?_⟩) ?_ ?_
      rotate_left
      ·intro w'
       go_simp
       with_reducible rfl
      rotate_left
      ·simp only [Act.put, List.setIfInBounds_toArray, List.set_cons_zero, List.set_cons_succ, i64_w, i32_w]
       rfl
      refine last_ (i := 18) (N := none) #[Y,Y,Y,Y,Y,Y,Y,Y,Y,Y,Y,Y,Y,Y,Y,Y,Y,Y,Y] rfl rfl (one_of HT_.out (by kernel_rfl)) (by decide) (fun K hK => ?_)
      have hs74 : w72.cell? ⟨gb448, 2, none⟩ = some (u449002) := bc BK448 2
      have hfs74 := blk_frozen BK448.out 2
      have hns74_0 := NB447_448.out
      have hms74_0 := NB448_447.out
      refine skip_ (w1 := ?_) (by rfl) rfl ?_ ?_
      rotate_left
      ·go_simp
       rfl
      refine hK.out _ _ ?_
      clear hK K
      refine done_ (done_of HT_.out (by kernel_rfl)) ?_
      try go_wp2
      go_roundg k2
      case measure => have := HJ7.out; have := HK2.out; omega
      case rel => exact ⟨(wrap64 ((ji60) + 2)), (x448000_2), (x449001_2), (y453), (u449001), (.slice Ao73 y453.length co73), (by first | rfl | (simp; done) | (simp only [← hji60] <;> (first | rfl | simp)) | (simp [*]; done)), H', ⟨by have := HJ7.out; have := HK2.out; omega⟩, ⟨by exact Kd.R_mono (Kd.R_far (Kd.R_types HO_449001.out BK448.out (by decide)) (fun _ hk => hk.2) _) (fun _ hk => trivial)⟩, ⟨by exact Kd.R_mono (Kd.R_far (Kd.R_types HO455.out BK448.out (by decide)) (fun _ hk => hk.2) _) (fun _ hk => trivial)⟩, ⟨kf NB447_448 BK447⟩, ⟨by (with_reducible repeat (first | refine blk_drewN ?_ _ | refine blk_drew ?_ | refine blk_alloc ?_ _)); refine blk_put (cs := #[.bool false, u449001, u449002]) ?_ 2 _ rfl; exact kb BK448⟩, ⟨kl HB⟩⟩
     rw [if_pos c31] at H
     subst c31
     by_cases c32 : (wrap64 ((ji27) + (wrap64 (bt a0 x5_2)))) ≥ (a0.size : Int)
     ·rw [if_pos c32] at H
      have c32b0 : decide ((a0.size : Int) ≤ (wrap64 ((ji27) + (wrap64 (bt a0 x5_2))))) = true := decide_eq_true c32
      clear c32
      simp only [Option.some.injEq, Prod.mk.injEq] at H
      obtain ⟨rfl, rfl, rfl, rfl⟩ := H
      have p23 : 0 ≤ (x5_2 : Int) := of_decide_eq_true (by first | (with_reducible assumption) | assumption)
      have q23 : x5_2 < (a0.size : Int) := of_decide_eq_true (by first | (with_reducible assumption) | assumption)
      have hx23 := bt_at a0 x5_2
      replace p23 := eq_true p23
      replace q23 := eq_true q23
      have hnb33 := NB448_447.out
      have hnc33 := NB447_448.out
      have hcz34_0 : wr.cell? ⟨gb448, 0, none⟩ = some (.bool true) := bc BK448 0
      have hcz34_1 : wr.cell? ⟨gb448, 1, none⟩ = some (u449001) := bc BK448 1
      have hcz34_2 : wr.cell? ⟨gb448, 2, none⟩ = some (u449002) := bc BK448 2
      have hfz34_0 := blk_frozen BK448.out 0
      have hfz34_1 := blk_frozen BK448.out 1
      have hfz34_2 := blk_frozen BK448.out 2
      have hcz35_0 : wr.cell? ⟨gb447, 0, none⟩ = some (.bool x448000_2) := bc BK447 0
      have hcz35_1 : wr.cell? ⟨gb447, 1, none⟩ = some (.slice none 0 0) := bc BK447 1
      have hcz35_2 : wr.cell? ⟨gb447, 2, none⟩ = some (.slice none 0 0) := bc BK447 2
      have hfz35_0 := blk_frozen BK447.out 0
      have hfz35_1 := blk_frozen BK447.out 1
      have hfz35_2 := blk_frozen BK447.out 2
      go_wp2
      refine bodyPost_ret (results_ct rfl _ _ gb447 25 #[.bool false, .slice none 0 0, .slice none 0 0] (0, 0) _ rfl (by (with_reducible repeat (first | refine blk_drewN ?_ _ | refine blk_drew ?_ | refine blk_alloc ?_ _)); refine blk_put (cs := #[.bool false, .slice none 0 0, .slice none 0 0]) ?_ 2 _ rfl; (with_reducible repeat (first | refine blk_drewN ?_ _ | refine blk_drew ?_ | refine blk_alloc ?_ _)); refine blk_put (cs := #[.bool false, .slice none 0 0, .slice none 0 0]) ?_ 1 _ rfl; (with_reducible repeat (first | refine blk_drewN ?_ _ | refine blk_drew ?_ | refine blk_alloc ?_ _)); refine blk_put (cs := #[.bool x448000_2, .slice none 0 0, .slice none 0 0]) ?_ 0 _ rfl; exact kb BK447) Try.underlying25 rfl (by kernel_rfl)) rfl ?_
      exact ⟨_, _, by first | rfl | (simp [errW_none, errW_some] <;> rfl) | (simp only [← hji27]; first | rfl | (simp [errW_none, errW_some] <;> rfl)) | (simp [*, errW_none, errW_some] <;> rfl), by first | exact Kd.R_nil _ _ _ _ _ | exact Kd.N_nil _ _ _ _ _ | exact Kd.V_nil _ _ _ _ _ | exact Kd.Q_nil _ _ _ _ _ | exact Kd.S_nil _ _ _ _ _, by first | exact Kd.R_nil _ _ _ _ _ | exact Kd.N_nil _ _ _ _ _ | exact Kd.V_nil _ _ _ _ _ | exact Kd.Q_nil _ _ _ _ _ | exact Kd.S_nil _ _ _ _ _, kl HB⟩
     rw [if_neg c32] at H
     have c32b0 : decide ((a0.size : Int) ≤ (wrap64 ((ji27) + (wrap64 (bt a0 x5_2))))) = false := decide_eq_false c32
     clear c32
     obtain ⟨ji36, hji36⟩ : ∃ j_ : Int, (wrap64 ((ji27) + (wrap64 (bt a0 x5_2)))) = j_ := ⟨_, rfl⟩
     replace H : (if 0 ≤ (ji36) then (if (ji36) < (a0.size : Int) then (if (wrap64 ((wrap64 ((ji36) + 1)) + (wrap64 (bt a0 (ji36))))) > (a0.size : Int) then (some (false, ([] : List S75), ([] : List S76), 8)) else (if 0 ≤ (wrap64 ((ji36) + 1)) then (if (wrap64 ((ji36) + 1)) ≤ (wrap64 ((wrap64 ((ji36) + 1)) + (wrap64 (bt a0 (ji36))))) then (if (wrap64 ((wrap64 ((ji36) + 1)) + (wrap64 (bt a0 (ji36))))) ≤ (a0.size : Int) then (if x449001_2.length < 4398046511104 then (rf_Decode.l0 k2 a0 (wrap64 ((wrap64 ((ji36) + 1)) + (wrap64 (bt a0 (ji36))))) true (x449001_2 ++ [(⟨a0.extract ((ji27) : Int).toNat ((ji36) : Int).toNat, a0.extract ((wrap64 ((ji36) + 1)) : Int).toNat ((wrap64 ((wrap64 ((ji36) + 1)) + (wrap64 (bt a0 (ji36))))) : Int).toNat⟩ : S75)]) x449002_2) else (none)) else (none)) else (none)) else (none))) else (none)) else (none)) = some (r1, r2, r3, r4) := by first | (rw [hji36] at H; exact H) | (simp only [hji36] at H ⊢; exact H)
     (try rw [hji36] at c29b0)
     (try rw [hji36] at c29b1)
     (try rw [hji36] at c29)
     (try rw [hji36] at c30b0)
     (try rw [hji36] at c30b1)
     (try rw [hji36] at c30)
     (try rw [hji36] at c32b0)
     have hji36w : (IntKind.i64.wrap ((ji27) + (wrap64 (bt a0 x5_2)))) = ji36 := (i64_w _).trans hji36
     by_cases c37 : 0 ≤ (ji36)
     rotate_left
     ·rw [if_neg c37] at H
      exact absurd H (by simp)
     rw [if_pos c37] at H
     have c37b0 : decide (0 ≤ (ji36)) = true := decide_eq_true c37
     clear c37
     by_cases c38 : (ji36) < (a0.size : Int)
     rotate_left
     ·rw [if_neg c38] at H
      exact absurd H (by simp)
     rw [if_pos c38] at H
     have c38b0 : decide ((ji36) < (a0.size : Int)) = true := decide_eq_true c38
     clear c38
     by_cases c40 : (wrap64 ((wrap64 ((ji36) + 1)) + (wrap64 (bt a0 (ji36))))) > (a0.size : Int)
     ·rw [if_pos c40] at H
      have c40b0 : decide ((a0.size : Int) < (wrap64 ((wrap64 ((ji36) + 1)) + (wrap64 (bt a0 (ji36)))))) = true := decide_eq_true c40
      clear c40
      simp only [Option.some.injEq, Prod.mk.injEq] at H
      obtain ⟨rfl, rfl, rfl, rfl⟩ := H
      have p23 : 0 ≤ (x5_2 : Int) := of_decide_eq_true (by first | (with_reducible assumption) | assumption)
      have q23 : x5_2 < (a0.size : Int) := of_decide_eq_true (by first | (with_reducible assumption) | assumption)
      have hx23 := bt_at a0 x5_2
      replace p23 := eq_true p23
      replace q23 := eq_true q23
      have hnb41 := NB448_447.out
      have hnc41 := NB447_448.out
      have hcz42_0 : wr.cell? ⟨gb448, 0, none⟩ = some (.bool true) := bc BK448 0
      have hcz42_1 : wr.cell? ⟨gb448, 1, none⟩ = some (u449001) := bc BK448 1
      have hcz42_2 : wr.cell? ⟨gb448, 2, none⟩ = some (u449002) := bc BK448 2
      have hfz42_0 := blk_frozen BK448.out 0
      have hfz42_1 := blk_frozen BK448.out 1
      have hfz42_2 := blk_frozen BK448.out 2
      have p39 : 0 ≤ ((ji36) : Int) := of_decide_eq_true (by first | (with_reducible assumption) | assumption)
      have q39 : (ji36) < (a0.size : Int) := of_decide_eq_true (by first | (with_reducible assumption) | assumption)
      have hx39 := bt_at a0 (ji36)
      replace p39 := eq_true p39
      replace q39 := eq_true q39
      have hcz43_0 : wr.cell? ⟨gb447, 0, none⟩ = some (.bool x448000_2) := bc BK447 0
      have hcz43_1 : wr.cell? ⟨gb447, 1, none⟩ = some (.slice none 0 0) := bc BK447 1
      have hcz43_2 : wr.cell? ⟨gb447, 2, none⟩ = some (.slice none 0 0) := bc BK447 2
      have hfz43_0 := blk_frozen BK447.out 0
      have hfz43_1 := blk_frozen BK447.out 1
      have hfz43_2 := blk_frozen BK447.out 2
      go_wp2
      refine bodyPost_ret (results_ct rfl _ _ gb447 25 #[.bool false, .slice none 0 0, .slice none 0 0] (0, 0) _ rfl (by (with_reducible repeat (first | refine blk_drewN ?_ _ | refine blk_drew ?_ | refine blk_alloc ?_ _)); refine blk_put (cs := #[.bool false, .slice none 0 0, .slice none 0 0]) ?_ 2 _ rfl; (with_reducible repeat (first | refine blk_drewN ?_ _ | refine blk_drew ?_ | refine blk_alloc ?_ _)); refine blk_put (cs := #[.bool false, .slice none 0 0, .slice none 0 0]) ?_ 1 _ rfl; (with_reducible repeat (first | refine blk_drewN ?_ _ | refine blk_drew ?_ | refine blk_alloc ?_ _)); refine blk_put (cs := #[.bool x448000_2, .slice none 0 0, .slice none 0 0]) ?_ 0 _ rfl; exact kb BK447) Try.underlying25 rfl (by kernel_rfl)) rfl ?_
      exact ⟨_, _, by first | rfl | (simp [errW_none, errW_some] <;> rfl) | (simp only [← hji27, ← hji36]; first | rfl | (simp [errW_none, errW_some] <;> rfl)) | (simp [*, errW_none, errW_some] <;> rfl), by first | exact Kd.R_nil _ _ _ _ _ | exact Kd.N_nil _ _ _ _ _ | exact Kd.V_nil _ _ _ _ _ | exact Kd.Q_nil _ _ _ _ _ | exact Kd.S_nil _ _ _ _ _, by first | exact Kd.R_nil _ _ _ _ _ | exact Kd.N_nil _ _ _ _ _ | exact Kd.V_nil _ _ _ _ _ | exact Kd.Q_nil _ _ _ _ _ | exact Kd.S_nil _ _ _ _ _, kl HB⟩
     rw [if_neg c40] at H
     have c40b0 : decide ((a0.size : Int) < (wrap64 ((wrap64 ((ji36) + 1)) + (wrap64 (bt a0 (ji36)))))) = false := decide_eq_false c40
     clear c40
     obtain ⟨ji45, hji45⟩ : ∃ j_ : Int, (wrap64 ((ji36) + 1)) = j_ := ⟨_, rfl⟩
     replace H : (if 0 ≤ (ji45) then (if (ji45) ≤ (wrap64 ((ji45) + (wrap64 (bt a0 (ji36))))) then (if (wrap64 ((ji45) + (wrap64 (bt a0 (ji36))))) ≤ (a0.size : Int) then (if x449001_2.length < 4398046511104 then (rf_Decode.l0 k2 a0 (wrap64 ((ji45) + (wrap64 (bt a0 (ji36))))) true (x449001_2 ++ [(⟨a0.extract ((ji27) : Int).toNat ((ji36) : Int).toNat, a0.extract ((ji45) : Int).toNat ((wrap64 ((ji45) + (wrap64 (bt a0 (ji36))))) : Int).toNat⟩ : S75)]) x449002_2) else (none)) else (none)) else (none)) else (none)) = some (r1, r2, r3, r4) := by first | (rw [hji45] at H; exact H) | (simp only [hji45] at H ⊢; exact H)
     (try rw [hji45] at c40b0)
     have hji45w : (IntKind.i64.wrap ((ji36) + 1)) = ji45 := (i64_w _).trans hji45
     by_cases c46 : 0 ≤ (ji45)
     rotate_left
     ·rw [if_neg c46] at H
      exact absurd H (by simp)
     rw [if_pos c46] at H
     have c46b0 := eq_true c46
     have c46b1 : decide (0 ≤ (ji45)) = true := decide_eq_true c46
     clear c46
     by_cases c47 : (ji45) ≤ (wrap64 ((ji45) + (wrap64 (bt a0 (ji36)))))
     rotate_left
     ·rw [if_neg c47] at H
      exact absurd H (by simp)
     rw [if_pos c47] at H
     have c47b0 := eq_true c47
     have c47b1 : decide ((ji45) ≤ (wrap64 ((ji45) + (wrap64 (bt a0 (ji36)))))) = true := decide_eq_true c47
     by_cases c48 : (wrap64 ((ji45) + (wrap64 (bt a0 (ji36))))) ≤ (a0.size : Int)
     rotate_left
     ·rw [if_neg c48] at H
      exact absurd H (by simp)
     rw [if_pos c48] at H
     have c48b0 := eq_true c48
     have c48b1 : decide ((wrap64 ((ji45) + (wrap64 (bt a0 (ji36))))) ≤ (a0.size : Int)) = true := decide_eq_true c48
     by_cases c49 : x449001_2.length < 4398046511104
     rotate_left
     ·rw [if_neg c49] at H
      exact absurd H (by simp)
     rw [if_pos c49] at H
     have LMc49 := aM c49
     clear c49
     obtain ⟨y450, hy450⟩ : ∃ y_ : List S75, y_ = (x449001_2 ++ [(⟨a0.extract ((ji27) : Int).toNat ((ji36) : Int).toNat, a0.extract ((ji45) : Int).toNat ((wrap64 ((ji45) + (wrap64 (bt a0 (ji36))))) : Int).toNat⟩ : S75)]) := ⟨_, rfl⟩
     replace H : (rf_Decode.l0 k2 a0 (wrap64 ((ji45) + (wrap64 (bt a0 (ji36))))) true y450 x449002_2) = some (r1, r2, r3, r4) := by first | (rw [hy450]; with_reducible exact H) | (have H2_ := (Option.bind_some _ _).symm.trans H; rw [hy450]; with_reducible exact H2_) | (have H2_ := (Option.bind_some _ _).symm.trans H; with_reducible exact H2_) | with_reducible exact H | (rw [hy450]; exact H) | exact H
     have Ny450 := aM hy450
     clear hy450
     have H' := aM H
     clear H
     have p23 : 0 ≤ (x5_2 : Int) := of_decide_eq_true (by first | (with_reducible assumption) | assumption)
     have q23 : x5_2 < (a0.size : Int) := of_decide_eq_true (by first | (with_reducible assumption) | assumption)
     have hx23 := bt_at a0 x5_2
     replace p23 := eq_true p23
     replace q23 := eq_true q23
     have hnb50 := NB448_447.out
     have hnc50 := NB447_448.out
     have hcz51_0 : wr.cell? ⟨gb448, 0, none⟩ = some (.bool true) := bc BK448 0
     have hcz51_1 : wr.cell? ⟨gb448, 1, none⟩ = some (u449001) := bc BK448 1
     have hcz51_2 : wr.cell? ⟨gb448, 2, none⟩ = some (u449002) := bc BK448 2
     have hfz51_0 := blk_frozen BK448.out 0
     have hfz51_1 := blk_frozen BK448.out 1
     have hfz51_2 := blk_frozen BK448.out 2
     have p39 : 0 ≤ ((ji36) : Int) := of_decide_eq_true (by first | (with_reducible assumption) | assumption)
     have q39 : (ji36) < (a0.size : Int) := of_decide_eq_true (by first | (with_reducible assumption) | assumption)
     have hx39 := bt_at a0 (ji36)
     replace p39 := eq_true p39
     replace q39 := eq_true q39
     have p44 : 0 ≤ ((ji36) : Int) := of_decide_eq_true (by first | (with_reducible assumption) | assumption)
     have q44 : (ji36) < (a0.size : Int) := of_decide_eq_true (by first | (with_reducible assumption) | assumption)
     have hx44 := bt_at a0 (ji36)
     replace p44 := eq_true p44
     replace q44 := eq_true q44
     try go_wp2
     replace HO_449001 := aM (Kd.R_drew HO_449001.out)
     replace HO_449002 := aM (Kd.R_drew HO_449002.out)
     replace BK447 := aM (blk_drew BK447.out)
     replace BK448 := aM (blk_drew BK448.out)
     replace HB := aM (below_drew1 HB.out)
     refine start_ (n := 16) (S := fun w' => w'.cell? ⟨gb448, 0, none⟩ = some (.bool true) ∧ w'.cell? ⟨gb448, 1, none⟩ = some (u449001) ∧ w'.cell? ⟨gb448, 2, none⟩ = some (u449002)) (ds := [15]) #[N,N,N,N,N,N,N,N,N,N,N,N,N,N,N,N] (by kernel_rfl) rfl rfl ⟨bc BK448 0, bc BK448 1, bc BK448 2⟩ (fun hHeld => ?_); refine with_tabW rf_Decode.tab19 rf_Decode.bits19 (fun HT_ HW_ => ?_)
     generalize wr.drew = w52 at HO_449001 HO_449002 BK447 BK448 HB hHeld ⊢
     refine pure_ (i := 0) (N := some 81) (v := ?_) (a' := ?_) #[Y,N,N,N,N,N,N,N,N,N,N,N,N,N,N,N] rfl rfl (any_of HT_.out (by kernel_rfl)) (fun _ _ _ h => h) (Or.inl ⟨by rfl, ?_⟩) ?_ ?_
     rotate_left
     ·intro w'
      go_simp
      with_reducible rfl
     rotate_left
     ·simp only [Act.put, List.setIfInBounds_toArray, List.set_cons_zero, List.set_cons_succ, i64_w, i32_w]
      rfl
     refine pure_ (i := 2) (N := some 83) (v := ?_) (a' := ?_) #[Y,N,Y,N,N,N,N,N,N,N,N,N,N,N,N,N] rfl rfl (any_of HT_.out (by kernel_rfl)) (fun _ _ _ h => h) (Or.inl ⟨by rfl, ?_⟩) ?_ ?_
     rotate_left
     ·intro w'
      go_simp
      with_reducible rfl
     rotate_left
     ·simp only [Act.put, List.setIfInBounds_toArray, List.set_cons_zero, List.set_cons_succ, i64_w, i32_w]
      rfl
     refine pure_ (i := 3) (N := some 84) (v := ?_) (a' := ?_) #[Y,N,Y,Y,N,N,N,N,N,N,N,N,N,N,N,N] rfl rfl (any_of HT_.out (by kernel_rfl)) (fun _ _ _ h => h) (Or.inl ⟨by rfl, ?_⟩) ?_ ?_
     rotate_left
     ·intro w'
      go_simp
      with_reducible rfl
     rotate_left
     ·simp only [Act.put, List.setIfInBounds_toArray, List.set_cons_zero, List.set_cons_succ, i64_w, i32_w]
      rfl
     refine pure_ (i := 4) (N := some 85) (v := ?_) (a' := ?_) #[Y,N,Y,Y,Y,N,N,N,N,N,N,N,N,N,N,N] rfl rfl (any_of HT_.out (by kernel_rfl)) (fun _ _ _ h => h) (Or.inl ⟨by rfl, ?_⟩) ?_ ?_
     rotate_left
     ·intro w'
      go_simp
      with_reducible rfl
     rotate_left
     ·simp only [Act.put, List.setIfInBounds_toArray, List.set_cons_zero, List.set_cons_succ, i64_w, i32_w]
      rfl
     refine pure_ (i := 5) (N := some 86) (v := ?_) (a' := ?_) #[Y,N,Y,Y,Y,Y,N,N,N,N,N,N,N,N,N,N] rfl rfl (any_of HT_.out (by kernel_rfl)) (fun _ _ _ h => h) (Or.inl ⟨by rfl, ?_⟩) ?_ ?_
     rotate_left
     ·intro w'
      go_simp
      with_reducible rfl
     rotate_left
     ·simp only [Act.put, List.setIfInBounds_toArray, List.set_cons_zero, List.set_cons_succ, i64_w, i32_w]
      rfl
     refine pure_ (i := 6) (N := some 87) (v := ?_) (a' := ?_) #[Y,N,Y,Y,Y,Y,Y,N,N,N,N,N,N,N,N,N] rfl rfl (any_of HT_.out (by kernel_rfl)) (fun _ _ _ h => h) (Or.inl ⟨by rfl, ?_⟩) ?_ ?_
     rotate_left
     ·intro w'
      go_simp
      with_reducible rfl
     rotate_left
     ·simp only [Act.put, List.setIfInBounds_toArray, List.set_cons_zero, List.set_cons_succ, i64_w, i32_w]
      rfl
     refine pure_ (i := 7) (N := some 88) (v := ?_) (a' := ?_) #[Y,N,Y,Y,Y,Y,Y,Y,N,N,N,N,N,N,N,N] rfl rfl (any_of HT_.out (by kernel_rfl)) (fun _ _ _ h => h) (Or.inl ⟨by rfl, ?_⟩) ?_ ?_
     rotate_left
     ·intro w'
      go_simp
      with_reducible rfl
     rotate_left
     ·simp only [Act.put, List.setIfInBounds_toArray, List.set_cons_zero, List.set_cons_succ, i64_w, i32_w]
      rfl
     refine pure_ (i := 8) (N := some 89) (v := ?_) (a' := ?_) #[Y,N,Y,Y,Y,Y,Y,Y,Y,N,N,N,N,N,N,N] rfl rfl (any_of HT_.out (by kernel_rfl)) (fun _ _ _ h => h) (Or.inl ⟨by rfl, ?_⟩) ?_ ?_
     rotate_left
     ·intro w'
      go_simp
      with_reducible rfl
     rotate_left
     ·simp only [Act.put, List.setIfInBounds_toArray, List.set_cons_zero, List.set_cons_succ, i64_w, i32_w]
      rfl
     refine pure_ (i := 9) (N := some 90) (v := ?_) (a' := ?_) #[Y,N,Y,Y,Y,Y,Y,Y,Y,Y,N,N,N,N,N,N] rfl rfl (any_of HT_.out (by kernel_rfl)) (fun _ _ _ h => h) (Or.inl ⟨by rfl, ?_⟩) ?_ ?_
     rotate_left
     ·intro w'
      go_simp
      with_reducible rfl
     rotate_left
     ·simp only [Act.put, List.setIfInBounds_toArray, List.set_cons_zero, List.set_cons_succ, i64_w, i32_w]
      rfl
     refine pure_ (i := 10) (N := some 91) (v := ?_) (a' := ?_) #[Y,N,Y,Y,Y,Y,Y,Y,Y,Y,Y,N,N,N,N,N] rfl rfl (any_of HT_.out (by kernel_rfl)) (fun _ _ _ h => h) (Or.inl ⟨by rfl, ?_⟩) ?_ ?_
     rotate_left
     ·intro w'
      go_simp
      with_reducible rfl
     rotate_left
     ·simp only [Act.put, List.setIfInBounds_toArray, List.set_cons_zero, List.set_cons_succ, i64_w, i32_w]
      rfl
     refine pure_ (i := 11) (N := some 92) (v := ?_) (a' := ?_) #[Y,N,Y,Y,Y,Y,Y,Y,Y,Y,Y,Y,N,N,N,N] rfl rfl (any_of HT_.out (by kernel_rfl)) (fun _ _ _ h => h) (Or.inl ⟨by rfl, ?_⟩) ?_ ?_
     rotate_left
     ·intro w'
      go_simp
      with_reducible rfl
     rotate_left
     ·simp only [Act.put, List.setIfInBounds_toArray, List.set_cons_zero, List.set_cons_succ, i64_w, i32_w]
      rfl
     refine take_ (i := 1) (N := some 82) (v := ?_) (a' := ?_) #[Y,Y,Y,Y,Y,Y,Y,Y,Y,Y,Y,Y,N,N,N,N] rfl rfl (take_ofW HT_.out HW_.out (by kernel_rfl)) (fun _ _ _ h => h) (Or.inl ⟨by rfl, ?_⟩) hHeld ?_ ?_
     rotate_left
     ·rintro w' ⟨s0, s1, s2⟩
      go_simp
      with_reducible rfl
     rotate_left
     ·simp only [Act.put, List.setIfInBounds_toArray, List.set_cons_zero, List.set_cons_succ, i64_w, i32_w]
      rfl
     refine one_ (i := 12) (N := some 93) #[Y,Y,Y,Y,Y,Y,Y,Y,Y,Y,Y,Y,Y,N,N,N] rfl rfl (one_of HT_.out (by kernel_rfl)) (by decide) (fun K hK => ?_)
     refine value_ (w1 := ?_) (v := ?_) (by rfl) rfl ?_ ?_
     rotate_left 2
     ·go_simp
      constructor
      ·rfl
      ·rfl
     refine hK.out _ _ ⟨(blk_cell (blk_alloc BK448.out _) 0).trans rfl, (blk_cell (blk_alloc BK448.out _) 1).trans rfl, (blk_cell (blk_alloc BK448.out _) 2).trans rfl⟩ (fun hHeld => ?_)
     clear hK K
     refine norm_ (a' := ?_) ?_ ?_
     rotate_left
     ·show Act.put _ (some 93) _ = _
      simp only [Act.put, List.setIfInBounds_toArray, List.set_cons_zero, List.set_cons_succ, i64_w, i32_w]
      rfl
     refine one_ (i := 13) (N := some 94) #[Y,Y,Y,Y,Y,Y,Y,Y,Y,Y,Y,Y,Y,Y,N,N] rfl rfl (one_of HT_.out (by kernel_rfl)) (by decide) (fun K hK => ?_)
     refine Kd.R_append_step k75 (w0 := w) w.heap.size (by rfl) (.tmp 82) (.tmp 93) 22 75 (.agg #[(.string ⟨#[]⟩), (.string ⟨#[]⟩)]) 32 rfl Try.underlying22 info75 rfl (by decide) (by omega) u449001 x449001_2 (⟨a0.extract ((ji27) : Int).toNat ((ji36) : Int).toNat, a0.extract ((ji45) : Int).toNat ((wrap64 ((ji45) + (wrap64 (bt a0 (ji36))))) : Int).toNat⟩ : S75) [.string (a0.extract ((ji27) : Int).toNat ((ji36) : Int).toNat), .string (a0.extract ((ji45) : Int).toNat ((wrap64 ((ji45) + (wrap64 (bt a0 (ji36))))) : Int).toNat)] (fun _ => True) (fun _ => False) rfl rfl ?aP (fun _ hk => hk.elim) ?aF ?aO ?aB ?aS ?aL ?_
     (case aP => exact k75_mkM _ _ _ (⟨a0.extract ((ji27) : Int).toNat ((ji36) : Int).toNat, a0.extract ((ji45) : Int).toNat ((wrap64 ((ji45) + (wrap64 (bt a0 (ji36))))) : Int).toNat⟩ : S75))
     (case aB => exact (kl HB))
     (case aF => exact (fun _ _ => trivial))
     (case aO => exact (kr HO_449001))
     (case aS => exact (below_size (kl HB)))
     (case aL => have := LMc49.out; omega)
     intro v451 w53 ho hb hg hat
     rw [← Ny450.out] at ho
     replace HO_449002 := aM (Kd.R_over' (kr HO_449002) (Kd.R_typed (kr HO_449001)) (by decide) hg)
     replace BK447 := aM (blk_grown (kb BK447) hg (Kd.R_ne HO_449001.out BK447.out (by decide)))
     replace BK448 := aM (blk_grown (kb BK448) hg (Kd.R_ne HO_449001.out BK448.out (by decide)))
     replace HB := aM (hb)
     have HO452 := aM (ho)
     clear HO_449001
     clear ho hb hg hat
     obtain ⟨Ao54, co54, eo54⟩ := Kd.R_slice HO452.out
     (first | subst eo54 | (injection eo54 with f1_ f2_ f3_; have f4_ := f1_.symm; have f5_ := f3_.symm; clear f1_ f2_ f3_; subst f4_; subst f5_))
     refine hK.out _ _ ⟨bc BK448 0, bc BK448 1, bc BK448 2⟩ (fun hHeld => ?_)
     clear hK K
     refine norm_ (a' := ?_) ?_ ?_
     rotate_left
     ·show Act.put _ (some 94) _ = _
      simp only [Act.put, List.setIfInBounds_toArray, List.set_cons_zero, List.set_cons_succ, i64_w, i32_w]
      rfl
     refine pure_ (i := 14) (N := some 95) (v := ?_) (a' := ?_) #[Y,Y,Y,Y,Y,Y,Y,Y,Y,Y,Y,Y,Y,Y,Y,N] rfl rfl (any_of HT_.out (by kernel_rfl)) (fun _ _ _ h => h) (Or.inl ⟨by rfl, ?_⟩) ?_ ?_
     rotate_left
     ·intro w'
      go_simp
      with_reducible rfl
     rotate_left
     ·simp only [Act.put, List.setIfInBounds_toArray, List.set_cons_zero, List.set_cons_succ, i64_w, i32_w]
      rfl
     refine last_ (i := 15) (N := none) #[Y,Y,Y,Y,Y,Y,Y,Y,Y,Y,Y,Y,Y,Y,Y,Y] rfl rfl (one_of HT_.out (by kernel_rfl)) (by decide) (fun K hK => ?_)
     have hs55 : w53.cell? ⟨gb448, 1, none⟩ = some (u449001) := bc BK448 1
     have hfs55 := blk_frozen BK448.out 1
     have hns55_0 := NB447_448.out
     have hms55_0 := NB448_447.out
     refine skip_ (w1 := ?_) (by rfl) rfl ?_ ?_
     rotate_left
     ·go_simp
      rfl
     refine hK.out _ _ ?_
     clear hK K
     refine done_ (done_of HT_.out (by kernel_rfl)) ?_
     try go_wp2
     go_roundg k2
     case measure => have := HJ7.out; have := HK2.out; omega
     case rel => exact ⟨(wrap64 ((ji45) + (wrap64 (bt a0 (ji36))))), (x448000_2), (y450), (x449002_2), (.slice Ao54 y450.length co54), (u449002), (by first | rfl | (simp; done) | (simp only [← hji36, ← hji45] <;> (first | rfl | simp)) | (simp [*]; done)), H', ⟨by have := HJ7.out; have := HK2.out; omega⟩, ⟨by exact Kd.R_mono (Kd.R_far (Kd.R_types HO452.out BK448.out (by decide)) (fun _ hk => hk.2) _) (fun _ hk => trivial)⟩, ⟨by exact Kd.R_mono (Kd.R_far (Kd.R_types HO_449002.out BK448.out (by decide)) (fun _ hk => hk.2) _) (fun _ hk => trivial)⟩, ⟨kf NB447_448 BK447⟩, ⟨by (with_reducible repeat (first | refine blk_drewN ?_ _ | refine blk_drew ?_ | refine blk_alloc ?_ _)); refine blk_put (cs := #[.bool true, u449001, u449002]) ?_ 1 _ rfl; exact kb BK448⟩, ⟨kl HB⟩⟩
end Go.Proofs.Ytfbaejhjppikpaa.P
namespace Go.Proofs.Ytfbaejhjppikpaa.P
open Go.RowKit Go.Proofs.YtfbaejhjppikpaaW.PrintWords Go.Proofs.YtfbaejhjppikpaaW.PrintLast Go.Proofs.YtfbaejhjppikpaaW.PrintMore
open Go.Proofs.YtfbaejhjppikpaaB
theorem map_toE (E : List S47) : (E.map ofE).map toE = E := by rw [List.map_map]; exact List.map_id E
theorem map_toB (B : List S36) : (B.map ofB).map toB = B := by rw [List.map_map]; exact List.map_id B
theorem ext_size (x : ByteArray) (i : Nat) : (x.extract i x.size).size = x.size - i := by rw [ByteArray.size_extract]; omega
theorem bt_ext (x : ByteArray) (i j : Nat) : bt (x.extract i x.size) (j : Int) = bt x ((i + j : Nat) : Int) := by
  rw [bt_bytesOf, bt_bytesOf, bytesOf_extract, List.take_of_length_le (by rw [bytesOf_length]; omega), List.getD_eq_getElem?_getD, List.getD_eq_getElem?_getD, List.getElem?_drop]
theorem ext_ext (x : ByteArray) (i j : Nat) (hi : i ≤ x.size) : (x.extract i x.size).extract j (x.extract i x.size).size = x.extract (i + j) x.size := by
  rw [ByteArray.extract_extract, ext_size, show min (i + (x.size - i)) x.size = x.size from by omega]
theorem ext_head (x : ByteArray) (i n : Nat) (h : i + n ≤ x.size) : (x.extract i x.size).extract 0 n = x.extract i (i + n) := by
  rw [ByteArray.extract_extract, show min (i + n) x.size = i + n from by omega, Nat.add_zero]
theorem text_at (x : ByteArray) (i n : Nat) (hi : i < x.size) (hn : bt x (i : Int) = (n : Int)) : hasText (x.extract i x.size) = decide (i + 1 + n ≤ x.size) ∧ (i + 1 + n ≤ x.size → headOf (x.extract i x.size) = x.extract (i + 1) (i + 1 + n) ∧ restOf (x.extract i x.size) = x.extract (i + 1 + n) x.size) := by
  have hb : bt (x.extract i x.size) 0 = (n : Int) := by have := bt_ext x i 0; rw [Nat.add_zero, hn] at this; exact this
  have hl : lenOf (x.extract i x.size) = n := by unfold lenOf; rw [hb]; omega
  refine ⟨?_, fun h => ?_⟩
  · unfold hasText
    rw [hl, ext_size, decide_eq_true (by omega : 0 < x.size - i), Bool.true_and]
    exact decide_eq_decide.2 (by omega)
  · unfold headOf restOf
    rw [hl, ext_ext x i 1 (by omega), ext_head x (i + 1) n h, ext_ext x (i + 1) n (by omega)]
    exact ⟨rfl, rfl⟩
theorem no_text (x : ByteArray) : hasText (x.extract x.size x.size) = false := by
  unfold hasText
  rw [ext_size, Nat.sub_self]; rfl
def finD (a : Bool) (R : Option (List S47 × List S36)) : Bool × List S75 × List S76 × Int :=
  match R with
  | none => (false, [], [], 8)
  | some (E, B) => if mayB a E B then (a, E.map ofE, B.map ofB, 0) else (false, [], [], 4)
theorem bt_nat (x : ByteArray) (i : Int) : ∃ n : Nat, bt x i = (n : Int) ∧ n ≤ 255 := by
  have := bt_range x i
  exact ⟨(bt x i).toNat, by omega, by omega⟩
theorem decR_end (D : Nat) (a : Bool) (s : ByteArray) (E : List S47) (B : List S36) (h : s.size = 0) : decL (D + 1) a s E B = some (E, B) := by
  simp only [decL]; rw [if_pos h]
theorem decR_no (D : Nat) (a : Bool) (s : ByteArray) (E : List S47) (B : List S36) (h : s.size ≠ 0) (h' : hasText s = false) : decL (D + 1) a s E B = none := by
  simp only [decL]; rw [if_neg h, h']; rfl
theorem decR_t (D : Nat) (s : ByteArray) (E : List S47) (B : List S36) (h : s.size ≠ 0) (h' : hasText s = true) : decL (D + 1) true s E B = if hasText (restOf s) then decL D true (restOf (restOf s)) (E ++ [⟨headOf s, headOf (restOf s)⟩]) B else none := by
  simp only [decL]; rw [if_neg h, h']; rfl
theorem decR_f (D : Nat) (s : ByteArray) (E : List S47) (B : List S36) (h : s.size ≠ 0) (h' : hasText s = true) : decL (D + 1) false s E B = if 2 ≤ (restOf s).size then decL D false ((restOf s).extract 2 (restOf s).size) E (B ++ [⟨headOf s, page2 (restOf s)⟩]) else none := by
  simp only [decL]; rw [if_neg h, h']; rfl
theorem wrap_of (n : Int) (h : -1000000000 ≤ n) (h' : n ≤ 1000000000) : wrap64 n = n := by unfold wrap64; omega
theorem wrap_two (i n : Nat) (hi : i ≤ 100000) (hn : n ≤ 100000) : wrap64 (((i + 1 : Nat) : Int) + (n : Int)) = ((i + 1 + n : Nat) : Int) := by rw [wrap_of _ (by omega) (by omega)]; omega
theorem page_at (x : ByteArray) (p : Nat) : wrap64 (wrap64 (wrap64 (bt x (p : Int)) * 256) + wrap64 (bt x ((p + 1 : Nat) : Int))) = page2 (x.extract p x.size) := by
  have b0 := bt_ext x p 0
  have b1 := bt_ext x p 1
  obtain ⟨v, hv, hv2⟩ := bt_nat x (p : Int)
  obtain ⟨u, hu, hu2⟩ := bt_nat x ((p + 1 : Nat) : Int)
  rw [Nat.add_zero, hv] at b0
  rw [hu] at b1
  have b0' : bt (x.extract p x.size) 0 = (v : Int) := b0
  have b1' : bt (x.extract p x.size) 1 = (u : Int) := b1
  unfold page2
  rw [b0', b1', hv, hu]
  clear b0 b1 b0' b1' hv hu
  rw [wrap_of (v : Int) (by omega) (by omega), wrap_of (u : Int) (by omega) (by omega), wrap_of ((v : Int) * 256) (by omega) (by omega), wrap_of _ (by omega) (by omega)]
theorem refDec_l0 (x : ByteArray) (hx : x.size ≤ 254) (a : Bool) (K : Nat) (hK : 5001 ≤ K) : ∀ (D i : Nat) (E : List S47) (B : List S36), i ≤ x.size → x.size - i < D → E.length + (x.size - i) ≤ 300 → B.length + (x.size - i) ≤ 300 →
    rf_Decode.l0 (D + K) x (i : Int) a (E.map ofE) (B.map ofB) = some (finD a (decL D a (x.extract i x.size) E B)) := by
  intro D
  induction D with
  | zero => intro i E B h1 h2; omega
  | succ D ih =>
    intro i E B h1 h2 h3 h4
    obtain ⟨q, hq⟩ : ∃ q, q = D + K := ⟨_, rfl⟩
    have hsz := ext_size x i
    rw [show D + 1 + K = q + 1 from by omega]
    simp only [rf_Decode.l0]
    by_cases h0 : i = x.size
    · rw [decR_end D a _ E B (by omega), if_neg (by omega), refMay_tells a _ _ (by rw [List.length_map]; omega) (by rw [List.length_map]; omega) q (by omega), map_toE, map_toB]
      simp only [Option.bind_some, finD]
      split <;> rfl
    have hs0 : (x.extract i x.size).size ≠ 0 := by omega
    rw [if_pos (by omega), if_pos (by omega)]
    obtain ⟨n, hn, hn2⟩ := bt_nat x (i : Int)
    have hlt : i < x.size := by omega
    have T := Aside0.mk (text_at x i n hlt hn)
    rw [hn]
    clear hn
    rw [wrap_of (n : Int) (by omega) (by omega), wrap_nat i (by omega), wrap_two i n (by omega) (by omega)]
    by_cases hp : x.size < i + 1 + n
    · rw [if_pos (by omega), decR_no D a _ E B hs0 (by rw [T.out.1]; exact decide_eq_false (by omega))]; rfl
    obtain ⟨e1, e2⟩ := T.out.2 (by omega)
    have ht : hasText (x.extract i x.size) = true := by rw [T.out.1]; exact decide_eq_true (by omega)
    rw [if_neg (by omega), if_pos (by omega), if_pos (by omega), if_pos (by omega)]
    clear T
    generalize hpp : i + 1 + n = p at hp e1 e2 ⊢
    cases a with
    | true =>
      rw [if_pos rfl, decR_t D _ E B hs0 ht, e1, e2]
      by_cases h5 : p = x.size
      · rw [if_pos (by omega), h5, no_text]; rfl
      rw [if_neg (by omega), if_pos (by omega), if_pos (by omega)]
      have hlt2 : p < x.size := by omega
      obtain ⟨v, hv, hv2⟩ := bt_nat x (p : Int)
      have U := Aside0.mk (text_at x p v hlt2 hv)
      rw [hv]
      clear hv
      rw [wrap_of (v : Int) (by omega) (by omega), wrap_nat p (by omega), wrap_two p v (by omega) (by omega)]
      by_cases h6 : x.size < p + 1 + v
      · rw [if_pos (by omega), U.out.1, decide_eq_false (by omega)]; rfl
      obtain ⟨f1, f2⟩ := U.out.2 (by omega)
      rw [if_neg (by omega), if_pos (by omega), if_pos (by omega), if_pos (by omega), if_pos (by rw [List.length_map]; omega), U.out.1, decide_eq_true (by omega), f1, f2]
      have := ih (p + 1 + v) (E ++ [⟨x.extract (i + 1) p, x.extract (p + 1) (p + 1 + v)⟩]) B (by omega) (by omega) (by rw [List.length_append, List.length_singleton]; omega) (by omega)
      rw [List.map_append] at this
      rw [hq]
      exact this
    | false =>
      rw [if_neg (by decide), decR_f D _ E B hs0 ht, e1, e2]
      have hsp := ext_size x p
      rw [wrap_of ((p : Int) + 2) (by omega) (by omega), wrap_nat p (by omega), show (p : Int) + 2 = ((p + 2 : Nat) : Int) from rfl]
      by_cases h6 : x.size < p + 2
      · rw [if_pos (by omega), if_neg (by omega)]; rfl
      rw [if_neg (by omega), if_pos (by omega), if_pos (by omega), if_pos (by omega), if_pos (by omega), if_pos (by rw [List.length_map]; omega), if_pos (by omega)]
      rw [page_at x p, ext_ext x p 2 (by omega)]
      have := ih (p + 2) E (B ++ [⟨x.extract (i + 1) p, page2 (x.extract p x.size)⟩]) (by omega) (by omega) (by omega) (by rw [List.length_append, List.length_singleton]; omega)
      rw [List.map_append] at this
      rw [hq]
      exact this
theorem refDecode_tells (x : ByteArray) (k : Nat) (hk : 8000 ≤ k) : rf_Decode.f k x = some ((decodeN x).1, (decodeN x).2.1.map ofE, (decodeN x).2.2.1.map ofB, (decodeN x).2.2.2) := by
  obtain ⟨k, rfl⟩ : ∃ q, k = q + 1 := ⟨k - 1, by omega⟩
  unfold rf_Decode.f decodeN
  by_cases h1 : 254 < x.size
  · rw [if_pos (by omega), if_pos h1]; rfl
  rw [if_neg (by omega), if_neg h1]
  by_cases h2 : x.size = 0
  · rw [if_pos (by omega), if_pos h2]; rfl
  rw [if_neg (by omega), if_neg h2, if_pos (by omega)]
  have key : ∀ c : Bool, (bt x 0 == 1) = c → rf_Decode.j0 (k + 1) x false = some (finD c (decL 300 c (x.extract 1 x.size) [] [])) := by
    intro c hc
    simp only [rf_Decode.j0, Bool.false_eq_true, if_false]
    rw [if_pos (by omega), hc]
    obtain ⟨q, hq⟩ : ∃ q, k = 300 + q := ⟨k - 300, by omega⟩
    rw [hq]
    have := refDec_l0 x (by omega) c q (by omega) 300 1 [] [] (by omega) (by omega) (by simp; omega) (by simp; omega)
    exact this
  have fin : ∀ c : Bool, some (finD c (decL 300 c (x.extract 1 x.size) [] [])) = some ((match decL 300 c (x.extract 1 x.size) [] [] with | none => (false, [], [], 8) | some (E, B) => if mayB c E B then (c, E, B, 0) else (false, [], [], 4) : Bool × List S47 × List S36 × Int).1, (match decL 300 c (x.extract 1 x.size) [] [] with | none => (false, [], [], 8) | some (E, B) => if mayB c E B then (c, E, B, 0) else (false, [], [], 4) : Bool × List S47 × List S36 × Int).2.1.map ofE, (match decL 300 c (x.extract 1 x.size) [] [] with | none => (false, [], [], 8) | some (E, B) => if mayB c E B then (c, E, B, 0) else (false, [], [], 4) : Bool × List S47 × List S36 × Int).2.2.1.map ofB, (match decL 300 c (x.extract 1 x.size) [] [] with | none => (false, [], [], 8) | some (E, B) => if mayB c E B then (c, E, B, 0) else (false, [], [], 4) : Bool × List S47 × List S36 × Int).2.2.2) := by
    intro c
    unfold finD
    cases decL 300 c (x.extract 1 x.size) [] [] with
    | none => rfl
    | some p =>
      obtain ⟨E, B⟩ := p
      simp only
      split <;> rfl
  by_cases h3 : bt x 0 = 1
  · have hc : (bt x 0 == 1) = true := by rw [h3]; rfl
    rw [if_pos h3, key true hc, if_neg (by omega), hc]
    exact fin true
  rw [if_neg h3]
  have hc : (bt x 0 == 1) = false := by simpa using h3
  by_cases h4 : bt x 0 = 2
  · have hd : (bt x 0 != 2) = false := by rw [h4]; rfl
    rw [hd, key false hc, if_neg (by omega), hc]
    exact fin false
  · have hd : (bt x 0 != 2) = true := by simpa using h4
    rw [hd, if_pos ⟨h3, h4⟩]
    simp only [rf_Decode.j0, if_true]; rfl
end Go.Proofs.Ytfbaejhjppikpaa.P
namespace Go.Proofs.Ytfbaejhjppikpaa.P
open Go.RowKit Go.Proofs.YtfbaejhjppikpaaW.PrintWords Go.Proofs.YtfbaejhjppikpaaW.PrintLast Go.Proofs.YtfbaejhjppikpaaW.PrintMore
attribute [local go_sem] max2_int min2_int max_two min_two max_three min_three max_four min_four
set_option linter.unusedVariables false
set_option linter.unusedSimpArgs false
mutual
def rf_Encode.j0 : Nat → ByteArray → Bool → List S75 → List S76 → Option (ByteArray × Int)
 | 0, _, _, _, _ => none
 | k + 1, x4, x429000, x429001, x429002 => rf_Encode.l0 k x4 0 x429000 x429001 x429002
def rf_Encode.l0 : Nat → ByteArray → Int → Bool → List S75 → List S76 → Option (ByteArray × Int)
 | 0, _, _, _, _, _ => none
 | k + 1, x4, x5, x429000, x429001, x429002 => if x5 < (x429001.length : Int) then (if 0 ≤ x5 then ((some (([((((rd_T75 x429001 x5).f0).size : Int)) % 256] : List Int) : List Int)).bind fun y433 => (if x4.size + (strOfNums y433).size ≤ 9223372036854775807 then (if (x4 ++ (strOfNums y433)).size + ((rd_T75 x429001 x5).f0).size ≤ 9223372036854775807 then ((some (([((((rd_T75 x429001 x5).f1).size : Int)) % 256] : List Int) : List Int)).bind fun y436 => (if ((x4 ++ (strOfNums y433)) ++ ((rd_T75 x429001 x5).f0)).size + (strOfNums y436).size ≤ 9223372036854775807 then (if (((x4 ++ (strOfNums y433)) ++ ((rd_T75 x429001 x5).f0)) ++ (strOfNums y436)).size + ((rd_T75 x429001 x5).f1).size ≤ 9223372036854775807 then (rf_Encode.l0 k ((((x4 ++ (strOfNums y433)) ++ ((rd_T75 x429001 x5).f0)) ++ (strOfNums y436)) ++ ((rd_T75 x429001 x5).f1)) (wrap64 (x5 + 1)) x429000 x429001 x429002) else (none)) else (none))) else (none)) else (none))) else (none)) else (rf_Encode.l1 k x4 0 x429000 x429001 x429002)
def rf_Encode.l1 : Nat → ByteArray → Int → Bool → List S75 → List S76 → Option (ByteArray × Int)
 | 0, _, _, _, _, _ => none
 | k + 1, x4, x7, x429000, x429001, x429002 => if x7 < (x429002.length : Int) then (if 0 ≤ x7 then ((some (([((((rd_T76 x429002 x7).f0).size : Int)) % 256] : List Int) : List Int)).bind fun y441 => (if x4.size + (strOfNums y441).size ≤ 9223372036854775807 then (if (x4 ++ (strOfNums y441)).size + ((rd_T76 x429002 x7).f0).size ≤ 9223372036854775807 then ((some (([(wrap64 (Int.tdiv ((rd_T76 x429002 x7).f1) 256)) % 256, (Int.tmod ((rd_T76 x429002 x7).f1) 256) % 256] : List Int) : List Int)).bind fun y444 => (if ((x4 ++ (strOfNums y441)) ++ ((rd_T76 x429002 x7).f0)).size + (strOfNums y444).size ≤ 9223372036854775807 then (rf_Encode.l1 k (((x4 ++ (strOfNums y441)) ++ ((rd_T76 x429002 x7).f0)) ++ (strOfNums y444)) (wrap64 (x7 + 1)) x429000 x429001 x429002) else (none))) else (none)) else (none))) else (none)) else (some (x4, 0))
end
def rf_Encode.f (k : Nat) (a0_0 : Bool) (l0_1 : List S75) (l0_2 : List S76) : Option (ByteArray × Int) := (rf_May.f k a0_0 l0_1 l0_2).bind fun t429 => (if t429 = true then ((rf_Fits.f k a0_0 l0_1 l0_2).bind fun t430 => (if t430 = true then (if a0_0 = true then (rf_Encode.j0 k (⟨#[1]⟩ : ByteArray) a0_0 l0_1 l0_2) else (rf_Encode.j0 k (⟨#[2]⟩ : ByteArray) a0_0 l0_1 l0_2)) else (some ((⟨#[]⟩ : ByteArray), 40)))) else (some ((⟨#[]⟩ : ByteArray), 4)))
set_option maxHeartbeats 8000000 in
set_option maxRecDepth 100000 in
theorem rf_Encode.calls (k : Nat) (a0_0 : Bool) (A0_1 : Option Addr) (c0_1 : Nat) (l0_1 : List S75) (A0_2 : Option Addr) (c0_2 : Nat) (l0_2 : List S76) (r1 : ByteArray) (r2 : Int) (w : World) (hr0_1 : Kd.C k75 w A0_1 l0_1.length l0_1) (hc0_1 : l0_1.length ≤ c0_1) (hr0_2 : Kd.C k76 w A0_2 l0_2.length l0_2) (hc0_2 : l0_2.length ≤ c0_2) (h : rf_Encode.f k a0_0 l0_1 l0_2 = some (r1, r2)) :
  Calls Try.prog 25 #[.agg #[.bool a0_0, .slice A0_1 l0_1.length c0_1, .slice A0_2 l0_2.length c0_2]] w fun e w' => e = .returned (.tuple #[.string r1, .int .i64 r2]) ∧ Below w.heap.size w w' := by
 have hu25 := Try.underlying25
 have hu75 := Try.underlying75
 have hu76 := Try.underlying76
 have HR0_1 := aM hr0_1
 have HC0_1 := aM hc0_1
 clear hr0_1 hc0_1
 have HR0_2 := aM hr0_2
 have HC0_2 := aM hc0_2
 clear hr0_2 hc0_2
 have HB := aM (Below.refl w.heap.size w)
 have H : ((rf_May.f k a0_0 l0_1 l0_2).bind fun t429 => (if t429 = true then ((rf_Fits.f k a0_0 l0_1 l0_2).bind fun t430 => (if t430 = true then (if a0_0 = true then (rf_Encode.j0 k (⟨#[1]⟩ : ByteArray) a0_0 l0_1 l0_2) else (rf_Encode.j0 k (⟨#[2]⟩ : ByteArray) a0_0 l0_1 l0_2)) else (some ((⟨#[]⟩ : ByteArray), 40)))) else (some ((⟨#[]⟩ : ByteArray), 4)))) = some (r1, r2) := h
 clear h
 replace H := Option.bind_eq_some_iff.mp H
 obtain ⟨t429, A20, H⟩ := H
 replace H : (if t429 = true then ((rf_Fits.f k a0_0 l0_1 l0_2).bind fun t430 => (if t430 = true then (if a0_0 = true then (rf_Encode.j0 k (⟨#[1]⟩ : ByteArray) a0_0 l0_1 l0_2) else (rf_Encode.j0 k (⟨#[2]⟩ : ByteArray) a0_0 l0_1 l0_2)) else (some ((⟨#[]⟩ : ByteArray), 40)))) else (some ((⟨#[]⟩ : ByteArray), 4))) = some (r1, r2) := H
 have A2 := aM A20
 clear A20
 by_cases c3 : t429 = true
 rotate_left
 ·replace c3 := Bool.eq_false_iff.mpr c3
  subst c3
  have H1 : (some ((⟨#[]⟩ : ByteArray), 4)) = some (r1, r2) := by rw [if_neg (show ¬ (false = true) by decide)] at H; exact H
  clear H
  have H := H1
  clear H1
  simp only [Option.some.injEq, Prod.mk.injEq] at H
  obtain ⟨rfl, rfl⟩ := H
  go_enter Try.func25, Try.ntmps25
  go_wp2_with (first | ((with_reducible refine gate_dst (N := 1) rfl ?_); refine box_event ?hg (N := 1) ?hd (cs := #[.bool a0_0, .slice A0_1 l0_1.length c0_1, .slice A0_2 l0_2.length c0_2]) (t := 25) ?hr ?_; (case hd => rfl); (case hg => rfl); (case hr => first | (go_simp; done) | (go_simp; rfl)); intro gb428 hg w55 hbox hb; have BK428 := aM (hbox); have GW428 := gw hg HB; have GE428 := gw hg HB; replace HB := aM (below_step (kl HB) hb); clear hb hbox hg; have hcz56_0 : w55.cell? ⟨gb428, 0, none⟩ = some (.bool a0_0) := bc BK428 0; have hcz56_1 : w55.cell? ⟨gb428, 1, none⟩ = some (.slice A0_1 l0_1.length c0_1) := bc BK428 1; have hcz56_2 : w55.cell? ⟨gb428, 2, none⟩ = some (.slice A0_2 l0_2.length c0_2) := bc BK428 2; have hfz56_0 := blk_frozen BK428.out 0; have hfz56_1 := blk_frozen BK428.out 1; have hfz56_2 := blk_frozen BK428.out 2) | ((with_reducible refine gate_callee (f := 21) rfl ?_); refine goesL_ (some 10) rfl rfl Try.func21 (by kernel_rfl) rfl #[.agg #[.bool a0_0, .slice A0_1 l0_1.length c0_1, .slice A0_2 l0_2.length c0_2]] rfl (by (try simp only [List.map_toArray, List.map_cons, List.map_nil]); first | done | rfl | (simp only [List.length_drop, List.length_take]; rfl)) ?_; (with_reducible refine (rf_May.calls k a0_0 _ _ l0_1 _ _ l0_2 false _ ?side1 ?side2 ?side3 ?side4 A2.out).mono ?_); (case side1 => exact kc (Kd.C_below HR0_1.out HB.out)); (case side2 => exact HC0_1.out); (case side3 => exact kc (Kd.C_below HR0_2.out HB.out)); (case side4 => exact HC0_2.out); rintro e w57 ⟨rfl, hb⟩; refine ⟨_, rfl, ?_⟩; replace BK428 := bb BK428 hb; replace HB := aM (below_step (kl HB) hb); clear hb))
  go_ret2
  exact ⟨by first | rfl | (simp [errW_none, errW_some] <;> rfl) | (simp [*, errW_none, errW_some] <;> rfl), kl HB⟩
 subst c3
 have H1 : ((rf_Fits.f k a0_0 l0_1 l0_2).bind fun t430 => (if t430 = true then (if a0_0 = true then (rf_Encode.j0 k (⟨#[1]⟩ : ByteArray) a0_0 l0_1 l0_2) else (rf_Encode.j0 k (⟨#[2]⟩ : ByteArray) a0_0 l0_1 l0_2)) else (some ((⟨#[]⟩ : ByteArray), 40)))) = some (r1, r2) := by rw [if_pos rfl] at H; exact H
 clear H
 have H := H1
 clear H1
 replace H := Option.bind_eq_some_iff.mp H
 obtain ⟨t430, A40, H⟩ := H
 replace H : (if t430 = true then (if a0_0 = true then (rf_Encode.j0 k (⟨#[1]⟩ : ByteArray) a0_0 l0_1 l0_2) else (rf_Encode.j0 k (⟨#[2]⟩ : ByteArray) a0_0 l0_1 l0_2)) else (some ((⟨#[]⟩ : ByteArray), 40))) = some (r1, r2) := H
 have A4 := aM A40
 clear A40
 by_cases c5 : t430 = true
 rotate_left
 ·replace c5 := Bool.eq_false_iff.mpr c5
  subst c5
  have H1 : (some ((⟨#[]⟩ : ByteArray), 40)) = some (r1, r2) := by rw [if_neg (show ¬ (false = true) by decide)] at H; exact H
  clear H
  have H := H1
  clear H1
  simp only [Option.some.injEq, Prod.mk.injEq] at H
  obtain ⟨rfl, rfl⟩ := H
  go_enter Try.func25, Try.ntmps25
  go_wp2_with (first | ((with_reducible refine gate_dst (N := 1) rfl ?_); refine box_event ?hg (N := 1) ?hd (cs := #[.bool a0_0, .slice A0_1 l0_1.length c0_1, .slice A0_2 l0_2.length c0_2]) (t := 25) ?hr ?_; (case hd => rfl); (case hg => rfl); (case hr => first | (go_simp; done) | (go_simp; rfl)); intro gb428 hg w50 hbox hb; have BK428 := aM (hbox); have GW428 := gw hg HB; have GE428 := gw hg HB; replace HB := aM (below_step (kl HB) hb); clear hb hbox hg; have hcz51_0 : w50.cell? ⟨gb428, 0, none⟩ = some (.bool a0_0) := bc BK428 0; have hcz51_1 : w50.cell? ⟨gb428, 1, none⟩ = some (.slice A0_1 l0_1.length c0_1) := bc BK428 1; have hcz51_2 : w50.cell? ⟨gb428, 2, none⟩ = some (.slice A0_2 l0_2.length c0_2) := bc BK428 2; have hfz51_0 := blk_frozen BK428.out 0; have hfz51_1 := blk_frozen BK428.out 1; have hfz51_2 := blk_frozen BK428.out 2) | ((with_reducible refine gate_callee (f := 21) rfl ?_); refine goesL_ (some 10) rfl rfl Try.func21 (by kernel_rfl) rfl #[.agg #[.bool a0_0, .slice A0_1 l0_1.length c0_1, .slice A0_2 l0_2.length c0_2]] rfl (by (try simp only [List.map_toArray, List.map_cons, List.map_nil]); first | done | rfl | (simp only [List.length_drop, List.length_take]; rfl)) ?_; (with_reducible refine (rf_May.calls k a0_0 _ _ l0_1 _ _ l0_2 true _ ?side1 ?side2 ?side3 ?side4 A2.out).mono ?_); (case side1 => exact kc (Kd.C_below HR0_1.out HB.out)); (case side2 => exact HC0_1.out); (case side3 => exact kc (Kd.C_below HR0_2.out HB.out)); (case side4 => exact HC0_2.out); rintro e w52 ⟨rfl, hb⟩; refine ⟨_, rfl, ?_⟩; replace BK428 := bb BK428 hb; replace HB := aM (below_step (kl HB) hb); clear hb; have hcz53_0 : w52.cell? ⟨gb428, 0, none⟩ = some (.bool a0_0) := bc BK428 0; have hcz53_1 : w52.cell? ⟨gb428, 1, none⟩ = some (.slice A0_1 l0_1.length c0_1) := bc BK428 1; have hcz53_2 : w52.cell? ⟨gb428, 2, none⟩ = some (.slice A0_2 l0_2.length c0_2) := bc BK428 2; have hfz53_0 := blk_frozen BK428.out 0; have hfz53_1 := blk_frozen BK428.out 1; have hfz53_2 := blk_frozen BK428.out 2) | ((with_reducible refine gate_callee (f := 23) rfl ?_); refine goesL_ (some 13) rfl rfl Try.func23 (by kernel_rfl) rfl #[.agg #[.bool a0_0, .slice A0_1 l0_1.length c0_1, .slice A0_2 l0_2.length c0_2]] rfl (by (try simp only [List.map_toArray, List.map_cons, List.map_nil]); first | done | rfl | (simp only [List.length_drop, List.length_take]; rfl)) ?_; (with_reducible refine (rf_Fits.calls k a0_0 _ _ l0_1 _ _ l0_2 false _ ?side1 ?side2 ?side3 ?side4 A4.out).mono ?_); (case side1 => exact kc (Kd.C_below HR0_1.out HB.out)); (case side2 => exact HC0_1.out); (case side3 => exact kc (Kd.C_below HR0_2.out HB.out)); (case side4 => exact HC0_2.out); rintro e w54 ⟨rfl, hb⟩; refine ⟨_, rfl, ?_⟩; replace BK428 := bb BK428 hb; replace HB := aM (below_step (kl HB) hb); clear hb))
  go_ret2
  exact ⟨by first | rfl | (simp [errW_none, errW_some] <;> rfl) | (simp [*, errW_none, errW_some] <;> rfl), kl HB⟩
 subst c5
 have H1 : (if a0_0 = true then (rf_Encode.j0 k (⟨#[1]⟩ : ByteArray) a0_0 l0_1 l0_2) else (rf_Encode.j0 k (⟨#[2]⟩ : ByteArray) a0_0 l0_1 l0_2)) = some (r1, r2) := by rw [if_pos rfl] at H; exact H
 clear H
 have H := H1
 clear H1
 have HC6 := aM H
 clear H
 go_enter Try.func25, Try.ntmps25
 go_upto_if 16 with (first | ((with_reducible refine gate_dst (N := 1) rfl ?_); refine box_event ?hg (N := 1) ?hd (cs := #[.bool a0_0, .slice A0_1 l0_1.length c0_1, .slice A0_2 l0_2.length c0_2]) (t := 25) ?hr ?_; (case hd => rfl); (case hg => rfl); (case hr => first | (go_simp; done) | (go_simp; rfl)); intro gb428 hg w7 hbox hb; have BK428 := aM (hbox); have GW428 := gw hg HB; have GE428 := gw hg HB; replace HB := aM (below_step (kl HB) hb); clear hb hbox hg; have hcz8_0 : w7.cell? ⟨gb428, 0, none⟩ = some (.bool a0_0) := bc BK428 0; have hcz8_1 : w7.cell? ⟨gb428, 1, none⟩ = some (.slice A0_1 l0_1.length c0_1) := bc BK428 1; have hcz8_2 : w7.cell? ⟨gb428, 2, none⟩ = some (.slice A0_2 l0_2.length c0_2) := bc BK428 2; have hfz8_0 := blk_frozen BK428.out 0; have hfz8_1 := blk_frozen BK428.out 1; have hfz8_2 := blk_frozen BK428.out 2) | ((with_reducible refine gate_callee (f := 21) rfl ?_); refine goesL_ (some 10) rfl rfl Try.func21 (by kernel_rfl) rfl #[.agg #[.bool a0_0, .slice A0_1 l0_1.length c0_1, .slice A0_2 l0_2.length c0_2]] rfl (by (try simp only [List.map_toArray, List.map_cons, List.map_nil]); first | done | rfl | (simp only [List.length_drop, List.length_take]; rfl)) ?_; (with_reducible refine (rf_May.calls k a0_0 _ _ l0_1 _ _ l0_2 true _ ?side1 ?side2 ?side3 ?side4 A2.out).mono ?_); (case side1 => exact kc (Kd.C_below HR0_1.out HB.out)); (case side2 => exact HC0_1.out); (case side3 => exact kc (Kd.C_below HR0_2.out HB.out)); (case side4 => exact HC0_2.out); rintro e w9 ⟨rfl, hb⟩; refine ⟨_, rfl, ?_⟩; replace BK428 := bb BK428 hb; replace HB := aM (below_step (kl HB) hb); clear hb; have hcz10_0 : w9.cell? ⟨gb428, 0, none⟩ = some (.bool a0_0) := bc BK428 0; have hcz10_1 : w9.cell? ⟨gb428, 1, none⟩ = some (.slice A0_1 l0_1.length c0_1) := bc BK428 1; have hcz10_2 : w9.cell? ⟨gb428, 2, none⟩ = some (.slice A0_2 l0_2.length c0_2) := bc BK428 2; have hfz10_0 := blk_frozen BK428.out 0; have hfz10_1 := blk_frozen BK428.out 1; have hfz10_2 := blk_frozen BK428.out 2) | ((with_reducible refine gate_callee (f := 23) rfl ?_); refine goesL_ (some 13) rfl rfl Try.func23 (by kernel_rfl) rfl #[.agg #[.bool a0_0, .slice A0_1 l0_1.length c0_1, .slice A0_2 l0_2.length c0_2]] rfl (by (try simp only [List.map_toArray, List.map_cons, List.map_nil]); first | done | rfl | (simp only [List.length_drop, List.length_take]; rfl)) ?_; (with_reducible refine (rf_Fits.calls k a0_0 _ _ l0_1 _ _ l0_2 true _ ?side1 ?side2 ?side3 ?side4 A4.out).mono ?_); (case side1 => exact kc (Kd.C_below HR0_1.out HB.out)); (case side2 => exact HC0_1.out); (case side3 => exact kc (Kd.C_below HR0_2.out HB.out)); (case side4 => exact HC0_2.out); rintro e w11 ⟨rfl, hb⟩; refine ⟨_, rfl, ?_⟩; replace BK428 := bb BK428 hb; replace HB := aM (below_step (kl HB) hb); clear hb; have hcz12_0 : w11.cell? ⟨gb428, 0, none⟩ = some (.bool a0_0) := bc BK428 0; have hcz12_1 : w11.cell? ⟨gb428, 1, none⟩ = some (.slice A0_1 l0_1.length c0_1) := bc BK428 1; have hcz12_2 : w11.cell? ⟨gb428, 2, none⟩ = some (.slice A0_2 l0_2.length c0_2) := bc BK428 2; have hfz12_0 := blk_frozen BK428.out 0; have hfz12_1 := blk_frozen BK428.out 1; have hfz12_2 := blk_frozen BK428.out 2))
 (try simp only [Act.put, List.setIfInBounds_toArray, List.set_cons_zero, List.set_cons_succ])
 go_cut [4] (fun v4 wc => ∃ (kq : Nat) (x4_5 : ByteArray), v4 = .string x4_5 ∧ Aside0 (rf_Encode.j0 kq x4_5 a0_0 l0_1 l0_2 = some (r1, r2)) ∧ Aside0 (kq ≤ k) ∧ Aside0 (wc.heap[gb428]? = some (.cells #[.bool a0_0, (.slice A0_1 l0_1.length c0_1), (.slice A0_2 l0_2.length c0_2)] 25 (0, 0))) ∧ Aside0 (Below w.heap.size w wc))
 case first =>
  have H := HC6.out
  clear HC6
  by_cases c13 : a0_0 = true
  ·subst c13
   have H1 : (rf_Encode.j0 k (⟨#[1]⟩ : ByteArray) true l0_1 l0_2) = some (r1, r2) := by rw [if_pos rfl] at H; exact H
   clear H
   have H := H1
   clear H1
   have H' := aM H
   clear H
   go_wp2
   go_meet
   case rel => exact ⟨_, ((⟨#[1]⟩ : ByteArray)), (by first | rfl | (simp; done) | (simp [*]; done)), H', ⟨by first | omega | exact Nat.le_refl _⟩, ⟨kb BK428⟩, ⟨kl HB⟩⟩
  ·replace c13 := Bool.eq_false_iff.mpr c13
   subst c13
   have H1 : (rf_Encode.j0 k (⟨#[2]⟩ : ByteArray) false l0_1 l0_2) = some (r1, r2) := by rw [if_neg (show ¬ (false = true) by decide)] at H; exact H
   clear H
   have H := H1
   clear H1
   have H' := aM H
   clear H
   go_wp2
   go_meet
   case rel => exact ⟨_, ((⟨#[2]⟩ : ByteArray)), (by first | rfl | (simp; done) | (simp [*]; done)), H', ⟨by first | omega | exact Nat.le_refl _⟩, ⟨kb BK428⟩, ⟨kl HB⟩⟩
 case rest =>
  clear HC6
  try clear c1
  try clear c2
  try clear p2
  try clear c3
  try clear c5
  try clear c13
  try clear hcz10_0
  try clear hcz10_1
  try clear hcz10_2
  try clear hcz12_0
  try clear hcz12_1
  try clear hcz12_2
  try clear hcz8_0
  try clear hcz8_1
  try clear hcz8_2
  try clear hfz10_0
  try clear hfz10_1
  try clear hfz10_2
  try clear hfz12_0
  try clear hfz12_1
  try clear hfz12_2
  try clear hfz8_0
  try clear hfz8_1
  try clear hfz8_2
  obtain ⟨kq, x4_5, rfl, HA, HJ5, BK428, HB⟩ := hcut
  cases kq with
  | zero => exact absurd HA.out (by simp [rf_Encode.j0])
  | succ kj5 =>
   have H := HA.out
   clear HA
   simp only [rf_Encode.j0] at H
   have H' := aM H
   clear H
   go_wp2
   go_loopg [4, 5] kj5 (fun kq v4 v5 w' => ∃ (x4_2 : ByteArray) (x5_2 : Int), v4 = .string x4_2 ∧ v5 = .int .i64 x5_2 ∧ Aside0 (rf_Encode.l0 kq x4_2 x5_2 a0_0 l0_1 l0_2 = some (r1, r2)) ∧ Aside0 (kq ≤ kj5) ∧ Aside0 (w'.heap[gb428]? = some (.cells #[.bool a0_0, (.slice A0_1 l0_1.length c0_1), (.slice A0_2 l0_2.length c0_2)] 25 (0, 0))) ∧ Aside0 (Below w.heap.size w w'))
   case atStart => exact ⟨(x4_5), (0), (by first | rfl | (simp; done) | (simp [*]; done)), (by first | rfl | (simp; done) | (simp [*]; done)), H', ⟨Nat.le_refl _⟩, ⟨kb BK428⟩, ⟨kl HB⟩⟩
   case round =>
    clear H'
    try clear c1
    try clear c2
    try clear p2
    try clear c3
    try clear c5
    try clear c13
    try clear hcz10_0
    try clear hcz10_1
    try clear hcz10_2
    try clear hcz12_0
    try clear hcz12_1
    try clear hcz12_2
    try clear hcz8_0
    try clear hcz8_1
    try clear hcz8_2
    try clear hfz10_0
    try clear hfz10_1
    try clear hfz10_2
    try clear hfz12_0
    try clear hfz12_1
    try clear hfz12_2
    try clear hfz8_0
    try clear hfz8_1
    try clear hfz8_2
    try clear p2
    obtain ⟨x4_2, x5_2, rfl, rfl, HA, HK2, BK428, HB⟩ := hrel
    cases gk with
    | zero => exact absurd HA.out (by simp [rf_Encode.l0])
    | succ k2 =>
     have H := HA.out
     clear HA
     simp only [rf_Encode.l0] at H
     by_cases c14 : x5_2 < (l0_1.length : Int)
     ·rw [if_pos c14] at H
      have c14b0 : decide (x5_2 < (l0_1.length : Int)) = true := decide_eq_true c14
      clear c14
      by_cases c15 : 0 ≤ x5_2
      rotate_left
      ·rw [if_neg c15] at H
       exact absurd H (by simp)
      rw [if_pos c15] at H
      have c15b0 : decide (0 ≤ x5_2) = true := decide_eq_true c15
      clear c15
      obtain ⟨y433, hy433⟩ : ∃ y_ : List Int, y_ = (([((((rd_T75 l0_1 x5_2).f0).size : Int)) % 256] : List Int)) := ⟨_, rfl⟩
      replace H : (if x4_2.size + (strOfNums y433).size ≤ 9223372036854775807 then (if (x4_2 ++ (strOfNums y433)).size + ((rd_T75 l0_1 x5_2).f0).size ≤ 9223372036854775807 then ((some (([((((rd_T75 l0_1 x5_2).f1).size : Int)) % 256] : List Int) : List Int)).bind fun y436 => (if ((x4_2 ++ (strOfNums y433)) ++ ((rd_T75 l0_1 x5_2).f0)).size + (strOfNums y436).size ≤ 9223372036854775807 then (if (((x4_2 ++ (strOfNums y433)) ++ ((rd_T75 l0_1 x5_2).f0)) ++ (strOfNums y436)).size + ((rd_T75 l0_1 x5_2).f1).size ≤ 9223372036854775807 then (rf_Encode.l0 k2 ((((x4_2 ++ (strOfNums y433)) ++ ((rd_T75 l0_1 x5_2).f0)) ++ (strOfNums y436)) ++ ((rd_T75 l0_1 x5_2).f1)) (wrap64 (x5_2 + 1)) a0_0 l0_1 l0_2) else (none)) else (none))) else (none)) else (none)) = some (r1, r2) := by first | (rw [hy433]; with_reducible exact H) | (have H2_ := (Option.bind_some _ _).symm.trans H; rw [hy433]; with_reducible exact H2_) | (have H2_ := (Option.bind_some _ _).symm.trans H; with_reducible exact H2_) | with_reducible exact H | (rw [hy433]; exact H) | exact H
      have Ny433 := aM hy433
      clear hy433
      by_cases c16 : x4_2.size + (strOfNums y433).size ≤ 9223372036854775807
      rotate_left
      ·rw [if_neg c16] at H
       exact absurd H (by simp)
      rw [if_pos c16] at H
      have c16b0 := eq_true c16
      have c16b1 : decide (x4_2.size + (strOfNums y433).size ≤ 9223372036854775807) = true := decide_eq_true c16
      try have c16b2 : (9223372036854775807 < x4_2.size + (strOfNums y433).size) = False := eq_false (Nat.not_lt.2 c16)
      by_cases c17 : (x4_2 ++ (strOfNums y433)).size + ((rd_T75 l0_1 x5_2).f0).size ≤ 9223372036854775807
      rotate_left
      ·rw [if_neg c17] at H
       exact absurd H (by simp)
      rw [if_pos c17] at H
      have c17b0 := eq_true c17
      have c17b1 : decide ((x4_2 ++ (strOfNums y433)).size + ((rd_T75 l0_1 x5_2).f0).size ≤ 9223372036854775807) = true := decide_eq_true c17
      try have c17b2 : (9223372036854775807 < (x4_2 ++ (strOfNums y433)).size + ((rd_T75 l0_1 x5_2).f0).size) = False := eq_false (Nat.not_lt.2 c17)
      obtain ⟨y436, hy436⟩ : ∃ y_ : List Int, y_ = (([((((rd_T75 l0_1 x5_2).f1).size : Int)) % 256] : List Int)) := ⟨_, rfl⟩
      replace H : (if ((x4_2 ++ (strOfNums y433)) ++ ((rd_T75 l0_1 x5_2).f0)).size + (strOfNums y436).size ≤ 9223372036854775807 then (if (((x4_2 ++ (strOfNums y433)) ++ ((rd_T75 l0_1 x5_2).f0)) ++ (strOfNums y436)).size + ((rd_T75 l0_1 x5_2).f1).size ≤ 9223372036854775807 then (rf_Encode.l0 k2 ((((x4_2 ++ (strOfNums y433)) ++ ((rd_T75 l0_1 x5_2).f0)) ++ (strOfNums y436)) ++ ((rd_T75 l0_1 x5_2).f1)) (wrap64 (x5_2 + 1)) a0_0 l0_1 l0_2) else (none)) else (none)) = some (r1, r2) := by first | (rw [hy436]; with_reducible exact H) | (have H2_ := (Option.bind_some _ _).symm.trans H; rw [hy436]; with_reducible exact H2_) | (have H2_ := (Option.bind_some _ _).symm.trans H; with_reducible exact H2_) | with_reducible exact H | (rw [hy436]; exact H) | exact H
      have Ny436 := aM hy436
      clear hy436
      by_cases c18 : ((x4_2 ++ (strOfNums y433)) ++ ((rd_T75 l0_1 x5_2).f0)).size + (strOfNums y436).size ≤ 9223372036854775807
      rotate_left
      ·rw [if_neg c18] at H
       exact absurd H (by simp)
      rw [if_pos c18] at H
      have c18b0 := eq_true c18
      have c18b1 : decide (((x4_2 ++ (strOfNums y433)) ++ ((rd_T75 l0_1 x5_2).f0)).size + (strOfNums y436).size ≤ 9223372036854775807) = true := decide_eq_true c18
      try have c18b2 : (9223372036854775807 < ((x4_2 ++ (strOfNums y433)) ++ ((rd_T75 l0_1 x5_2).f0)).size + (strOfNums y436).size) = False := eq_false (Nat.not_lt.2 c18)
      by_cases c19 : (((x4_2 ++ (strOfNums y433)) ++ ((rd_T75 l0_1 x5_2).f0)) ++ (strOfNums y436)).size + ((rd_T75 l0_1 x5_2).f1).size ≤ 9223372036854775807
      rotate_left
      ·rw [if_neg c19] at H
       exact absurd H (by simp)
      rw [if_pos c19] at H
      have c19b0 := eq_true c19
      have c19b1 : decide ((((x4_2 ++ (strOfNums y433)) ++ ((rd_T75 l0_1 x5_2).f0)) ++ (strOfNums y436)).size + ((rd_T75 l0_1 x5_2).f1).size ≤ 9223372036854775807) = true := decide_eq_true c19
      try have c19b2 : (9223372036854775807 < (((x4_2 ++ (strOfNums y433)) ++ ((rd_T75 l0_1 x5_2).f0)) ++ (strOfNums y436)).size + ((rd_T75 l0_1 x5_2).f1).size) = False := eq_false (Nat.not_lt.2 c19)
      have H' := aM H
      clear H
      have hcz20_0 : wr.cell? ⟨gb428, 0, none⟩ = some (.bool a0_0) := bc BK428 0
      have hcz20_1 : wr.cell? ⟨gb428, 1, none⟩ = some (.slice A0_1 l0_1.length c0_1) := bc BK428 1
      have hcz20_2 : wr.cell? ⟨gb428, 2, none⟩ = some (.slice A0_2 l0_2.length c0_2) := bc BK428 2
      have hfz20_0 := blk_frozen BK428.out 0
      have hfz20_1 := blk_frozen BK428.out 1
      have hfz20_2 := blk_frozen BK428.out 2
      have p431 : 0 ≤ (x5_2 : Int) := of_decide_eq_true (by first | (with_reducible assumption) | assumption)
      have q431 : x5_2 < (l0_1.length : Int) := of_decide_eq_true (by first | (with_reducible assumption) | assumption)
      obtain ⟨ad431, e431, hx431_0, hx431_1⟩ := at_T75 HR0_1.out x5_2 p431 q431
      cases e431
      replace hx431_0 := (HB.out.cell (World.block_lt_of_cell? w _ hx431_0)).trans hx431_0
      replace hx431_1 := (HB.out.cell (World.block_lt_of_cell? w _ hx431_1)).trans hx431_1
      replace p431 := eq_true p431
      replace q431 := eq_true q431
      go_wp2_with (first | ((with_reducible refine gate_dst (N := 6) rfl ?_); refine box_event ?hg (N := 6) ?hd (cs := #[.string (⟨#[]⟩ : ByteArray), .string (⟨#[]⟩ : ByteArray)]) (t := 75) ?hr ?_; (case hd => rfl); (case hg => rfl); (case hr => first | (go_simp; done) | (go_simp; rfl)); intro gb432 hg w21 hbox hb; have BK432 := aM (hbox); have GE432 := gw hg HB; replace HB := aM (below_step (kl HB) hb); have NB428_432 := nl hg BK428; have NB432_428 := ng hg BK428; replace BK428 := bb BK428 hb; clear hb hbox hg; have hnb22 := NB432_428.out; have hnc22 := NB428_432.out; have hcz23_0 : w21.cell? ⟨gb432, 0, none⟩ = some (.string (⟨#[]⟩ : ByteArray)) := bc BK432 0; have hcz23_1 : w21.cell? ⟨gb432, 1, none⟩ = some (.string (⟨#[]⟩ : ByteArray)) := bc BK432 1; have hfz23_0 := blk_frozen BK432.out 0; have hfz23_1 := blk_frozen BK432.out 1) | ((with_reducible refine gate_dst (N := 34) rfl ?_); refine Kd.R_lit (Kd.int .u8) _ 5 ?hg (N := 34) ?hd (xs := ([((((rd_T75 l0_1 x5_2).f0).size : Int)) % 256] : List Int)) (inner := [.int .u8 (((((rd_T75 l0_1 x5_2).f0).size : Int)) % 256)]) (ok := fun _ => True) (okp := fun _ => True) ?hr ?hp (fun _ hk => hk) trivial (Below.refl _ _) (Nat.le_refl _) (by simp) ?_; (case hd => rfl); (case hg => rfl); (case hr => first | (go_simp; done) | (go_simp; rfl)); (case hp => exact (Reps.one (show Kd.M (Kd.int .u8) _ _ _ (((((rd_T75 l0_1 x5_2).f0).size : Int)) % 256) [.int .u8 (((((rd_T75 l0_1 x5_2).f0).size : Int)) % 256)] from rfl) (Reps.none _ _))); intro v434 w24 ho25 hb hg_ hnew_; clear hg_ hnew_; (first | rw [← Ny433.out] at ho25 | (simp only [Int.reduceToNat] at ho25; rw [← Ny433.out] at ho25)); have HO435 := aM (Kd.R_lower ho25 (below_size (kl HB))); replace BK428 := bf NB428_432 BK428 hb; replace BK432 := aM (blk_below (g := gb432) (o := .cells #[.string ((rd_T75 l0_1 x5_2).f0), .string ((rd_T75 l0_1 x5_2).f1)] 75 (0, 0)) (by (with_reducible repeat (first | refine blk_drewN ?_ _ | refine blk_drew ?_ | refine blk_alloc ?_ _)); refine blk_put (cs := #[.string ((rd_T75 l0_1 x5_2).f0), .string (⟨#[]⟩ : ByteArray)]) ?_ 1 _ rfl; (with_reducible repeat (first | refine blk_drewN ?_ _ | refine blk_drew ?_ | refine blk_alloc ?_ _)); refine blk_put (cs := #[.string (⟨#[]⟩ : ByteArray), .string (⟨#[]⟩ : ByteArray)]) ?_ 0 _ rfl; exact kb BK432) hb); replace HB := aM (below_step (kl HB) hb); clear hb ho25; have hcv26 := own_string (P := Try.prog) Try.underlying45 Try.underlying5 Try.underlying9 (Kd.own_of_R HO435.out); have hcz27_0 : w24.cell? ⟨gb432, 0, none⟩ = some (.string ((rd_T75 l0_1 x5_2).f0)) := bc BK432 0; have hcz27_1 : w24.cell? ⟨gb432, 1, none⟩ = some (.string ((rd_T75 l0_1 x5_2).f1)) := bc BK432 1; have hfz27_0 := blk_frozen BK432.out 0; have hfz27_1 := blk_frozen BK432.out 1) | ((with_reducible refine gate_dst (N := 44) rfl ?_); refine Kd.R_lit (Kd.int .u8) _ 5 ?hg (N := 44) ?hd (xs := ([((((rd_T75 l0_1 x5_2).f1).size : Int)) % 256] : List Int)) (inner := [.int .u8 (((((rd_T75 l0_1 x5_2).f1).size : Int)) % 256)]) (ok := fun _ => True) (okp := fun _ => True) ?hr ?hp (fun _ hk => hk) trivial (Below.refl _ _) (Nat.le_refl _) (by simp) ?_; (case hd => rfl); (case hg => rfl); (case hr => first | (go_simp; done) | (go_simp; rfl)); (case hp => exact (Reps.one (show Kd.M (Kd.int .u8) _ _ _ (((((rd_T75 l0_1 x5_2).f1).size : Int)) % 256) [.int .u8 (((((rd_T75 l0_1 x5_2).f1).size : Int)) % 256)] from rfl) (Reps.none _ _))); intro v437 w28 ho29 hb hg_ hnew_; clear hg_ hnew_; (first | rw [← Ny436.out] at ho29 | (simp only [Int.reduceToNat] at ho29; rw [← Ny436.out] at ho29)); have HO438 := aM (Kd.R_lower (Kd.R_new' ho29 (Kd.R_lt (kr HO435))) (below_size (kl HB))); replace HO435 := aM (Kd.R_elder' (kr HO435) (Kd.R_base ho29) hb); replace BK428 := bb BK428 hb; replace BK432 := bb BK432 hb; replace HB := aM (below_step (kl HB) hb); clear hb ho29; have hcv30 := own_string (P := Try.prog) Try.underlying45 Try.underlying5 Try.underlying9 (Kd.own_of_R HO438.out); have hcz31_0 : w28.cell? ⟨gb432, 0, none⟩ = some (.string ((rd_T75 l0_1 x5_2).f0)) := bc BK432 0; have hcz31_1 : w28.cell? ⟨gb432, 1, none⟩ = some (.string ((rd_T75 l0_1 x5_2).f1)) := bc BK432 1; have hfz31_0 := blk_frozen BK432.out 0; have hfz31_1 := blk_frozen BK432.out 1))
      go_roundg k2
      case measure => have := HJ5.out; have := HK2.out; omega
      case rel => exact ⟨((((x4_2 ++ (strOfNums y433)) ++ ((rd_T75 l0_1 x5_2).f0)) ++ (strOfNums y436)) ++ ((rd_T75 l0_1 x5_2).f1)), (wrap64 (x5_2 + 1)), (by first | rfl | (simp; done) | (simp [*]; done)), (by first | rfl | (simp; done) | (simp [*]; done)), H', ⟨by have := HJ5.out; have := HK2.out; omega⟩, ⟨kb BK428⟩, ⟨kl HB⟩⟩
     rw [if_neg c14] at H
     have c14b0 : decide (x5_2 < (l0_1.length : Int)) = false := decide_eq_false c14
     clear c14
     have H' := aM H
     clear H
     have hcz32_0 : wr.cell? ⟨gb428, 0, none⟩ = some (.bool a0_0) := bc BK428 0
     have hcz32_1 : wr.cell? ⟨gb428, 1, none⟩ = some (.slice A0_1 l0_1.length c0_1) := bc BK428 1
     have hcz32_2 : wr.cell? ⟨gb428, 2, none⟩ = some (.slice A0_2 l0_2.length c0_2) := bc BK428 2
     have hfz32_0 := blk_frozen BK428.out 0
     have hfz32_1 := blk_frozen BK428.out 1
     have hfz32_2 := blk_frozen BK428.out 2
     go_wp2
     go_loopg [4, 7] k2 (fun kq v4 v7 w' => ∃ (x4_3 : ByteArray) (x7_3 : Int), v4 = .string x4_3 ∧ v7 = .int .i64 x7_3 ∧ Aside0 (rf_Encode.l1 kq x4_3 x7_3 a0_0 l0_1 l0_2 = some (r1, r2)) ∧ Aside0 (kq ≤ k2) ∧ Aside0 (w'.heap[gb428]? = some (.cells #[.bool a0_0, (.slice A0_1 l0_1.length c0_1), (.slice A0_2 l0_2.length c0_2)] 25 (0, 0))) ∧ Aside0 (Below w.heap.size w w'))
     case atStart => exact ⟨(x4_2), (0), (by first | rfl | (simp; done) | (simp [*]; done)), (by first | rfl | (simp; done) | (simp [*]; done)), H', ⟨Nat.le_refl _⟩, ⟨kb BK428⟩, ⟨kl HB⟩⟩
     case round =>
      clear H'
      try clear c1
      try clear c2
      try clear p2
      try clear hcv2
      try clear c3
      try clear hcv3
      try clear p4
      try clear q4
      try clear hx4
      try clear c5
      try clear p6
      try clear c13
      try clear c14
      try clear c14b0
      try clear c15
      try clear c15b0
      try clear c16
      try clear c16b0
      try clear c16b1
      try clear c16b2
      try clear c17
      try clear c17b0
      try clear c17b1
      try clear c17b2
      try clear c18
      try clear c18b0
      try clear c18b1
      try clear c18b2
      try clear c19
      try clear c19b0
      try clear c19b1
      try clear c19b2
      try clear c21
      try clear c22
      try clear c23
      try clear c25
      try clear hcv26
      try clear hcv30
      try clear hcz10_0
      try clear hcz10_1
      try clear hcz10_2
      try clear hcz12_0
      try clear hcz12_1
      try clear hcz12_2
      try clear hcz20_0
      try clear hcz20_1
      try clear hcz20_2
      try clear hcz23_0
      try clear hcz23_1
      try clear hcz27_0
      try clear hcz27_1
      try clear hcz31_0
      try clear hcz31_1
      try clear hcz32_0
      try clear hcz32_1
      try clear hcz32_2
      try clear hcz8_0
      try clear hcz8_1
      try clear hcz8_2
      try clear hfz10_0
      try clear hfz10_1
      try clear hfz10_2
      try clear hfz12_0
      try clear hfz12_1
      try clear hfz12_2
      try clear hfz20_0
      try clear hfz20_1
      try clear hfz20_2
      try clear hfz23_0
      try clear hfz23_1
      try clear hfz27_0
      try clear hfz27_1
      try clear hfz31_0
      try clear hfz31_1
      try clear hfz32_0
      try clear hfz32_1
      try clear hfz32_2
      try clear hfz8_0
      try clear hfz8_1
      try clear hfz8_2
      try clear hx431_0
      try clear hx431_1
      try clear p2
      try clear p431
      try clear q431
      obtain ⟨x4_3, x7_3, rfl, rfl, HA, HK3, BK428, HB⟩ := hrel
      cases gk with
      | zero => exact absurd HA.out (by simp [rf_Encode.l1])
      | succ k3 =>
       have H := HA.out
       clear HA
       simp only [rf_Encode.l1] at H
       by_cases c33 : x7_3 < (l0_2.length : Int)
       rotate_left
       ·rw [if_neg c33] at H
        have c33b0 : decide (x7_3 < (l0_2.length : Int)) = false := decide_eq_false c33
        clear c33
        simp only [Option.some.injEq, Prod.mk.injEq] at H
        obtain ⟨rfl, rfl⟩ := H
        have hcz49_0 : wr.cell? ⟨gb428, 0, none⟩ = some (.bool a0_0) := bc BK428 0
        have hcz49_1 : wr.cell? ⟨gb428, 1, none⟩ = some (.slice A0_1 l0_1.length c0_1) := bc BK428 1
        have hcz49_2 : wr.cell? ⟨gb428, 2, none⟩ = some (.slice A0_2 l0_2.length c0_2) := bc BK428 2
        have hfz49_0 := blk_frozen BK428.out 0
        have hfz49_1 := blk_frozen BK428.out 1
        have hfz49_2 := blk_frozen BK428.out 2
        go_wp2
        go_ret2
        exact ⟨by first | rfl | (simp [errW_none, errW_some] <;> rfl) | (simp [*, errW_none, errW_some] <;> rfl), kl HB⟩
       rw [if_pos c33] at H
       have c33b0 : decide (x7_3 < (l0_2.length : Int)) = true := decide_eq_true c33
       clear c33
       by_cases c34 : 0 ≤ x7_3
       rotate_left
       ·rw [if_neg c34] at H
        exact absurd H (by simp)
       rw [if_pos c34] at H
       have c34b0 : decide (0 ≤ x7_3) = true := decide_eq_true c34
       clear c34
       obtain ⟨y441, hy441⟩ : ∃ y_ : List Int, y_ = (([((((rd_T76 l0_2 x7_3).f0).size : Int)) % 256] : List Int)) := ⟨_, rfl⟩
       replace H : (if x4_3.size + (strOfNums y441).size ≤ 9223372036854775807 then (if (x4_3 ++ (strOfNums y441)).size + ((rd_T76 l0_2 x7_3).f0).size ≤ 9223372036854775807 then ((some (([(wrap64 (Int.tdiv ((rd_T76 l0_2 x7_3).f1) 256)) % 256, (Int.tmod ((rd_T76 l0_2 x7_3).f1) 256) % 256] : List Int) : List Int)).bind fun y444 => (if ((x4_3 ++ (strOfNums y441)) ++ ((rd_T76 l0_2 x7_3).f0)).size + (strOfNums y444).size ≤ 9223372036854775807 then (rf_Encode.l1 k3 (((x4_3 ++ (strOfNums y441)) ++ ((rd_T76 l0_2 x7_3).f0)) ++ (strOfNums y444)) (wrap64 (x7_3 + 1)) a0_0 l0_1 l0_2) else (none))) else (none)) else (none)) = some (r1, r2) := by first | (rw [hy441]; with_reducible exact H) | (have H2_ := (Option.bind_some _ _).symm.trans H; rw [hy441]; with_reducible exact H2_) | (have H2_ := (Option.bind_some _ _).symm.trans H; with_reducible exact H2_) | with_reducible exact H | (rw [hy441]; exact H) | exact H
       have Ny441 := aM hy441
       clear hy441
       by_cases c35 : x4_3.size + (strOfNums y441).size ≤ 9223372036854775807
       rotate_left
       ·rw [if_neg c35] at H
        exact absurd H (by simp)
       rw [if_pos c35] at H
       have c35b0 := eq_true c35
       have c35b1 : decide (x4_3.size + (strOfNums y441).size ≤ 9223372036854775807) = true := decide_eq_true c35
       try have c35b2 : (9223372036854775807 < x4_3.size + (strOfNums y441).size) = False := eq_false (Nat.not_lt.2 c35)
       by_cases c36 : (x4_3 ++ (strOfNums y441)).size + ((rd_T76 l0_2 x7_3).f0).size ≤ 9223372036854775807
       rotate_left
       ·rw [if_neg c36] at H
        exact absurd H (by simp)
       rw [if_pos c36] at H
       have c36b0 := eq_true c36
       have c36b1 : decide ((x4_3 ++ (strOfNums y441)).size + ((rd_T76 l0_2 x7_3).f0).size ≤ 9223372036854775807) = true := decide_eq_true c36
       try have c36b2 : (9223372036854775807 < (x4_3 ++ (strOfNums y441)).size + ((rd_T76 l0_2 x7_3).f0).size) = False := eq_false (Nat.not_lt.2 c36)
       obtain ⟨y444, hy444⟩ : ∃ y_ : List Int, y_ = (([(wrap64 (Int.tdiv ((rd_T76 l0_2 x7_3).f1) 256)) % 256, (Int.tmod ((rd_T76 l0_2 x7_3).f1) 256) % 256] : List Int)) := ⟨_, rfl⟩
       replace H : (if ((x4_3 ++ (strOfNums y441)) ++ ((rd_T76 l0_2 x7_3).f0)).size + (strOfNums y444).size ≤ 9223372036854775807 then (rf_Encode.l1 k3 (((x4_3 ++ (strOfNums y441)) ++ ((rd_T76 l0_2 x7_3).f0)) ++ (strOfNums y444)) (wrap64 (x7_3 + 1)) a0_0 l0_1 l0_2) else (none)) = some (r1, r2) := by first | (rw [hy444]; with_reducible exact H) | (have H2_ := (Option.bind_some _ _).symm.trans H; rw [hy444]; with_reducible exact H2_) | (have H2_ := (Option.bind_some _ _).symm.trans H; with_reducible exact H2_) | with_reducible exact H | (rw [hy444]; exact H) | exact H
       have Ny444 := aM hy444
       clear hy444
       by_cases c37 : ((x4_3 ++ (strOfNums y441)) ++ ((rd_T76 l0_2 x7_3).f0)).size + (strOfNums y444).size ≤ 9223372036854775807
       rotate_left
       ·rw [if_neg c37] at H
        exact absurd H (by simp)
       rw [if_pos c37] at H
       have c37b0 := eq_true c37
       have c37b1 : decide (((x4_3 ++ (strOfNums y441)) ++ ((rd_T76 l0_2 x7_3).f0)).size + (strOfNums y444).size ≤ 9223372036854775807) = true := decide_eq_true c37
       try have c37b2 : (9223372036854775807 < ((x4_3 ++ (strOfNums y441)) ++ ((rd_T76 l0_2 x7_3).f0)).size + (strOfNums y444).size) = False := eq_false (Nat.not_lt.2 c37)
       have H' := aM H
       clear H
       have hcz38_0 : wr.cell? ⟨gb428, 0, none⟩ = some (.bool a0_0) := bc BK428 0
       have hcz38_1 : wr.cell? ⟨gb428, 1, none⟩ = some (.slice A0_1 l0_1.length c0_1) := bc BK428 1
       have hcz38_2 : wr.cell? ⟨gb428, 2, none⟩ = some (.slice A0_2 l0_2.length c0_2) := bc BK428 2
       have hfz38_0 := blk_frozen BK428.out 0
       have hfz38_1 := blk_frozen BK428.out 1
       have hfz38_2 := blk_frozen BK428.out 2
       have p439 : 0 ≤ (x7_3 : Int) := of_decide_eq_true (by first | (with_reducible assumption) | assumption)
       have q439 : x7_3 < (l0_2.length : Int) := of_decide_eq_true (by first | (with_reducible assumption) | assumption)
       obtain ⟨ad439, e439, hx439_0, hx439_1⟩ := at_T76 HR0_2.out x7_3 p439 q439
       cases e439
       replace hx439_0 := (HB.out.cell (World.block_lt_of_cell? w _ hx439_0)).trans hx439_0
       replace hx439_1 := (HB.out.cell (World.block_lt_of_cell? w _ hx439_1)).trans hx439_1
       replace p439 := eq_true p439
       replace q439 := eq_true q439
       go_wp2_with (first | ((with_reducible refine gate_dst (N := 8) rfl ?_); refine box_event ?hg (N := 8) ?hd (cs := #[.string (⟨#[]⟩ : ByteArray), .int .i64 0]) (t := 76) ?hr ?_; (case hd => rfl); (case hg => rfl); (case hr => first | (go_simp; done) | (go_simp; rfl)); intro gb440 hg w39 hbox hb; have BK440 := aM (hbox); have GE440 := gw hg HB; replace HB := aM (below_step (kl HB) hb); have NB428_440 := nl hg BK428; have NB440_428 := ng hg BK428; replace BK428 := bb BK428 hb; clear hb hbox hg; have hnb40 := NB440_428.out; have hnc40 := NB428_440.out; have hcz41_0 : w39.cell? ⟨gb440, 0, none⟩ = some (.string (⟨#[]⟩ : ByteArray)) := bc BK440 0; have hcz41_1 : w39.cell? ⟨gb440, 1, none⟩ = some (.int .i64 0) := bc BK440 1; have hfz41_0 := blk_frozen BK440.out 0; have hfz41_1 := blk_frozen BK440.out 1) | ((with_reducible refine gate_dst (N := 67) rfl ?_); refine Kd.R_lit (Kd.int .u8) _ 5 ?hg (N := 67) ?hd (xs := ([((((rd_T76 l0_2 x7_3).f0).size : Int)) % 256] : List Int)) (inner := [.int .u8 (((((rd_T76 l0_2 x7_3).f0).size : Int)) % 256)]) (ok := fun _ => True) (okp := fun _ => True) ?hr ?hp (fun _ hk => hk) trivial (Below.refl _ _) (Nat.le_refl _) (by simp) ?_; (case hd => rfl); (case hg => rfl); (case hr => first | (go_simp; done) | (go_simp; rfl)); (case hp => exact (Reps.one (show Kd.M (Kd.int .u8) _ _ _ (((((rd_T76 l0_2 x7_3).f0).size : Int)) % 256) [.int .u8 (((((rd_T76 l0_2 x7_3).f0).size : Int)) % 256)] from rfl) (Reps.none _ _))); intro v442 w42 ho43 hb hg_ hnew_; clear hg_ hnew_; (first | rw [← Ny441.out] at ho43 | (simp only [Int.reduceToNat] at ho43; rw [← Ny441.out] at ho43)); have HO443 := aM (Kd.R_lower ho43 (below_size (kl HB))); replace BK428 := bf NB428_440 BK428 hb; replace BK440 := aM (blk_below (g := gb440) (o := .cells #[.string ((rd_T76 l0_2 x7_3).f0), .int .i64 ((rd_T76 l0_2 x7_3).f1)] 76 (0, 0)) (by (with_reducible repeat (first | refine blk_drewN ?_ _ | refine blk_drew ?_ | refine blk_alloc ?_ _)); refine blk_put (cs := #[.string ((rd_T76 l0_2 x7_3).f0), .int .i64 0]) ?_ 1 _ rfl; (with_reducible repeat (first | refine blk_drewN ?_ _ | refine blk_drew ?_ | refine blk_alloc ?_ _)); refine blk_put (cs := #[.string (⟨#[]⟩ : ByteArray), .int .i64 0]) ?_ 0 _ rfl; exact kb BK440) hb); replace HB := aM (below_step (kl HB) hb); clear hb ho43; have hcv44 := own_string (P := Try.prog) Try.underlying45 Try.underlying5 Try.underlying9 (Kd.own_of_R HO443.out); have hcz45_0 : w42.cell? ⟨gb440, 0, none⟩ = some (.string ((rd_T76 l0_2 x7_3).f0)) := bc BK440 0; have hcz45_1 : w42.cell? ⟨gb440, 1, none⟩ = some (.int .i64 ((rd_T76 l0_2 x7_3).f1)) := bc BK440 1; have hfz45_0 := blk_frozen BK440.out 0; have hfz45_1 := blk_frozen BK440.out 1) | ((with_reducible refine gate_dst (N := 81) rfl ?_); refine Kd.R_lit (Kd.int .u8) _ 5 ?hg (N := 81) ?hd (xs := ([(wrap64 (Int.tdiv ((rd_T76 l0_2 x7_3).f1) 256)) % 256, (Int.tmod ((rd_T76 l0_2 x7_3).f1) 256) % 256] : List Int)) (inner := [.int .u8 ((wrap64 (Int.tdiv ((rd_T76 l0_2 x7_3).f1) 256)) % 256), .int .u8 ((Int.tmod ((rd_T76 l0_2 x7_3).f1) 256) % 256)]) (ok := fun _ => True) (okp := fun _ => True) ?hr ?hp (fun _ hk => hk) trivial (Below.refl _ _) (Nat.le_refl _) (by simp) ?_; (case hd => rfl); (case hg => rfl); (case hr => first | (go_simp; done) | (go_simp; rfl)); (case hp => exact (Reps.one (show Kd.M (Kd.int .u8) _ _ _ ((wrap64 (Int.tdiv ((rd_T76 l0_2 x7_3).f1) 256)) % 256) [.int .u8 ((wrap64 (Int.tdiv ((rd_T76 l0_2 x7_3).f1) 256)) % 256)] from rfl) (Reps.one (show Kd.M (Kd.int .u8) _ _ _ ((Int.tmod ((rd_T76 l0_2 x7_3).f1) 256) % 256) [.int .u8 ((Int.tmod ((rd_T76 l0_2 x7_3).f1) 256) % 256)] from rfl) (Reps.none _ _)))); intro v445 w46 ho47 hb hg_ hnew_; clear hg_ hnew_; (first | rw [← Ny444.out] at ho47 | (simp only [Int.reduceToNat] at ho47; rw [← Ny444.out] at ho47)); have HO446 := aM (Kd.R_lower (Kd.R_new' ho47 (Kd.R_lt (kr HO443))) (below_size (kl HB))); replace HO443 := aM (Kd.R_elder' (kr HO443) (Kd.R_base ho47) hb); replace BK428 := bb BK428 hb; replace BK440 := bb BK440 hb; replace HB := aM (below_step (kl HB) hb); clear hb ho47; have hcv48 := own_string (P := Try.prog) Try.underlying45 Try.underlying5 Try.underlying9 (Kd.own_of_R HO446.out)))
       go_roundg k3
       case measure => have := HJ5.out; have := HK2.out; have := HK3.out; omega
       case rel => exact ⟨(((x4_3 ++ (strOfNums y441)) ++ ((rd_T76 l0_2 x7_3).f0)) ++ (strOfNums y444)), (wrap64 (x7_3 + 1)), (by first | rfl | (simp; done) | (simp [*]; done)), (by first | rfl | (simp; done) | (simp [*]; done)), H', ⟨by have := HJ5.out; have := HK2.out; have := HK3.out; omega⟩, ⟨kb BK428⟩, ⟨kl HB⟩⟩
end Go.Proofs.Ytfbaejhjppikpaa.P
namespace Go.Proofs.Ytfbaejhjppikpaa.P
open Go.RowKit Go.Proofs.YtfbaejhjppikpaaW.PrintWords Go.Proofs.YtfbaejhjppikpaaW.PrintLast Go.Proofs.YtfbaejhjppikpaaW.PrintMore
open Go.Proofs.YtfbaejhjppikpaaB
theorem bytesOf_app (s t : ByteArray) : bytesOf (s ++ t) = bytesOf s ++ bytesOf t := by
  unfold bytesOf
  rw [ByteArray.data_append, Array.toList_append, List.map_append]
theorem strOf_size (xs : List Int) : (strOfNums xs).size = xs.length := by
  rw [← bytesOf_length]
  unfold bytesOf strOfNums
  simp
theorem size_app (s t : ByteArray) : (s ++ t).size = s.size + t.size := ByteArray.size_append
theorem refEnc_l1 (a : Bool) (l : List S75) (m : List S76) (hm : m.length ≤ 1000) (hs : ∀ x ∈ m, x.f0.size ≤ 1000 ∧ 0 ≤ x.f1 ∧ x.f1 < 65536) : ∀ (d i k : Nat) (x : ByteArray), i + d = m.length → x.size ≤ 4000000 + 2000 * i →
    rf_Encode.l1 (d + (k + 1)) x (i : Int) a l m = some (strOfNums (bytesOf x ++ ((m.drop i).map toB).flatMap encB), 0) := by
  intro d
  induction d with
  | zero =>
    intro i k x h h0
    rw [show 0 + (k + 1) = k + 1 from by omega]
    simp only [rf_Encode.l1]
    rw [if_neg (by omega), List.drop_of_length_le (by omega)]
    simp only [List.map_nil, List.flatMap_nil, List.append_nil, strOf_bytesOf]
  | succ d ih =>
    intro i k x h h0
    obtain ⟨q, hq⟩ : ∃ q, q = d + (k + 1) := ⟨_, rfl⟩
    rw [show d + 1 + (k + 1) = q + 1 from by omega]
    have hi : i < m.length := by omega
    obtain ⟨hx, hp0, hp1⟩ := hs m[i] (List.getElem_mem hi)
    simp only [rf_Encode.l1]
    rw [if_pos (by omega), if_pos (by omega), rdB6 m i hi, wrap_nat i (by omega)]
    simp only [Option.bind_some]
    have b1 : bytesOf (strOfNums [((m[i].f0.size : Int)) % 256]) = [((m[i].f0.size : Int)) % 256] := bytesOf_strOf _ (fun y hy => by rw [List.mem_singleton.1 hy]; omega)
    have e1 : (wrap64 (Int.tdiv m[i].f1 256)) % 256 = m[i].f1 / 256 % 256 := by
      rw [Int.tdiv_eq_ediv_of_nonneg hp0]; unfold wrap64; omega
    have e2 : (Int.tmod m[i].f1 256) % 256 = m[i].f1 % 256 := by
      rw [Int.tmod_eq_emod_of_nonneg hp0]; omega
    rw [e1, e2]
    have b2 : bytesOf (strOfNums [m[i].f1 / 256 % 256, m[i].f1 % 256]) = [m[i].f1 / 256 % 256, m[i].f1 % 256] := bytesOf_strOf _ (fun y hy => by
      rcases List.mem_cons.1 hy with rfl | hy
      · omega
      · rw [List.mem_singleton.1 hy]; omega)
    have z1 := strOf_size [((m[i].f0.size : Int)) % 256]
    have z2 := strOf_size [m[i].f1 / 256 % 256, m[i].f1 % 256]
    simp only [List.length_cons, List.length_nil] at z1 z2
    rw [if_pos (by omega), if_pos (by rw [size_app]; omega), if_pos (by rw [size_app, size_app]; omega), hq, ih (i + 1) k _ (by omega) (by rw [size_app, size_app, size_app]; omega), List.drop_eq_getElem_cons hi]
    simp only [bytesOf_app, b1, b2, List.map_cons, List.flatMap_cons, toB, encB, textL, u8_wrap, List.append_assoc, List.cons_append, List.nil_append]
theorem refEnc_l0 (a : Bool) (l : List S75) (m : List S76) (hl : l.length ≤ 1000) (hs : ∀ x ∈ l, x.f0.size ≤ 1000 ∧ x.f1.size ≤ 1000) : ∀ (d i k : Nat) (x : ByteArray), i + d = l.length → x.size ≤ 1 + 3000 * i →
    ∃ y : ByteArray, bytesOf y = bytesOf x ++ ((l.drop i).map toE).flatMap encE ∧ y.size ≤ 1 + 3000 * l.length ∧ rf_Encode.l0 (d + (k + 1)) x (i : Int) a l m = rf_Encode.l1 k y 0 a l m := by
  intro d
  induction d with
  | zero =>
    intro i k x h h0
    refine ⟨x, ?_, by omega, ?_⟩
    · rw [List.drop_of_length_le (by omega)]; simp
    · rw [show 0 + (k + 1) = k + 1 from by omega]
      simp only [rf_Encode.l0]
      rw [if_neg (by omega)]
  | succ d ih =>
    intro i k x h h0
    obtain ⟨q, hq⟩ : ∃ q, q = d + (k + 1) := ⟨_, rfl⟩
    rw [show d + 1 + (k + 1) = q + 1 from by omega]
    have hi : i < l.length := by omega
    obtain ⟨hx, hx2⟩ := hs l[i] (List.getElem_mem hi)
    simp only [rf_Encode.l0]
    rw [if_pos (by omega), if_pos (by omega), rdE5 l i hi, wrap_nat i (by omega)]
    simp only [Option.bind_some]
    have b1 : bytesOf (strOfNums [((l[i].f0.size : Int)) % 256]) = [((l[i].f0.size : Int)) % 256] := bytesOf_strOf _ (fun y hy => by rw [List.mem_singleton.1 hy]; omega)
    have b2 : bytesOf (strOfNums [((l[i].f1.size : Int)) % 256]) = [((l[i].f1.size : Int)) % 256] := bytesOf_strOf _ (fun y hy => by rw [List.mem_singleton.1 hy]; omega)
    have z1 := strOf_size [((l[i].f0.size : Int)) % 256]
    have z2 := strOf_size [((l[i].f1.size : Int)) % 256]
    simp only [List.length_cons, List.length_nil] at z1 z2
    rw [if_pos (by omega), if_pos (by rw [size_app]; omega), if_pos (by rw [size_app, size_app]; omega), if_pos (by rw [size_app, size_app, size_app]; omega), hq]
    obtain ⟨y, y1, y2, y3⟩ := ih (i + 1) k ((((x ++ (strOfNums [((l[i].f0.size : Int)) % 256])) ++ l[i].f0) ++ (strOfNums [((l[i].f1.size : Int)) % 256])) ++ l[i].f1) (by omega) (by rw [size_app, size_app, size_app, size_app]; omega)
    refine ⟨y, ?_, y2, y3⟩
    rw [y1, List.drop_eq_getElem_cons hi]
    simp only [bytesOf_app, b1, b2, List.map_cons, List.flatMap_cons, toE, encE, textL, u8_wrap, List.append_assoc, List.cons_append, List.nil_append]
theorem okB_page (m : List S36) (h : allFrom (okB m) 0 m.length = true) : ∀ x ∈ m, 0 ≤ x.f1 ∧ x.f1 < 65536 := by
  intro x hx
  obtain ⟨i, hi, rfl⟩ := List.getElem_of_mem hx
  have := (allFrom_iff _ _ _).1 h i (by omega) (by omega)
  unfold okB at this
  rw [rdB7 m i hi] at this
  simp only [Bool.and_eq_true, decide_eq_true_eq] at this
  omega
theorem refEncode_tells (a : Bool) (l : List S75) (m : List S76) (h : Small (l.map toE) (m.map toB)) (k : Nat) (hk : 8000 ≤ k) : rf_Encode.f k a l m = some (if mayB a (l.map toE) (m.map toB) = true then (if decide (sizeN (l.map toE) (m.map toB) ≤ 254) = true then (strOfNums (encN a (l.map toE) (m.map toB)), 0) else (⟨#[]⟩, 40)) else (⟨#[]⟩, 4)) := by
  obtain ⟨hl, hm, h3, h4⟩ := small_back h
  obtain ⟨k, rfl⟩ : ∃ q, k = q + 1 := ⟨k - 1, by omega⟩
  unfold rf_Encode.f
  rw [refMay_tells a l m hl hm (k + 1) (by omega), refFits_tells a l m h (k + 1) (by omega)]
  simp only [Option.bind_some]
  cases e : mayB a (l.map toE) (m.map toB) with
  | false => simp only [Bool.false_eq_true, if_false]
  | true =>
    obtain ⟨_, _, hpb⟩ := may_parts e
    have hpg := okB_page _ hpb
    have h4' : ∀ x ∈ m, x.f0.size ≤ 1000 ∧ 0 ≤ x.f1 ∧ x.f1 < 65536 := fun x hx => ⟨h4 x hx, hpg (toB x) (List.mem_map_of_mem hx)⟩
    by_cases hf : sizeN (l.map toE) (m.map toB) ≤ 254
    · have key : ∀ (x : ByteArray) (c : Int), bytesOf x = [c] → x.size ≤ 1 → rf_Encode.j0 (k + 1) x a l m = some (strOfNums (c :: ((l.map toE).flatMap encE ++ (m.map toB).flatMap encB)), 0) := by
        intro x c hx hxs
        simp only [rf_Encode.j0]
        obtain ⟨q, hq⟩ : ∃ q, k = l.length + (m.length + (q + 1) + 1) := ⟨k - (l.length + m.length + 2), by omega⟩
        obtain ⟨y, y1, y2, y3⟩ := refEnc_l0 a l m hl h3 l.length 0 (m.length + (q + 1)) x (by omega) (by omega)
        rw [hq, show ((0 : Int)) = ((0 : Nat) : Int) from rfl, y3, show ((0 : Int)) = ((0 : Nat) : Int) from rfl, refEnc_l1 a l m hm h4' m.length 0 q y (by omega) (by omega), y1, hx]
        simp only [List.drop_zero, List.cons_append, List.nil_append]; rfl
      simp only [decide_eq_true hf, if_true]
      unfold encN
      cases a with
      | true => rw [if_pos rfl, if_pos rfl]; exact key _ 1 (by decide) (by decide)
      | false => rw [if_neg (by decide), if_neg (by decide)]; exact key _ 2 (by decide) (by decide)
    · simp only [decide_eq_false hf, if_true, Bool.false_eq_true, if_false]
end Go.Proofs.Ytfbaejhjppikpaa.P
namespace Go.Proofs.Ytfbaejhjppikpaa.P
open Go.RowKit Go.Proofs.YtfbaejhjppikpaaW.PrintWords Go.Proofs.YtfbaejhjppikpaaW.PrintLast Go.Proofs.YtfbaejhjppikpaaW.PrintMore
attribute [local go_sem] max2_int min2_int max_two min_two max_three min_three max_four min_four
set_option linter.unusedVariables false
set_option linter.unusedSimpArgs false
def rf_cut.f (a0_0 : Bool) (l0_1 : List S75) (l0_2 : List S76) (a1 : Int) : Option (Bool × (List S75) × (List S76) × Bool × (List S75) × (List S76)) := if a0_0 = true then (if 0 ≤ a1 then (if a1 ≤ (l0_1.length : Int) then ((some (l0_1.take (a1 : Int).toNat : List S75)).bind fun y461 => (if ([] : List S75).length + y461.length < 4398046511104 then ((some (l0_1.drop (a1 : Int).toNat : List S75)).bind fun y468 => (if ([] : List S75).length + y468.length < 4398046511104 then (some (a0_0, (([] : List S75) ++ y461), ([] : List S76), a0_0, (([] : List S75) ++ y468), ([] : List S76))) else (none))) else (none))) else (none)) else (none)) else (if 0 ≤ a1 then (if a1 ≤ (l0_2.length : Int) then ((some (l0_2.take (a1 : Int).toNat : List S76)).bind fun y475 => (if ([] : List S76).length + y475.length < 5864062014805 then ((some (l0_2.drop (a1 : Int).toNat : List S76)).bind fun y482 => (if ([] : List S76).length + y482.length < 5864062014805 then (some (a0_0, ([] : List S75), (([] : List S76) ++ y475), a0_0, ([] : List S75), (([] : List S76) ++ y482))) else (none))) else (none))) else (none)) else (none))
def rf_cut.T1 : Bool × List (List Nat × List Nat) := (true, [([], []), ([0], [0]), ([1], [1]), ([], []), ([3], [3]), ([4], [4]), ([], []), ([], []), ([6, 2, 0, 1, 2, 6, 7], [2, 6]), ([7, 5, 8, 0, 1, 2, 3, 4, 5, 6, 7, 8], [5, 7])])
def rf_cut.B1 : List Nat := [0, 1, 3, 0, 8, 24, 0, 0, 199, 511]
theorem rf_cut.tab1 : rtab .any (opsOf Try.f50 1) = rf_cut.T1 := by kernel_rfl
theorem rf_cut.bits1 : waitsOk rf_cut.T1.2 rf_cut.B1 = true := by kernel_rfl
def rf_cut.T3 : Bool × List (List Nat × List Nat) := (true, [([], []), ([0], [0]), ([], []), ([2], [2]), ([], []), ([3, 4], [3, 4]), ([1, 5], [1, 5]), ([0, 1, 2, 3, 4, 5, 6], []), ([7, 6, 6, 0, 1, 2, 3, 4, 5, 6], [6, 7])])
def rf_cut.B3 : List Nat := [0, 1, 0, 4, 0, 28, 63, 127, 255]
theorem rf_cut.tab3 : rtab .any (opsOf Try.f50 3) = rf_cut.T3 := by kernel_rfl
theorem rf_cut.bits3 : waitsOk rf_cut.T3.2 rf_cut.B3 = true := by kernel_rfl
def rf_cut.T4 : Bool × List (List Nat × List Nat) := (true, [([], []), ([0], [0]), ([], []), ([2], [2]), ([], []), ([3, 4], [3, 4]), ([1, 5], [1, 5]), ([0, 1, 2, 3, 4, 5, 6], []), ([7, 6, 6, 0, 1, 2, 3, 4, 5, 6], [6, 7])])
def rf_cut.B4 : List Nat := [0, 1, 0, 4, 0, 28, 63, 127, 255]
theorem rf_cut.tab4 : rtab .any (opsOf Try.f50 4) = rf_cut.T4 := by kernel_rfl
theorem rf_cut.bits4 : waitsOk rf_cut.T4.2 rf_cut.B4 = true := by kernel_rfl
def rf_cut.T5 : Bool × List (List Nat × List Nat) := (true, [([], []), ([0], [0]), ([], []), ([2], [2]), ([], []), ([3, 4], [3, 4]), ([1, 5], [1, 5]), ([0, 1, 2, 3, 4, 5, 6], []), ([7, 6, 6, 0, 1, 2, 3, 4, 5, 6], [6, 7])])
def rf_cut.B5 : List Nat := [0, 1, 0, 4, 0, 28, 63, 127, 255]
theorem rf_cut.tab5 : rtab .any (opsOf Try.f50 5) = rf_cut.T5 := by kernel_rfl
theorem rf_cut.bits5 : waitsOk rf_cut.T5.2 rf_cut.B5 = true := by kernel_rfl
def rf_cut.T6 : Bool × List (List Nat × List Nat) := (true, [([], []), ([0], [0]), ([], []), ([2], [2]), ([], []), ([3, 4], [3, 4]), ([1, 5], [1, 5]), ([0, 1, 2, 3, 4, 5, 6], []), ([7, 6, 6, 0, 1, 2, 3, 4, 5, 6], [6, 7])])
def rf_cut.B6 : List Nat := [0, 1, 0, 4, 0, 28, 63, 127, 255]
theorem rf_cut.tab6 : rtab .any (opsOf Try.f50 6) = rf_cut.T6 := by kernel_rfl
theorem rf_cut.bits6 : waitsOk rf_cut.T6.2 rf_cut.B6 = true := by kernel_rfl
set_option maxHeartbeats 8000000 in
set_option maxRecDepth 100000 in
theorem rf_cut.calls (a0_0 : Bool) (A0_1 : Option Addr) (c0_1 : Nat) (l0_1 : List S75) (A0_2 : Option Addr) (c0_2 : Nat) (l0_2 : List S76) (a1 : Int) (r1 : Bool) (r2 : List S75) (r3 : List S76) (r4 : Bool) (r5 : List S75) (r6 : List S76) (w : World) (hr0_1 : Kd.C k75 w A0_1 l0_1.length l0_1) (hc0_1 : l0_1.length ≤ c0_1) (hr0_2 : Kd.C k76 w A0_2 l0_2.length l0_2) (hc0_2 : l0_2.length ≤ c0_2) (h : rf_cut.f a0_0 l0_1 l0_2 a1 = some (r1, r2, r3, r4, r5, r6)) :
  Calls Try.prog 50 #[.agg #[.bool a0_0, .slice A0_1 l0_1.length c0_1, .slice A0_2 l0_2.length c0_2], .int .i64 a1] w fun e w' => ∃ v1_ v2_ v4_ v5_ : Value, e = .returned (.tuple #[.agg #[.bool r1, v1_, v2_], .agg #[.bool r4, v4_, v5_]]) ∧ Kd.R k75 75 w' w.heap.size (fun k_ => some k_ ≠ (v4_ : Value).ownBlock) v1_ r2 ∧ Kd.R k76 76 w' w.heap.size (fun k_ => some k_ ≠ (v5_ : Value).ownBlock) v2_ r3 ∧ Kd.R k75 75 w' w.heap.size (fun k_ => some k_ ≠ (v1_ : Value).ownBlock) v4_ r5 ∧ Kd.R k76 76 w' w.heap.size (fun k_ => some k_ ≠ (v2_ : Value).ownBlock) v5_ r6 ∧ Below w.heap.size w w' := by
 have hu25 := Try.underlying25
 have HR0_1 := aM hr0_1
 have HC0_1 := aM hc0_1
 clear hr0_1 hc0_1
 have HR0_2 := aM hr0_2
 have HC0_2 := aM hc0_2
 clear hr0_2 hc0_2
 have HB := aM (Below.refl w.heap.size w)
 have H : (if a0_0 = true then (if 0 ≤ a1 then (if a1 ≤ (l0_1.length : Int) then ((some (l0_1.take (a1 : Int).toNat : List S75)).bind fun y461 => (if ([] : List S75).length + y461.length < 4398046511104 then ((some (l0_1.drop (a1 : Int).toNat : List S75)).bind fun y468 => (if ([] : List S75).length + y468.length < 4398046511104 then (some (a0_0, (([] : List S75) ++ y461), ([] : List S76), a0_0, (([] : List S75) ++ y468), ([] : List S76))) else (none))) else (none))) else (none)) else (none)) else (if 0 ≤ a1 then (if a1 ≤ (l0_2.length : Int) then ((some (l0_2.take (a1 : Int).toNat : List S76)).bind fun y475 => (if ([] : List S76).length + y475.length < 5864062014805 then ((some (l0_2.drop (a1 : Int).toNat : List S76)).bind fun y482 => (if ([] : List S76).length + y482.length < 5864062014805 then (some (a0_0, ([] : List S75), (([] : List S76) ++ y475), a0_0, ([] : List S75), (([] : List S76) ++ y482))) else (none))) else (none))) else (none)) else (none))) = some (r1, r2, r3, r4, r5, r6) := h
 clear h
 by_cases c3 : a0_0 = true
 ·subst c3
  have H1 : (if 0 ≤ a1 then (if a1 ≤ (l0_1.length : Int) then ((some (l0_1.take (a1 : Int).toNat : List S75)).bind fun y461 => (if ([] : List S75).length + y461.length < 4398046511104 then ((some (l0_1.drop (a1 : Int).toNat : List S75)).bind fun y468 => (if ([] : List S75).length + y468.length < 4398046511104 then (some (true, (([] : List S75) ++ y461), ([] : List S76), true, (([] : List S75) ++ y468), ([] : List S76))) else (none))) else (none))) else (none)) else (none)) = some (r1, r2, r3, r4, r5, r6) := by rw [if_pos rfl] at H; exact H
  clear H
  have H := H1
  clear H1
  by_cases c4 : 0 ≤ a1
  rotate_left
  ·rw [if_neg c4] at H
   exact absurd H (by simp)
  rw [if_pos c4] at H
  have c4b0 := eq_true c4
  have c4b1 : decide (0 ≤ a1) = true := decide_eq_true c4
  clear c4
  by_cases c5 : a1 ≤ (l0_1.length : Int)
  rotate_left
  ·rw [if_neg c5] at H
   exact absurd H (by simp)
  rw [if_pos c5] at H
  have c5b0 := eq_true c5
  have c5b1 : decide (a1 ≤ (l0_1.length : Int)) = true := decide_eq_true c5
  clear c5
  obtain ⟨y461, hy461⟩ : ∃ y_ : List S75, y_ = (l0_1.take (a1 : Int).toNat) := ⟨_, rfl⟩
  replace H : (if ([] : List S75).length + y461.length < 4398046511104 then ((some (l0_1.drop (a1 : Int).toNat : List S75)).bind fun y468 => (if ([] : List S75).length + y468.length < 4398046511104 then (some (true, (([] : List S75) ++ y461), ([] : List S76), true, (([] : List S75) ++ y468), ([] : List S76))) else (none))) else (none)) = some (r1, r2, r3, r4, r5, r6) := by first | (rw [hy461]; with_reducible exact H) | (have H2_ := (Option.bind_some _ _).symm.trans H; rw [hy461]; with_reducible exact H2_) | (have H2_ := (Option.bind_some _ _).symm.trans H; with_reducible exact H2_) | with_reducible exact H | (rw [hy461]; exact H) | exact H
  have Ny461 := aM hy461
  clear hy461
  by_cases c6 : ([] : List S75).length + y461.length < 4398046511104
  rotate_left
  ·rw [if_neg c6] at H
   exact absurd H (by simp)
  rw [if_pos c6] at H
  have LMc6 := aM c6
  clear c6
  obtain ⟨y465, hy465⟩ : ∃ y_ : List S75, y_ = (([] : List S75) ++ y461) := ⟨_, rfl⟩
  replace H : ((some (l0_1.drop (a1 : Int).toNat : List S75)).bind fun y468 => (if ([] : List S75).length + y468.length < 4398046511104 then (some (true, y465, ([] : List S76), true, (([] : List S75) ++ y468), ([] : List S76))) else (none))) = some (r1, r2, r3, r4, r5, r6) := by first | (rw [hy465]; with_reducible exact H) | (have H2_ := (Option.bind_some _ _).symm.trans H; rw [hy465]; with_reducible exact H2_) | (have H2_ := (Option.bind_some _ _).symm.trans H; with_reducible exact H2_) | with_reducible exact H | (rw [hy465]; exact H) | exact H
  have Ny465 := aM hy465
  clear hy465
  have c7b0 := eq_true (of_decide_eq_true (by first | (with_reducible assumption) | assumption) : 0 ≤ a1)
  have c8b0 := eq_true (of_decide_eq_true (by first | (with_reducible assumption) | assumption) : a1 ≤ (l0_1.length : Int))
  obtain ⟨y468, hy468⟩ : ∃ y_ : List S75, y_ = (l0_1.drop (a1 : Int).toNat) := ⟨_, rfl⟩
  replace H : (if ([] : List S75).length + y468.length < 4398046511104 then (some (true, y465, ([] : List S76), true, (([] : List S75) ++ y468), ([] : List S76))) else (none)) = some (r1, r2, r3, r4, r5, r6) := by first | (rw [hy468]; with_reducible exact H) | (have H2_ := (Option.bind_some _ _).symm.trans H; rw [hy468]; with_reducible exact H2_) | (have H2_ := (Option.bind_some _ _).symm.trans H; with_reducible exact H2_) | with_reducible exact H | (rw [hy468]; exact H) | exact H
  have Ny468 := aM hy468
  clear hy468
  by_cases c9 : ([] : List S75).length + y468.length < 4398046511104
  rotate_left
  ·rw [if_neg c9] at H
   exact absurd H (by simp)
  rw [if_pos c9] at H
  have LMc9 := aM c9
  clear c9
  obtain ⟨y472, hy472⟩ : ∃ y_ : List S75, y_ = (([] : List S75) ++ y468) := ⟨_, rfl⟩
  replace H : (some (true, y465, ([] : List S76), true, y472, ([] : List S76))) = some (r1, r2, r3, r4, r5, r6) := by first | (rw [hy472]; with_reducible exact H) | (have H2_ := (Option.bind_some _ _).symm.trans H; rw [hy472]; with_reducible exact H2_) | (have H2_ := (Option.bind_some _ _).symm.trans H; with_reducible exact H2_) | with_reducible exact H | (rw [hy472]; exact H) | exact H
  have Ny472 := aM hy472
  clear hy472
  simp only [Option.some.injEq, Prod.mk.injEq] at H
  obtain ⟨rfl, rfl, rfl, rfl, rfl, rfl⟩ := H
  go_enter Try.func50, Try.ntmps50
  try go_wp2_with (first | ((with_reducible refine gate_dst (N := 2) rfl ?_); refine box_event ?hg (N := 2) ?hd (cs := #[.bool true, .slice A0_1 l0_1.length c0_1, .slice A0_2 l0_2.length c0_2]) (t := 25) ?hr ?_; (case hd => rfl); (case hg => rfl); (case hr => first | (go_simp; done) | (go_simp; rfl)); intro gb456 hg w10 hbox hb; have BK456 := aM (hbox); have GW456 := gw hg HB; have GE456 := gw hg HB; replace HB := aM (below_step (kl HB) hb); clear hb hbox hg) | ((with_reducible refine gate_dst (N := 4) rfl ?_); refine box_event ?hg (N := 4) ?hd (cs := #[.bool false, .slice none 0 0, .slice none 0 0]) (t := 25) ?hr ?_; (case hd => rfl); (case hg => rfl); (case hr => first | (go_simp; done) | (go_simp; rfl)); intro gb457 hg w11 hbox hb; have BK457 := aM (hbox); have GW457 := gw hg HB; have GE457 := gw hg HB; replace HB := aM (below_step (kl HB) hb); have NB456_457 := nl hg BK456; have NB457_456 := ng hg BK456; replace BK456 := bb BK456 hb; clear hb hbox hg) | ((with_reducible refine gate_dst (N := 5) rfl ?_); refine box_event ?hg (N := 5) ?hd (cs := #[.bool false, .slice none 0 0, .slice none 0 0]) (t := 25) ?hr ?_; (case hd => rfl); (case hg => rfl); (case hr => first | (go_simp; done) | (go_simp; rfl)); intro gb458 hg w12 hbox hb; have BK458 := aM (hbox); have GW458 := gw hg HB; have GE458 := gw hg HB; replace HB := aM (below_step (kl HB) hb); have NB456_458 := nl hg BK456; have NB458_456 := ng hg BK456; replace BK456 := bb BK456 hb; have NB457_458 := nl hg BK457; have NB458_457 := ng hg BK457; replace BK457 := bb BK457 hb; clear hb hbox hg))
  replace BK456 := aM (blk_drew BK456.out)
  replace BK457 := aM (blk_drew BK457.out)
  replace BK458 := aM (blk_drew BK458.out)
  replace HB := aM (below_drew1 HB.out)
  refine start_ (n := 10) (S := fun w' => w'.cell? ⟨gb456, 0, none⟩ = some (.bool true) ∧ w'.cell? ⟨gb456, 1, none⟩ = some (.slice A0_1 l0_1.length c0_1) ∧ w'.cell? ⟨gb456, 2, none⟩ = some (.slice A0_2 l0_2.length c0_2)) (ds := []) #[N,N,N,N,N,N,N,N,N,N] (by kernel_rfl) rfl rfl ⟨bc BK456 0, bc BK456 1, bc BK456 2⟩ (fun hHeld => ?_); refine with_tabW rf_cut.tab1 rf_cut.bits1 (fun HT_ HW_ => ?_)
  generalize w12.drew = w13 at BK456 BK457 BK458 HB hHeld ⊢
  refine pure_ (i := 0) (N := some 8) (v := ?_) (a' := ?_) #[Y,N,N,N,N,N,N,N,N,N] rfl rfl (any_of HT_.out (by kernel_rfl)) (fun _ _ _ h => h) (Or.inl ⟨by rfl, ?_⟩) ?_ ?_
  rotate_left
  ·intro w'
   go_simp
   with_reducible rfl
  rotate_left
  ·simp only [Act.put, List.setIfInBounds_toArray, List.set_cons_zero, List.set_cons_succ, i64_w, i32_w]
   rfl
  refine pure_ (i := 3) (N := some 11) (v := ?_) (a' := ?_) #[Y,N,N,Y,N,N,N,N,N,N] rfl rfl (any_of HT_.out (by kernel_rfl)) (fun _ _ _ h => h) (Or.inl ⟨by rfl, ?_⟩) ?_ ?_
  rotate_left
  ·intro w'
   go_simp
   with_reducible rfl
  rotate_left
  ·simp only [Act.put, List.setIfInBounds_toArray, List.set_cons_zero, List.set_cons_succ, i64_w, i32_w]
   rfl
  refine take_ (i := 1) (N := some 9) (v := ?_) (a' := ?_) #[Y,Y,N,Y,N,N,N,N,N,N] rfl rfl (take_ofW HT_.out HW_.out (by kernel_rfl)) (fun _ _ _ h => h) (Or.inl ⟨by rfl, ?_⟩) hHeld ?_ ?_
  rotate_left
  ·rintro w' ⟨s0, s1, s2⟩
   go_simp
   with_reducible rfl
  rotate_left
  ·simp only [Act.put, List.setIfInBounds_toArray, List.set_cons_zero, List.set_cons_succ, i64_w, i32_w]
   rfl
  refine pure_ (i := 2) (N := some 10) (v := ?_) (a' := ?_) #[Y,Y,Y,Y,N,N,N,N,N,N] rfl rfl (any_of HT_.out (by kernel_rfl)) (fun _ _ _ h => h) (Or.inl ⟨by rfl, ?_⟩) ?_ ?_
  rotate_left
  ·intro w'
   go_simp
   with_reducible rfl
  rotate_left
  ·simp only [Act.put, List.setIfInBounds_toArray, List.set_cons_zero, List.set_cons_succ, i64_w, i32_w]
   rfl
  refine take_ (i := 4) (N := some 12) (v := ?_) (a' := ?_) #[Y,Y,Y,Y,Y,N,N,N,N,N] rfl rfl (take_ofW HT_.out HW_.out (by kernel_rfl)) (fun _ _ _ h => h) (Or.inl ⟨by rfl, ?_⟩) hHeld ?_ ?_
  rotate_left
  ·rintro w' ⟨s0, s1, s2⟩
   go_simp
   with_reducible rfl
  rotate_left
  ·simp only [Act.put, List.setIfInBounds_toArray, List.set_cons_zero, List.set_cons_succ, i64_w, i32_w]
   rfl
  refine pure_ (i := 5) (N := some 13) (v := ?_) (a' := ?_) #[Y,Y,Y,Y,Y,Y,N,N,N,N] rfl rfl (any_of HT_.out (by kernel_rfl)) (fun _ _ _ h => h) (Or.inl ⟨by rfl, ?_⟩) ?_ ?_
  rotate_left
  ·intro w'
   go_simp
   with_reducible rfl
  rotate_left
  ·simp only [Act.put, List.setIfInBounds_toArray, List.set_cons_zero, List.set_cons_succ, i64_w, i32_w]
   rfl
  refine join_ (σ := Nat × Nat) 2 #[Y,Y,Y,Y,Y,Y,Y,Y,N,N] (fun s_ => [(6, .pointer (some ⟨s_.1, 0, none⟩)), (7, .pointer (some ⟨s_.2, 0, none⟩))]) (fun s_ w' => (w'.cell? ⟨gb456, 0, none⟩ = some (.bool true) ∧ w'.cell? ⟨gb456, 1, none⟩ = some (.slice A0_1 l0_1.length c0_1) ∧ w'.cell? ⟨gb456, 2, none⟩ = some (.slice A0_2 l0_2.length c0_2)) ∧ (w'.heap[gb456]? = some (.cells #[.bool true, .slice A0_1 l0_1.length c0_1, .slice A0_2 l0_2.length c0_2] 25 (0, 0))) ∧ (w'.heap[gb457]? = some (.cells #[.bool false, .slice none 0 0, .slice none 0 0] 25 (0, 0))) ∧ (w'.heap[gb458]? = some (.cells #[.bool false, .slice none 0 0, .slice none 0 0] 25 (0, 0))) ∧ (w'.heap[s_.1]? = some (.cells #[.bool false, .slice none 0 0, .slice none 0 0] 25 (0, 0))) ∧ (w'.heap[s_.2]? = some (.cells #[.bool false, .slice none 0 0, .slice none 0 0] 25 (0, 0))) ∧ (w.heap.size ≤ s_.1) ∧ (w.heap.size ≤ s_.1) ∧ (gb456 ≠ s_.1) ∧ (s_.1 ≠ gb456) ∧ (gb457 ≠ s_.1) ∧ (s_.1 ≠ gb457) ∧ (gb458 ≠ s_.1) ∧ (s_.1 ≠ gb458) ∧ (s_.2 ≠ s_.1) ∧ (s_.1 ≠ s_.2) ∧ (w.heap.size ≤ s_.2) ∧ (w.heap.size ≤ s_.2) ∧ (gb456 ≠ s_.2) ∧ (s_.2 ≠ gb456) ∧ (gb457 ≠ s_.2) ∧ (s_.2 ≠ gb457) ∧ (gb458 ≠ s_.2) ∧ (s_.2 ≠ gb458) ∧ (Below w.heap.size w w')) ?_ ?_
  rotate_left
  ·intro hCont
   refine two_ (i := 6) (j := 7) (Ni := some 6) (Nj := some 7) #[Y,Y,Y,Y,Y,Y,Y,N,N,N] #[Y,Y,Y,Y,Y,Y,N,Y,N,N] rfl rfl rfl rfl (two_of HT_.out (by kernel_rfl)) (by decide) (by decide) (fun K hK => ?_) (fun K hK => ?_)
   ·skip
    refine box_step ?hg (N := 6) ?hd (cs := #[.bool false, .slice none 0 0, .slice none 0 0]) (t := 25) ?hr ?_; (case hd => rfl); (case hg => rfl); (case hr => first | (go_simp; done) | (go_simp; rfl))
    intro gb459 hg w14 hbox hb
    have BK459 := aM (hbox)
    have GW459 := gw hg HB
    have GE459 := gw hg HB
    replace HB := aM (below_step (kl HB) hb)
    have NB456_459 := nl hg BK456
    have NB459_456 := ng hg BK456
    replace BK456 := bb BK456 hb
    have NB457_459 := nl hg BK457
    have NB459_457 := ng hg BK457
    replace BK457 := bb BK457 hb
    have NB458_459 := nl hg BK458
    have NB459_458 := ng hg BK458
    replace BK458 := bb BK458 hb
    clear hb hbox hg
    refine hK.out _ _ ⟨bc BK456 0, bc BK456 1, bc BK456 2⟩ (fun hHeld => ?_)
    clear hK K
    refine norm_ (a' := ?_) ?_ ?_
    rotate_left
    ·show Act.put _ (some 6) _ = _
     simp only [Act.put, List.setIfInBounds_toArray, List.set_cons_zero, List.set_cons_succ, i64_w, i32_w]
     rfl
    refine one_ (i := 7) (N := some 7) #[Y,Y,Y,Y,Y,Y,Y,Y,N,N] rfl rfl (one_of HT_.out (by kernel_rfl)) (by decide) (fun K hK => ?_)
    refine box_step ?hg (N := 7) ?hd (cs := #[.bool false, .slice none 0 0, .slice none 0 0]) (t := 25) ?hr ?_; (case hd => rfl); (case hg => rfl); (case hr => first | (go_simp; done) | (go_simp; rfl))
    intro gb460 hg w15 hbox hb
    have BK460 := aM (hbox)
    have GW460 := gw hg HB
    have GE460 := gw hg HB
    replace HB := aM (below_step (kl HB) hb)
    have NB456_460 := nl hg BK456
    have NB460_456 := ng hg BK456
    replace BK456 := bb BK456 hb
    have NB457_460 := nl hg BK457
    have NB460_457 := ng hg BK457
    replace BK457 := bb BK457 hb
    have NB458_460 := nl hg BK458
    have NB460_458 := ng hg BK458
    replace BK458 := bb BK458 hb
    have NB459_460 := nl hg BK459
    have NB460_459 := ng hg BK459
    replace BK459 := bb BK459 hb
    clear hb hbox hg
    refine hK.out _ _ ⟨bc BK456 0, bc BK456 1, bc BK456 2⟩ (fun hHeld => ?_)
    clear hK K
    refine norm_ (a' := ?_) ?_ ?_
    rotate_left
    ·show Act.put _ (some 7) _ = _
     simp only [Act.put, List.setIfInBounds_toArray, List.set_cons_zero, List.set_cons_succ, i64_w, i32_w]
     rfl
    exact norm_ (by simp only [putAll, Act.put, List.setIfInBounds_toArray, List.set_cons_zero, List.set_cons_succ]) (hCont (gb459, gb460) _ ⟨hHeld, (kb BK456), (kb BK457), (kb BK458), (kb BK459), (kb BK460), GW459.out, GE459.out, NB456_459.out, NB459_456.out, NB457_459.out, NB459_457.out, NB458_459.out, NB459_458.out, NB460_459.out, NB459_460.out, GW460.out, GE460.out, NB456_460.out, NB460_456.out, NB457_460.out, NB460_457.out, NB458_460.out, NB460_458.out, (kl HB)⟩)
   ·skip
    refine box_step ?hg (N := 7) ?hd (cs := #[.bool false, .slice none 0 0, .slice none 0 0]) (t := 25) ?hr ?_; (case hd => rfl); (case hg => rfl); (case hr => first | (go_simp; done) | (go_simp; rfl))
    intro gb460 hg w14 hbox hb
    have BK460 := aM (hbox)
    have GW460 := gw hg HB
    have GE460 := gw hg HB
    replace HB := aM (below_step (kl HB) hb)
    have NB456_460 := nl hg BK456
    have NB460_456 := ng hg BK456
    replace BK456 := bb BK456 hb
    have NB457_460 := nl hg BK457
    have NB460_457 := ng hg BK457
    replace BK457 := bb BK457 hb
    have NB458_460 := nl hg BK458
    have NB460_458 := ng hg BK458
    replace BK458 := bb BK458 hb
    clear hb hbox hg
    refine hK.out _ _ ⟨bc BK456 0, bc BK456 1, bc BK456 2⟩ (fun hHeld => ?_)
    clear hK K
    refine norm_ (a' := ?_) ?_ ?_
    rotate_left
    ·show Act.put _ (some 7) _ = _
     simp only [Act.put, List.setIfInBounds_toArray, List.set_cons_zero, List.set_cons_succ, i64_w, i32_w]
     rfl
    refine one_ (i := 6) (N := some 6) #[Y,Y,Y,Y,Y,Y,Y,Y,N,N] rfl rfl (one_of HT_.out (by kernel_rfl)) (by decide) (fun K hK => ?_)
    refine box_step ?hg (N := 6) ?hd (cs := #[.bool false, .slice none 0 0, .slice none 0 0]) (t := 25) ?hr ?_; (case hd => rfl); (case hg => rfl); (case hr => first | (go_simp; done) | (go_simp; rfl))
    intro gb459 hg w15 hbox hb
    have BK459 := aM (hbox)
    have GW459 := gw hg HB
    have GE459 := gw hg HB
    replace HB := aM (below_step (kl HB) hb)
    have NB456_459 := nl hg BK456
    have NB459_456 := ng hg BK456
    replace BK456 := bb BK456 hb
    have NB457_459 := nl hg BK457
    have NB459_457 := ng hg BK457
    replace BK457 := bb BK457 hb
    have NB458_459 := nl hg BK458
    have NB459_458 := ng hg BK458
    replace BK458 := bb BK458 hb
    have NB460_459 := nl hg BK460
    have NB459_460 := ng hg BK460
    replace BK460 := bb BK460 hb
    clear hb hbox hg
    refine hK.out _ _ ⟨bc BK456 0, bc BK456 1, bc BK456 2⟩ (fun hHeld => ?_)
    clear hK K
    refine norm_ (a' := ?_) ?_ ?_
    rotate_left
    ·show Act.put _ (some 6) _ = _
     simp only [Act.put, List.setIfInBounds_toArray, List.set_cons_zero, List.set_cons_succ, i64_w, i32_w]
     rfl
    exact norm_ (by simp only [putAll, Act.put, List.setIfInBounds_toArray, List.set_cons_zero, List.set_cons_succ]) (hCont (gb459, gb460) _ ⟨hHeld, (kb BK456), (kb BK457), (kb BK458), (kb BK459), (kb BK460), GW459.out, GE459.out, NB456_459.out, NB459_456.out, NB457_459.out, NB459_457.out, NB458_459.out, NB459_458.out, NB460_459.out, NB459_460.out, GW460.out, GE460.out, NB456_460.out, NB460_456.out, NB457_460.out, NB460_457.out, NB458_460.out, NB460_458.out, (kl HB)⟩)
  rintro ⟨gb459, gb460⟩ w16 ⟨hS_, h0_, h1_, h2_, h3_, h4_, h5_, h6_, h7_, h8_, h9_, h10_, h11_, h12_, h13_, h14_, h15_, h16_, h17_, h18_, h19_, h20_, h21_, h22_, h23_⟩
  have n0_ : Aside0 (w16.heap[gb456]? = some (.cells #[.bool true, .slice A0_1 l0_1.length c0_1, .slice A0_2 l0_2.length c0_2] 25 (0, 0))) := ⟨h0_⟩
  have n1_ : Aside0 (w16.heap[gb457]? = some (.cells #[.bool false, .slice none 0 0, .slice none 0 0] 25 (0, 0))) := ⟨h1_⟩
  have n2_ : Aside0 (w16.heap[gb458]? = some (.cells #[.bool false, .slice none 0 0, .slice none 0 0] 25 (0, 0))) := ⟨h2_⟩
  have n3_ : Aside0 (w16.heap[gb459]? = some (.cells #[.bool false, .slice none 0 0, .slice none 0 0] 25 (0, 0))) := ⟨h3_⟩
  have n4_ : Aside0 (w16.heap[gb460]? = some (.cells #[.bool false, .slice none 0 0, .slice none 0 0] 25 (0, 0))) := ⟨h4_⟩
  have n5_ : Aside0 (w.heap.size ≤ gb459) := ⟨h5_⟩
  have n6_ : Aside0 (w.heap.size ≤ gb459) := ⟨h6_⟩
  have n7_ : Aside0 (gb456 ≠ gb459) := ⟨h7_⟩
  have n8_ : Aside0 (gb459 ≠ gb456) := ⟨h8_⟩
  have n9_ : Aside0 (gb457 ≠ gb459) := ⟨h9_⟩
  have n10_ : Aside0 (gb459 ≠ gb457) := ⟨h10_⟩
  have n11_ : Aside0 (gb458 ≠ gb459) := ⟨h11_⟩
  have n12_ : Aside0 (gb459 ≠ gb458) := ⟨h12_⟩
  have n13_ : Aside0 (gb460 ≠ gb459) := ⟨h13_⟩
  have n14_ : Aside0 (gb459 ≠ gb460) := ⟨h14_⟩
  have n15_ : Aside0 (w.heap.size ≤ gb460) := ⟨h15_⟩
  have n16_ : Aside0 (w.heap.size ≤ gb460) := ⟨h16_⟩
  have n17_ : Aside0 (gb456 ≠ gb460) := ⟨h17_⟩
  have n18_ : Aside0 (gb460 ≠ gb456) := ⟨h18_⟩
  have n19_ : Aside0 (gb457 ≠ gb460) := ⟨h19_⟩
  have n20_ : Aside0 (gb460 ≠ gb457) := ⟨h20_⟩
  have n21_ : Aside0 (gb458 ≠ gb460) := ⟨h21_⟩
  have n22_ : Aside0 (gb460 ≠ gb458) := ⟨h22_⟩
  have n23_ : Aside0 (Below w.heap.size w w16) := ⟨h23_⟩
  clear BK456
  clear BK457
  clear BK458
  clear HB
  clear h0_ h1_ h2_ h3_ h4_ h5_ h6_ h7_ h8_ h9_ h10_ h11_ h12_ h13_ h14_ h15_ h16_ h17_ h18_ h19_ h20_ h21_ h22_ h23_
  have BK456 := n0_
  have BK457 := n1_
  have BK458 := n2_
  have BK459 := n3_
  have BK460 := n4_
  have GW459 := n5_
  have GE459 := n6_
  have NB456_459 := n7_
  have NB459_456 := n8_
  have NB457_459 := n9_
  have NB459_457 := n10_
  have NB458_459 := n11_
  have NB459_458 := n12_
  have NB460_459 := n13_
  have NB459_460 := n14_
  have GW460 := n15_
  have GE460 := n16_
  have NB456_460 := n17_
  have NB460_456 := n18_
  have NB457_460 := n19_
  have NB460_457 := n20_
  have NB458_460 := n21_
  have NB460_458 := n22_
  have HB := n23_
  clear n0_ n1_ n2_ n3_ n4_ n5_ n6_ n7_ n8_ n9_ n10_ n11_ n12_ n13_ n14_ n15_ n16_ n17_ n18_ n19_ n20_ n21_ n22_ n23_
  have hHeld : w16.cell? ⟨gb456, 0, none⟩ = some (.bool true) ∧ w16.cell? ⟨gb456, 1, none⟩ = some (.slice A0_1 l0_1.length c0_1) ∧ w16.cell? ⟨gb456, 2, none⟩ = some (.slice A0_2 l0_2.length c0_2) := hS_
  refine norm_ (a' := ?_) ?_ ?_
  rotate_left
  ·simp only [putAll, Act.put, List.setIfInBounds_toArray, List.set_cons_zero, List.set_cons_succ]
   rfl
  refine one_ (i := 8) (N := none) #[Y,Y,Y,Y,Y,Y,Y,Y,Y,N] rfl rfl (one_of HT_.out (by kernel_rfl)) (by decide) (fun K hK => ?_)
  have hs17 : w16.cell? ⟨gb459, 0, none⟩ = some (.bool false) := bc BK459 0
  have hfs17 := blk_frozen BK459.out 0
  have hns17_0 := NB456_459.out
  have hns17_1 := NB457_459.out
  have hns17_2 := NB458_459.out
  have hns17_4 := NB460_459.out
  have hms17_0 := NB459_456.out
  have hms17_1 := NB459_457.out
  have hms17_2 := NB459_458.out
  have hms17_4 := NB459_460.out
  have hs18 : w16.cell? ⟨gb459, 1, none⟩ = some (.slice none 0 0) := bc BK459 1
  have hfs18 := blk_frozen BK459.out 1
  have hns18_0 := NB456_459.out
  have hns18_1 := NB457_459.out
  have hns18_2 := NB458_459.out
  have hns18_4 := NB460_459.out
  have hms18_0 := NB459_456.out
  have hms18_1 := NB459_457.out
  have hms18_2 := NB459_458.out
  have hms18_4 := NB459_460.out
  have hs19 : w16.cell? ⟨gb459, 2, none⟩ = some (.slice none 0 0) := bc BK459 2
  have hfs19 := blk_frozen BK459.out 2
  have hns19_0 := NB456_459.out
  have hns19_1 := NB457_459.out
  have hns19_2 := NB458_459.out
  have hns19_4 := NB460_459.out
  have hms19_0 := NB459_456.out
  have hms19_1 := NB459_457.out
  have hms19_2 := NB459_458.out
  have hms19_4 := NB459_460.out
  refine skip_ (w1 := ?_) (by rfl) rfl ?_ ?_
  rotate_left
  ·go_simp
   rfl
  refine hK.out _ _ ⟨((cell_far (p := ⟨gb459, _, none⟩) NB456_459.out _).trans (((cell_far (p := ⟨gb459, _, none⟩) NB456_459.out _).trans (((cell_far (p := ⟨gb459, _, none⟩) NB456_459.out _).trans (hHeld.1)))))), ((cell_far (p := ⟨gb459, _, none⟩) NB456_459.out _).trans (((cell_far (p := ⟨gb459, _, none⟩) NB456_459.out _).trans (((cell_far (p := ⟨gb459, _, none⟩) NB456_459.out _).trans (hHeld.2.1)))))), ((cell_far (p := ⟨gb459, _, none⟩) NB456_459.out _).trans (((cell_far (p := ⟨gb459, _, none⟩) NB456_459.out _).trans (((cell_far (p := ⟨gb459, _, none⟩) NB456_459.out _).trans (hHeld.2.2))))))⟩ (fun hHeld => ?_)
  clear hK K
  refine one_ (i := 9) (N := none) #[Y,Y,Y,Y,Y,Y,Y,Y,Y,Y] rfl rfl (one_of HT_.out (by kernel_rfl)) (by decide) (fun K hK => ?_)
  have hs20 : w16.cell? ⟨gb460, 0, none⟩ = some (.bool false) := bc BK460 0
  have hfs20 := blk_frozen BK460.out 0
  have hns20_0 := NB456_460.out
  have hns20_1 := NB457_460.out
  have hns20_2 := NB458_460.out
  have hns20_3 := NB459_460.out
  have hms20_0 := NB460_456.out
  have hms20_1 := NB460_457.out
  have hms20_2 := NB460_458.out
  have hms20_3 := NB460_459.out
  have hs21 : w16.cell? ⟨gb460, 1, none⟩ = some (.slice none 0 0) := bc BK460 1
  have hfs21 := blk_frozen BK460.out 1
  have hns21_0 := NB456_460.out
  have hns21_1 := NB457_460.out
  have hns21_2 := NB458_460.out
  have hns21_3 := NB459_460.out
  have hms21_0 := NB460_456.out
  have hms21_1 := NB460_457.out
  have hms21_2 := NB460_458.out
  have hms21_3 := NB460_459.out
  have hs22 : w16.cell? ⟨gb460, 2, none⟩ = some (.slice none 0 0) := bc BK460 2
  have hfs22 := blk_frozen BK460.out 2
  have hns22_0 := NB456_460.out
  have hns22_1 := NB457_460.out
  have hns22_2 := NB458_460.out
  have hns22_3 := NB459_460.out
  have hms22_0 := NB460_456.out
  have hms22_1 := NB460_457.out
  have hms22_2 := NB460_458.out
  have hms22_3 := NB460_459.out
  refine skip_ (w1 := ?_) (by rfl) rfl ?_ ?_
  rotate_left
  ·go_simp
   rfl
  refine hK.out _ _ ⟨((cell_far (p := ⟨gb460, _, none⟩) NB456_460.out _).trans (((cell_far (p := ⟨gb460, _, none⟩) NB456_460.out _).trans (((cell_far (p := ⟨gb460, _, none⟩) NB456_460.out _).trans (hHeld.1)))))), ((cell_far (p := ⟨gb460, _, none⟩) NB456_460.out _).trans (((cell_far (p := ⟨gb460, _, none⟩) NB456_460.out _).trans (((cell_far (p := ⟨gb460, _, none⟩) NB456_460.out _).trans (hHeld.2.1)))))), ((cell_far (p := ⟨gb460, _, none⟩) NB456_460.out _).trans (((cell_far (p := ⟨gb460, _, none⟩) NB456_460.out _).trans (((cell_far (p := ⟨gb460, _, none⟩) NB456_460.out _).trans (hHeld.2.2))))))⟩ (fun hHeld => ?_)
  clear hK K
  refine done_ (done_of HT_.out (by kernel_rfl)) ?_
  have hnb23 := NB456_457.out
  have hnc23 := NB457_456.out
  have hnb24 := NB456_458.out
  have hnc24 := NB458_456.out
  have hnb25 := NB456_459.out
  have hnc25 := NB459_456.out
  have hnb26 := NB456_460.out
  have hnc26 := NB460_456.out
  have hcz27_0 : w16.cell? ⟨gb456, 0, none⟩ = some (.bool true) := bc BK456 0
  have hcz27_1 : w16.cell? ⟨gb456, 1, none⟩ = some (.slice A0_1 l0_1.length c0_1) := bc BK456 1
  have hcz27_2 : w16.cell? ⟨gb456, 2, none⟩ = some (.slice A0_2 l0_2.length c0_2) := bc BK456 2
  have hfz27_0 := blk_frozen BK456.out 0
  have hfz27_1 := blk_frozen BK456.out 1
  have hfz27_2 := blk_frozen BK456.out 2
  try go_wp2
  have n0_ : Aside0 (((((((w16.setCell ⟨gb459, 0, none⟩ (.bool true)).setCell ⟨gb459, 1, none⟩ (.slice none 0 0)).setCell ⟨gb459, 2, none⟩ (.slice none 0 0)).setCell ⟨gb460, 0, none⟩ (.bool true)).setCell ⟨gb460, 1, none⟩ (.slice none 0 0)).setCell ⟨gb460, 2, none⟩ (.slice none 0 0)).heap[gb456]? = some (.cells #[.bool true, .slice A0_1 l0_1.length c0_1, .slice A0_2 l0_2.length c0_2] 25 (0, 0))) := ⟨kg2 NB456_460 NB456_459 BK456⟩
  have n1_ : Aside0 (((((((w16.setCell ⟨gb459, 0, none⟩ (.bool true)).setCell ⟨gb459, 1, none⟩ (.slice none 0 0)).setCell ⟨gb459, 2, none⟩ (.slice none 0 0)).setCell ⟨gb460, 0, none⟩ (.bool true)).setCell ⟨gb460, 1, none⟩ (.slice none 0 0)).setCell ⟨gb460, 2, none⟩ (.slice none 0 0)).heap[gb457]? = some (.cells #[.bool false, .slice none 0 0, .slice none 0 0] 25 (0, 0))) := ⟨kg2 NB457_460 NB457_459 BK457⟩
  have n2_ : Aside0 (((((((w16.setCell ⟨gb459, 0, none⟩ (.bool true)).setCell ⟨gb459, 1, none⟩ (.slice none 0 0)).setCell ⟨gb459, 2, none⟩ (.slice none 0 0)).setCell ⟨gb460, 0, none⟩ (.bool true)).setCell ⟨gb460, 1, none⟩ (.slice none 0 0)).setCell ⟨gb460, 2, none⟩ (.slice none 0 0)).heap[gb458]? = some (.cells #[.bool false, .slice none 0 0, .slice none 0 0] 25 (0, 0))) := ⟨kg2 NB458_460 NB458_459 BK458⟩
  have n3_ : Aside0 (((((((w16.setCell ⟨gb459, 0, none⟩ (.bool true)).setCell ⟨gb459, 1, none⟩ (.slice none 0 0)).setCell ⟨gb459, 2, none⟩ (.slice none 0 0)).setCell ⟨gb460, 0, none⟩ (.bool true)).setCell ⟨gb460, 1, none⟩ (.slice none 0 0)).setCell ⟨gb460, 2, none⟩ (.slice none 0 0)).heap[gb459]? = some (.cells #[.bool true, .slice none 0 0, .slice none 0 0] 25 (0, 0))) := ⟨by (with_reducible repeat (first | refine blk_drewN ?_ _ | refine blk_drew ?_ | refine blk_alloc ?_ _)); refine blk_far ?_ NB459_460.out _; (with_reducible repeat (first | refine blk_drewN ?_ _ | refine blk_drew ?_ | refine blk_alloc ?_ _)); refine blk_far ?_ NB459_460.out _; (with_reducible repeat (first | refine blk_drewN ?_ _ | refine blk_drew ?_ | refine blk_alloc ?_ _)); refine blk_far ?_ NB459_460.out _; (with_reducible repeat (first | refine blk_drewN ?_ _ | refine blk_drew ?_ | refine blk_alloc ?_ _)); refine blk_put (cs := #[.bool true, .slice none 0 0, .slice none 0 0]) ?_ 2 _ rfl; (with_reducible repeat (first | refine blk_drewN ?_ _ | refine blk_drew ?_ | refine blk_alloc ?_ _)); refine blk_put (cs := #[.bool true, .slice none 0 0, .slice none 0 0]) ?_ 1 _ rfl; (with_reducible repeat (first | refine blk_drewN ?_ _ | refine blk_drew ?_ | refine blk_alloc ?_ _)); refine blk_put (cs := #[.bool false, .slice none 0 0, .slice none 0 0]) ?_ 0 _ rfl; exact kb BK459⟩
  have n4_ : Aside0 (((((((w16.setCell ⟨gb459, 0, none⟩ (.bool true)).setCell ⟨gb459, 1, none⟩ (.slice none 0 0)).setCell ⟨gb459, 2, none⟩ (.slice none 0 0)).setCell ⟨gb460, 0, none⟩ (.bool true)).setCell ⟨gb460, 1, none⟩ (.slice none 0 0)).setCell ⟨gb460, 2, none⟩ (.slice none 0 0)).heap[gb460]? = some (.cells #[.bool true, .slice none 0 0, .slice none 0 0] 25 (0, 0))) := ⟨by (with_reducible repeat (first | refine blk_drewN ?_ _ | refine blk_drew ?_ | refine blk_alloc ?_ _)); refine blk_put (cs := #[.bool true, .slice none 0 0, .slice none 0 0]) ?_ 2 _ rfl; (with_reducible repeat (first | refine blk_drewN ?_ _ | refine blk_drew ?_ | refine blk_alloc ?_ _)); refine blk_put (cs := #[.bool true, .slice none 0 0, .slice none 0 0]) ?_ 1 _ rfl; (with_reducible repeat (first | refine blk_drewN ?_ _ | refine blk_drew ?_ | refine blk_alloc ?_ _)); refine blk_put (cs := #[.bool false, .slice none 0 0, .slice none 0 0]) ?_ 0 _ rfl; exact kf NB460_459 BK460⟩
  have n5_ : Aside0 (Below w.heap.size w ((((((w16.setCell ⟨gb459, 0, none⟩ (.bool true)).setCell ⟨gb459, 1, none⟩ (.slice none 0 0)).setCell ⟨gb459, 2, none⟩ (.slice none 0 0)).setCell ⟨gb460, 0, none⟩ (.bool true)).setCell ⟨gb460, 1, none⟩ (.slice none 0 0)).setCell ⟨gb460, 2, none⟩ (.slice none 0 0))) := ⟨kl HB⟩
  (try clear BK456)
  (try clear BK457)
  (try clear BK458)
  (try clear BK459)
  (try clear BK460)
  (try clear HB)
  generalize ((((((w16.setCell ⟨gb459, 0, none⟩ (.bool true)).setCell ⟨gb459, 1, none⟩ (.slice none 0 0)).setCell ⟨gb459, 2, none⟩ (.slice none 0 0)).setCell ⟨gb460, 0, none⟩ (.bool true)).setCell ⟨gb460, 1, none⟩ (.slice none 0 0)).setCell ⟨gb460, 2, none⟩ (.slice none 0 0)) = w28 at n0_ n1_ n2_ n3_ n4_ n5_ ⊢
  have BK456 := n0_
  have BK457 := n1_
  have BK458 := n2_
  have BK459 := n3_
  have BK460 := n4_
  have HB := n5_
  clear n0_ n1_ n2_ n3_ n4_ n5_
  replace BK456 := aM (blk_drew BK456.out)
  replace BK457 := aM (blk_drew BK457.out)
  replace BK458 := aM (blk_drew BK458.out)
  replace BK459 := aM (blk_drew BK459.out)
  replace BK460 := aM (blk_drew BK460.out)
  replace HB := aM (below_drew1 HB.out)
  have q30 : (a1 : Int) ≤ ((l0_1.length : Int) : Int) := of_decide_eq_true (by first | (with_reducible assumption) | assumption)
  obtain ⟨i030, hi030, _, hsz30, _⟩ := info_parts info75
  have hroom30 : l0_1.length ≤ c0_1 := HC0_1.out
  have hC30 : Kd.C k75 _ A0_1 l0_1.length l0_1 := HR0_1.out
  have hcut30 := cut_to (P := Try.prog) 22 75 .i64 Try.underlying22 hi030 A0_1 l0_1.length c0_1 a1 (of_decide_eq_true (by first | (with_reducible assumption) | assumption)) q30 hroom30
  have hr30 := Kd.C_take (m := (a1 : Int).toNat) hC30 (by omega)
  have hy30 : y461.length = (a1 : Int).toNat := (by rw [Ny461.out, List.length_take]; omega)
  rw [← Ny461.out] at hr30
  rw [← hy30] at hcut30
  have HR464 := aM hr30
  have HC464 := aM (show y461.length ≤ c0_1 from by omega)
  clear hr30 hC30 hroom30 hi030 hsz30
  have KY30 := aM hy30
  clear hy30
  replace q30 := eq_true q30
  refine start_ (n := 9) (S := fun w' => w'.cell? ⟨gb459, 0, none⟩ = some (.bool true) ∧ w'.cell? ⟨gb459, 1, none⟩ = some (.slice none 0 0) ∧ w'.cell? ⟨gb459, 2, none⟩ = some (.slice none 0 0) ∧ w'.cell? ⟨gb456, 0, none⟩ = some (.bool true) ∧ w'.cell? ⟨gb456, 1, none⟩ = some (.slice A0_1 l0_1.length c0_1) ∧ w'.cell? ⟨gb456, 2, none⟩ = some (.slice A0_2 l0_2.length c0_2)) (ds := [8]) #[N,N,N,N,N,N,N,N,N] (by kernel_rfl) rfl rfl ⟨bc BK459 0, bc BK459 1, bc BK459 2, bc BK456 0, bc BK456 1, bc BK456 2⟩ (fun hHeld => ?_); refine with_tabW rf_cut.tab3 rf_cut.bits3 (fun HT_ HW_ => ?_)
  generalize w28.drew = w29 at BK456 BK457 BK458 BK459 BK460 HB HR464 hHeld ⊢
  refine pure_ (i := 0) (N := some 16) (v := ?_) (a' := ?_) #[Y,N,N,N,N,N,N,N,N] rfl rfl (any_of HT_.out (by kernel_rfl)) (fun _ _ _ h => h) (Or.inl ⟨by rfl, ?_⟩) ?_ ?_
  rotate_left
  ·intro w'
   go_simp
   with_reducible rfl
  rotate_left
  ·simp only [Act.put, List.setIfInBounds_toArray, List.set_cons_zero, List.set_cons_succ, i64_w, i32_w]
   rfl
  refine pure_ (i := 2) (N := some 18) (v := ?_) (a' := ?_) #[Y,N,Y,N,N,N,N,N,N] rfl rfl (any_of HT_.out (by kernel_rfl)) (fun _ _ _ h => h) (Or.inl ⟨by rfl, ?_⟩) ?_ ?_
  rotate_left
  ·intro w'
   go_simp
   with_reducible rfl
  rotate_left
  ·simp only [Act.put, List.setIfInBounds_toArray, List.set_cons_zero, List.set_cons_succ, i64_w, i32_w]
   rfl
  refine pure_ (i := 4) (N := some 20) (v := ?_) (a' := ?_) #[Y,N,Y,N,Y,N,N,N,N] rfl rfl (any_of HT_.out (by kernel_rfl)) (fun _ _ _ h => h) (Or.inl ⟨by rfl, ?_⟩) ?_ ?_
  rotate_left
  ·intro w'
   go_simp
   with_reducible rfl
  rotate_left
  ·simp only [Act.put, List.setIfInBounds_toArray, List.set_cons_zero, List.set_cons_succ, i64_w, i32_w]
   rfl
  refine take_ (i := 1) (N := some 17) (v := ?_) (a' := ?_) #[Y,Y,Y,N,Y,N,N,N,N] rfl rfl (take_ofW HT_.out HW_.out (by kernel_rfl)) (fun _ _ _ h => h) (Or.inl ⟨by rfl, ?_⟩) hHeld ?_ ?_
  rotate_left
  ·rintro w' ⟨s0, s1, s2, s3, s4, s5⟩
   go_simp
   with_reducible rfl
  rotate_left
  ·simp only [Act.put, List.setIfInBounds_toArray, List.set_cons_zero, List.set_cons_succ, i64_w, i32_w]
   rfl
  refine take_ (i := 3) (N := some 19) (v := ?_) (a' := ?_) #[Y,Y,Y,Y,Y,N,N,N,N] rfl rfl (take_ofW HT_.out HW_.out (by kernel_rfl)) (fun _ _ _ h => h) (Or.inl ⟨by rfl, ?_⟩) hHeld ?_ ?_
  rotate_left
  ·rintro w' ⟨s0, s1, s2, s3, s4, s5⟩
   go_simp
   with_reducible rfl
  rotate_left
  ·simp only [Act.put, List.setIfInBounds_toArray, List.set_cons_zero, List.set_cons_succ, i64_w, i32_w]
   rfl
  refine pure_ (i := 5) (N := some 21) (v := ?_) (a' := ?_) #[Y,Y,Y,Y,Y,Y,N,N,N] rfl rfl (any_of HT_.out (by kernel_rfl)) (fun _ _ _ h => h) (Or.inl ⟨by rfl, ?_⟩) ?_ ?_
  rotate_left
  ·intro w'
   go_simp
   with_reducible rfl
  rotate_left
  ·simp only [Act.put, List.setIfInBounds_toArray, List.set_cons_zero, List.set_cons_succ, i64_w, i32_w]
   rfl
  refine one_ (i := 6) (N := some 22) #[Y,Y,Y,Y,Y,Y,Y,N,N] rfl rfl (one_of HT_.out (by kernel_rfl)) (by decide) (fun K hK => ?_)
  refine Kd.R_append_rows_step k75 (w0 := w) w.heap.size (by rfl) (.tmp 17) (.tmp 21) 22 75 (.agg #[(.string ⟨#[]⟩), (.string ⟨#[]⟩)]) 32 rfl Try.underlying22 info75 rfl (by decide) (by omega) (.slice none 0 0) ([] : List S75) y461 _ _ _ (fun _ => True) (fun _ => False) rfl rfl ?aO ?aR (fun _ _ h => h) (fun _ h => h.elim) ?aF ?aB ?aS ?aL ?_
  (case aR => repeat (first | exact (Kd.C_below HR464.out HB.out) | (with_reducible refine Kd.C_alloc ?_ _) | (with_reducible refine Kd.C_drewN ?_ _) | (with_reducible refine Kd.C_drew ?_)))
  (case aB => exact (kl HB))
  (case aF => exact (fun _ _ => trivial))
  (case aO => exact ((Kd.R_nil _ _ _ _ (fun _ => True))))
  (case aS => exact (below_size (kl HB)))
  (case aL => have := LMc6.out; omega)
  intro v466 w31 ho hb hg hat
  rw [← Ny465.out] at ho
  replace BK456 := aM (blk_grown (kb BK456) hg (by simp [Value.ownBlock]))
  replace BK457 := aM (blk_grown (kb BK457) hg (by simp [Value.ownBlock]))
  replace BK458 := aM (blk_grown (kb BK458) hg (by simp [Value.ownBlock]))
  replace BK459 := aM (blk_grown (kb BK459) hg (by simp [Value.ownBlock]))
  replace BK460 := aM (blk_grown (kb BK460) hg (by simp [Value.ownBlock]))
  replace HB := aM (hb)
  have HO467 := aM (ho)
  clear ho hb hg hat
  obtain ⟨Ao32, co32, eo32⟩ := Kd.R_slice HO467.out
  (first | subst eo32 | (injection eo32 with f1_ f2_ f3_; have f4_ := f1_.symm; have f5_ := f3_.symm; clear f1_ f2_ f3_; subst f4_; subst f5_))
  refine hK.out _ _ ⟨bc BK459 0, bc BK459 1, bc BK459 2, bc BK456 0, bc BK456 1, bc BK456 2⟩ (fun hHeld => ?_)
  clear hK K
  refine norm_ (a' := ?_) ?_ ?_
  rotate_left
  ·show Act.put _ (some 22) _ = _
   simp only [Act.put, List.setIfInBounds_toArray, List.set_cons_zero, List.set_cons_succ, i64_w, i32_w]
   rfl
  refine pure_ (i := 7) (N := some 23) (v := ?_) (a' := ?_) #[Y,Y,Y,Y,Y,Y,Y,Y,N] rfl rfl (any_of HT_.out (by kernel_rfl)) (fun _ _ _ h => h) (Or.inl ⟨by rfl, ?_⟩) ?_ ?_
  rotate_left
  ·intro w'
   go_simp
   with_reducible rfl
  rotate_left
  ·simp only [Act.put, List.setIfInBounds_toArray, List.set_cons_zero, List.set_cons_succ, i64_w, i32_w]
   rfl
  refine last_ (i := 8) (N := none) #[Y,Y,Y,Y,Y,Y,Y,Y,Y] rfl rfl (one_of HT_.out (by kernel_rfl)) (by decide) (fun K hK => ?_)
  have hs33 : w31.cell? ⟨gb459, 1, none⟩ = some (.slice none 0 0) := bc BK459 1
  have hfs33 := blk_frozen BK459.out 1
  have hns33_0 := NB456_459.out
  have hns33_1 := NB457_459.out
  have hns33_2 := NB458_459.out
  have hns33_4 := NB460_459.out
  have hms33_0 := NB459_456.out
  have hms33_1 := NB459_457.out
  have hms33_2 := NB459_458.out
  have hms33_4 := NB459_460.out
  refine skip_ (w1 := ?_) (by rfl) rfl ?_ ?_
  rotate_left
  ·go_simp
   rfl
  refine hK.out _ _ ?_
  clear hK K
  refine done_ (done_of HT_.out (by kernel_rfl)) ?_
  try go_wp2
  have n0_ : Aside0 (Kd.R k75 75 (w31.setCell ⟨gb459, 1, none⟩ (.slice Ao32 y465.length co32)) w.heap.size (fun _ => True) (.slice Ao32 y465.length co32) y465) := ⟨by exact Kd.R_mono (Kd.R_far (Kd.R_types HO467.out BK459.out (by decide)) (fun _ hk => hk.2) _) (fun _ hk => trivial)⟩
  have n1_ : Aside0 ((w31.setCell ⟨gb459, 1, none⟩ (.slice Ao32 y465.length co32)).heap[gb456]? = some (.cells #[.bool true, .slice A0_1 l0_1.length c0_1, .slice A0_2 l0_2.length c0_2] 25 (0, 0))) := ⟨kf NB456_459 BK456⟩
  have n2_ : Aside0 ((w31.setCell ⟨gb459, 1, none⟩ (.slice Ao32 y465.length co32)).heap[gb457]? = some (.cells #[.bool false, .slice none 0 0, .slice none 0 0] 25 (0, 0))) := ⟨kf NB457_459 BK457⟩
  have n3_ : Aside0 ((w31.setCell ⟨gb459, 1, none⟩ (.slice Ao32 y465.length co32)).heap[gb458]? = some (.cells #[.bool false, .slice none 0 0, .slice none 0 0] 25 (0, 0))) := ⟨kf NB458_459 BK458⟩
  have n4_ : Aside0 ((w31.setCell ⟨gb459, 1, none⟩ (.slice Ao32 y465.length co32)).heap[gb459]? = some (.cells #[.bool true, .slice Ao32 y465.length co32, .slice none 0 0] 25 (0, 0))) := ⟨by (with_reducible repeat (first | refine blk_drewN ?_ _ | refine blk_drew ?_ | refine blk_alloc ?_ _)); refine blk_put (cs := #[.bool true, .slice none 0 0, .slice none 0 0]) ?_ 1 _ rfl; exact kb BK459⟩
  have n5_ : Aside0 ((w31.setCell ⟨gb459, 1, none⟩ (.slice Ao32 y465.length co32)).heap[gb460]? = some (.cells #[.bool true, .slice none 0 0, .slice none 0 0] 25 (0, 0))) := ⟨kf NB460_459 BK460⟩
  have n6_ : Aside0 (Below w.heap.size w (w31.setCell ⟨gb459, 1, none⟩ (.slice Ao32 y465.length co32))) := ⟨kl HB⟩
  (try clear HO467)
  (try clear BK456)
  (try clear BK457)
  (try clear BK458)
  (try clear BK459)
  (try clear BK460)
  (try clear HB)
  generalize (w31.setCell ⟨gb459, 1, none⟩ (.slice Ao32 y465.length co32)) = w34 at n0_ n1_ n2_ n3_ n4_ n5_ n6_ ⊢
  have HO467 := n0_
  have BK456 := n1_
  have BK457 := n2_
  have BK458 := n3_
  have BK459 := n4_
  have BK460 := n5_
  have HB := n6_
  clear n0_ n1_ n2_ n3_ n4_ n5_ n6_
  replace HO467 := aM (Kd.R_drew HO467.out)
  replace BK456 := aM (blk_drew BK456.out)
  replace BK457 := aM (blk_drew BK457.out)
  replace BK458 := aM (blk_drew BK458.out)
  replace BK459 := aM (blk_drew BK459.out)
  replace BK460 := aM (blk_drew BK460.out)
  replace HB := aM (below_drew1 HB.out)
  have q36 : (a1 : Int) ≤ ((l0_1.length : Int) : Int) := of_decide_eq_true (by first | (with_reducible assumption) | assumption)
  obtain ⟨i036, hi036, _, hsz36, _⟩ := info_parts info75
  have hroom36 : l0_1.length ≤ c0_1 := HC0_1.out
  have hC36 : Kd.C k75 _ A0_1 l0_1.length l0_1 := HR0_1.out
  have q036 : (0 : Int) ≤ (a1 : Int) := of_decide_eq_true (by first | (with_reducible assumption) | assumption)
  have hcut36 := cut_from (P := Try.prog) 22 75 .i64 Try.underlying22 hi036 2 hsz36 A0_1 l0_1.length c0_1 a1 q036 q36
  have hr36 := Kd.C_drop (m := (a1 : Int).toNat) (c := c0_1) hC36 (by omega) hroom36
  obtain ⟨A36, hA36⟩ : ∃ A1, A1 = (if c0_1 = (a1 : Int).toNat then A0_1 else (A0_1 : Option Addr).map (·.add ((a1 : Int).toNat * 2))) := ⟨_, rfl⟩
  obtain ⟨c36, hc36⟩ : ∃ c1, c1 = c0_1 - (a1 : Int).toNat := ⟨_, rfl⟩
  have hy36 : y468.length = l0_1.length - (a1 : Int).toNat := (by rw [Ny468.out, List.length_drop] <;> omega)
  rw [show (l0_1).drop (a1 : Int).toNat = y468 from Ny468.out.symm] at hr36
  replace hr36 : Kd.C k75 _ A36 y468.length y468 := (by rw [hA36]; exact hr36)
  rw [← hy36, ← hA36, ← hc36] at hcut36
  have HR471 := aM hr36
  have HC471 := aM (show y468.length ≤ c36 from by rw [hy36, hc36]; exact Nat.sub_le_sub_right hroom36 _)
  clear hr36 hC36 hroom36 hi036 hsz36 hc36
  have KY36 := aM hy36
  have KA36 := aM hA36
  clear hy36 hA36
  replace q36 := eq_true q36
  refine start_ (n := 9) (S := fun w' => w'.cell? ⟨gb460, 0, none⟩ = some (.bool true) ∧ w'.cell? ⟨gb460, 1, none⟩ = some (.slice none 0 0) ∧ w'.cell? ⟨gb460, 2, none⟩ = some (.slice none 0 0) ∧ w'.cell? ⟨gb456, 0, none⟩ = some (.bool true) ∧ w'.cell? ⟨gb456, 1, none⟩ = some (.slice A0_1 l0_1.length c0_1) ∧ w'.cell? ⟨gb456, 2, none⟩ = some (.slice A0_2 l0_2.length c0_2)) (ds := [8]) #[N,N,N,N,N,N,N,N,N] (by kernel_rfl) rfl rfl ⟨bc BK460 0, bc BK460 1, bc BK460 2, bc BK456 0, bc BK456 1, bc BK456 2⟩ (fun hHeld => ?_); refine with_tabW rf_cut.tab4 rf_cut.bits4 (fun HT_ HW_ => ?_)
  generalize w34.drew = w35 at HO467 BK456 BK457 BK458 BK459 BK460 HB HR471 hHeld ⊢
  refine pure_ (i := 0) (N := some 24) (v := ?_) (a' := ?_) #[Y,N,N,N,N,N,N,N,N] rfl rfl (any_of HT_.out (by kernel_rfl)) (fun _ _ _ h => h) (Or.inl ⟨by rfl, ?_⟩) ?_ ?_
  rotate_left
  ·intro w'
   go_simp
   with_reducible rfl
  rotate_left
  ·simp only [Act.put, List.setIfInBounds_toArray, List.set_cons_zero, List.set_cons_succ, i64_w, i32_w]
   rfl
  refine pure_ (i := 2) (N := some 26) (v := ?_) (a' := ?_) #[Y,N,Y,N,N,N,N,N,N] rfl rfl (any_of HT_.out (by kernel_rfl)) (fun _ _ _ h => h) (Or.inl ⟨by rfl, ?_⟩) ?_ ?_
  rotate_left
  ·intro w'
   go_simp
   with_reducible rfl
  rotate_left
  ·simp only [Act.put, List.setIfInBounds_toArray, List.set_cons_zero, List.set_cons_succ, i64_w, i32_w]
   rfl
  refine pure_ (i := 4) (N := some 28) (v := ?_) (a' := ?_) #[Y,N,Y,N,Y,N,N,N,N] rfl rfl (any_of HT_.out (by kernel_rfl)) (fun _ _ _ h => h) (Or.inl ⟨by rfl, ?_⟩) ?_ ?_
  rotate_left
  ·intro w'
   go_simp
   with_reducible rfl
  rotate_left
  ·simp only [Act.put, List.setIfInBounds_toArray, List.set_cons_zero, List.set_cons_succ, i64_w, i32_w]
   rfl
  refine take_ (i := 1) (N := some 25) (v := ?_) (a' := ?_) #[Y,Y,Y,N,Y,N,N,N,N] rfl rfl (take_ofW HT_.out HW_.out (by kernel_rfl)) (fun _ _ _ h => h) (Or.inl ⟨by rfl, ?_⟩) hHeld ?_ ?_
  rotate_left
  ·rintro w' ⟨s0, s1, s2, s3, s4, s5⟩
   go_simp
   with_reducible rfl
  rotate_left
  ·simp only [Act.put, List.setIfInBounds_toArray, List.set_cons_zero, List.set_cons_succ, i64_w, i32_w]
   rfl
  refine take_ (i := 3) (N := some 27) (v := ?_) (a' := ?_) #[Y,Y,Y,Y,Y,N,N,N,N] rfl rfl (take_ofW HT_.out HW_.out (by kernel_rfl)) (fun _ _ _ h => h) (Or.inl ⟨by rfl, ?_⟩) hHeld ?_ ?_
  rotate_left
  ·rintro w' ⟨s0, s1, s2, s3, s4, s5⟩
   go_simp
   with_reducible rfl
  rotate_left
  ·simp only [Act.put, List.setIfInBounds_toArray, List.set_cons_zero, List.set_cons_succ, i64_w, i32_w]
   rfl
  refine pure_ (i := 5) (N := some 29) (v := ?_) (a' := ?_) #[Y,Y,Y,Y,Y,Y,N,N,N] rfl rfl (any_of HT_.out (by kernel_rfl)) (fun _ _ _ h => h) (Or.inl ⟨by rfl, ?_⟩) ?_ ?_
  rotate_left
  ·intro w'
   go_simp
   with_reducible rfl
  rotate_left
  ·simp only [Act.put, List.setIfInBounds_toArray, List.set_cons_zero, List.set_cons_succ, i64_w, i32_w]
   rfl
  refine one_ (i := 6) (N := some 30) #[Y,Y,Y,Y,Y,Y,Y,N,N] rfl rfl (one_of HT_.out (by kernel_rfl)) (by decide) (fun K hK => ?_)
  refine Kd.R_append_rows_step k75 (w0 := w) w.heap.size (by rfl) (.tmp 25) (.tmp 29) 22 75 (.agg #[(.string ⟨#[]⟩), (.string ⟨#[]⟩)]) 32 rfl Try.underlying22 info75 rfl (by decide) (by omega) (.slice none 0 0) ([] : List S75) y468 _ _ _ (fun k_ => some k_ ≠ (.slice Ao32 y465.length co32 : Value).ownBlock) (fun _ => False) rfl rfl ?aO ?aR (fun _ _ h => h) (fun _ h => h.elim) ?aF ?aB ?aS ?aL ?_
  (case aR => repeat (first | exact (Kd.C_below HR471.out HB.out) | (with_reducible refine Kd.C_alloc ?_ _) | (with_reducible refine Kd.C_drewN ?_ _) | (with_reducible refine Kd.C_drew ?_)))
  (case aB => exact (kl HB))
  (case aF => exact (fun k_ hk => Kd.fresh' (Kd.R_lt (kr HO467)) k_ hk))
  (case aO => exact ((Kd.R_nil _ _ _ _ (fun k_ => some k_ ≠ (.slice Ao32 y465.length co32 : Value).ownBlock))))
  (case aS => exact (below_size (kl HB)))
  (case aL => have := LMc9.out; omega)
  intro v473 w37 ho hb hg hat
  rw [← Ny472.out] at ho
  replace BK456 := aM (blk_grown (kb BK456) hg (by simp [Value.ownBlock]))
  replace BK457 := aM (blk_grown (kb BK457) hg (by simp [Value.ownBlock]))
  replace BK458 := aM (blk_grown (kb BK458) hg (by simp [Value.ownBlock]))
  replace BK459 := aM (blk_grown (kb BK459) hg (by simp [Value.ownBlock]))
  replace BK460 := aM (blk_grown (kb BK460) hg (by simp [Value.ownBlock]))
  replace HO467 := aM (Kd.R_after (Kd.R_apart_nil (kr HO467)) hg hat)
  replace HB := aM (hb)
  have HO474 := aM (ho)
  clear ho hb hg hat
  obtain ⟨Ao38, co38, eo38⟩ := Kd.R_slice HO474.out
  (first | subst eo38 | (injection eo38 with f1_ f2_ f3_; have f4_ := f1_.symm; have f5_ := f3_.symm; clear f1_ f2_ f3_; subst f4_; subst f5_))
  refine hK.out _ _ ⟨bc BK460 0, bc BK460 1, bc BK460 2, bc BK456 0, bc BK456 1, bc BK456 2⟩ (fun hHeld => ?_)
  clear hK K
  refine norm_ (a' := ?_) ?_ ?_
  rotate_left
  ·show Act.put _ (some 30) _ = _
   simp only [Act.put, List.setIfInBounds_toArray, List.set_cons_zero, List.set_cons_succ, i64_w, i32_w]
   rfl
  refine pure_ (i := 7) (N := some 31) (v := ?_) (a' := ?_) #[Y,Y,Y,Y,Y,Y,Y,Y,N] rfl rfl (any_of HT_.out (by kernel_rfl)) (fun _ _ _ h => h) (Or.inl ⟨by rfl, ?_⟩) ?_ ?_
  rotate_left
  ·intro w'
   go_simp
   with_reducible rfl
  rotate_left
  ·simp only [Act.put, List.setIfInBounds_toArray, List.set_cons_zero, List.set_cons_succ, i64_w, i32_w]
   rfl
  refine last_ (i := 8) (N := none) #[Y,Y,Y,Y,Y,Y,Y,Y,Y] rfl rfl (one_of HT_.out (by kernel_rfl)) (by decide) (fun K hK => ?_)
  have hs39 : w37.cell? ⟨gb460, 1, none⟩ = some (.slice none 0 0) := bc BK460 1
  have hfs39 := blk_frozen BK460.out 1
  have hns39_0 := NB456_460.out
  have hns39_1 := NB457_460.out
  have hns39_2 := NB458_460.out
  have hns39_3 := NB459_460.out
  have hms39_0 := NB460_456.out
  have hms39_1 := NB460_457.out
  have hms39_2 := NB460_458.out
  have hms39_3 := NB460_459.out
  refine skip_ (w1 := ?_) (by rfl) rfl ?_ ?_
  rotate_left
  ·go_simp
   rfl
  refine hK.out _ _ ?_
  clear hK K
  refine done_ (done_of HT_.out (by kernel_rfl)) ?_
  try go_wp2
  have n0_ : Aside0 (Kd.R k75 75 (w37.setCell ⟨gb460, 1, none⟩ (.slice Ao38 y472.length co38)) w.heap.size (fun k_ => some k_ ≠ (.slice Ao38 y472.length co38 : Value).ownBlock) (.slice Ao32 y465.length co32) y465) := ⟨by exact Kd.R_mono (Kd.R_far (Kd.R_types HO467.out BK460.out (by decide)) (fun _ hk => hk.2) _) (fun _ hk => hk.1.2)⟩
  have n1_ : Aside0 (Kd.R k75 75 (w37.setCell ⟨gb460, 1, none⟩ (.slice Ao38 y472.length co38)) w.heap.size (fun k_ => some k_ ≠ (.slice Ao32 y465.length co32 : Value).ownBlock) (.slice Ao38 y472.length co38) y472) := ⟨by exact Kd.R_mono (Kd.R_far (Kd.R_types HO474.out BK460.out (by decide)) (fun _ hk => hk.2) _) (fun _ hk => hk.1)⟩
  have n2_ : Aside0 ((w37.setCell ⟨gb460, 1, none⟩ (.slice Ao38 y472.length co38)).heap[gb456]? = some (.cells #[.bool true, .slice A0_1 l0_1.length c0_1, .slice A0_2 l0_2.length c0_2] 25 (0, 0))) := ⟨kf NB456_460 BK456⟩
  have n3_ : Aside0 ((w37.setCell ⟨gb460, 1, none⟩ (.slice Ao38 y472.length co38)).heap[gb457]? = some (.cells #[.bool false, .slice none 0 0, .slice none 0 0] 25 (0, 0))) := ⟨kf NB457_460 BK457⟩
  have n4_ : Aside0 ((w37.setCell ⟨gb460, 1, none⟩ (.slice Ao38 y472.length co38)).heap[gb458]? = some (.cells #[.bool false, .slice none 0 0, .slice none 0 0] 25 (0, 0))) := ⟨kf NB458_460 BK458⟩
  have n5_ : Aside0 ((w37.setCell ⟨gb460, 1, none⟩ (.slice Ao38 y472.length co38)).heap[gb459]? = some (.cells #[.bool true, .slice Ao32 y465.length co32, .slice none 0 0] 25 (0, 0))) := ⟨kf NB459_460 BK459⟩
  have n6_ : Aside0 ((w37.setCell ⟨gb460, 1, none⟩ (.slice Ao38 y472.length co38)).heap[gb460]? = some (.cells #[.bool true, .slice Ao38 y472.length co38, .slice none 0 0] 25 (0, 0))) := ⟨by (with_reducible repeat (first | refine blk_drewN ?_ _ | refine blk_drew ?_ | refine blk_alloc ?_ _)); refine blk_put (cs := #[.bool true, .slice none 0 0, .slice none 0 0]) ?_ 1 _ rfl; exact kb BK460⟩
  have n7_ : Aside0 (Below w.heap.size w (w37.setCell ⟨gb460, 1, none⟩ (.slice Ao38 y472.length co38))) := ⟨kl HB⟩
  (try clear HO467)
  (try clear HO474)
  (try clear BK456)
  (try clear BK457)
  (try clear BK458)
  (try clear BK459)
  (try clear BK460)
  (try clear HB)
  generalize (w37.setCell ⟨gb460, 1, none⟩ (.slice Ao38 y472.length co38)) = w40 at n0_ n1_ n2_ n3_ n4_ n5_ n6_ n7_ ⊢
  have HO467 := n0_
  have HO474 := n1_
  have BK456 := n2_
  have BK457 := n3_
  have BK458 := n4_
  have BK459 := n5_
  have BK460 := n6_
  have HB := n7_
  clear n0_ n1_ n2_ n3_ n4_ n5_ n6_ n7_
  replace HO467 := aM (Kd.R_drew HO467.out)
  replace HO474 := aM (Kd.R_drew HO474.out)
  replace BK456 := aM (blk_drew BK456.out)
  replace BK457 := aM (blk_drew BK457.out)
  replace BK458 := aM (blk_drew BK458.out)
  replace BK459 := aM (blk_drew BK459.out)
  replace BK460 := aM (blk_drew BK460.out)
  replace HB := aM (below_drew1 HB.out)
  refine start_ (n := 4) (S := fun w' => w'.cell? ⟨gb459, 0, none⟩ = some (.bool true) ∧ w'.cell? ⟨gb459, 1, none⟩ = some (.slice Ao32 y465.length co32) ∧ w'.cell? ⟨gb459, 2, none⟩ = some (.slice none 0 0) ∧ w'.cell? ⟨gb460, 0, none⟩ = some (.bool true) ∧ w'.cell? ⟨gb460, 1, none⟩ = some (.slice Ao38 y472.length co38) ∧ w'.cell? ⟨gb460, 2, none⟩ = some (.slice none 0 0)) (ds := []) #[false, false, false, false] (by kernel_rfl) rfl rfl ⟨bc BK459 0, bc BK459 1, bc BK459 2, bc BK460 0, bc BK460 1, bc BK460 2⟩ (fun hHeld => ?_)
  generalize w40.drew = w41 at HO467 HO474 BK456 BK457 BK458 BK459 BK460 HB hHeld ⊢
  refine take_ (i := 0) (N := some 48) (v := ?_) (a' := ?_) #[true, false, false, false] rfl rfl (by kernel_rfl) (fun _ _ _ h => h) (Or.inl ⟨by rfl, ?_⟩) hHeld ?_ ?_
  rotate_left
  ·rintro w' ⟨s0, s1, s2, s3, s4, s5⟩
   go_simp
   with_reducible rfl
  rotate_left
  ·simp only [Act.put, List.setIfInBounds_toArray, List.set_cons_zero, List.set_cons_succ, i64_w, i32_w]
   rfl
  refine take_ (i := 1) (N := some 49) (v := ?_) (a' := ?_) #[true, true, false, false] rfl rfl (by kernel_rfl) (fun _ _ _ h => h) (Or.inl ⟨by rfl, ?_⟩) hHeld ?_ ?_
  rotate_left
  ·rintro w' ⟨s0, s1, s2, s3, s4, s5⟩
   go_simp
   with_reducible rfl
  rotate_left
  ·simp only [Act.put, List.setIfInBounds_toArray, List.set_cons_zero, List.set_cons_succ, i64_w, i32_w]
   rfl
  refine one_ (i := 2) (N := none) #[true, true, true, false] rfl rfl (by kernel_rfl) (by decide) (fun K hK => ?_)
  have hs42 : w41.cell? ⟨gb457, 0, none⟩ = some (.bool false) := bc BK457 0
  have hfs42 := blk_frozen BK457.out 0
  have hns42_0 := NB456_457.out
  have hns42_2 := NB458_457.out
  have hns42_3 := NB459_457.out
  have hns42_4 := NB460_457.out
  have hms42_0 := NB457_456.out
  have hms42_2 := NB457_458.out
  have hms42_3 := NB457_459.out
  have hms42_4 := NB457_460.out
  have hs43 : w41.cell? ⟨gb457, 1, none⟩ = some (.slice none 0 0) := bc BK457 1
  have hfs43 := blk_frozen BK457.out 1
  have hns43_0 := NB456_457.out
  have hns43_2 := NB458_457.out
  have hns43_3 := NB459_457.out
  have hns43_4 := NB460_457.out
  have hms43_0 := NB457_456.out
  have hms43_2 := NB457_458.out
  have hms43_3 := NB457_459.out
  have hms43_4 := NB457_460.out
  have hs44 : w41.cell? ⟨gb457, 2, none⟩ = some (.slice none 0 0) := bc BK457 2
  have hfs44 := blk_frozen BK457.out 2
  have hns44_0 := NB456_457.out
  have hns44_2 := NB458_457.out
  have hns44_3 := NB459_457.out
  have hns44_4 := NB460_457.out
  have hms44_0 := NB457_456.out
  have hms44_2 := NB457_458.out
  have hms44_3 := NB457_459.out
  have hms44_4 := NB457_460.out
  refine skip_ (w1 := ?_) (by rfl) rfl ?_ ?_
  rotate_left
  ·go_simp
   rfl
  refine hK.out _ _ ⟨((cell_far (p := ⟨gb457, _, none⟩) NB459_457.out _).trans (((cell_far (p := ⟨gb457, _, none⟩) NB459_457.out _).trans (((cell_far (p := ⟨gb457, _, none⟩) NB459_457.out _).trans (hHeld.1)))))), ((cell_far (p := ⟨gb457, _, none⟩) NB459_457.out _).trans (((cell_far (p := ⟨gb457, _, none⟩) NB459_457.out _).trans (((cell_far (p := ⟨gb457, _, none⟩) NB459_457.out _).trans (hHeld.2.1)))))), ((cell_far (p := ⟨gb457, _, none⟩) NB459_457.out _).trans (((cell_far (p := ⟨gb457, _, none⟩) NB459_457.out _).trans (((cell_far (p := ⟨gb457, _, none⟩) NB459_457.out _).trans (hHeld.2.2.1)))))), ((cell_far (p := ⟨gb457, _, none⟩) NB460_457.out _).trans (((cell_far (p := ⟨gb457, _, none⟩) NB460_457.out _).trans (((cell_far (p := ⟨gb457, _, none⟩) NB460_457.out _).trans (hHeld.2.2.2.1)))))), ((cell_far (p := ⟨gb457, _, none⟩) NB460_457.out _).trans (((cell_far (p := ⟨gb457, _, none⟩) NB460_457.out _).trans (((cell_far (p := ⟨gb457, _, none⟩) NB460_457.out _).trans (hHeld.2.2.2.2.1)))))), ((cell_far (p := ⟨gb457, _, none⟩) NB460_457.out _).trans (((cell_far (p := ⟨gb457, _, none⟩) NB460_457.out _).trans (((cell_far (p := ⟨gb457, _, none⟩) NB460_457.out _).trans (hHeld.2.2.2.2.2))))))⟩ (fun hHeld => ?_)
  clear hK K
  refine one_ (i := 3) (N := none) #[true, true, true, true] rfl rfl (by kernel_rfl) (by decide) (fun K hK => ?_)
  have hs45 : w41.cell? ⟨gb458, 0, none⟩ = some (.bool false) := bc BK458 0
  have hfs45 := blk_frozen BK458.out 0
  have hns45_0 := NB456_458.out
  have hns45_1 := NB457_458.out
  have hns45_3 := NB459_458.out
  have hns45_4 := NB460_458.out
  have hms45_0 := NB458_456.out
  have hms45_1 := NB458_457.out
  have hms45_3 := NB458_459.out
  have hms45_4 := NB458_460.out
  have hs46 : w41.cell? ⟨gb458, 1, none⟩ = some (.slice none 0 0) := bc BK458 1
  have hfs46 := blk_frozen BK458.out 1
  have hns46_0 := NB456_458.out
  have hns46_1 := NB457_458.out
  have hns46_3 := NB459_458.out
  have hns46_4 := NB460_458.out
  have hms46_0 := NB458_456.out
  have hms46_1 := NB458_457.out
  have hms46_3 := NB458_459.out
  have hms46_4 := NB458_460.out
  have hs47 : w41.cell? ⟨gb458, 2, none⟩ = some (.slice none 0 0) := bc BK458 2
  have hfs47 := blk_frozen BK458.out 2
  have hns47_0 := NB456_458.out
  have hns47_1 := NB457_458.out
  have hns47_3 := NB459_458.out
  have hns47_4 := NB460_458.out
  have hms47_0 := NB458_456.out
  have hms47_1 := NB458_457.out
  have hms47_3 := NB458_459.out
  have hms47_4 := NB458_460.out
  refine skip_ (w1 := ?_) (by rfl) rfl ?_ ?_
  rotate_left
  ·go_simp
   rfl
  refine hK.out _ _ ⟨((cell_far (p := ⟨gb458, _, none⟩) NB459_458.out _).trans (((cell_far (p := ⟨gb458, _, none⟩) NB459_458.out _).trans (((cell_far (p := ⟨gb458, _, none⟩) NB459_458.out _).trans (hHeld.1)))))), ((cell_far (p := ⟨gb458, _, none⟩) NB459_458.out _).trans (((cell_far (p := ⟨gb458, _, none⟩) NB459_458.out _).trans (((cell_far (p := ⟨gb458, _, none⟩) NB459_458.out _).trans (hHeld.2.1)))))), ((cell_far (p := ⟨gb458, _, none⟩) NB459_458.out _).trans (((cell_far (p := ⟨gb458, _, none⟩) NB459_458.out _).trans (((cell_far (p := ⟨gb458, _, none⟩) NB459_458.out _).trans (hHeld.2.2.1)))))), ((cell_far (p := ⟨gb458, _, none⟩) NB460_458.out _).trans (((cell_far (p := ⟨gb458, _, none⟩) NB460_458.out _).trans (((cell_far (p := ⟨gb458, _, none⟩) NB460_458.out _).trans (hHeld.2.2.2.1)))))), ((cell_far (p := ⟨gb458, _, none⟩) NB460_458.out _).trans (((cell_far (p := ⟨gb458, _, none⟩) NB460_458.out _).trans (((cell_far (p := ⟨gb458, _, none⟩) NB460_458.out _).trans (hHeld.2.2.2.2.1)))))), ((cell_far (p := ⟨gb458, _, none⟩) NB460_458.out _).trans (((cell_far (p := ⟨gb458, _, none⟩) NB460_458.out _).trans (((cell_far (p := ⟨gb458, _, none⟩) NB460_458.out _).trans (hHeld.2.2.2.2.2))))))⟩ (fun hHeld => ?_)
  clear hK K
  refine done_ (by kernel_rfl) ?_
  try go_wp2
  refine bodyPost_ret (results_cc rfl _ _ gb457 gb458 25 25 #[.bool true, .slice Ao32 y465.length co32, .slice none 0 0] #[.bool true, .slice Ao38 y472.length co38, .slice none 0 0] (0, 0) (0, 0) _ _ rfl (by (with_reducible repeat (first | refine blk_drewN ?_ _ | refine blk_drew ?_ | refine blk_alloc ?_ _)); refine blk_far ?_ NB457_458.out _; (with_reducible repeat (first | refine blk_drewN ?_ _ | refine blk_drew ?_ | refine blk_alloc ?_ _)); refine blk_far ?_ NB457_458.out _; (with_reducible repeat (first | refine blk_drewN ?_ _ | refine blk_drew ?_ | refine blk_alloc ?_ _)); refine blk_far ?_ NB457_458.out _; (with_reducible repeat (first | refine blk_drewN ?_ _ | refine blk_drew ?_ | refine blk_alloc ?_ _)); refine blk_put (cs := #[.bool true, .slice Ao32 y465.length co32, .slice none 0 0]) ?_ 2 _ rfl; (with_reducible repeat (first | refine blk_drewN ?_ _ | refine blk_drew ?_ | refine blk_alloc ?_ _)); refine blk_put (cs := #[.bool true, .slice none 0 0, .slice none 0 0]) ?_ 1 _ rfl; (with_reducible repeat (first | refine blk_drewN ?_ _ | refine blk_drew ?_ | refine blk_alloc ?_ _)); refine blk_put (cs := #[.bool false, .slice none 0 0, .slice none 0 0]) ?_ 0 _ rfl; exact kb BK457) Try.underlying25 rfl (by kernel_rfl) rfl (by (with_reducible repeat (first | refine blk_drewN ?_ _ | refine blk_drew ?_ | refine blk_alloc ?_ _)); refine blk_put (cs := #[.bool true, .slice Ao38 y472.length co38, .slice none 0 0]) ?_ 2 _ rfl; (with_reducible repeat (first | refine blk_drewN ?_ _ | refine blk_drew ?_ | refine blk_alloc ?_ _)); refine blk_put (cs := #[.bool true, .slice none 0 0, .slice none 0 0]) ?_ 1 _ rfl; (with_reducible repeat (first | refine blk_drewN ?_ _ | refine blk_drew ?_ | refine blk_alloc ?_ _)); refine blk_put (cs := #[.bool false, .slice none 0 0, .slice none 0 0]) ?_ 0 _ rfl; exact kf NB458_457 BK458) Try.underlying25 rfl (by kernel_rfl)) rfl ?_
  exact ⟨_, _, _, _, by first | rfl | (simp [errW_none, errW_some] <;> rfl) | (simp [*, errW_none, errW_some] <;> rfl), by exact Kd.R_mono (Kd.R_far (Kd.R_far (Kd.R_far (Kd.R_far (Kd.R_far (Kd.R_far (Kd.R_types (Kd.R_types HO467.out BK457.out (by decide)) BK458.out (by decide)) (fun _ hk => hk.1.2) _) (fun _ hk => hk.1.2) _) (fun _ hk => hk.1.2) _) (fun _ hk => hk.2) _) (fun _ hk => hk.2) _) (fun _ hk => hk.2) _) (fun _ hk => hk.1.1), by first | exact Kd.R_nil _ _ _ _ _ | exact Kd.N_nil _ _ _ _ _ | exact Kd.V_nil _ _ _ _ _ | exact Kd.Q_nil _ _ _ _ _ | exact Kd.S_nil _ _ _ _ _, by exact Kd.R_mono (Kd.R_far (Kd.R_far (Kd.R_far (Kd.R_far (Kd.R_far (Kd.R_far (Kd.R_types (Kd.R_types HO474.out BK457.out (by decide)) BK458.out (by decide)) (fun _ hk => hk.1.2) _) (fun _ hk => hk.1.2) _) (fun _ hk => hk.1.2) _) (fun _ hk => hk.2) _) (fun _ hk => hk.2) _) (fun _ hk => hk.2) _) (fun _ hk => hk.1.1), by first | exact Kd.R_nil _ _ _ _ _ | exact Kd.N_nil _ _ _ _ _ | exact Kd.V_nil _ _ _ _ _ | exact Kd.Q_nil _ _ _ _ _ | exact Kd.S_nil _ _ _ _ _, kl HB⟩
 replace c3 := Bool.eq_false_iff.mpr c3
 subst c3
 have H1 : (if 0 ≤ a1 then (if a1 ≤ (l0_2.length : Int) then ((some (l0_2.take (a1 : Int).toNat : List S76)).bind fun y475 => (if ([] : List S76).length + y475.length < 5864062014805 then ((some (l0_2.drop (a1 : Int).toNat : List S76)).bind fun y482 => (if ([] : List S76).length + y482.length < 5864062014805 then (some (false, ([] : List S75), (([] : List S76) ++ y475), false, ([] : List S75), (([] : List S76) ++ y482))) else (none))) else (none))) else (none)) else (none)) = some (r1, r2, r3, r4, r5, r6) := by rw [if_neg (show ¬ (false = true) by decide)] at H; exact H
 clear H
 have H := H1
 clear H1
 by_cases c48 : 0 ≤ a1
 rotate_left
 ·rw [if_neg c48] at H
  exact absurd H (by simp)
 rw [if_pos c48] at H
 have c48b0 := eq_true c48
 have c48b1 : decide (0 ≤ a1) = true := decide_eq_true c48
 clear c48
 by_cases c49 : a1 ≤ (l0_2.length : Int)
 rotate_left
 ·rw [if_neg c49] at H
  exact absurd H (by simp)
 rw [if_pos c49] at H
 have c49b0 := eq_true c49
 have c49b1 : decide (a1 ≤ (l0_2.length : Int)) = true := decide_eq_true c49
 clear c49
 obtain ⟨y475, hy475⟩ : ∃ y_ : List S76, y_ = (l0_2.take (a1 : Int).toNat) := ⟨_, rfl⟩
 replace H : (if ([] : List S76).length + y475.length < 5864062014805 then ((some (l0_2.drop (a1 : Int).toNat : List S76)).bind fun y482 => (if ([] : List S76).length + y482.length < 5864062014805 then (some (false, ([] : List S75), (([] : List S76) ++ y475), false, ([] : List S75), (([] : List S76) ++ y482))) else (none))) else (none)) = some (r1, r2, r3, r4, r5, r6) := by first | (rw [hy475]; with_reducible exact H) | (have H2_ := (Option.bind_some _ _).symm.trans H; rw [hy475]; with_reducible exact H2_) | (have H2_ := (Option.bind_some _ _).symm.trans H; with_reducible exact H2_) | with_reducible exact H | (rw [hy475]; exact H) | exact H
 have Ny475 := aM hy475
 clear hy475
 by_cases c50 : ([] : List S76).length + y475.length < 5864062014805
 rotate_left
 ·rw [if_neg c50] at H
  exact absurd H (by simp)
 rw [if_pos c50] at H
 have LMc50 := aM c50
 clear c50
 obtain ⟨y479, hy479⟩ : ∃ y_ : List S76, y_ = (([] : List S76) ++ y475) := ⟨_, rfl⟩
 replace H : ((some (l0_2.drop (a1 : Int).toNat : List S76)).bind fun y482 => (if ([] : List S76).length + y482.length < 5864062014805 then (some (false, ([] : List S75), y479, false, ([] : List S75), (([] : List S76) ++ y482))) else (none))) = some (r1, r2, r3, r4, r5, r6) := by first | (rw [hy479]; with_reducible exact H) | (have H2_ := (Option.bind_some _ _).symm.trans H; rw [hy479]; with_reducible exact H2_) | (have H2_ := (Option.bind_some _ _).symm.trans H; with_reducible exact H2_) | with_reducible exact H | (rw [hy479]; exact H) | exact H
 have Ny479 := aM hy479
 clear hy479
 have c51b0 := eq_true (of_decide_eq_true (by first | (with_reducible assumption) | assumption) : 0 ≤ a1)
 have c52b0 := eq_true (of_decide_eq_true (by first | (with_reducible assumption) | assumption) : a1 ≤ (l0_2.length : Int))
 obtain ⟨y482, hy482⟩ : ∃ y_ : List S76, y_ = (l0_2.drop (a1 : Int).toNat) := ⟨_, rfl⟩
 replace H : (if ([] : List S76).length + y482.length < 5864062014805 then (some (false, ([] : List S75), y479, false, ([] : List S75), (([] : List S76) ++ y482))) else (none)) = some (r1, r2, r3, r4, r5, r6) := by first | (rw [hy482]; with_reducible exact H) | (have H2_ := (Option.bind_some _ _).symm.trans H; rw [hy482]; with_reducible exact H2_) | (have H2_ := (Option.bind_some _ _).symm.trans H; with_reducible exact H2_) | with_reducible exact H | (rw [hy482]; exact H) | exact H
 have Ny482 := aM hy482
 clear hy482
 by_cases c53 : ([] : List S76).length + y482.length < 5864062014805
 rotate_left
 ·rw [if_neg c53] at H
  exact absurd H (by simp)
 rw [if_pos c53] at H
 have LMc53 := aM c53
 clear c53
 obtain ⟨y486, hy486⟩ : ∃ y_ : List S76, y_ = (([] : List S76) ++ y482) := ⟨_, rfl⟩
 replace H : (some (false, ([] : List S75), y479, false, ([] : List S75), y486)) = some (r1, r2, r3, r4, r5, r6) := by first | (rw [hy486]; with_reducible exact H) | (have H2_ := (Option.bind_some _ _).symm.trans H; rw [hy486]; with_reducible exact H2_) | (have H2_ := (Option.bind_some _ _).symm.trans H; with_reducible exact H2_) | with_reducible exact H | (rw [hy486]; exact H) | exact H
 have Ny486 := aM hy486
 clear hy486
 simp only [Option.some.injEq, Prod.mk.injEq] at H
 obtain ⟨rfl, rfl, rfl, rfl, rfl, rfl⟩ := H
 go_enter Try.func50, Try.ntmps50
 try go_wp2_with (first | ((with_reducible refine gate_dst (N := 2) rfl ?_); refine box_event ?hg (N := 2) ?hd (cs := #[.bool false, .slice A0_1 l0_1.length c0_1, .slice A0_2 l0_2.length c0_2]) (t := 25) ?hr ?_; (case hd => rfl); (case hg => rfl); (case hr => first | (go_simp; done) | (go_simp; rfl)); intro gb456 hg w54 hbox hb; have BK456 := aM (hbox); have GW456 := gw hg HB; have GE456 := gw hg HB; replace HB := aM (below_step (kl HB) hb); clear hb hbox hg) | ((with_reducible refine gate_dst (N := 4) rfl ?_); refine box_event ?hg (N := 4) ?hd (cs := #[.bool false, .slice none 0 0, .slice none 0 0]) (t := 25) ?hr ?_; (case hd => rfl); (case hg => rfl); (case hr => first | (go_simp; done) | (go_simp; rfl)); intro gb457 hg w55 hbox hb; have BK457 := aM (hbox); have GW457 := gw hg HB; have GE457 := gw hg HB; replace HB := aM (below_step (kl HB) hb); have NB456_457 := nl hg BK456; have NB457_456 := ng hg BK456; replace BK456 := bb BK456 hb; clear hb hbox hg) | ((with_reducible refine gate_dst (N := 5) rfl ?_); refine box_event ?hg (N := 5) ?hd (cs := #[.bool false, .slice none 0 0, .slice none 0 0]) (t := 25) ?hr ?_; (case hd => rfl); (case hg => rfl); (case hr => first | (go_simp; done) | (go_simp; rfl)); intro gb458 hg w56 hbox hb; have BK458 := aM (hbox); have GW458 := gw hg HB; have GE458 := gw hg HB; replace HB := aM (below_step (kl HB) hb); have NB456_458 := nl hg BK456; have NB458_456 := ng hg BK456; replace BK456 := bb BK456 hb; have NB457_458 := nl hg BK457; have NB458_457 := ng hg BK457; replace BK457 := bb BK457 hb; clear hb hbox hg))
 replace BK456 := aM (blk_drew BK456.out)
 replace BK457 := aM (blk_drew BK457.out)
 replace BK458 := aM (blk_drew BK458.out)
 replace HB := aM (below_drew1 HB.out)
 refine start_ (n := 10) (S := fun w' => w'.cell? ⟨gb456, 0, none⟩ = some (.bool false) ∧ w'.cell? ⟨gb456, 1, none⟩ = some (.slice A0_1 l0_1.length c0_1) ∧ w'.cell? ⟨gb456, 2, none⟩ = some (.slice A0_2 l0_2.length c0_2)) (ds := []) #[N,N,N,N,N,N,N,N,N,N] (by kernel_rfl) rfl rfl ⟨bc BK456 0, bc BK456 1, bc BK456 2⟩ (fun hHeld => ?_); refine with_tabW rf_cut.tab1 rf_cut.bits1 (fun HT_ HW_ => ?_)
 generalize w56.drew = w57 at BK456 BK457 BK458 HB hHeld ⊢
 refine pure_ (i := 0) (N := some 8) (v := ?_) (a' := ?_) #[Y,N,N,N,N,N,N,N,N,N] rfl rfl (any_of HT_.out (by kernel_rfl)) (fun _ _ _ h => h) (Or.inl ⟨by rfl, ?_⟩) ?_ ?_
 rotate_left
 ·intro w'
  go_simp
  with_reducible rfl
 rotate_left
 ·simp only [Act.put, List.setIfInBounds_toArray, List.set_cons_zero, List.set_cons_succ, i64_w, i32_w]
  rfl
 refine pure_ (i := 3) (N := some 11) (v := ?_) (a' := ?_) #[Y,N,N,Y,N,N,N,N,N,N] rfl rfl (any_of HT_.out (by kernel_rfl)) (fun _ _ _ h => h) (Or.inl ⟨by rfl, ?_⟩) ?_ ?_
 rotate_left
 ·intro w'
  go_simp
  with_reducible rfl
 rotate_left
 ·simp only [Act.put, List.setIfInBounds_toArray, List.set_cons_zero, List.set_cons_succ, i64_w, i32_w]
  rfl
 refine take_ (i := 1) (N := some 9) (v := ?_) (a' := ?_) #[Y,Y,N,Y,N,N,N,N,N,N] rfl rfl (take_ofW HT_.out HW_.out (by kernel_rfl)) (fun _ _ _ h => h) (Or.inl ⟨by rfl, ?_⟩) hHeld ?_ ?_
 rotate_left
 ·rintro w' ⟨s0, s1, s2⟩
  go_simp
  with_reducible rfl
 rotate_left
 ·simp only [Act.put, List.setIfInBounds_toArray, List.set_cons_zero, List.set_cons_succ, i64_w, i32_w]
  rfl
 refine pure_ (i := 2) (N := some 10) (v := ?_) (a' := ?_) #[Y,Y,Y,Y,N,N,N,N,N,N] rfl rfl (any_of HT_.out (by kernel_rfl)) (fun _ _ _ h => h) (Or.inl ⟨by rfl, ?_⟩) ?_ ?_
 rotate_left
 ·intro w'
  go_simp
  with_reducible rfl
 rotate_left
 ·simp only [Act.put, List.setIfInBounds_toArray, List.set_cons_zero, List.set_cons_succ, i64_w, i32_w]
  rfl
 refine take_ (i := 4) (N := some 12) (v := ?_) (a' := ?_) #[Y,Y,Y,Y,Y,N,N,N,N,N] rfl rfl (take_ofW HT_.out HW_.out (by kernel_rfl)) (fun _ _ _ h => h) (Or.inl ⟨by rfl, ?_⟩) hHeld ?_ ?_
 rotate_left
 ·rintro w' ⟨s0, s1, s2⟩
  go_simp
  with_reducible rfl
 rotate_left
 ·simp only [Act.put, List.setIfInBounds_toArray, List.set_cons_zero, List.set_cons_succ, i64_w, i32_w]
  rfl
 refine pure_ (i := 5) (N := some 13) (v := ?_) (a' := ?_) #[Y,Y,Y,Y,Y,Y,N,N,N,N] rfl rfl (any_of HT_.out (by kernel_rfl)) (fun _ _ _ h => h) (Or.inl ⟨by rfl, ?_⟩) ?_ ?_
 rotate_left
 ·intro w'
  go_simp
  with_reducible rfl
 rotate_left
 ·simp only [Act.put, List.setIfInBounds_toArray, List.set_cons_zero, List.set_cons_succ, i64_w, i32_w]
  rfl
 refine join_ (σ := Nat × Nat) 2 #[Y,Y,Y,Y,Y,Y,Y,Y,N,N] (fun s_ => [(6, .pointer (some ⟨s_.1, 0, none⟩)), (7, .pointer (some ⟨s_.2, 0, none⟩))]) (fun s_ w' => (w'.cell? ⟨gb456, 0, none⟩ = some (.bool false) ∧ w'.cell? ⟨gb456, 1, none⟩ = some (.slice A0_1 l0_1.length c0_1) ∧ w'.cell? ⟨gb456, 2, none⟩ = some (.slice A0_2 l0_2.length c0_2)) ∧ (w'.heap[gb456]? = some (.cells #[.bool false, .slice A0_1 l0_1.length c0_1, .slice A0_2 l0_2.length c0_2] 25 (0, 0))) ∧ (w'.heap[gb457]? = some (.cells #[.bool false, .slice none 0 0, .slice none 0 0] 25 (0, 0))) ∧ (w'.heap[gb458]? = some (.cells #[.bool false, .slice none 0 0, .slice none 0 0] 25 (0, 0))) ∧ (w'.heap[s_.1]? = some (.cells #[.bool false, .slice none 0 0, .slice none 0 0] 25 (0, 0))) ∧ (w'.heap[s_.2]? = some (.cells #[.bool false, .slice none 0 0, .slice none 0 0] 25 (0, 0))) ∧ (w.heap.size ≤ s_.1) ∧ (w.heap.size ≤ s_.1) ∧ (gb456 ≠ s_.1) ∧ (s_.1 ≠ gb456) ∧ (gb457 ≠ s_.1) ∧ (s_.1 ≠ gb457) ∧ (gb458 ≠ s_.1) ∧ (s_.1 ≠ gb458) ∧ (s_.2 ≠ s_.1) ∧ (s_.1 ≠ s_.2) ∧ (w.heap.size ≤ s_.2) ∧ (w.heap.size ≤ s_.2) ∧ (gb456 ≠ s_.2) ∧ (s_.2 ≠ gb456) ∧ (gb457 ≠ s_.2) ∧ (s_.2 ≠ gb457) ∧ (gb458 ≠ s_.2) ∧ (s_.2 ≠ gb458) ∧ (Below w.heap.size w w')) ?_ ?_
 rotate_left
 ·intro hCont
  refine two_ (i := 6) (j := 7) (Ni := some 6) (Nj := some 7) #[Y,Y,Y,Y,Y,Y,Y,N,N,N] #[Y,Y,Y,Y,Y,Y,N,Y,N,N] rfl rfl rfl rfl (two_of HT_.out (by kernel_rfl)) (by decide) (by decide) (fun K hK => ?_) (fun K hK => ?_)
  ·skip
   refine box_step ?hg (N := 6) ?hd (cs := #[.bool false, .slice none 0 0, .slice none 0 0]) (t := 25) ?hr ?_; (case hd => rfl); (case hg => rfl); (case hr => first | (go_simp; done) | (go_simp; rfl))
   intro gb459 hg w58 hbox hb
   have BK459 := aM (hbox)
   have GW459 := gw hg HB
   have GE459 := gw hg HB
   replace HB := aM (below_step (kl HB) hb)
   have NB456_459 := nl hg BK456
   have NB459_456 := ng hg BK456
   replace BK456 := bb BK456 hb
   have NB457_459 := nl hg BK457
   have NB459_457 := ng hg BK457
   replace BK457 := bb BK457 hb
   have NB458_459 := nl hg BK458
   have NB459_458 := ng hg BK458
   replace BK458 := bb BK458 hb
   clear hb hbox hg
   refine hK.out _ _ ⟨bc BK456 0, bc BK456 1, bc BK456 2⟩ (fun hHeld => ?_)
   clear hK K
   refine norm_ (a' := ?_) ?_ ?_
   rotate_left
   ·show Act.put _ (some 6) _ = _
    simp only [Act.put, List.setIfInBounds_toArray, List.set_cons_zero, List.set_cons_succ, i64_w, i32_w]
    rfl
   refine one_ (i := 7) (N := some 7) #[Y,Y,Y,Y,Y,Y,Y,Y,N,N] rfl rfl (one_of HT_.out (by kernel_rfl)) (by decide) (fun K hK => ?_)
   refine box_step ?hg (N := 7) ?hd (cs := #[.bool false, .slice none 0 0, .slice none 0 0]) (t := 25) ?hr ?_; (case hd => rfl); (case hg => rfl); (case hr => first | (go_simp; done) | (go_simp; rfl))
   intro gb460 hg w59 hbox hb
   have BK460 := aM (hbox)
   have GW460 := gw hg HB
   have GE460 := gw hg HB
   replace HB := aM (below_step (kl HB) hb)
   have NB456_460 := nl hg BK456
   have NB460_456 := ng hg BK456
   replace BK456 := bb BK456 hb
   have NB457_460 := nl hg BK457
   have NB460_457 := ng hg BK457
   replace BK457 := bb BK457 hb
   have NB458_460 := nl hg BK458
   have NB460_458 := ng hg BK458
   replace BK458 := bb BK458 hb
   have NB459_460 := nl hg BK459
   have NB460_459 := ng hg BK459
   replace BK459 := bb BK459 hb
   clear hb hbox hg
   refine hK.out _ _ ⟨bc BK456 0, bc BK456 1, bc BK456 2⟩ (fun hHeld => ?_)
   clear hK K
   refine norm_ (a' := ?_) ?_ ?_
   rotate_left
   ·show Act.put _ (some 7) _ = _
    simp only [Act.put, List.setIfInBounds_toArray, List.set_cons_zero, List.set_cons_succ, i64_w, i32_w]
    rfl
   exact norm_ (by simp only [putAll, Act.put, List.setIfInBounds_toArray, List.set_cons_zero, List.set_cons_succ]) (hCont (gb459, gb460) _ ⟨hHeld, (kb BK456), (kb BK457), (kb BK458), (kb BK459), (kb BK460), GW459.out, GE459.out, NB456_459.out, NB459_456.out, NB457_459.out, NB459_457.out, NB458_459.out, NB459_458.out, NB460_459.out, NB459_460.out, GW460.out, GE460.out, NB456_460.out, NB460_456.out, NB457_460.out, NB460_457.out, NB458_460.out, NB460_458.out, (kl HB)⟩)
  ·skip
   refine box_step ?hg (N := 7) ?hd (cs := #[.bool false, .slice none 0 0, .slice none 0 0]) (t := 25) ?hr ?_; (case hd => rfl); (case hg => rfl); (case hr => first | (go_simp; done) | (go_simp; rfl))
   intro gb460 hg w58 hbox hb
   have BK460 := aM (hbox)
   have GW460 := gw hg HB
   have GE460 := gw hg HB
   replace HB := aM (below_step (kl HB) hb)
   have NB456_460 := nl hg BK456
   have NB460_456 := ng hg BK456
   replace BK456 := bb BK456 hb
   have NB457_460 := nl hg BK457
   have NB460_457 := ng hg BK457
   replace BK457 := bb BK457 hb
   have NB458_460 := nl hg BK458
   have NB460_458 := ng hg BK458
   replace BK458 := bb BK458 hb
   clear hb hbox hg
   refine hK.out _ _ ⟨bc BK456 0, bc BK456 1, bc BK456 2⟩ (fun hHeld => ?_)
   clear hK K
   refine norm_ (a' := ?_) ?_ ?_
   rotate_left
   ·show Act.put _ (some 7) _ = _
    simp only [Act.put, List.setIfInBounds_toArray, List.set_cons_zero, List.set_cons_succ, i64_w, i32_w]
    rfl
   refine one_ (i := 6) (N := some 6) #[Y,Y,Y,Y,Y,Y,Y,Y,N,N] rfl rfl (one_of HT_.out (by kernel_rfl)) (by decide) (fun K hK => ?_)
   refine box_step ?hg (N := 6) ?hd (cs := #[.bool false, .slice none 0 0, .slice none 0 0]) (t := 25) ?hr ?_; (case hd => rfl); (case hg => rfl); (case hr => first | (go_simp; done) | (go_simp; rfl))
   intro gb459 hg w59 hbox hb
   have BK459 := aM (hbox)
   have GW459 := gw hg HB
   have GE459 := gw hg HB
   replace HB := aM (below_step (kl HB) hb)
   have NB456_459 := nl hg BK456
   have NB459_456 := ng hg BK456
   replace BK456 := bb BK456 hb
   have NB457_459 := nl hg BK457
   have NB459_457 := ng hg BK457
   replace BK457 := bb BK457 hb
   have NB458_459 := nl hg BK458
   have NB459_458 := ng hg BK458
   replace BK458 := bb BK458 hb
   have NB460_459 := nl hg BK460
   have NB459_460 := ng hg BK460
   replace BK460 := bb BK460 hb
   clear hb hbox hg
   refine hK.out _ _ ⟨bc BK456 0, bc BK456 1, bc BK456 2⟩ (fun hHeld => ?_)
   clear hK K
   refine norm_ (a' := ?_) ?_ ?_
   rotate_left
   ·show Act.put _ (some 6) _ = _
    simp only [Act.put, List.setIfInBounds_toArray, List.set_cons_zero, List.set_cons_succ, i64_w, i32_w]
    rfl
   exact norm_ (by simp only [putAll, Act.put, List.setIfInBounds_toArray, List.set_cons_zero, List.set_cons_succ]) (hCont (gb459, gb460) _ ⟨hHeld, (kb BK456), (kb BK457), (kb BK458), (kb BK459), (kb BK460), GW459.out, GE459.out, NB456_459.out, NB459_456.out, NB457_459.out, NB459_457.out, NB458_459.out, NB459_458.out, NB460_459.out, NB459_460.out, GW460.out, GE460.out, NB456_460.out, NB460_456.out, NB457_460.out, NB460_457.out, NB458_460.out, NB460_458.out, (kl HB)⟩)
 rintro ⟨gb459, gb460⟩ w60 ⟨hS_, h0_, h1_, h2_, h3_, h4_, h5_, h6_, h7_, h8_, h9_, h10_, h11_, h12_, h13_, h14_, h15_, h16_, h17_, h18_, h19_, h20_, h21_, h22_, h23_⟩
 have n0_ : Aside0 (w60.heap[gb456]? = some (.cells #[.bool false, .slice A0_1 l0_1.length c0_1, .slice A0_2 l0_2.length c0_2] 25 (0, 0))) := ⟨h0_⟩
 have n1_ : Aside0 (w60.heap[gb457]? = some (.cells #[.bool false, .slice none 0 0, .slice none 0 0] 25 (0, 0))) := ⟨h1_⟩
 have n2_ : Aside0 (w60.heap[gb458]? = some (.cells #[.bool false, .slice none 0 0, .slice none 0 0] 25 (0, 0))) := ⟨h2_⟩
 have n3_ : Aside0 (w60.heap[gb459]? = some (.cells #[.bool false, .slice none 0 0, .slice none 0 0] 25 (0, 0))) := ⟨h3_⟩
 have n4_ : Aside0 (w60.heap[gb460]? = some (.cells #[.bool false, .slice none 0 0, .slice none 0 0] 25 (0, 0))) := ⟨h4_⟩
 have n5_ : Aside0 (w.heap.size ≤ gb459) := ⟨h5_⟩
 have n6_ : Aside0 (w.heap.size ≤ gb459) := ⟨h6_⟩
 have n7_ : Aside0 (gb456 ≠ gb459) := ⟨h7_⟩
 have n8_ : Aside0 (gb459 ≠ gb456) := ⟨h8_⟩
 have n9_ : Aside0 (gb457 ≠ gb459) := ⟨h9_⟩
 have n10_ : Aside0 (gb459 ≠ gb457) := ⟨h10_⟩
 have n11_ : Aside0 (gb458 ≠ gb459) := ⟨h11_⟩
 have n12_ : Aside0 (gb459 ≠ gb458) := ⟨h12_⟩
 have n13_ : Aside0 (gb460 ≠ gb459) := ⟨h13_⟩
 have n14_ : Aside0 (gb459 ≠ gb460) := ⟨h14_⟩
 have n15_ : Aside0 (w.heap.size ≤ gb460) := ⟨h15_⟩
 have n16_ : Aside0 (w.heap.size ≤ gb460) := ⟨h16_⟩
 have n17_ : Aside0 (gb456 ≠ gb460) := ⟨h17_⟩
 have n18_ : Aside0 (gb460 ≠ gb456) := ⟨h18_⟩
 have n19_ : Aside0 (gb457 ≠ gb460) := ⟨h19_⟩
 have n20_ : Aside0 (gb460 ≠ gb457) := ⟨h20_⟩
 have n21_ : Aside0 (gb458 ≠ gb460) := ⟨h21_⟩
 have n22_ : Aside0 (gb460 ≠ gb458) := ⟨h22_⟩
 have n23_ : Aside0 (Below w.heap.size w w60) := ⟨h23_⟩
 clear BK456
 clear BK457
 clear BK458
 clear HB
 clear h0_ h1_ h2_ h3_ h4_ h5_ h6_ h7_ h8_ h9_ h10_ h11_ h12_ h13_ h14_ h15_ h16_ h17_ h18_ h19_ h20_ h21_ h22_ h23_
 have BK456 := n0_
 have BK457 := n1_
 have BK458 := n2_
 have BK459 := n3_
 have BK460 := n4_
 have GW459 := n5_
 have GE459 := n6_
 have NB456_459 := n7_
 have NB459_456 := n8_
 have NB457_459 := n9_
 have NB459_457 := n10_
 have NB458_459 := n11_
 have NB459_458 := n12_
 have NB460_459 := n13_
 have NB459_460 := n14_
 have GW460 := n15_
 have GE460 := n16_
 have NB456_460 := n17_
 have NB460_456 := n18_
 have NB457_460 := n19_
 have NB460_457 := n20_
 have NB458_460 := n21_
 have NB460_458 := n22_
 have HB := n23_
 clear n0_ n1_ n2_ n3_ n4_ n5_ n6_ n7_ n8_ n9_ n10_ n11_ n12_ n13_ n14_ n15_ n16_ n17_ n18_ n19_ n20_ n21_ n22_ n23_
 have hHeld : w60.cell? ⟨gb456, 0, none⟩ = some (.bool false) ∧ w60.cell? ⟨gb456, 1, none⟩ = some (.slice A0_1 l0_1.length c0_1) ∧ w60.cell? ⟨gb456, 2, none⟩ = some (.slice A0_2 l0_2.length c0_2) := hS_
 refine norm_ (a' := ?_) ?_ ?_
 rotate_left
 ·simp only [putAll, Act.put, List.setIfInBounds_toArray, List.set_cons_zero, List.set_cons_succ]
  rfl
 refine one_ (i := 8) (N := none) #[Y,Y,Y,Y,Y,Y,Y,Y,Y,N] rfl rfl (one_of HT_.out (by kernel_rfl)) (by decide) (fun K hK => ?_)
 have hs61 : w60.cell? ⟨gb459, 0, none⟩ = some (.bool false) := bc BK459 0
 have hfs61 := blk_frozen BK459.out 0
 have hns61_0 := NB456_459.out
 have hns61_1 := NB457_459.out
 have hns61_2 := NB458_459.out
 have hns61_4 := NB460_459.out
 have hms61_0 := NB459_456.out
 have hms61_1 := NB459_457.out
 have hms61_2 := NB459_458.out
 have hms61_4 := NB459_460.out
 have hs62 : w60.cell? ⟨gb459, 1, none⟩ = some (.slice none 0 0) := bc BK459 1
 have hfs62 := blk_frozen BK459.out 1
 have hns62_0 := NB456_459.out
 have hns62_1 := NB457_459.out
 have hns62_2 := NB458_459.out
 have hns62_4 := NB460_459.out
 have hms62_0 := NB459_456.out
 have hms62_1 := NB459_457.out
 have hms62_2 := NB459_458.out
 have hms62_4 := NB459_460.out
 have hs63 : w60.cell? ⟨gb459, 2, none⟩ = some (.slice none 0 0) := bc BK459 2
 have hfs63 := blk_frozen BK459.out 2
 have hns63_0 := NB456_459.out
 have hns63_1 := NB457_459.out
 have hns63_2 := NB458_459.out
 have hns63_4 := NB460_459.out
 have hms63_0 := NB459_456.out
 have hms63_1 := NB459_457.out
 have hms63_2 := NB459_458.out
 have hms63_4 := NB459_460.out
 refine skip_ (w1 := ?_) (by rfl) rfl ?_ ?_
 rotate_left
 ·go_simp
  rfl
 refine hK.out _ _ ⟨((cell_far (p := ⟨gb459, _, none⟩) NB456_459.out _).trans (((cell_far (p := ⟨gb459, _, none⟩) NB456_459.out _).trans (((cell_far (p := ⟨gb459, _, none⟩) NB456_459.out _).trans (hHeld.1)))))), ((cell_far (p := ⟨gb459, _, none⟩) NB456_459.out _).trans (((cell_far (p := ⟨gb459, _, none⟩) NB456_459.out _).trans (((cell_far (p := ⟨gb459, _, none⟩) NB456_459.out _).trans (hHeld.2.1)))))), ((cell_far (p := ⟨gb459, _, none⟩) NB456_459.out _).trans (((cell_far (p := ⟨gb459, _, none⟩) NB456_459.out _).trans (((cell_far (p := ⟨gb459, _, none⟩) NB456_459.out _).trans (hHeld.2.2))))))⟩ (fun hHeld => ?_)
 clear hK K
 refine one_ (i := 9) (N := none) #[Y,Y,Y,Y,Y,Y,Y,Y,Y,Y] rfl rfl (one_of HT_.out (by kernel_rfl)) (by decide) (fun K hK => ?_)
 have hs64 : w60.cell? ⟨gb460, 0, none⟩ = some (.bool false) := bc BK460 0
 have hfs64 := blk_frozen BK460.out 0
 have hns64_0 := NB456_460.out
 have hns64_1 := NB457_460.out
 have hns64_2 := NB458_460.out
 have hns64_3 := NB459_460.out
 have hms64_0 := NB460_456.out
 have hms64_1 := NB460_457.out
 have hms64_2 := NB460_458.out
 have hms64_3 := NB460_459.out
 have hs65 : w60.cell? ⟨gb460, 1, none⟩ = some (.slice none 0 0) := bc BK460 1
 have hfs65 := blk_frozen BK460.out 1
 have hns65_0 := NB456_460.out
 have hns65_1 := NB457_460.out
 have hns65_2 := NB458_460.out
 have hns65_3 := NB459_460.out
 have hms65_0 := NB460_456.out
 have hms65_1 := NB460_457.out
 have hms65_2 := NB460_458.out
 have hms65_3 := NB460_459.out
 have hs66 : w60.cell? ⟨gb460, 2, none⟩ = some (.slice none 0 0) := bc BK460 2
 have hfs66 := blk_frozen BK460.out 2
 have hns66_0 := NB456_460.out
 have hns66_1 := NB457_460.out
 have hns66_2 := NB458_460.out
 have hns66_3 := NB459_460.out
 have hms66_0 := NB460_456.out
 have hms66_1 := NB460_457.out
 have hms66_2 := NB460_458.out
 have hms66_3 := NB460_459.out
 refine skip_ (w1 := ?_) (by rfl) rfl ?_ ?_
 rotate_left
 ·go_simp
  rfl
 refine hK.out _ _ ⟨((cell_far (p := ⟨gb460, _, none⟩) NB456_460.out _).trans (((cell_far (p := ⟨gb460, _, none⟩) NB456_460.out _).trans (((cell_far (p := ⟨gb460, _, none⟩) NB456_460.out _).trans (hHeld.1)))))), ((cell_far (p := ⟨gb460, _, none⟩) NB456_460.out _).trans (((cell_far (p := ⟨gb460, _, none⟩) NB456_460.out _).trans (((cell_far (p := ⟨gb460, _, none⟩) NB456_460.out _).trans (hHeld.2.1)))))), ((cell_far (p := ⟨gb460, _, none⟩) NB456_460.out _).trans (((cell_far (p := ⟨gb460, _, none⟩) NB456_460.out _).trans (((cell_far (p := ⟨gb460, _, none⟩) NB456_460.out _).trans (hHeld.2.2))))))⟩ (fun hHeld => ?_)
 clear hK K
 refine done_ (done_of HT_.out (by kernel_rfl)) ?_
 have hnb67 := NB456_457.out
 have hnc67 := NB457_456.out
 have hnb68 := NB456_458.out
 have hnc68 := NB458_456.out
 have hnb69 := NB456_459.out
 have hnc69 := NB459_456.out
 have hnb70 := NB456_460.out
 have hnc70 := NB460_456.out
 have hcz71_0 : w60.cell? ⟨gb456, 0, none⟩ = some (.bool false) := bc BK456 0
 have hcz71_1 : w60.cell? ⟨gb456, 1, none⟩ = some (.slice A0_1 l0_1.length c0_1) := bc BK456 1
 have hcz71_2 : w60.cell? ⟨gb456, 2, none⟩ = some (.slice A0_2 l0_2.length c0_2) := bc BK456 2
 have hfz71_0 := blk_frozen BK456.out 0
 have hfz71_1 := blk_frozen BK456.out 1
 have hfz71_2 := blk_frozen BK456.out 2
 try go_wp2
 have n0_ : Aside0 (((((((w60.setCell ⟨gb459, 0, none⟩ (.bool false)).setCell ⟨gb459, 1, none⟩ (.slice none 0 0)).setCell ⟨gb459, 2, none⟩ (.slice none 0 0)).setCell ⟨gb460, 0, none⟩ (.bool false)).setCell ⟨gb460, 1, none⟩ (.slice none 0 0)).setCell ⟨gb460, 2, none⟩ (.slice none 0 0)).heap[gb456]? = some (.cells #[.bool false, .slice A0_1 l0_1.length c0_1, .slice A0_2 l0_2.length c0_2] 25 (0, 0))) := ⟨kg2 NB456_460 NB456_459 BK456⟩
 have n1_ : Aside0 (((((((w60.setCell ⟨gb459, 0, none⟩ (.bool false)).setCell ⟨gb459, 1, none⟩ (.slice none 0 0)).setCell ⟨gb459, 2, none⟩ (.slice none 0 0)).setCell ⟨gb460, 0, none⟩ (.bool false)).setCell ⟨gb460, 1, none⟩ (.slice none 0 0)).setCell ⟨gb460, 2, none⟩ (.slice none 0 0)).heap[gb457]? = some (.cells #[.bool false, .slice none 0 0, .slice none 0 0] 25 (0, 0))) := ⟨kg2 NB457_460 NB457_459 BK457⟩
 have n2_ : Aside0 (((((((w60.setCell ⟨gb459, 0, none⟩ (.bool false)).setCell ⟨gb459, 1, none⟩ (.slice none 0 0)).setCell ⟨gb459, 2, none⟩ (.slice none 0 0)).setCell ⟨gb460, 0, none⟩ (.bool false)).setCell ⟨gb460, 1, none⟩ (.slice none 0 0)).setCell ⟨gb460, 2, none⟩ (.slice none 0 0)).heap[gb458]? = some (.cells #[.bool false, .slice none 0 0, .slice none 0 0] 25 (0, 0))) := ⟨kg2 NB458_460 NB458_459 BK458⟩
 have n3_ : Aside0 (((((((w60.setCell ⟨gb459, 0, none⟩ (.bool false)).setCell ⟨gb459, 1, none⟩ (.slice none 0 0)).setCell ⟨gb459, 2, none⟩ (.slice none 0 0)).setCell ⟨gb460, 0, none⟩ (.bool false)).setCell ⟨gb460, 1, none⟩ (.slice none 0 0)).setCell ⟨gb460, 2, none⟩ (.slice none 0 0)).heap[gb459]? = some (.cells #[.bool false, .slice none 0 0, .slice none 0 0] 25 (0, 0))) := ⟨by (with_reducible repeat (first | refine blk_drewN ?_ _ | refine blk_drew ?_ | refine blk_alloc ?_ _)); refine blk_far ?_ NB459_460.out _; (with_reducible repeat (first | refine blk_drewN ?_ _ | refine blk_drew ?_ | refine blk_alloc ?_ _)); refine blk_far ?_ NB459_460.out _; (with_reducible repeat (first | refine blk_drewN ?_ _ | refine blk_drew ?_ | refine blk_alloc ?_ _)); refine blk_far ?_ NB459_460.out _; (with_reducible repeat (first | refine blk_drewN ?_ _ | refine blk_drew ?_ | refine blk_alloc ?_ _)); refine blk_put (cs := #[.bool false, .slice none 0 0, .slice none 0 0]) ?_ 2 _ rfl; (with_reducible repeat (first | refine blk_drewN ?_ _ | refine blk_drew ?_ | refine blk_alloc ?_ _)); refine blk_put (cs := #[.bool false, .slice none 0 0, .slice none 0 0]) ?_ 1 _ rfl; (with_reducible repeat (first | refine blk_drewN ?_ _ | refine blk_drew ?_ | refine blk_alloc ?_ _)); refine blk_put (cs := #[.bool false, .slice none 0 0, .slice none 0 0]) ?_ 0 _ rfl; exact kb BK459⟩
 have n4_ : Aside0 (((((((w60.setCell ⟨gb459, 0, none⟩ (.bool false)).setCell ⟨gb459, 1, none⟩ (.slice none 0 0)).setCell ⟨gb459, 2, none⟩ (.slice none 0 0)).setCell ⟨gb460, 0, none⟩ (.bool false)).setCell ⟨gb460, 1, none⟩ (.slice none 0 0)).setCell ⟨gb460, 2, none⟩ (.slice none 0 0)).heap[gb460]? = some (.cells #[.bool false, .slice none 0 0, .slice none 0 0] 25 (0, 0))) := ⟨by (with_reducible repeat (first | refine blk_drewN ?_ _ | refine blk_drew ?_ | refine blk_alloc ?_ _)); refine blk_put (cs := #[.bool false, .slice none 0 0, .slice none 0 0]) ?_ 2 _ rfl; (with_reducible repeat (first | refine blk_drewN ?_ _ | refine blk_drew ?_ | refine blk_alloc ?_ _)); refine blk_put (cs := #[.bool false, .slice none 0 0, .slice none 0 0]) ?_ 1 _ rfl; (with_reducible repeat (first | refine blk_drewN ?_ _ | refine blk_drew ?_ | refine blk_alloc ?_ _)); refine blk_put (cs := #[.bool false, .slice none 0 0, .slice none 0 0]) ?_ 0 _ rfl; exact kf NB460_459 BK460⟩
 have n5_ : Aside0 (Below w.heap.size w ((((((w60.setCell ⟨gb459, 0, none⟩ (.bool false)).setCell ⟨gb459, 1, none⟩ (.slice none 0 0)).setCell ⟨gb459, 2, none⟩ (.slice none 0 0)).setCell ⟨gb460, 0, none⟩ (.bool false)).setCell ⟨gb460, 1, none⟩ (.slice none 0 0)).setCell ⟨gb460, 2, none⟩ (.slice none 0 0))) := ⟨kl HB⟩
 (try clear BK456)
 (try clear BK457)
 (try clear BK458)
 (try clear BK459)
 (try clear BK460)
 (try clear HB)
 generalize ((((((w60.setCell ⟨gb459, 0, none⟩ (.bool false)).setCell ⟨gb459, 1, none⟩ (.slice none 0 0)).setCell ⟨gb459, 2, none⟩ (.slice none 0 0)).setCell ⟨gb460, 0, none⟩ (.bool false)).setCell ⟨gb460, 1, none⟩ (.slice none 0 0)).setCell ⟨gb460, 2, none⟩ (.slice none 0 0)) = w72 at n0_ n1_ n2_ n3_ n4_ n5_ ⊢
 have BK456 := n0_
 have BK457 := n1_
 have BK458 := n2_
 have BK459 := n3_
 have BK460 := n4_
 have HB := n5_
 clear n0_ n1_ n2_ n3_ n4_ n5_
 replace BK456 := aM (blk_drew BK456.out)
 replace BK457 := aM (blk_drew BK457.out)
 replace BK458 := aM (blk_drew BK458.out)
 replace BK459 := aM (blk_drew BK459.out)
 replace BK460 := aM (blk_drew BK460.out)
 replace HB := aM (below_drew1 HB.out)
 have q74 : (a1 : Int) ≤ ((l0_2.length : Int) : Int) := of_decide_eq_true (by first | (with_reducible assumption) | assumption)
 obtain ⟨i074, hi074, _, hsz74, _⟩ := info_parts info76
 have hroom74 : l0_2.length ≤ c0_2 := HC0_2.out
 have hC74 : Kd.C k76 _ A0_2 l0_2.length l0_2 := HR0_2.out
 have hcut74 := cut_to (P := Try.prog) 23 76 .i64 Try.underlying23 hi074 A0_2 l0_2.length c0_2 a1 (of_decide_eq_true (by first | (with_reducible assumption) | assumption)) q74 hroom74
 have hr74 := Kd.C_take (m := (a1 : Int).toNat) hC74 (by omega)
 have hy74 : y475.length = (a1 : Int).toNat := (by rw [Ny475.out, List.length_take]; omega)
 rw [← Ny475.out] at hr74
 rw [← hy74] at hcut74
 have HR478 := aM hr74
 have HC478 := aM (show y475.length ≤ c0_2 from by omega)
 clear hr74 hC74 hroom74 hi074 hsz74
 have KY74 := aM hy74
 clear hy74
 replace q74 := eq_true q74
 refine start_ (n := 9) (S := fun w' => w'.cell? ⟨gb459, 0, none⟩ = some (.bool false) ∧ w'.cell? ⟨gb459, 1, none⟩ = some (.slice none 0 0) ∧ w'.cell? ⟨gb459, 2, none⟩ = some (.slice none 0 0) ∧ w'.cell? ⟨gb456, 0, none⟩ = some (.bool false) ∧ w'.cell? ⟨gb456, 1, none⟩ = some (.slice A0_1 l0_1.length c0_1) ∧ w'.cell? ⟨gb456, 2, none⟩ = some (.slice A0_2 l0_2.length c0_2)) (ds := [8]) #[N,N,N,N,N,N,N,N,N] (by kernel_rfl) rfl rfl ⟨bc BK459 0, bc BK459 1, bc BK459 2, bc BK456 0, bc BK456 1, bc BK456 2⟩ (fun hHeld => ?_); refine with_tabW rf_cut.tab5 rf_cut.bits5 (fun HT_ HW_ => ?_)
 generalize w72.drew = w73 at BK456 BK457 BK458 BK459 BK460 HB HR478 hHeld ⊢
 refine pure_ (i := 0) (N := some 32) (v := ?_) (a' := ?_) #[Y,N,N,N,N,N,N,N,N] rfl rfl (any_of HT_.out (by kernel_rfl)) (fun _ _ _ h => h) (Or.inl ⟨by rfl, ?_⟩) ?_ ?_
 rotate_left
 ·intro w'
  go_simp
  with_reducible rfl
 rotate_left
 ·simp only [Act.put, List.setIfInBounds_toArray, List.set_cons_zero, List.set_cons_succ, i64_w, i32_w]
  rfl
 refine pure_ (i := 2) (N := some 34) (v := ?_) (a' := ?_) #[Y,N,Y,N,N,N,N,N,N] rfl rfl (any_of HT_.out (by kernel_rfl)) (fun _ _ _ h => h) (Or.inl ⟨by rfl, ?_⟩) ?_ ?_
 rotate_left
 ·intro w'
  go_simp
  with_reducible rfl
 rotate_left
 ·simp only [Act.put, List.setIfInBounds_toArray, List.set_cons_zero, List.set_cons_succ, i64_w, i32_w]
  rfl
 refine pure_ (i := 4) (N := some 36) (v := ?_) (a' := ?_) #[Y,N,Y,N,Y,N,N,N,N] rfl rfl (any_of HT_.out (by kernel_rfl)) (fun _ _ _ h => h) (Or.inl ⟨by rfl, ?_⟩) ?_ ?_
 rotate_left
 ·intro w'
  go_simp
  with_reducible rfl
 rotate_left
 ·simp only [Act.put, List.setIfInBounds_toArray, List.set_cons_zero, List.set_cons_succ, i64_w, i32_w]
  rfl
 refine take_ (i := 1) (N := some 33) (v := ?_) (a' := ?_) #[Y,Y,Y,N,Y,N,N,N,N] rfl rfl (take_ofW HT_.out HW_.out (by kernel_rfl)) (fun _ _ _ h => h) (Or.inl ⟨by rfl, ?_⟩) hHeld ?_ ?_
 rotate_left
 ·rintro w' ⟨s0, s1, s2, s3, s4, s5⟩
  go_simp
  with_reducible rfl
 rotate_left
 ·simp only [Act.put, List.setIfInBounds_toArray, List.set_cons_zero, List.set_cons_succ, i64_w, i32_w]
  rfl
 refine take_ (i := 3) (N := some 35) (v := ?_) (a' := ?_) #[Y,Y,Y,Y,Y,N,N,N,N] rfl rfl (take_ofW HT_.out HW_.out (by kernel_rfl)) (fun _ _ _ h => h) (Or.inl ⟨by rfl, ?_⟩) hHeld ?_ ?_
 rotate_left
 ·rintro w' ⟨s0, s1, s2, s3, s4, s5⟩
  go_simp
  with_reducible rfl
 rotate_left
 ·simp only [Act.put, List.setIfInBounds_toArray, List.set_cons_zero, List.set_cons_succ, i64_w, i32_w]
  rfl
 refine pure_ (i := 5) (N := some 37) (v := ?_) (a' := ?_) #[Y,Y,Y,Y,Y,Y,N,N,N] rfl rfl (any_of HT_.out (by kernel_rfl)) (fun _ _ _ h => h) (Or.inl ⟨by rfl, ?_⟩) ?_ ?_
 rotate_left
 ·intro w'
  go_simp
  with_reducible rfl
 rotate_left
 ·simp only [Act.put, List.setIfInBounds_toArray, List.set_cons_zero, List.set_cons_succ, i64_w, i32_w]
  rfl
 refine one_ (i := 6) (N := some 38) #[Y,Y,Y,Y,Y,Y,Y,N,N] rfl rfl (one_of HT_.out (by kernel_rfl)) (by decide) (fun K hK => ?_)
 refine Kd.R_append_rows_step k76 (w0 := w) w.heap.size (by rfl) (.tmp 33) (.tmp 37) 23 76 (.agg #[(.string ⟨#[]⟩), (.int .i64 0)]) 24 rfl Try.underlying23 info76 rfl (by decide) (by omega) (.slice none 0 0) ([] : List S76) y475 _ _ _ (fun _ => True) (fun _ => False) rfl rfl ?aO ?aR (fun _ _ h => h) (fun _ h => h.elim) ?aF ?aB ?aS ?aL ?_
 (case aR => repeat (first | exact (Kd.C_below HR478.out HB.out) | (with_reducible refine Kd.C_alloc ?_ _) | (with_reducible refine Kd.C_drewN ?_ _) | (with_reducible refine Kd.C_drew ?_)))
 (case aB => exact (kl HB))
 (case aF => exact (fun _ _ => trivial))
 (case aO => exact ((Kd.R_nil _ _ _ _ (fun _ => True))))
 (case aS => exact (below_size (kl HB)))
 (case aL => have := LMc50.out; omega)
 intro v480 w75 ho hb hg hat
 rw [← Ny479.out] at ho
 replace BK456 := aM (blk_grown (kb BK456) hg (by simp [Value.ownBlock]))
 replace BK457 := aM (blk_grown (kb BK457) hg (by simp [Value.ownBlock]))
 replace BK458 := aM (blk_grown (kb BK458) hg (by simp [Value.ownBlock]))
 replace BK459 := aM (blk_grown (kb BK459) hg (by simp [Value.ownBlock]))
 replace BK460 := aM (blk_grown (kb BK460) hg (by simp [Value.ownBlock]))
 replace HB := aM (hb)
 have HO481 := aM (ho)
 clear ho hb hg hat
 obtain ⟨Ao76, co76, eo76⟩ := Kd.R_slice HO481.out
 (first | subst eo76 | (injection eo76 with f1_ f2_ f3_; have f4_ := f1_.symm; have f5_ := f3_.symm; clear f1_ f2_ f3_; subst f4_; subst f5_))
 refine hK.out _ _ ⟨bc BK459 0, bc BK459 1, bc BK459 2, bc BK456 0, bc BK456 1, bc BK456 2⟩ (fun hHeld => ?_)
 clear hK K
 refine norm_ (a' := ?_) ?_ ?_
 rotate_left
 ·show Act.put _ (some 38) _ = _
  simp only [Act.put, List.setIfInBounds_toArray, List.set_cons_zero, List.set_cons_succ, i64_w, i32_w]
  rfl
 refine pure_ (i := 7) (N := some 39) (v := ?_) (a' := ?_) #[Y,Y,Y,Y,Y,Y,Y,Y,N] rfl rfl (any_of HT_.out (by kernel_rfl)) (fun _ _ _ h => h) (Or.inl ⟨by rfl, ?_⟩) ?_ ?_
 rotate_left
 ·intro w'
  go_simp
  with_reducible rfl
 rotate_left
 ·simp only [Act.put, List.setIfInBounds_toArray, List.set_cons_zero, List.set_cons_succ, i64_w, i32_w]
  rfl
 refine last_ (i := 8) (N := none) #[Y,Y,Y,Y,Y,Y,Y,Y,Y] rfl rfl (one_of HT_.out (by kernel_rfl)) (by decide) (fun K hK => ?_)
 have hs77 : w75.cell? ⟨gb459, 2, none⟩ = some (.slice none 0 0) := bc BK459 2
 have hfs77 := blk_frozen BK459.out 2
 have hns77_0 := NB456_459.out
 have hns77_1 := NB457_459.out
 have hns77_2 := NB458_459.out
 have hns77_4 := NB460_459.out
 have hms77_0 := NB459_456.out
 have hms77_1 := NB459_457.out
 have hms77_2 := NB459_458.out
 have hms77_4 := NB459_460.out
 refine skip_ (w1 := ?_) (by rfl) rfl ?_ ?_
 rotate_left
 ·go_simp
  rfl
 refine hK.out _ _ ?_
 clear hK K
 refine done_ (done_of HT_.out (by kernel_rfl)) ?_
 try go_wp2
 have n0_ : Aside0 (Kd.R k76 76 (w75.setCell ⟨gb459, 2, none⟩ (.slice Ao76 y479.length co76)) w.heap.size (fun _ => True) (.slice Ao76 y479.length co76) y479) := ⟨by exact Kd.R_mono (Kd.R_far (Kd.R_types HO481.out BK459.out (by decide)) (fun _ hk => hk.2) _) (fun _ hk => trivial)⟩
 have n1_ : Aside0 ((w75.setCell ⟨gb459, 2, none⟩ (.slice Ao76 y479.length co76)).heap[gb456]? = some (.cells #[.bool false, .slice A0_1 l0_1.length c0_1, .slice A0_2 l0_2.length c0_2] 25 (0, 0))) := ⟨kf NB456_459 BK456⟩
 have n2_ : Aside0 ((w75.setCell ⟨gb459, 2, none⟩ (.slice Ao76 y479.length co76)).heap[gb457]? = some (.cells #[.bool false, .slice none 0 0, .slice none 0 0] 25 (0, 0))) := ⟨kf NB457_459 BK457⟩
 have n3_ : Aside0 ((w75.setCell ⟨gb459, 2, none⟩ (.slice Ao76 y479.length co76)).heap[gb458]? = some (.cells #[.bool false, .slice none 0 0, .slice none 0 0] 25 (0, 0))) := ⟨kf NB458_459 BK458⟩
 have n4_ : Aside0 ((w75.setCell ⟨gb459, 2, none⟩ (.slice Ao76 y479.length co76)).heap[gb459]? = some (.cells #[.bool false, .slice none 0 0, .slice Ao76 y479.length co76] 25 (0, 0))) := ⟨by (with_reducible repeat (first | refine blk_drewN ?_ _ | refine blk_drew ?_ | refine blk_alloc ?_ _)); refine blk_put (cs := #[.bool false, .slice none 0 0, .slice none 0 0]) ?_ 2 _ rfl; exact kb BK459⟩
 have n5_ : Aside0 ((w75.setCell ⟨gb459, 2, none⟩ (.slice Ao76 y479.length co76)).heap[gb460]? = some (.cells #[.bool false, .slice none 0 0, .slice none 0 0] 25 (0, 0))) := ⟨kf NB460_459 BK460⟩
 have n6_ : Aside0 (Below w.heap.size w (w75.setCell ⟨gb459, 2, none⟩ (.slice Ao76 y479.length co76))) := ⟨kl HB⟩
 (try clear HO481)
 (try clear BK456)
 (try clear BK457)
 (try clear BK458)
 (try clear BK459)
 (try clear BK460)
 (try clear HB)
 generalize (w75.setCell ⟨gb459, 2, none⟩ (.slice Ao76 y479.length co76)) = w78 at n0_ n1_ n2_ n3_ n4_ n5_ n6_ ⊢
 have HO481 := n0_
 have BK456 := n1_
 have BK457 := n2_
 have BK458 := n3_
 have BK459 := n4_
 have BK460 := n5_
 have HB := n6_
 clear n0_ n1_ n2_ n3_ n4_ n5_ n6_
 replace HO481 := aM (Kd.R_drew HO481.out)
 replace BK456 := aM (blk_drew BK456.out)
 replace BK457 := aM (blk_drew BK457.out)
 replace BK458 := aM (blk_drew BK458.out)
 replace BK459 := aM (blk_drew BK459.out)
 replace BK460 := aM (blk_drew BK460.out)
 replace HB := aM (below_drew1 HB.out)
 have q80 : (a1 : Int) ≤ ((l0_2.length : Int) : Int) := of_decide_eq_true (by first | (with_reducible assumption) | assumption)
 obtain ⟨i080, hi080, _, hsz80, _⟩ := info_parts info76
 have hroom80 : l0_2.length ≤ c0_2 := HC0_2.out
 have hC80 : Kd.C k76 _ A0_2 l0_2.length l0_2 := HR0_2.out
 have q080 : (0 : Int) ≤ (a1 : Int) := of_decide_eq_true (by first | (with_reducible assumption) | assumption)
 have hcut80 := cut_from (P := Try.prog) 23 76 .i64 Try.underlying23 hi080 2 hsz80 A0_2 l0_2.length c0_2 a1 q080 q80
 have hr80 := Kd.C_drop (m := (a1 : Int).toNat) (c := c0_2) hC80 (by omega) hroom80
 obtain ⟨A80, hA80⟩ : ∃ A1, A1 = (if c0_2 = (a1 : Int).toNat then A0_2 else (A0_2 : Option Addr).map (·.add ((a1 : Int).toNat * 2))) := ⟨_, rfl⟩
 obtain ⟨c80, hc80⟩ : ∃ c1, c1 = c0_2 - (a1 : Int).toNat := ⟨_, rfl⟩
 have hy80 : y482.length = l0_2.length - (a1 : Int).toNat := (by rw [Ny482.out, List.length_drop] <;> omega)
 rw [show (l0_2).drop (a1 : Int).toNat = y482 from Ny482.out.symm] at hr80
 replace hr80 : Kd.C k76 _ A80 y482.length y482 := (by rw [hA80]; exact hr80)
 rw [← hy80, ← hA80, ← hc80] at hcut80
 have HR485 := aM hr80
 have HC485 := aM (show y482.length ≤ c80 from by rw [hy80, hc80]; exact Nat.sub_le_sub_right hroom80 _)
 clear hr80 hC80 hroom80 hi080 hsz80 hc80
 have KY80 := aM hy80
 have KA80 := aM hA80
 clear hy80 hA80
 replace q80 := eq_true q80
 refine start_ (n := 9) (S := fun w' => w'.cell? ⟨gb460, 0, none⟩ = some (.bool false) ∧ w'.cell? ⟨gb460, 1, none⟩ = some (.slice none 0 0) ∧ w'.cell? ⟨gb460, 2, none⟩ = some (.slice none 0 0) ∧ w'.cell? ⟨gb456, 0, none⟩ = some (.bool false) ∧ w'.cell? ⟨gb456, 1, none⟩ = some (.slice A0_1 l0_1.length c0_1) ∧ w'.cell? ⟨gb456, 2, none⟩ = some (.slice A0_2 l0_2.length c0_2)) (ds := [8]) #[N,N,N,N,N,N,N,N,N] (by kernel_rfl) rfl rfl ⟨bc BK460 0, bc BK460 1, bc BK460 2, bc BK456 0, bc BK456 1, bc BK456 2⟩ (fun hHeld => ?_); refine with_tabW rf_cut.tab6 rf_cut.bits6 (fun HT_ HW_ => ?_)
 generalize w78.drew = w79 at HO481 BK456 BK457 BK458 BK459 BK460 HB HR485 hHeld ⊢
 refine pure_ (i := 0) (N := some 40) (v := ?_) (a' := ?_) #[Y,N,N,N,N,N,N,N,N] rfl rfl (any_of HT_.out (by kernel_rfl)) (fun _ _ _ h => h) (Or.inl ⟨by rfl, ?_⟩) ?_ ?_
 rotate_left
 ·intro w'
  go_simp
  with_reducible rfl
 rotate_left
 ·simp only [Act.put, List.setIfInBounds_toArray, List.set_cons_zero, List.set_cons_succ, i64_w, i32_w]
  rfl
 refine pure_ (i := 2) (N := some 42) (v := ?_) (a' := ?_) #[Y,N,Y,N,N,N,N,N,N] rfl rfl (any_of HT_.out (by kernel_rfl)) (fun _ _ _ h => h) (Or.inl ⟨by rfl, ?_⟩) ?_ ?_
 rotate_left
 ·intro w'
  go_simp
  with_reducible rfl
 rotate_left
 ·simp only [Act.put, List.setIfInBounds_toArray, List.set_cons_zero, List.set_cons_succ, i64_w, i32_w]
  rfl
 refine pure_ (i := 4) (N := some 44) (v := ?_) (a' := ?_) #[Y,N,Y,N,Y,N,N,N,N] rfl rfl (any_of HT_.out (by kernel_rfl)) (fun _ _ _ h => h) (Or.inl ⟨by rfl, ?_⟩) ?_ ?_
 rotate_left
 ·intro w'
  go_simp
  with_reducible rfl
 rotate_left
 ·simp only [Act.put, List.setIfInBounds_toArray, List.set_cons_zero, List.set_cons_succ, i64_w, i32_w]
  rfl
 refine take_ (i := 1) (N := some 41) (v := ?_) (a' := ?_) #[Y,Y,Y,N,Y,N,N,N,N] rfl rfl (take_ofW HT_.out HW_.out (by kernel_rfl)) (fun _ _ _ h => h) (Or.inl ⟨by rfl, ?_⟩) hHeld ?_ ?_
 rotate_left
 ·rintro w' ⟨s0, s1, s2, s3, s4, s5⟩
  go_simp
  with_reducible rfl
 rotate_left
 ·simp only [Act.put, List.setIfInBounds_toArray, List.set_cons_zero, List.set_cons_succ, i64_w, i32_w]
  rfl
 refine take_ (i := 3) (N := some 43) (v := ?_) (a' := ?_) #[Y,Y,Y,Y,Y,N,N,N,N] rfl rfl (take_ofW HT_.out HW_.out (by kernel_rfl)) (fun _ _ _ h => h) (Or.inl ⟨by rfl, ?_⟩) hHeld ?_ ?_
 rotate_left
 ·rintro w' ⟨s0, s1, s2, s3, s4, s5⟩
  go_simp
  with_reducible rfl
 rotate_left
 ·simp only [Act.put, List.setIfInBounds_toArray, List.set_cons_zero, List.set_cons_succ, i64_w, i32_w]
  rfl
 refine pure_ (i := 5) (N := some 45) (v := ?_) (a' := ?_) #[Y,Y,Y,Y,Y,Y,N,N,N] rfl rfl (any_of HT_.out (by kernel_rfl)) (fun _ _ _ h => h) (Or.inl ⟨by rfl, ?_⟩) ?_ ?_
 rotate_left
 ·intro w'
  go_simp
  with_reducible rfl
 rotate_left
 ·simp only [Act.put, List.setIfInBounds_toArray, List.set_cons_zero, List.set_cons_succ, i64_w, i32_w]
  rfl
 refine one_ (i := 6) (N := some 46) #[Y,Y,Y,Y,Y,Y,Y,N,N] rfl rfl (one_of HT_.out (by kernel_rfl)) (by decide) (fun K hK => ?_)
 refine Kd.R_append_rows_step k76 (w0 := w) w.heap.size (by rfl) (.tmp 41) (.tmp 45) 23 76 (.agg #[(.string ⟨#[]⟩), (.int .i64 0)]) 24 rfl Try.underlying23 info76 rfl (by decide) (by omega) (.slice none 0 0) ([] : List S76) y482 _ _ _ (fun k_ => some k_ ≠ (.slice Ao76 y479.length co76 : Value).ownBlock) (fun _ => False) rfl rfl ?aO ?aR (fun _ _ h => h) (fun _ h => h.elim) ?aF ?aB ?aS ?aL ?_
 (case aR => repeat (first | exact (Kd.C_below HR485.out HB.out) | (with_reducible refine Kd.C_alloc ?_ _) | (with_reducible refine Kd.C_drewN ?_ _) | (with_reducible refine Kd.C_drew ?_)))
 (case aB => exact (kl HB))
 (case aF => exact (fun k_ hk => Kd.fresh' (Kd.R_lt (kr HO481)) k_ hk))
 (case aO => exact ((Kd.R_nil _ _ _ _ (fun k_ => some k_ ≠ (.slice Ao76 y479.length co76 : Value).ownBlock))))
 (case aS => exact (below_size (kl HB)))
 (case aL => have := LMc53.out; omega)
 intro v487 w81 ho hb hg hat
 rw [← Ny486.out] at ho
 replace BK456 := aM (blk_grown (kb BK456) hg (by simp [Value.ownBlock]))
 replace BK457 := aM (blk_grown (kb BK457) hg (by simp [Value.ownBlock]))
 replace BK458 := aM (blk_grown (kb BK458) hg (by simp [Value.ownBlock]))
 replace BK459 := aM (blk_grown (kb BK459) hg (by simp [Value.ownBlock]))
 replace BK460 := aM (blk_grown (kb BK460) hg (by simp [Value.ownBlock]))
 replace HO481 := aM (Kd.R_after (Kd.R_apart_nil (kr HO481)) hg hat)
 replace HB := aM (hb)
 have HO488 := aM (ho)
 clear ho hb hg hat
 obtain ⟨Ao82, co82, eo82⟩ := Kd.R_slice HO488.out
 (first | subst eo82 | (injection eo82 with f1_ f2_ f3_; have f4_ := f1_.symm; have f5_ := f3_.symm; clear f1_ f2_ f3_; subst f4_; subst f5_))
 refine hK.out _ _ ⟨bc BK460 0, bc BK460 1, bc BK460 2, bc BK456 0, bc BK456 1, bc BK456 2⟩ (fun hHeld => ?_)
 clear hK K
 refine norm_ (a' := ?_) ?_ ?_
 rotate_left
 ·show Act.put _ (some 46) _ = _
  simp only [Act.put, List.setIfInBounds_toArray, List.set_cons_zero, List.set_cons_succ, i64_w, i32_w]
  rfl
 refine pure_ (i := 7) (N := some 47) (v := ?_) (a' := ?_) #[Y,Y,Y,Y,Y,Y,Y,Y,N] rfl rfl (any_of HT_.out (by kernel_rfl)) (fun _ _ _ h => h) (Or.inl ⟨by rfl, ?_⟩) ?_ ?_
 rotate_left
 ·intro w'
  go_simp
  with_reducible rfl
 rotate_left
 ·simp only [Act.put, List.setIfInBounds_toArray, List.set_cons_zero, List.set_cons_succ, i64_w, i32_w]
  rfl
 refine last_ (i := 8) (N := none) #[Y,Y,Y,Y,Y,Y,Y,Y,Y] rfl rfl (one_of HT_.out (by kernel_rfl)) (by decide) (fun K hK => ?_)
 have hs83 : w81.cell? ⟨gb460, 2, none⟩ = some (.slice none 0 0) := bc BK460 2
 have hfs83 := blk_frozen BK460.out 2
 have hns83_0 := NB456_460.out
 have hns83_1 := NB457_460.out
 have hns83_2 := NB458_460.out
 have hns83_3 := NB459_460.out
 have hms83_0 := NB460_456.out
 have hms83_1 := NB460_457.out
 have hms83_2 := NB460_458.out
 have hms83_3 := NB460_459.out
 refine skip_ (w1 := ?_) (by rfl) rfl ?_ ?_
 rotate_left
 ·go_simp
  rfl
 refine hK.out _ _ ?_
 clear hK K
 refine done_ (done_of HT_.out (by kernel_rfl)) ?_
 try go_wp2
 have n0_ : Aside0 (Kd.R k76 76 (w81.setCell ⟨gb460, 2, none⟩ (.slice Ao82 y486.length co82)) w.heap.size (fun k_ => some k_ ≠ (.slice Ao82 y486.length co82 : Value).ownBlock) (.slice Ao76 y479.length co76) y479) := ⟨by exact Kd.R_mono (Kd.R_far (Kd.R_types HO481.out BK460.out (by decide)) (fun _ hk => hk.2) _) (fun _ hk => hk.1.2)⟩
 have n1_ : Aside0 (Kd.R k76 76 (w81.setCell ⟨gb460, 2, none⟩ (.slice Ao82 y486.length co82)) w.heap.size (fun k_ => some k_ ≠ (.slice Ao76 y479.length co76 : Value).ownBlock) (.slice Ao82 y486.length co82) y486) := ⟨by exact Kd.R_mono (Kd.R_far (Kd.R_types HO488.out BK460.out (by decide)) (fun _ hk => hk.2) _) (fun _ hk => hk.1)⟩
 have n2_ : Aside0 ((w81.setCell ⟨gb460, 2, none⟩ (.slice Ao82 y486.length co82)).heap[gb456]? = some (.cells #[.bool false, .slice A0_1 l0_1.length c0_1, .slice A0_2 l0_2.length c0_2] 25 (0, 0))) := ⟨kf NB456_460 BK456⟩
 have n3_ : Aside0 ((w81.setCell ⟨gb460, 2, none⟩ (.slice Ao82 y486.length co82)).heap[gb457]? = some (.cells #[.bool false, .slice none 0 0, .slice none 0 0] 25 (0, 0))) := ⟨kf NB457_460 BK457⟩
 have n4_ : Aside0 ((w81.setCell ⟨gb460, 2, none⟩ (.slice Ao82 y486.length co82)).heap[gb458]? = some (.cells #[.bool false, .slice none 0 0, .slice none 0 0] 25 (0, 0))) := ⟨kf NB458_460 BK458⟩
 have n5_ : Aside0 ((w81.setCell ⟨gb460, 2, none⟩ (.slice Ao82 y486.length co82)).heap[gb459]? = some (.cells #[.bool false, .slice none 0 0, .slice Ao76 y479.length co76] 25 (0, 0))) := ⟨kf NB459_460 BK459⟩
 have n6_ : Aside0 ((w81.setCell ⟨gb460, 2, none⟩ (.slice Ao82 y486.length co82)).heap[gb460]? = some (.cells #[.bool false, .slice none 0 0, .slice Ao82 y486.length co82] 25 (0, 0))) := ⟨by (with_reducible repeat (first | refine blk_drewN ?_ _ | refine blk_drew ?_ | refine blk_alloc ?_ _)); refine blk_put (cs := #[.bool false, .slice none 0 0, .slice none 0 0]) ?_ 2 _ rfl; exact kb BK460⟩
 have n7_ : Aside0 (Below w.heap.size w (w81.setCell ⟨gb460, 2, none⟩ (.slice Ao82 y486.length co82))) := ⟨kl HB⟩
 (try clear HO481)
 (try clear HO488)
 (try clear BK456)
 (try clear BK457)
 (try clear BK458)
 (try clear BK459)
 (try clear BK460)
 (try clear HB)
 generalize (w81.setCell ⟨gb460, 2, none⟩ (.slice Ao82 y486.length co82)) = w84 at n0_ n1_ n2_ n3_ n4_ n5_ n6_ n7_ ⊢
 have HO481 := n0_
 have HO488 := n1_
 have BK456 := n2_
 have BK457 := n3_
 have BK458 := n4_
 have BK459 := n5_
 have BK460 := n6_
 have HB := n7_
 clear n0_ n1_ n2_ n3_ n4_ n5_ n6_ n7_
 replace HO481 := aM (Kd.R_drew HO481.out)
 replace HO488 := aM (Kd.R_drew HO488.out)
 replace BK456 := aM (blk_drew BK456.out)
 replace BK457 := aM (blk_drew BK457.out)
 replace BK458 := aM (blk_drew BK458.out)
 replace BK459 := aM (blk_drew BK459.out)
 replace BK460 := aM (blk_drew BK460.out)
 replace HB := aM (below_drew1 HB.out)
 refine start_ (n := 4) (S := fun w' => w'.cell? ⟨gb459, 0, none⟩ = some (.bool false) ∧ w'.cell? ⟨gb459, 1, none⟩ = some (.slice none 0 0) ∧ w'.cell? ⟨gb459, 2, none⟩ = some (.slice Ao76 y479.length co76) ∧ w'.cell? ⟨gb460, 0, none⟩ = some (.bool false) ∧ w'.cell? ⟨gb460, 1, none⟩ = some (.slice none 0 0) ∧ w'.cell? ⟨gb460, 2, none⟩ = some (.slice Ao82 y486.length co82)) (ds := []) #[false, false, false, false] (by kernel_rfl) rfl rfl ⟨bc BK459 0, bc BK459 1, bc BK459 2, bc BK460 0, bc BK460 1, bc BK460 2⟩ (fun hHeld => ?_)
 generalize w84.drew = w85 at HO481 HO488 BK456 BK457 BK458 BK459 BK460 HB hHeld ⊢
 refine take_ (i := 0) (N := some 48) (v := ?_) (a' := ?_) #[true, false, false, false] rfl rfl (by kernel_rfl) (fun _ _ _ h => h) (Or.inl ⟨by rfl, ?_⟩) hHeld ?_ ?_
 rotate_left
 ·rintro w' ⟨s0, s1, s2, s3, s4, s5⟩
  go_simp
  with_reducible rfl
 rotate_left
 ·simp only [Act.put, List.setIfInBounds_toArray, List.set_cons_zero, List.set_cons_succ, i64_w, i32_w]
  rfl
 refine take_ (i := 1) (N := some 49) (v := ?_) (a' := ?_) #[true, true, false, false] rfl rfl (by kernel_rfl) (fun _ _ _ h => h) (Or.inl ⟨by rfl, ?_⟩) hHeld ?_ ?_
 rotate_left
 ·rintro w' ⟨s0, s1, s2, s3, s4, s5⟩
  go_simp
  with_reducible rfl
 rotate_left
 ·simp only [Act.put, List.setIfInBounds_toArray, List.set_cons_zero, List.set_cons_succ, i64_w, i32_w]
  rfl
 refine one_ (i := 2) (N := none) #[true, true, true, false] rfl rfl (by kernel_rfl) (by decide) (fun K hK => ?_)
 have hs86 : w85.cell? ⟨gb457, 0, none⟩ = some (.bool false) := bc BK457 0
 have hfs86 := blk_frozen BK457.out 0
 have hns86_0 := NB456_457.out
 have hns86_2 := NB458_457.out
 have hns86_3 := NB459_457.out
 have hns86_4 := NB460_457.out
 have hms86_0 := NB457_456.out
 have hms86_2 := NB457_458.out
 have hms86_3 := NB457_459.out
 have hms86_4 := NB457_460.out
 have hs87 : w85.cell? ⟨gb457, 1, none⟩ = some (.slice none 0 0) := bc BK457 1
 have hfs87 := blk_frozen BK457.out 1
 have hns87_0 := NB456_457.out
 have hns87_2 := NB458_457.out
 have hns87_3 := NB459_457.out
 have hns87_4 := NB460_457.out
 have hms87_0 := NB457_456.out
 have hms87_2 := NB457_458.out
 have hms87_3 := NB457_459.out
 have hms87_4 := NB457_460.out
 have hs88 : w85.cell? ⟨gb457, 2, none⟩ = some (.slice none 0 0) := bc BK457 2
 have hfs88 := blk_frozen BK457.out 2
 have hns88_0 := NB456_457.out
 have hns88_2 := NB458_457.out
 have hns88_3 := NB459_457.out
 have hns88_4 := NB460_457.out
 have hms88_0 := NB457_456.out
 have hms88_2 := NB457_458.out
 have hms88_3 := NB457_459.out
 have hms88_4 := NB457_460.out
 refine skip_ (w1 := ?_) (by rfl) rfl ?_ ?_
 rotate_left
 ·go_simp
  rfl
 refine hK.out _ _ ⟨((cell_far (p := ⟨gb457, _, none⟩) NB459_457.out _).trans (((cell_far (p := ⟨gb457, _, none⟩) NB459_457.out _).trans (((cell_far (p := ⟨gb457, _, none⟩) NB459_457.out _).trans (hHeld.1)))))), ((cell_far (p := ⟨gb457, _, none⟩) NB459_457.out _).trans (((cell_far (p := ⟨gb457, _, none⟩) NB459_457.out _).trans (((cell_far (p := ⟨gb457, _, none⟩) NB459_457.out _).trans (hHeld.2.1)))))), ((cell_far (p := ⟨gb457, _, none⟩) NB459_457.out _).trans (((cell_far (p := ⟨gb457, _, none⟩) NB459_457.out _).trans (((cell_far (p := ⟨gb457, _, none⟩) NB459_457.out _).trans (hHeld.2.2.1)))))), ((cell_far (p := ⟨gb457, _, none⟩) NB460_457.out _).trans (((cell_far (p := ⟨gb457, _, none⟩) NB460_457.out _).trans (((cell_far (p := ⟨gb457, _, none⟩) NB460_457.out _).trans (hHeld.2.2.2.1)))))), ((cell_far (p := ⟨gb457, _, none⟩) NB460_457.out _).trans (((cell_far (p := ⟨gb457, _, none⟩) NB460_457.out _).trans (((cell_far (p := ⟨gb457, _, none⟩) NB460_457.out _).trans (hHeld.2.2.2.2.1)))))), ((cell_far (p := ⟨gb457, _, none⟩) NB460_457.out _).trans (((cell_far (p := ⟨gb457, _, none⟩) NB460_457.out _).trans (((cell_far (p := ⟨gb457, _, none⟩) NB460_457.out _).trans (hHeld.2.2.2.2.2))))))⟩ (fun hHeld => ?_)
 clear hK K
 refine one_ (i := 3) (N := none) #[true, true, true, true] rfl rfl (by kernel_rfl) (by decide) (fun K hK => ?_)
 have hs89 : w85.cell? ⟨gb458, 0, none⟩ = some (.bool false) := bc BK458 0
 have hfs89 := blk_frozen BK458.out 0
 have hns89_0 := NB456_458.out
 have hns89_1 := NB457_458.out
 have hns89_3 := NB459_458.out
 have hns89_4 := NB460_458.out
 have hms89_0 := NB458_456.out
 have hms89_1 := NB458_457.out
 have hms89_3 := NB458_459.out
 have hms89_4 := NB458_460.out
 have hs90 : w85.cell? ⟨gb458, 1, none⟩ = some (.slice none 0 0) := bc BK458 1
 have hfs90 := blk_frozen BK458.out 1
 have hns90_0 := NB456_458.out
 have hns90_1 := NB457_458.out
 have hns90_3 := NB459_458.out
 have hns90_4 := NB460_458.out
 have hms90_0 := NB458_456.out
 have hms90_1 := NB458_457.out
 have hms90_3 := NB458_459.out
 have hms90_4 := NB458_460.out
 have hs91 : w85.cell? ⟨gb458, 2, none⟩ = some (.slice none 0 0) := bc BK458 2
 have hfs91 := blk_frozen BK458.out 2
 have hns91_0 := NB456_458.out
 have hns91_1 := NB457_458.out
 have hns91_3 := NB459_458.out
 have hns91_4 := NB460_458.out
 have hms91_0 := NB458_456.out
 have hms91_1 := NB458_457.out
 have hms91_3 := NB458_459.out
 have hms91_4 := NB458_460.out
 refine skip_ (w1 := ?_) (by rfl) rfl ?_ ?_
 rotate_left
 ·go_simp
  rfl
 refine hK.out _ _ ⟨((cell_far (p := ⟨gb458, _, none⟩) NB459_458.out _).trans (((cell_far (p := ⟨gb458, _, none⟩) NB459_458.out _).trans (((cell_far (p := ⟨gb458, _, none⟩) NB459_458.out _).trans (hHeld.1)))))), ((cell_far (p := ⟨gb458, _, none⟩) NB459_458.out _).trans (((cell_far (p := ⟨gb458, _, none⟩) NB459_458.out _).trans (((cell_far (p := ⟨gb458, _, none⟩) NB459_458.out _).trans (hHeld.2.1)))))), ((cell_far (p := ⟨gb458, _, none⟩) NB459_458.out _).trans (((cell_far (p := ⟨gb458, _, none⟩) NB459_458.out _).trans (((cell_far (p := ⟨gb458, _, none⟩) NB459_458.out _).trans (hHeld.2.2.1)))))), ((cell_far (p := ⟨gb458, _, none⟩) NB460_458.out _).trans (((cell_far (p := ⟨gb458, _, none⟩) NB460_458.out _).trans (((cell_far (p := ⟨gb458, _, none⟩) NB460_458.out _).trans (hHeld.2.2.2.1)))))), ((cell_far (p := ⟨gb458, _, none⟩) NB460_458.out _).trans (((cell_far (p := ⟨gb458, _, none⟩) NB460_458.out _).trans (((cell_far (p := ⟨gb458, _, none⟩) NB460_458.out _).trans (hHeld.2.2.2.2.1)))))), ((cell_far (p := ⟨gb458, _, none⟩) NB460_458.out _).trans (((cell_far (p := ⟨gb458, _, none⟩) NB460_458.out _).trans (((cell_far (p := ⟨gb458, _, none⟩) NB460_458.out _).trans (hHeld.2.2.2.2.2))))))⟩ (fun hHeld => ?_)
 clear hK K
 refine done_ (by kernel_rfl) ?_
 try go_wp2
 refine bodyPost_ret (results_cc rfl _ _ gb457 gb458 25 25 #[.bool false, .slice none 0 0, .slice Ao76 y479.length co76] #[.bool false, .slice none 0 0, .slice Ao82 y486.length co82] (0, 0) (0, 0) _ _ rfl (by (with_reducible repeat (first | refine blk_drewN ?_ _ | refine blk_drew ?_ | refine blk_alloc ?_ _)); refine blk_far ?_ NB457_458.out _; (with_reducible repeat (first | refine blk_drewN ?_ _ | refine blk_drew ?_ | refine blk_alloc ?_ _)); refine blk_far ?_ NB457_458.out _; (with_reducible repeat (first | refine blk_drewN ?_ _ | refine blk_drew ?_ | refine blk_alloc ?_ _)); refine blk_far ?_ NB457_458.out _; (with_reducible repeat (first | refine blk_drewN ?_ _ | refine blk_drew ?_ | refine blk_alloc ?_ _)); refine blk_put (cs := #[.bool false, .slice none 0 0, .slice none 0 0]) ?_ 2 _ rfl; (with_reducible repeat (first | refine blk_drewN ?_ _ | refine blk_drew ?_ | refine blk_alloc ?_ _)); refine blk_put (cs := #[.bool false, .slice none 0 0, .slice none 0 0]) ?_ 1 _ rfl; (with_reducible repeat (first | refine blk_drewN ?_ _ | refine blk_drew ?_ | refine blk_alloc ?_ _)); refine blk_put (cs := #[.bool false, .slice none 0 0, .slice none 0 0]) ?_ 0 _ rfl; exact kb BK457) Try.underlying25 rfl (by kernel_rfl) rfl (by (with_reducible repeat (first | refine blk_drewN ?_ _ | refine blk_drew ?_ | refine blk_alloc ?_ _)); refine blk_put (cs := #[.bool false, .slice none 0 0, .slice none 0 0]) ?_ 2 _ rfl; (with_reducible repeat (first | refine blk_drewN ?_ _ | refine blk_drew ?_ | refine blk_alloc ?_ _)); refine blk_put (cs := #[.bool false, .slice none 0 0, .slice none 0 0]) ?_ 1 _ rfl; (with_reducible repeat (first | refine blk_drewN ?_ _ | refine blk_drew ?_ | refine blk_alloc ?_ _)); refine blk_put (cs := #[.bool false, .slice none 0 0, .slice none 0 0]) ?_ 0 _ rfl; exact kf NB458_457 BK458) Try.underlying25 rfl (by kernel_rfl)) rfl ?_
 exact ⟨_, _, _, _, by first | rfl | (simp [errW_none, errW_some] <;> rfl) | (simp [*, errW_none, errW_some] <;> rfl), by first | exact Kd.R_nil _ _ _ _ _ | exact Kd.N_nil _ _ _ _ _ | exact Kd.V_nil _ _ _ _ _ | exact Kd.Q_nil _ _ _ _ _ | exact Kd.S_nil _ _ _ _ _, by exact Kd.R_mono (Kd.R_far (Kd.R_far (Kd.R_far (Kd.R_far (Kd.R_far (Kd.R_far (Kd.R_types (Kd.R_types HO481.out BK457.out (by decide)) BK458.out (by decide)) (fun _ hk => hk.1.2) _) (fun _ hk => hk.1.2) _) (fun _ hk => hk.1.2) _) (fun _ hk => hk.2) _) (fun _ hk => hk.2) _) (fun _ hk => hk.2) _) (fun _ hk => hk.1.1), by first | exact Kd.R_nil _ _ _ _ _ | exact Kd.N_nil _ _ _ _ _ | exact Kd.V_nil _ _ _ _ _ | exact Kd.Q_nil _ _ _ _ _ | exact Kd.S_nil _ _ _ _ _, by exact Kd.R_mono (Kd.R_far (Kd.R_far (Kd.R_far (Kd.R_far (Kd.R_far (Kd.R_far (Kd.R_types (Kd.R_types HO488.out BK457.out (by decide)) BK458.out (by decide)) (fun _ hk => hk.1.2) _) (fun _ hk => hk.1.2) _) (fun _ hk => hk.1.2) _) (fun _ hk => hk.2) _) (fun _ hk => hk.2) _) (fun _ hk => hk.2) _) (fun _ hk => hk.1.1), kl HB⟩
end Go.Proofs.Ytfbaejhjppikpaa.P
