import Derived.Test.YtfbaejhjppikpaaKLeafTells0
import Derived.Test.YtfbaejhjppikpaaKLeafTells2
import Derived.Test.YtfbaejhjppikpaaKLeafTells3
namespace Go.Proofs.Ytfbaejhjppikpaa.P
open Go.RowKit Go.Proofs.YtfbaejhjppikpaaW.PrintWords Go.Proofs.YtfbaejhjppikpaaW.PrintLast Go.Proofs.YtfbaejhjppikpaaW.PrintMore
attribute [local go_sem] max2_int min2_int max_two min_two max_three min_three max_four min_four
set_option linter.unusedVariables false
set_option linter.unusedSimpArgs false
mutual
def rf_Split.j0 : Nat → Int → Bool → Bool → List S75 → List S76 → Option (Bool × (List S75) × (List S76) × Bool × (List S75) × (List S76) × Int)
 | 0, _, _, _, _, _ => none
 | k + 1, x5, x27, x490000, x490001, x490002 => if x27 = true then (some (false, ([] : List S75), ([] : List S76), false, ([] : List S75), ([] : List S76), 4)) else (rf_Split.l0 k x5 0 0 1 x490000 x490001 x490002)
def rf_Split.l0 : Nat → Int → Int → Int → Int → Bool → List S75 → List S76 → Option (Bool × (List S75) × (List S76) × Bool × (List S75) × (List S76) × Int)
 | 0, _, _, _, _, _, _, _ => none
 | k + 1, x5, x6, x7, x8, x490000, x490001, x490002 => if x8 < x5 then ((rf_cut.f x490000 x490001 x490002 x8).bind fun bt509 => ((rf_Size.f k bt509.1 bt509.2.1 bt509.2.2.1).bind fun t525 => ((rf_Size.f k bt509.2.2.2.1 bt509.2.2.2.2.1 bt509.2.2.2.2.2).bind fun t526 => (if x6 = 0 then (rf_Split.l0 k x5 x8 (mx t525 t526) (wrap64 (x8 + 1)) x490000 x490001 x490002) else (if (mx t525 t526) < x7 then (rf_Split.l0 k x5 x8 (mx t525 t526) (wrap64 (x8 + 1)) x490000 x490001 x490002) else (rf_Split.l0 k x5 x6 x7 (wrap64 (x8 + 1)) x490000 x490001 x490002)))))) else ((rf_cut.f x490000 x490001 x490002 x6).bind fun bt493 => (some (bt493.1, bt493.2.1, bt493.2.2.1, bt493.2.2.2.1, bt493.2.2.2.2.1, bt493.2.2.2.2.2, 0)))
end
def rf_Split.f (k : Nat) (a0_0 : Bool) (l0_1 : List S75) (l0_2 : List S76) : Option (Bool × (List S75) × (List S76) × Bool × (List S75) × (List S76) × Int) := (rf_May.f k a0_0 l0_1 l0_2).bind fun t492 => (if t492 = true then (rf_Split.j0 k (wrap64 ((l0_1.length : Int) + (l0_2.length : Int))) (decide ((wrap64 ((l0_1.length : Int) + (l0_2.length : Int))) < 2)) a0_0 l0_1 l0_2) else (rf_Split.j0 k (wrap64 ((l0_1.length : Int) + (l0_2.length : Int))) true a0_0 l0_1 l0_2))
set_option maxHeartbeats 8000000 in
set_option maxRecDepth 100000 in
theorem rf_Split.calls (k : Nat) (a0_0 : Bool) (A0_1 : Option Addr) (c0_1 : Nat) (l0_1 : List S75) (A0_2 : Option Addr) (c0_2 : Nat) (l0_2 : List S76) (r1 : Bool) (r2 : List S75) (r3 : List S76) (r4 : Bool) (r5 : List S75) (r6 : List S76) (r7 : Int) (w : World) (hr0_1 : Kd.C k75 w A0_1 l0_1.length l0_1) (hc0_1 : l0_1.length ≤ c0_1) (hr0_2 : Kd.C k76 w A0_2 l0_2.length l0_2) (hc0_2 : l0_2.length ≤ c0_2) (h : rf_Split.f k a0_0 l0_1 l0_2 = some (r1, r2, r3, r4, r5, r6, r7)) :
  Calls Try.prog 27 #[.agg #[.bool a0_0, .slice A0_1 l0_1.length c0_1, .slice A0_2 l0_2.length c0_2]] w fun e w' => ∃ v1_ v2_ v4_ v5_ : Value, e = .returned (.tuple #[.agg #[.bool r1, v1_, v2_], .agg #[.bool r4, v4_, v5_], .int .i64 r7]) ∧ Kd.R k75 75 w' w.heap.size (fun k_ => some k_ ≠ (v4_ : Value).ownBlock) v1_ r2 ∧ Kd.R k76 76 w' w.heap.size (fun k_ => some k_ ≠ (v5_ : Value).ownBlock) v2_ r3 ∧ Kd.R k75 75 w' w.heap.size (fun k_ => some k_ ≠ (v1_ : Value).ownBlock) v4_ r5 ∧ Kd.R k76 76 w' w.heap.size (fun k_ => some k_ ≠ (v2_ : Value).ownBlock) v5_ r6 ∧ Below w.heap.size w w' := by
 have hu25 := Try.underlying25
 have HR0_1 := aM hr0_1
 have HC0_1 := aM hc0_1
 clear hr0_1 hc0_1
 have HR0_2 := aM hr0_2
 have HC0_2 := aM hc0_2
 clear hr0_2 hc0_2
 have HB := aM (Below.refl w.heap.size w)
 have H : ((rf_May.f k a0_0 l0_1 l0_2).bind fun t492 => (if t492 = true then (rf_Split.j0 k (wrap64 ((l0_1.length : Int) + (l0_2.length : Int))) (decide ((wrap64 ((l0_1.length : Int) + (l0_2.length : Int))) < 2)) a0_0 l0_1 l0_2) else (rf_Split.j0 k (wrap64 ((l0_1.length : Int) + (l0_2.length : Int))) true a0_0 l0_1 l0_2))) = some (r1, r2, r3, r4, r5, r6, r7) := h
 clear h
 have HC2 := aM H
 clear H
 go_enter Try.func27, Try.ntmps27
 go_upto_region 2 with (first | ((with_reducible refine gate_dst (N := 1) rfl ?_); refine box_event ?hg (N := 1) ?hd (cs := #[.bool a0_0, .slice A0_1 l0_1.length c0_1, .slice A0_2 l0_2.length c0_2]) (t := 25) ?hr ?_; (case hd => rfl); (case hg => rfl); (case hr => first | (go_simp; done) | (go_simp; rfl)); intro gb489 hg w3 hbox hb; have BK489 := aM (hbox); have GE489 := gw hg HB; replace HB := aM (below_step (kl HB) hb); clear hb hbox hg) | ((with_reducible refine gate_dst (N := 2) rfl ?_); refine box_event ?hg (N := 2) ?hd (cs := #[.bool false, .slice none 0 0, .slice none 0 0]) (t := 25) ?hr ?_; (case hd => rfl); (case hg => rfl); (case hr => first | (go_simp; done) | (go_simp; rfl)); intro gb490 hg w4 hbox hb; have BK490 := aM (hbox); have GE490 := gw hg HB; replace HB := aM (below_step (kl HB) hb); have NB489_490 := nl hg BK489; have NB490_489 := ng hg BK489; replace BK489 := bb BK489 hb; clear hb hbox hg) | ((with_reducible refine gate_dst (N := 3) rfl ?_); refine box_event ?hg (N := 3) ?hd (cs := #[.bool false, .slice none 0 0, .slice none 0 0]) (t := 25) ?hr ?_; (case hd => rfl); (case hg => rfl); (case hr => first | (go_simp; done) | (go_simp; rfl)); intro gb491 hg w5 hbox hb; have BK491 := aM (hbox); have GE491 := gw hg HB; replace HB := aM (below_step (kl HB) hb); have NB489_491 := nl hg BK489; have NB491_489 := ng hg BK489; replace BK489 := bb BK489 hb; have NB490_491 := nl hg BK490; have NB491_490 := ng hg BK490; replace BK490 := bb BK490 hb; clear hb hbox hg; have hnb6 := NB489_490.out; have hnc6 := NB490_489.out; have hnb7 := NB489_491.out; have hnc7 := NB491_489.out; have hcz8_0 : w5.cell? ⟨gb489, 0, none⟩ = some (.bool a0_0) := bc BK489 0; have hcz8_1 : w5.cell? ⟨gb489, 1, none⟩ = some (.slice A0_1 l0_1.length c0_1) := bc BK489 1; have hcz8_2 : w5.cell? ⟨gb489, 2, none⟩ = some (.slice A0_2 l0_2.length c0_2) := bc BK489 2; have hfz8_0 := blk_frozen BK489.out 0; have hfz8_1 := blk_frozen BK489.out 1; have hfz8_2 := blk_frozen BK489.out 2))
 (try simp only [Act.put, List.setIfInBounds_toArray, List.set_cons_zero, List.set_cons_succ])
 go_cut [27] (fun v27 wc => ∃ (kq : Nat) (x27_1 : Bool), v27 = .bool x27_1 ∧ Aside0 (rf_Split.j0 kq (wrap64 ((l0_1.length : Int) + (l0_2.length : Int))) x27_1 a0_0 l0_1 l0_2 = some (r1, r2, r3, r4, r5, r6, r7)) ∧ Aside0 (kq ≤ k) ∧ Aside0 (wc.heap[gb489]? = some (.cells #[.bool a0_0, (.slice A0_1 l0_1.length c0_1), (.slice A0_2 l0_2.length c0_2)] 25 (0, 0))) ∧ Aside0 (wc.heap[gb490]? = some (.cells #[.bool false, (.slice none 0 0), (.slice none 0 0)] 25 (0, 0))) ∧ Aside0 (wc.heap[gb491]? = some (.cells #[.bool false, (.slice none 0 0), (.slice none 0 0)] 25 (0, 0))) ∧ Aside0 (Below w.heap.size w wc))
 case first =>
  have H := HC2.out
  clear HC2
  replace H := Option.bind_eq_some_iff.mp H
  obtain ⟨t492, A90, H⟩ := H
  replace H : (if t492 = true then (rf_Split.j0 k (wrap64 ((l0_1.length : Int) + (l0_2.length : Int))) (decide ((wrap64 ((l0_1.length : Int) + (l0_2.length : Int))) < 2)) a0_0 l0_1 l0_2) else (rf_Split.j0 k (wrap64 ((l0_1.length : Int) + (l0_2.length : Int))) true a0_0 l0_1 l0_2)) = some (r1, r2, r3, r4, r5, r6, r7) := H
  have A9 := aM A90
  clear A90
  by_cases c10 : t492 = true
  ·subst c10
   have H1 : (rf_Split.j0 k (wrap64 ((l0_1.length : Int) + (l0_2.length : Int))) (decide ((wrap64 ((l0_1.length : Int) + (l0_2.length : Int))) < 2)) a0_0 l0_1 l0_2) = some (r1, r2, r3, r4, r5, r6, r7) := by rw [if_pos rfl] at H; exact H
   clear H
   have H := H1
   clear H1
   have H' := aM H
   clear H
   have hnb11 := NB489_490.out
   have hnc11 := NB490_489.out
   have hnb12 := NB489_491.out
   have hnc12 := NB491_489.out
   have hcz13_0 : w5.cell? ⟨gb489, 0, none⟩ = some (.bool a0_0) := bc BK489 0
   have hcz13_1 : w5.cell? ⟨gb489, 1, none⟩ = some (.slice A0_1 l0_1.length c0_1) := bc BK489 1
   have hcz13_2 : w5.cell? ⟨gb489, 2, none⟩ = some (.slice A0_2 l0_2.length c0_2) := bc BK489 2
   have hfz13_0 := blk_frozen BK489.out 0
   have hfz13_1 := blk_frozen BK489.out 1
   have hfz13_2 := blk_frozen BK489.out 2
   go_wp2_with (first | ((with_reducible refine gate_callee (f := 21) rfl ?_); refine goesL_ (some 22) rfl rfl Try.func21 (by kernel_rfl) rfl #[.agg #[.bool a0_0, .slice A0_1 l0_1.length c0_1, .slice A0_2 l0_2.length c0_2]] rfl (by (try simp only [List.map_toArray, List.map_cons, List.map_nil]); first | done | rfl | (simp only [List.length_drop, List.length_take]; rfl)) ?_; (with_reducible refine (rf_May.calls k a0_0 _ _ l0_1 _ _ l0_2 true _ ?side1 ?side2 ?side3 ?side4 A9.out).mono ?_); (case side1 => exact kc (Kd.C_below HR0_1.out HB.out)); (case side2 => exact HC0_1.out); (case side3 => exact kc (Kd.C_below HR0_2.out HB.out)); (case side4 => exact HC0_2.out); rintro e w14 ⟨rfl, hb⟩; refine ⟨_, rfl, ?_⟩; replace BK489 := bb BK489 hb; replace BK490 := bb BK490 hb; replace BK491 := bb BK491 hb; replace HB := aM (below_step (kl HB) hb); clear hb))
   go_meet
   case rel => exact ⟨_, (decide ((wrap64 ((l0_1.length : Int) + (l0_2.length : Int))) < 2)), (by first | rfl | (simp; done) | (simp [*]; done)), H', ⟨by first | omega | exact Nat.le_refl _⟩, ⟨kb BK489⟩, ⟨kb BK490⟩, ⟨kb BK491⟩, ⟨kl HB⟩⟩
  replace c10 := Bool.eq_false_iff.mpr c10
  subst c10
  have H1 : (rf_Split.j0 k (wrap64 ((l0_1.length : Int) + (l0_2.length : Int))) true a0_0 l0_1 l0_2) = some (r1, r2, r3, r4, r5, r6, r7) := by rw [if_neg (show ¬ (false = true) by decide)] at H; exact H
  clear H
  have H := H1
  clear H1
  have H' := aM H
  clear H
  have hnb15 := NB489_490.out
  have hnc15 := NB490_489.out
  have hnb16 := NB489_491.out
  have hnc16 := NB491_489.out
  have hcz17_0 : w5.cell? ⟨gb489, 0, none⟩ = some (.bool a0_0) := bc BK489 0
  have hcz17_1 : w5.cell? ⟨gb489, 1, none⟩ = some (.slice A0_1 l0_1.length c0_1) := bc BK489 1
  have hcz17_2 : w5.cell? ⟨gb489, 2, none⟩ = some (.slice A0_2 l0_2.length c0_2) := bc BK489 2
  have hfz17_0 := blk_frozen BK489.out 0
  have hfz17_1 := blk_frozen BK489.out 1
  have hfz17_2 := blk_frozen BK489.out 2
  go_wp2_with (first | ((with_reducible refine gate_callee (f := 21) rfl ?_); refine goesL_ (some 22) rfl rfl Try.func21 (by kernel_rfl) rfl #[.agg #[.bool a0_0, .slice A0_1 l0_1.length c0_1, .slice A0_2 l0_2.length c0_2]] rfl (by (try simp only [List.map_toArray, List.map_cons, List.map_nil]); first | done | rfl | (simp only [List.length_drop, List.length_take]; rfl)) ?_; (with_reducible refine (rf_May.calls k a0_0 _ _ l0_1 _ _ l0_2 false _ ?side1 ?side2 ?side3 ?side4 A9.out).mono ?_); (case side1 => exact kc (Kd.C_below HR0_1.out HB.out)); (case side2 => exact HC0_1.out); (case side3 => exact kc (Kd.C_below HR0_2.out HB.out)); (case side4 => exact HC0_2.out); rintro e w18 ⟨rfl, hb⟩; refine ⟨_, rfl, ?_⟩; replace BK489 := bb BK489 hb; replace BK490 := bb BK490 hb; replace BK491 := bb BK491 hb; replace HB := aM (below_step (kl HB) hb); clear hb))
  go_meet
  case rel => exact ⟨_, (true), (by first | rfl | (simp; done) | (simp [*]; done)), H', ⟨by first | omega | exact Nat.le_refl _⟩, ⟨kb BK489⟩, ⟨kb BK490⟩, ⟨kb BK491⟩, ⟨kl HB⟩⟩
 case rest =>
  clear HC2
  try clear c1
  try clear c2
  try clear p2
  try clear c6
  try clear p6
  try clear c7
  try clear c10
  try clear c11
  try clear c12
  try clear c15
  try clear c16
  try clear hcz13_0
  try clear hcz13_1
  try clear hcz13_2
  try clear hcz17_0
  try clear hcz17_1
  try clear hcz17_2
  try clear hcz8_0
  try clear hcz8_1
  try clear hcz8_2
  try clear hfz13_0
  try clear hfz13_1
  try clear hfz13_2
  try clear hfz17_0
  try clear hfz17_1
  try clear hfz17_2
  try clear hfz8_0
  try clear hfz8_1
  try clear hfz8_2
  obtain ⟨kq, x27_1, rfl, HA, HJ1, BK489, BK490, BK491, HB⟩ := hcut
  cases kq with
  | zero => exact absurd HA.out (by simp [rf_Split.j0])
  | succ kj1 =>
   have H := HA.out
   clear HA
   simp only [rf_Split.j0] at H
   by_cases c19 : x27_1 = true
   ·subst c19
    have H1 : (some (false, ([] : List S75), ([] : List S76), false, ([] : List S75), ([] : List S76), 4)) = some (r1, r2, r3, r4, r5, r6, r7) := by rw [if_pos rfl] at H; exact H
    clear H
    have H := H1
    clear H1
    simp only [Option.some.injEq, Prod.mk.injEq] at H
    obtain ⟨rfl, rfl, rfl, rfl, rfl, rfl, rfl⟩ := H
    have hnb20 := NB490_489.out
    have hnc20 := NB489_490.out
    have hnb21 := NB490_491.out
    have hnc21 := NB491_490.out
    have hcz22_0 : wc.cell? ⟨gb490, 0, none⟩ = some (.bool false) := bc BK490 0
    have hcz22_1 : wc.cell? ⟨gb490, 1, none⟩ = some (.slice none 0 0) := bc BK490 1
    have hcz22_2 : wc.cell? ⟨gb490, 2, none⟩ = some (.slice none 0 0) := bc BK490 2
    have hfz22_0 := blk_frozen BK490.out 0
    have hfz22_1 := blk_frozen BK490.out 1
    have hfz22_2 := blk_frozen BK490.out 2
    have hnb23 := NB491_489.out
    have hnc23 := NB489_491.out
    have hcz24_0 : wc.cell? ⟨gb491, 0, none⟩ = some (.bool false) := bc BK491 0
    have hcz24_1 : wc.cell? ⟨gb491, 1, none⟩ = some (.slice none 0 0) := bc BK491 1
    have hcz24_2 : wc.cell? ⟨gb491, 2, none⟩ = some (.slice none 0 0) := bc BK491 2
    have hfz24_0 := blk_frozen BK491.out 0
    have hfz24_1 := blk_frozen BK491.out 1
    have hfz24_2 := blk_frozen BK491.out 2
    go_wp2
    refine bodyPost_ret (results_list (rs := [.cell 2 25, .cell 3 25, .tmp 4]) rfl (by simp) (.cell gb490 25 #[.bool false, .slice none 0 0, .slice none 0 0] (0, 0) _ rfl (by (with_reducible repeat (first | refine blk_drewN ?_ _ | refine blk_drew ?_ | refine blk_alloc ?_ _)); refine blk_far ?_ NB490_491.out _; (with_reducible repeat (first | refine blk_drewN ?_ _ | refine blk_drew ?_ | refine blk_alloc ?_ _)); refine blk_far ?_ NB490_491.out _; (with_reducible repeat (first | refine blk_drewN ?_ _ | refine blk_drew ?_ | refine blk_alloc ?_ _)); refine blk_far ?_ NB490_491.out _; (with_reducible repeat (first | refine blk_drewN ?_ _ | refine blk_drew ?_ | refine blk_alloc ?_ _)); refine blk_put (cs := #[.bool false, .slice none 0 0, .slice none 0 0]) ?_ 2 _ rfl; (with_reducible repeat (first | refine blk_drewN ?_ _ | refine blk_drew ?_ | refine blk_alloc ?_ _)); refine blk_put (cs := #[.bool false, .slice none 0 0, .slice none 0 0]) ?_ 1 _ rfl; (with_reducible repeat (first | refine blk_drewN ?_ _ | refine blk_drew ?_ | refine blk_alloc ?_ _)); refine blk_put (cs := #[.bool false, .slice none 0 0, .slice none 0 0]) ?_ 0 _ rfl; exact kb BK490) Try.underlying25 rfl (by kernel_rfl) (.cell gb491 25 #[.bool false, .slice none 0 0, .slice none 0 0] (0, 0) _ rfl (by (with_reducible repeat (first | refine blk_drewN ?_ _ | refine blk_drew ?_ | refine blk_alloc ?_ _)); refine blk_put (cs := #[.bool false, .slice none 0 0, .slice none 0 0]) ?_ 2 _ rfl; (with_reducible repeat (first | refine blk_drewN ?_ _ | refine blk_drew ?_ | refine blk_alloc ?_ _)); refine blk_put (cs := #[.bool false, .slice none 0 0, .slice none 0 0]) ?_ 1 _ rfl; (with_reducible repeat (first | refine blk_drewN ?_ _ | refine blk_drew ?_ | refine blk_alloc ?_ _)); refine blk_put (cs := #[.bool false, .slice none 0 0, .slice none 0 0]) ?_ 0 _ rfl; exact kf NB491_490 BK491) Try.underlying25 rfl (by kernel_rfl) (.tmp .nil)))) rfl ?_
    exact ⟨_, _, _, _, by first | rfl | (simp [errW_none, errW_some] <;> rfl) | (simp [*, errW_none, errW_some] <;> rfl), by first | exact Kd.R_nil _ _ _ _ _ | exact Kd.N_nil _ _ _ _ _ | exact Kd.V_nil _ _ _ _ _ | exact Kd.Q_nil _ _ _ _ _ | exact Kd.S_nil _ _ _ _ _, by first | exact Kd.R_nil _ _ _ _ _ | exact Kd.N_nil _ _ _ _ _ | exact Kd.V_nil _ _ _ _ _ | exact Kd.Q_nil _ _ _ _ _ | exact Kd.S_nil _ _ _ _ _, by first | exact Kd.R_nil _ _ _ _ _ | exact Kd.N_nil _ _ _ _ _ | exact Kd.V_nil _ _ _ _ _ | exact Kd.Q_nil _ _ _ _ _ | exact Kd.S_nil _ _ _ _ _, by first | exact Kd.R_nil _ _ _ _ _ | exact Kd.N_nil _ _ _ _ _ | exact Kd.V_nil _ _ _ _ _ | exact Kd.Q_nil _ _ _ _ _ | exact Kd.S_nil _ _ _ _ _, kl HB⟩
   replace c19 := Bool.eq_false_iff.mpr c19
   subst c19
   have H1 : (rf_Split.l0 kj1 (wrap64 ((l0_1.length : Int) + (l0_2.length : Int))) 0 0 1 a0_0 l0_1 l0_2) = some (r1, r2, r3, r4, r5, r6, r7) := by rw [if_neg (show ¬ (false = true) by decide)] at H; exact H
   clear H
   have H := H1
   clear H1
   have H' := aM H
   clear H
   go_wp2
   go_loopg [6, 7, 8] kj1 (fun kq v6 v7 v8 w' => ∃ (x6_2 : Int) (x7_2 : Int) (x8_2 : Int), v6 = .int .i64 x6_2 ∧ v7 = .int .i64 x7_2 ∧ v8 = .int .i64 x8_2 ∧ Aside0 (rf_Split.l0 kq (wrap64 ((l0_1.length : Int) + (l0_2.length : Int))) x6_2 x7_2 x8_2 a0_0 l0_1 l0_2 = some (r1, r2, r3, r4, r5, r6, r7)) ∧ Aside0 (kq ≤ kj1) ∧ Aside0 (w'.heap[gb489]? = some (.cells #[.bool a0_0, (.slice A0_1 l0_1.length c0_1), (.slice A0_2 l0_2.length c0_2)] 25 (0, 0))) ∧ Aside0 (w'.heap[gb490]? = some (.cells #[.bool false, (.slice none 0 0), (.slice none 0 0)] 25 (0, 0))) ∧ Aside0 (w'.heap[gb491]? = some (.cells #[.bool false, (.slice none 0 0), (.slice none 0 0)] 25 (0, 0))) ∧ Aside0 (Below w.heap.size w w'))
   case atStart => exact ⟨(0), (0), (1), (by first | rfl | (simp; done) | (simp [*]; done)), (by first | rfl | (simp; done) | (simp [*]; done)), (by first | rfl | (simp; done) | (simp [*]; done)), H', ⟨Nat.le_refl _⟩, ⟨kb BK489⟩, ⟨kb BK490⟩, ⟨kb BK491⟩, ⟨kl HB⟩⟩
   case round =>
    clear H'
    try clear c1
    try clear c2
    try clear p2
    try clear c6
    try clear p6
    try clear c7
    try clear c10
    try clear c11
    try clear c12
    try clear c15
    try clear c16
    try clear c19
    try clear c20
    try clear c21
    try clear c23
    try clear hcz13_0
    try clear hcz13_1
    try clear hcz13_2
    try clear hcz17_0
    try clear hcz17_1
    try clear hcz17_2
    try clear hcz22_0
    try clear hcz22_1
    try clear hcz22_2
    try clear hcz24_0
    try clear hcz24_1
    try clear hcz24_2
    try clear hcz8_0
    try clear hcz8_1
    try clear hcz8_2
    try clear hfz13_0
    try clear hfz13_1
    try clear hfz13_2
    try clear hfz17_0
    try clear hfz17_1
    try clear hfz17_2
    try clear hfz22_0
    try clear hfz22_1
    try clear hfz22_2
    try clear hfz24_0
    try clear hfz24_1
    try clear hfz24_2
    try clear hfz8_0
    try clear hfz8_1
    try clear hfz8_2
    try clear p2
    try clear p6
    obtain ⟨x6_2, x7_2, x8_2, rfl, rfl, rfl, HA, HK2, BK489, BK490, BK491, HB⟩ := hrel
    cases gk with
    | zero => exact absurd HA.out (by simp [rf_Split.l0])
    | succ k2 =>
     have H := HA.out
     clear HA
     simp only [rf_Split.l0] at H
     by_cases c25 : x8_2 < (wrap64 ((l0_1.length : Int) + (l0_2.length : Int)))
     rotate_left
     ·rw [if_neg c25] at H
      have c25b0 : decide (x8_2 < (wrap64 ((l0_1.length : Int) + (l0_2.length : Int)))) = false := decide_eq_false c25
      clear c25
      replace H := Option.bind_eq_some_iff.mp H
      obtain ⟨⟨t493, t494, t497, t500, t501, t504⟩, A1010, H⟩ := H
      replace H : (some (t493, t494, t497, t500, t501, t504, 0)) = some (r1, r2, r3, r4, r5, r6, r7) := H
      have A101 := aM A1010
      clear A1010
      simp only [Option.some.injEq, Prod.mk.injEq] at H
      obtain ⟨rfl, rfl, rfl, rfl, rfl, rfl, rfl⟩ := H
      have hnb102 := NB489_490.out
      have hnc102 := NB490_489.out
      have hnb103 := NB489_491.out
      have hnc103 := NB491_489.out
      have hcz104_0 : wr.cell? ⟨gb489, 0, none⟩ = some (.bool a0_0) := bc BK489 0
      have hcz104_1 : wr.cell? ⟨gb489, 1, none⟩ = some (.slice A0_1 l0_1.length c0_1) := bc BK489 1
      have hcz104_2 : wr.cell? ⟨gb489, 2, none⟩ = some (.slice A0_2 l0_2.length c0_2) := bc BK489 2
      have hfz104_0 := blk_frozen BK489.out 0
      have hfz104_1 := blk_frozen BK489.out 1
      have hfz104_2 := blk_frozen BK489.out 2
      try go_wp2_with (first | ((with_reducible refine gate_callee (f := 50) rfl ?_); refine goesL_ (some 58) rfl rfl Try.func50 (by kernel_rfl) rfl #[.agg #[.bool a0_0, .slice A0_1 l0_1.length c0_1, .slice A0_2 l0_2.length c0_2], .int .i64 x6_2] rfl (by (try simp only [List.map_toArray, List.map_cons, List.map_nil]); first | done | rfl | (simp only [List.length_drop, List.length_take]; rfl)) ?_; (with_reducible refine (rf_cut.calls a0_0 _ _ l0_1 _ _ l0_2 x6_2 t493 t494 t497 t500 t501 t504 _ ?side1 ?side2 ?side3 ?side4 A101.out).mono ?_); (case side1 => exact kc (Kd.C_below HR0_1.out HB.out)); (case side2 => exact HC0_1.out); (case side3 => exact kc (Kd.C_below HR0_2.out HB.out)); (case side4 => exact HC0_2.out); rintro e w105 ⟨v495, v498, v502, v505, rfl, ho0, ho1, ho2, ho3, hb⟩; refine ⟨_, rfl, ?_⟩; have HO496 := aM (Kd.R_lower ho0 (below_size (kl HB))); have HO499 := aM (Kd.R_lower ho1 (below_size (kl HB))); have HO503 := aM (Kd.R_lower ho2 (below_size (kl HB))); have HO506 := aM (Kd.R_lower ho3 (below_size (kl HB))); replace BK489 := bb BK489 hb; replace BK490 := bb BK490 hb; replace BK491 := bb BK491 hb; replace HB := aM (below_step (kl HB) hb); clear hb ho0 ho1 ho2 ho3) | ((with_reducible refine gate_dst (N := 12) rfl ?_); refine box_event ?hg (N := 12) ?hd (cs := #[.bool false, .slice none 0 0, .slice none 0 0]) (t := 25) ?hr ?_; (case hd => rfl); (case hg => rfl); (case hr => first | (go_simp; done) | (go_simp; rfl)); intro gb507 hg w106 hbox hb; replace HO496 := rb HO496 hb; replace HO499 := rb HO499 hb; replace HO503 := rb HO503 hb; replace HO506 := rb HO506 hb; have BK507 := aM (hbox); have GE507 := gw hg HB; replace HB := aM (below_step (kl HB) hb); have NB489_507 := nl hg BK489; have NB507_489 := ng hg BK489; replace BK489 := bb BK489 hb; have NB490_507 := nl hg BK490; have NB507_490 := ng hg BK490; replace BK490 := bb BK490 hb; have NB491_507 := nl hg BK491; have NB507_491 := ng hg BK491; replace BK491 := bb BK491 hb; clear hb hbox hg) | ((with_reducible refine gate_dst (N := 13) rfl ?_); refine box_event ?hg (N := 13) ?hd (cs := #[.bool false, .slice none 0 0, .slice none 0 0]) (t := 25) ?hr ?_; (case hd => rfl); (case hg => rfl); (case hr => first | (go_simp; done) | (go_simp; rfl)); intro gb508 hg w107 hbox hb; replace HO496 := rb HO496 hb; replace HO499 := rb HO499 hb; replace HO503 := rb HO503 hb; replace HO506 := rb HO506 hb; have BK508 := aM (hbox); have GE508 := gw hg HB; replace HB := aM (below_step (kl HB) hb); have NB489_508 := nl hg BK489; have NB508_489 := ng hg BK489; replace BK489 := bb BK489 hb; have NB490_508 := nl hg BK490; have NB508_490 := ng hg BK490; replace BK490 := bb BK490 hb; have NB491_508 := nl hg BK491; have NB508_491 := ng hg BK491; replace BK491 := bb BK491 hb; have NB507_508 := nl hg BK507; have NB508_507 := ng hg BK507; replace BK507 := bb BK507 hb; clear hb hbox hg; have hnb108 := NB507_489.out; have hnc108 := NB489_507.out; have hnb109 := NB507_490.out; have hnc109 := NB490_507.out; have hnb110 := NB507_491.out; have hnc110 := NB491_507.out; have hnb111 := NB507_508.out; have hnc111 := NB508_507.out; have hcz112_0 : w107.cell? ⟨gb507, 0, none⟩ = some (.bool false) := bc BK507 0; have hcz112_1 : w107.cell? ⟨gb507, 1, none⟩ = some (.slice none 0 0) := bc BK507 1; have hcz112_2 : w107.cell? ⟨gb507, 2, none⟩ = some (.slice none 0 0) := bc BK507 2; have hfz112_0 := blk_frozen BK507.out 0; have hfz112_1 := blk_frozen BK507.out 1; have hfz112_2 := blk_frozen BK507.out 2; obtain ⟨Ao113, co113, eo113⟩ := Kd.R_slice HO496.out; subst eo113; obtain ⟨Ao114, co114, eo114⟩ := Kd.R_slice HO499.out; subst eo114; have hnb115 := NB508_489.out; have hnc115 := NB489_508.out; have hnb116 := NB508_490.out; have hnc116 := NB490_508.out; have hnb117 := NB508_491.out; have hnc117 := NB491_508.out; have hcz118_0 : w107.cell? ⟨gb508, 0, none⟩ = some (.bool false) := bc BK508 0; have hcz118_1 : w107.cell? ⟨gb508, 1, none⟩ = some (.slice none 0 0) := bc BK508 1; have hcz118_2 : w107.cell? ⟨gb508, 2, none⟩ = some (.slice none 0 0) := bc BK508 2; have hfz118_0 := blk_frozen BK508.out 0; have hfz118_1 := blk_frozen BK508.out 1; have hfz118_2 := blk_frozen BK508.out 2; obtain ⟨Ao119, co119, eo119⟩ := Kd.R_slice HO503.out; subst eo119; obtain ⟨Ao120, co120, eo120⟩ := Kd.R_slice HO506.out; subst eo120))
      have n0_ : Aside0 (Kd.R k75 75 ((((((w107.setCell ⟨gb507, 0, none⟩ (.bool t493)).setCell ⟨gb507, 1, none⟩ (.slice Ao113 t494.length co113)).setCell ⟨gb507, 2, none⟩ (.slice Ao114 t497.length co114)).setCell ⟨gb508, 0, none⟩ (.bool t500)).setCell ⟨gb508, 1, none⟩ (.slice Ao119 t501.length co119)).setCell ⟨gb508, 2, none⟩ (.slice Ao120 t504.length co120)) w.heap.size (fun k_ => some k_ ≠ (.slice Ao119 t501.length co119 : Value).ownBlock) (.slice Ao113 t494.length co113) t494) := ⟨by exact Kd.R_mono (Kd.R_far (Kd.R_far (Kd.R_far (Kd.R_far (Kd.R_far (Kd.R_far (Kd.R_types (Kd.R_types HO496.out BK507.out (by decide)) BK508.out (by decide)) (fun _ hk => hk.1.2) _) (fun _ hk => hk.1.2) _) (fun _ hk => hk.1.2) _) (fun _ hk => hk.2) _) (fun _ hk => hk.2) _) (fun _ hk => hk.2) _) (fun _ hk => hk.1.1)⟩
      have n1_ : Aside0 (Kd.R k76 76 ((((((w107.setCell ⟨gb507, 0, none⟩ (.bool t493)).setCell ⟨gb507, 1, none⟩ (.slice Ao113 t494.length co113)).setCell ⟨gb507, 2, none⟩ (.slice Ao114 t497.length co114)).setCell ⟨gb508, 0, none⟩ (.bool t500)).setCell ⟨gb508, 1, none⟩ (.slice Ao119 t501.length co119)).setCell ⟨gb508, 2, none⟩ (.slice Ao120 t504.length co120)) w.heap.size (fun k_ => some k_ ≠ (.slice Ao120 t504.length co120 : Value).ownBlock) (.slice Ao114 t497.length co114) t497) := ⟨by exact Kd.R_mono (Kd.R_far (Kd.R_far (Kd.R_far (Kd.R_far (Kd.R_far (Kd.R_far (Kd.R_types (Kd.R_types HO499.out BK507.out (by decide)) BK508.out (by decide)) (fun _ hk => hk.1.2) _) (fun _ hk => hk.1.2) _) (fun _ hk => hk.1.2) _) (fun _ hk => hk.2) _) (fun _ hk => hk.2) _) (fun _ hk => hk.2) _) (fun _ hk => hk.1.1)⟩
      have n2_ : Aside0 (Kd.R k75 75 ((((((w107.setCell ⟨gb507, 0, none⟩ (.bool t493)).setCell ⟨gb507, 1, none⟩ (.slice Ao113 t494.length co113)).setCell ⟨gb507, 2, none⟩ (.slice Ao114 t497.length co114)).setCell ⟨gb508, 0, none⟩ (.bool t500)).setCell ⟨gb508, 1, none⟩ (.slice Ao119 t501.length co119)).setCell ⟨gb508, 2, none⟩ (.slice Ao120 t504.length co120)) w.heap.size (fun k_ => some k_ ≠ (.slice Ao113 t494.length co113 : Value).ownBlock) (.slice Ao119 t501.length co119) t501) := ⟨by exact Kd.R_mono (Kd.R_far (Kd.R_far (Kd.R_far (Kd.R_far (Kd.R_far (Kd.R_far (Kd.R_types (Kd.R_types HO503.out BK507.out (by decide)) BK508.out (by decide)) (fun _ hk => hk.1.2) _) (fun _ hk => hk.1.2) _) (fun _ hk => hk.1.2) _) (fun _ hk => hk.2) _) (fun _ hk => hk.2) _) (fun _ hk => hk.2) _) (fun _ hk => hk.1.1)⟩
      have n3_ : Aside0 (Kd.R k76 76 ((((((w107.setCell ⟨gb507, 0, none⟩ (.bool t493)).setCell ⟨gb507, 1, none⟩ (.slice Ao113 t494.length co113)).setCell ⟨gb507, 2, none⟩ (.slice Ao114 t497.length co114)).setCell ⟨gb508, 0, none⟩ (.bool t500)).setCell ⟨gb508, 1, none⟩ (.slice Ao119 t501.length co119)).setCell ⟨gb508, 2, none⟩ (.slice Ao120 t504.length co120)) w.heap.size (fun k_ => some k_ ≠ (.slice Ao114 t497.length co114 : Value).ownBlock) (.slice Ao120 t504.length co120) t504) := ⟨by exact Kd.R_mono (Kd.R_far (Kd.R_far (Kd.R_far (Kd.R_far (Kd.R_far (Kd.R_far (Kd.R_types (Kd.R_types HO506.out BK507.out (by decide)) BK508.out (by decide)) (fun _ hk => hk.1.2) _) (fun _ hk => hk.1.2) _) (fun _ hk => hk.1.2) _) (fun _ hk => hk.2) _) (fun _ hk => hk.2) _) (fun _ hk => hk.2) _) (fun _ hk => hk.1.1)⟩
      have n4_ : Aside0 (((((((w107.setCell ⟨gb507, 0, none⟩ (.bool t493)).setCell ⟨gb507, 1, none⟩ (.slice Ao113 t494.length co113)).setCell ⟨gb507, 2, none⟩ (.slice Ao114 t497.length co114)).setCell ⟨gb508, 0, none⟩ (.bool t500)).setCell ⟨gb508, 1, none⟩ (.slice Ao119 t501.length co119)).setCell ⟨gb508, 2, none⟩ (.slice Ao120 t504.length co120)).heap[gb489]? = some (.cells #[.bool a0_0, .slice A0_1 l0_1.length c0_1, .slice A0_2 l0_2.length c0_2] 25 (0, 0))) := ⟨kg2 NB489_508 NB489_507 BK489⟩
      have n5_ : Aside0 (((((((w107.setCell ⟨gb507, 0, none⟩ (.bool t493)).setCell ⟨gb507, 1, none⟩ (.slice Ao113 t494.length co113)).setCell ⟨gb507, 2, none⟩ (.slice Ao114 t497.length co114)).setCell ⟨gb508, 0, none⟩ (.bool t500)).setCell ⟨gb508, 1, none⟩ (.slice Ao119 t501.length co119)).setCell ⟨gb508, 2, none⟩ (.slice Ao120 t504.length co120)).heap[gb490]? = some (.cells #[.bool false, .slice none 0 0, .slice none 0 0] 25 (0, 0))) := ⟨kg2 NB490_508 NB490_507 BK490⟩
      have n6_ : Aside0 (((((((w107.setCell ⟨gb507, 0, none⟩ (.bool t493)).setCell ⟨gb507, 1, none⟩ (.slice Ao113 t494.length co113)).setCell ⟨gb507, 2, none⟩ (.slice Ao114 t497.length co114)).setCell ⟨gb508, 0, none⟩ (.bool t500)).setCell ⟨gb508, 1, none⟩ (.slice Ao119 t501.length co119)).setCell ⟨gb508, 2, none⟩ (.slice Ao120 t504.length co120)).heap[gb491]? = some (.cells #[.bool false, .slice none 0 0, .slice none 0 0] 25 (0, 0))) := ⟨kg2 NB491_508 NB491_507 BK491⟩
      have n7_ : Aside0 (((((((w107.setCell ⟨gb507, 0, none⟩ (.bool t493)).setCell ⟨gb507, 1, none⟩ (.slice Ao113 t494.length co113)).setCell ⟨gb507, 2, none⟩ (.slice Ao114 t497.length co114)).setCell ⟨gb508, 0, none⟩ (.bool t500)).setCell ⟨gb508, 1, none⟩ (.slice Ao119 t501.length co119)).setCell ⟨gb508, 2, none⟩ (.slice Ao120 t504.length co120)).heap[gb507]? = some (.cells #[.bool t493, .slice Ao113 t494.length co113, .slice Ao114 t497.length co114] 25 (0, 0))) := ⟨by (with_reducible repeat (first | refine blk_drewN ?_ _ | refine blk_drew ?_ | refine blk_alloc ?_ _)); refine blk_far ?_ NB507_508.out _; (with_reducible repeat (first | refine blk_drewN ?_ _ | refine blk_drew ?_ | refine blk_alloc ?_ _)); refine blk_far ?_ NB507_508.out _; (with_reducible repeat (first | refine blk_drewN ?_ _ | refine blk_drew ?_ | refine blk_alloc ?_ _)); refine blk_far ?_ NB507_508.out _; (with_reducible repeat (first | refine blk_drewN ?_ _ | refine blk_drew ?_ | refine blk_alloc ?_ _)); refine blk_put (cs := #[.bool t493, .slice Ao113 t494.length co113, .slice none 0 0]) ?_ 2 _ rfl; (with_reducible repeat (first | refine blk_drewN ?_ _ | refine blk_drew ?_ | refine blk_alloc ?_ _)); refine blk_put (cs := #[.bool t493, .slice none 0 0, .slice none 0 0]) ?_ 1 _ rfl; (with_reducible repeat (first | refine blk_drewN ?_ _ | refine blk_drew ?_ | refine blk_alloc ?_ _)); refine blk_put (cs := #[.bool false, .slice none 0 0, .slice none 0 0]) ?_ 0 _ rfl; exact kb BK507⟩
      have n8_ : Aside0 (((((((w107.setCell ⟨gb507, 0, none⟩ (.bool t493)).setCell ⟨gb507, 1, none⟩ (.slice Ao113 t494.length co113)).setCell ⟨gb507, 2, none⟩ (.slice Ao114 t497.length co114)).setCell ⟨gb508, 0, none⟩ (.bool t500)).setCell ⟨gb508, 1, none⟩ (.slice Ao119 t501.length co119)).setCell ⟨gb508, 2, none⟩ (.slice Ao120 t504.length co120)).heap[gb508]? = some (.cells #[.bool t500, .slice Ao119 t501.length co119, .slice Ao120 t504.length co120] 25 (0, 0))) := ⟨by (with_reducible repeat (first | refine blk_drewN ?_ _ | refine blk_drew ?_ | refine blk_alloc ?_ _)); refine blk_put (cs := #[.bool t500, .slice Ao119 t501.length co119, .slice none 0 0]) ?_ 2 _ rfl; (with_reducible repeat (first | refine blk_drewN ?_ _ | refine blk_drew ?_ | refine blk_alloc ?_ _)); refine blk_put (cs := #[.bool t500, .slice none 0 0, .slice none 0 0]) ?_ 1 _ rfl; (with_reducible repeat (first | refine blk_drewN ?_ _ | refine blk_drew ?_ | refine blk_alloc ?_ _)); refine blk_put (cs := #[.bool false, .slice none 0 0, .slice none 0 0]) ?_ 0 _ rfl; exact kf NB508_507 BK508⟩
      have n9_ : Aside0 (Below w.heap.size w ((((((w107.setCell ⟨gb507, 0, none⟩ (.bool t493)).setCell ⟨gb507, 1, none⟩ (.slice Ao113 t494.length co113)).setCell ⟨gb507, 2, none⟩ (.slice Ao114 t497.length co114)).setCell ⟨gb508, 0, none⟩ (.bool t500)).setCell ⟨gb508, 1, none⟩ (.slice Ao119 t501.length co119)).setCell ⟨gb508, 2, none⟩ (.slice Ao120 t504.length co120))) := ⟨kl HB⟩
      (try clear HO496)
      (try clear HO499)
      (try clear HO503)
      (try clear HO506)
      (try clear BK489)
      (try clear BK490)
      (try clear BK491)
      (try clear BK507)
      (try clear BK508)
      (try clear HB)
      generalize ((((((w107.setCell ⟨gb507, 0, none⟩ (.bool t493)).setCell ⟨gb507, 1, none⟩ (.slice Ao113 t494.length co113)).setCell ⟨gb507, 2, none⟩ (.slice Ao114 t497.length co114)).setCell ⟨gb508, 0, none⟩ (.bool t500)).setCell ⟨gb508, 1, none⟩ (.slice Ao119 t501.length co119)).setCell ⟨gb508, 2, none⟩ (.slice Ao120 t504.length co120)) = w121 at n0_ n1_ n2_ n3_ n4_ n5_ n6_ n7_ n8_ n9_ ⊢
      have HO496 := n0_
      have HO499 := n1_
      have HO503 := n2_
      have HO506 := n3_
      have BK489 := n4_
      have BK490 := n5_
      have BK491 := n6_
      have BK507 := n7_
      have BK508 := n8_
      have HB := n9_
      clear n0_ n1_ n2_ n3_ n4_ n5_ n6_ n7_ n8_ n9_
      replace HO496 := aM (Kd.R_drew HO496.out)
      replace HO499 := aM (Kd.R_drew HO499.out)
      replace HO503 := aM (Kd.R_drew HO503.out)
      replace HO506 := aM (Kd.R_drew HO506.out)
      replace BK489 := aM (blk_drew BK489.out)
      replace BK490 := aM (blk_drew BK490.out)
      replace BK491 := aM (blk_drew BK491.out)
      replace BK507 := aM (blk_drew BK507.out)
      replace BK508 := aM (blk_drew BK508.out)
      replace HB := aM (below_drew1 HB.out)
      refine start_ (n := 5) (S := fun w' => w'.cell? ⟨gb507, 0, none⟩ = some (.bool t493) ∧ w'.cell? ⟨gb507, 1, none⟩ = some (.slice Ao113 t494.length co113) ∧ w'.cell? ⟨gb507, 2, none⟩ = some (.slice Ao114 t497.length co114) ∧ w'.cell? ⟨gb508, 0, none⟩ = some (.bool t500) ∧ w'.cell? ⟨gb508, 1, none⟩ = some (.slice Ao119 t501.length co119) ∧ w'.cell? ⟨gb508, 2, none⟩ = some (.slice Ao120 t504.length co120)) (ds := []) #[false, false, false, false, false] (by kernel_rfl) rfl rfl ⟨bc BK507 0, bc BK507 1, bc BK507 2, bc BK508 0, bc BK508 1, bc BK508 2⟩ (fun hHeld => ?_)
      generalize w121.drew = w122 at HO496 HO499 HO503 HO506 BK489 BK490 BK491 BK507 BK508 HB hHeld ⊢
      refine take_ (i := 0) (N := some 61) (v := ?_) (a' := ?_) #[true, false, false, false, false] rfl rfl (by kernel_rfl) (fun _ _ _ h => h) (Or.inl ⟨by rfl, ?_⟩) hHeld ?_ ?_
      rotate_left
      ·rintro w' ⟨s0, s1, s2, s3, s4, s5⟩
       go_simp
       with_reducible rfl
      rotate_left
      ·simp only [Act.put, List.setIfInBounds_toArray, List.set_cons_zero, List.set_cons_succ, i64_w, i32_w]
       rfl
      refine take_ (i := 1) (N := some 62) (v := ?_) (a' := ?_) #[true, true, false, false, false] rfl rfl (by kernel_rfl) (fun _ _ _ h => h) (Or.inl ⟨by rfl, ?_⟩) hHeld ?_ ?_
      rotate_left
      ·rintro w' ⟨s0, s1, s2, s3, s4, s5⟩
       go_simp
       with_reducible rfl
      rotate_left
      ·simp only [Act.put, List.setIfInBounds_toArray, List.set_cons_zero, List.set_cons_succ, i64_w, i32_w]
       rfl
      refine one_ (i := 2) (N := none) #[true, true, true, false, false] rfl rfl (by kernel_rfl) (by decide) (fun K hK => ?_)
      have hs123 : w122.cell? ⟨gb490, 0, none⟩ = some (.bool false) := bc BK490 0
      have hfs123 := blk_frozen BK490.out 0
      have hns123_0 := NB489_490.out
      have hns123_2 := NB491_490.out
      have hns123_3 := NB507_490.out
      have hns123_4 := NB508_490.out
      have hms123_0 := NB490_489.out
      have hms123_2 := NB490_491.out
      have hms123_3 := NB490_507.out
      have hms123_4 := NB490_508.out
      have hs124 : w122.cell? ⟨gb490, 1, none⟩ = some (.slice none 0 0) := bc BK490 1
      have hfs124 := blk_frozen BK490.out 1
      have hns124_0 := NB489_490.out
      have hns124_2 := NB491_490.out
      have hns124_3 := NB507_490.out
      have hns124_4 := NB508_490.out
      have hms124_0 := NB490_489.out
      have hms124_2 := NB490_491.out
      have hms124_3 := NB490_507.out
      have hms124_4 := NB490_508.out
      have hs125 : w122.cell? ⟨gb490, 2, none⟩ = some (.slice none 0 0) := bc BK490 2
      have hfs125 := blk_frozen BK490.out 2
      have hns125_0 := NB489_490.out
      have hns125_2 := NB491_490.out
      have hns125_3 := NB507_490.out
      have hns125_4 := NB508_490.out
      have hms125_0 := NB490_489.out
      have hms125_2 := NB490_491.out
      have hms125_3 := NB490_507.out
      have hms125_4 := NB490_508.out
      refine skip_ (w1 := ?_) (by rfl) rfl ?_ ?_
      rotate_left
      ·go_simp
       rfl
      refine hK.out _ _ ⟨((cell_far (p := ⟨gb490, _, none⟩) NB507_490.out _).trans (((cell_far (p := ⟨gb490, _, none⟩) NB507_490.out _).trans (((cell_far (p := ⟨gb490, _, none⟩) NB507_490.out _).trans (hHeld.1)))))), ((cell_far (p := ⟨gb490, _, none⟩) NB507_490.out _).trans (((cell_far (p := ⟨gb490, _, none⟩) NB507_490.out _).trans (((cell_far (p := ⟨gb490, _, none⟩) NB507_490.out _).trans (hHeld.2.1)))))), ((cell_far (p := ⟨gb490, _, none⟩) NB507_490.out _).trans (((cell_far (p := ⟨gb490, _, none⟩) NB507_490.out _).trans (((cell_far (p := ⟨gb490, _, none⟩) NB507_490.out _).trans (hHeld.2.2.1)))))), ((cell_far (p := ⟨gb490, _, none⟩) NB508_490.out _).trans (((cell_far (p := ⟨gb490, _, none⟩) NB508_490.out _).trans (((cell_far (p := ⟨gb490, _, none⟩) NB508_490.out _).trans (hHeld.2.2.2.1)))))), ((cell_far (p := ⟨gb490, _, none⟩) NB508_490.out _).trans (((cell_far (p := ⟨gb490, _, none⟩) NB508_490.out _).trans (((cell_far (p := ⟨gb490, _, none⟩) NB508_490.out _).trans (hHeld.2.2.2.2.1)))))), ((cell_far (p := ⟨gb490, _, none⟩) NB508_490.out _).trans (((cell_far (p := ⟨gb490, _, none⟩) NB508_490.out _).trans (((cell_far (p := ⟨gb490, _, none⟩) NB508_490.out _).trans (hHeld.2.2.2.2.2))))))⟩ (fun hHeld => ?_)
      clear hK K
      refine one_ (i := 3) (N := none) #[true, true, true, true, false] rfl rfl (by kernel_rfl) (by decide) (fun K hK => ?_)
      have hs126 : w122.cell? ⟨gb491, 0, none⟩ = some (.bool false) := bc BK491 0
      have hfs126 := blk_frozen BK491.out 0
      have hns126_0 := NB489_491.out
      have hns126_1 := NB490_491.out
      have hns126_3 := NB507_491.out
      have hns126_4 := NB508_491.out
      have hms126_0 := NB491_489.out
      have hms126_1 := NB491_490.out
      have hms126_3 := NB491_507.out
      have hms126_4 := NB491_508.out
      have hs127 : w122.cell? ⟨gb491, 1, none⟩ = some (.slice none 0 0) := bc BK491 1
      have hfs127 := blk_frozen BK491.out 1
      have hns127_0 := NB489_491.out
      have hns127_1 := NB490_491.out
      have hns127_3 := NB507_491.out
      have hns127_4 := NB508_491.out
      have hms127_0 := NB491_489.out
      have hms127_1 := NB491_490.out
      have hms127_3 := NB491_507.out
      have hms127_4 := NB491_508.out
      have hs128 : w122.cell? ⟨gb491, 2, none⟩ = some (.slice none 0 0) := bc BK491 2
      have hfs128 := blk_frozen BK491.out 2
      have hns128_0 := NB489_491.out
      have hns128_1 := NB490_491.out
      have hns128_3 := NB507_491.out
      have hns128_4 := NB508_491.out
      have hms128_0 := NB491_489.out
      have hms128_1 := NB491_490.out
      have hms128_3 := NB491_507.out
      have hms128_4 := NB491_508.out
      refine skip_ (w1 := ?_) (by rfl) rfl ?_ ?_
      rotate_left
      ·go_simp
       rfl
      refine hK.out _ _ ⟨((cell_far (p := ⟨gb491, _, none⟩) NB507_491.out _).trans (((cell_far (p := ⟨gb491, _, none⟩) NB507_491.out _).trans (((cell_far (p := ⟨gb491, _, none⟩) NB507_491.out _).trans (hHeld.1)))))), ((cell_far (p := ⟨gb491, _, none⟩) NB507_491.out _).trans (((cell_far (p := ⟨gb491, _, none⟩) NB507_491.out _).trans (((cell_far (p := ⟨gb491, _, none⟩) NB507_491.out _).trans (hHeld.2.1)))))), ((cell_far (p := ⟨gb491, _, none⟩) NB507_491.out _).trans (((cell_far (p := ⟨gb491, _, none⟩) NB507_491.out _).trans (((cell_far (p := ⟨gb491, _, none⟩) NB507_491.out _).trans (hHeld.2.2.1)))))), ((cell_far (p := ⟨gb491, _, none⟩) NB508_491.out _).trans (((cell_far (p := ⟨gb491, _, none⟩) NB508_491.out _).trans (((cell_far (p := ⟨gb491, _, none⟩) NB508_491.out _).trans (hHeld.2.2.2.1)))))), ((cell_far (p := ⟨gb491, _, none⟩) NB508_491.out _).trans (((cell_far (p := ⟨gb491, _, none⟩) NB508_491.out _).trans (((cell_far (p := ⟨gb491, _, none⟩) NB508_491.out _).trans (hHeld.2.2.2.2.1)))))), ((cell_far (p := ⟨gb491, _, none⟩) NB508_491.out _).trans (((cell_far (p := ⟨gb491, _, none⟩) NB508_491.out _).trans (((cell_far (p := ⟨gb491, _, none⟩) NB508_491.out _).trans (hHeld.2.2.2.2.2))))))⟩ (fun hHeld => ?_)
      clear hK K
      refine pure_ (i := 4) (N := some 4) (v := ?_) (a' := ?_) #[true, true, true, true, true] rfl rfl (by kernel_rfl) (fun _ _ _ h => h) (Or.inl ⟨by rfl, ?_⟩) ?_ ?_
      rotate_left
      ·intro w'
       go_simp
       with_reducible rfl
      rotate_left
      ·simp only [Act.put, List.setIfInBounds_toArray, List.set_cons_zero, List.set_cons_succ, i64_w, i32_w]
       rfl
      refine done_ (by kernel_rfl) ?_
      try go_wp2
      refine bodyPost_ret (results_list (rs := [.cell 2 25, .cell 3 25, .tmp 4]) rfl (by simp) (.cell gb490 25 #[.bool t493, .slice Ao113 t494.length co113, .slice Ao114 t497.length co114] (0, 0) _ rfl (by (with_reducible repeat (first | refine blk_drewN ?_ _ | refine blk_drew ?_ | refine blk_alloc ?_ _)); refine blk_far ?_ NB490_491.out _; (with_reducible repeat (first | refine blk_drewN ?_ _ | refine blk_drew ?_ | refine blk_alloc ?_ _)); refine blk_far ?_ NB490_491.out _; (with_reducible repeat (first | refine blk_drewN ?_ _ | refine blk_drew ?_ | refine blk_alloc ?_ _)); refine blk_far ?_ NB490_491.out _; (with_reducible repeat (first | refine blk_drewN ?_ _ | refine blk_drew ?_ | refine blk_alloc ?_ _)); refine blk_put (cs := #[.bool t493, .slice Ao113 t494.length co113, .slice none 0 0]) ?_ 2 _ rfl; (with_reducible repeat (first | refine blk_drewN ?_ _ | refine blk_drew ?_ | refine blk_alloc ?_ _)); refine blk_put (cs := #[.bool t493, .slice none 0 0, .slice none 0 0]) ?_ 1 _ rfl; (with_reducible repeat (first | refine blk_drewN ?_ _ | refine blk_drew ?_ | refine blk_alloc ?_ _)); refine blk_put (cs := #[.bool false, .slice none 0 0, .slice none 0 0]) ?_ 0 _ rfl; exact kb BK490) Try.underlying25 rfl (by kernel_rfl) (.cell gb491 25 #[.bool t500, .slice Ao119 t501.length co119, .slice Ao120 t504.length co120] (0, 0) _ rfl (by (with_reducible repeat (first | refine blk_drewN ?_ _ | refine blk_drew ?_ | refine blk_alloc ?_ _)); refine blk_put (cs := #[.bool t500, .slice Ao119 t501.length co119, .slice none 0 0]) ?_ 2 _ rfl; (with_reducible repeat (first | refine blk_drewN ?_ _ | refine blk_drew ?_ | refine blk_alloc ?_ _)); refine blk_put (cs := #[.bool t500, .slice none 0 0, .slice none 0 0]) ?_ 1 _ rfl; (with_reducible repeat (first | refine blk_drewN ?_ _ | refine blk_drew ?_ | refine blk_alloc ?_ _)); refine blk_put (cs := #[.bool false, .slice none 0 0, .slice none 0 0]) ?_ 0 _ rfl; exact kf NB491_490 BK491) Try.underlying25 rfl (by kernel_rfl) (.tmp .nil)))) rfl ?_
      exact ⟨_, _, _, _, by first | rfl | (simp [errW_none, errW_some] <;> rfl) | (simp [*, errW_none, errW_some] <;> rfl), by exact Kd.R_mono (Kd.R_far (Kd.R_far (Kd.R_far (Kd.R_far (Kd.R_far (Kd.R_far (Kd.R_types (Kd.R_types HO496.out BK490.out (by decide)) BK491.out (by decide)) (fun _ hk => hk.1.2) _) (fun _ hk => hk.1.2) _) (fun _ hk => hk.1.2) _) (fun _ hk => hk.2) _) (fun _ hk => hk.2) _) (fun _ hk => hk.2) _) (fun _ hk => hk.1.1), by exact Kd.R_mono (Kd.R_far (Kd.R_far (Kd.R_far (Kd.R_far (Kd.R_far (Kd.R_far (Kd.R_types (Kd.R_types HO499.out BK490.out (by decide)) BK491.out (by decide)) (fun _ hk => hk.1.2) _) (fun _ hk => hk.1.2) _) (fun _ hk => hk.1.2) _) (fun _ hk => hk.2) _) (fun _ hk => hk.2) _) (fun _ hk => hk.2) _) (fun _ hk => hk.1.1), by exact Kd.R_mono (Kd.R_far (Kd.R_far (Kd.R_far (Kd.R_far (Kd.R_far (Kd.R_far (Kd.R_types (Kd.R_types HO503.out BK490.out (by decide)) BK491.out (by decide)) (fun _ hk => hk.1.2) _) (fun _ hk => hk.1.2) _) (fun _ hk => hk.1.2) _) (fun _ hk => hk.2) _) (fun _ hk => hk.2) _) (fun _ hk => hk.2) _) (fun _ hk => hk.1.1), by exact Kd.R_mono (Kd.R_far (Kd.R_far (Kd.R_far (Kd.R_far (Kd.R_far (Kd.R_far (Kd.R_types (Kd.R_types HO506.out BK490.out (by decide)) BK491.out (by decide)) (fun _ hk => hk.1.2) _) (fun _ hk => hk.1.2) _) (fun _ hk => hk.1.2) _) (fun _ hk => hk.2) _) (fun _ hk => hk.2) _) (fun _ hk => hk.2) _) (fun _ hk => hk.1.1), kl HB⟩
     rw [if_pos c25] at H
     have c25b0 : decide (x8_2 < (wrap64 ((l0_1.length : Int) + (l0_2.length : Int)))) = true := decide_eq_true c25
     clear c25
     replace H := Option.bind_eq_some_iff.mp H
     obtain ⟨⟨t509, t510, t513, t516, t517, t520⟩, A260, H⟩ := H
     replace H : ((rf_Size.f k2 t509 t510 t513).bind fun t525 => ((rf_Size.f k2 t516 t517 t520).bind fun t526 => (if x6_2 = 0 then (rf_Split.l0 k2 (wrap64 ((l0_1.length : Int) + (l0_2.length : Int))) x8_2 (mx t525 t526) (wrap64 (x8_2 + 1)) a0_0 l0_1 l0_2) else (if (mx t525 t526) < x7_2 then (rf_Split.l0 k2 (wrap64 ((l0_1.length : Int) + (l0_2.length : Int))) x8_2 (mx t525 t526) (wrap64 (x8_2 + 1)) a0_0 l0_1 l0_2) else (rf_Split.l0 k2 (wrap64 ((l0_1.length : Int) + (l0_2.length : Int))) x6_2 x7_2 (wrap64 (x8_2 + 1)) a0_0 l0_1 l0_2))))) = some (r1, r2, r3, r4, r5, r6, r7) := H
     have A26 := aM A260
     clear A260
     replace H := Option.bind_eq_some_iff.mp H
     obtain ⟨t525, A270, H⟩ := H
     replace H : ((rf_Size.f k2 t516 t517 t520).bind fun t526 => (if x6_2 = 0 then (rf_Split.l0 k2 (wrap64 ((l0_1.length : Int) + (l0_2.length : Int))) x8_2 (mx t525 t526) (wrap64 (x8_2 + 1)) a0_0 l0_1 l0_2) else (if (mx t525 t526) < x7_2 then (rf_Split.l0 k2 (wrap64 ((l0_1.length : Int) + (l0_2.length : Int))) x8_2 (mx t525 t526) (wrap64 (x8_2 + 1)) a0_0 l0_1 l0_2) else (rf_Split.l0 k2 (wrap64 ((l0_1.length : Int) + (l0_2.length : Int))) x6_2 x7_2 (wrap64 (x8_2 + 1)) a0_0 l0_1 l0_2)))) = some (r1, r2, r3, r4, r5, r6, r7) := H
     have A27 := aM A270
     clear A270
     replace H := Option.bind_eq_some_iff.mp H
     obtain ⟨t526, A280, H⟩ := H
     replace H : (if x6_2 = 0 then (rf_Split.l0 k2 (wrap64 ((l0_1.length : Int) + (l0_2.length : Int))) x8_2 (mx t525 t526) (wrap64 (x8_2 + 1)) a0_0 l0_1 l0_2) else (if (mx t525 t526) < x7_2 then (rf_Split.l0 k2 (wrap64 ((l0_1.length : Int) + (l0_2.length : Int))) x8_2 (mx t525 t526) (wrap64 (x8_2 + 1)) a0_0 l0_1 l0_2) else (rf_Split.l0 k2 (wrap64 ((l0_1.length : Int) + (l0_2.length : Int))) x6_2 x7_2 (wrap64 (x8_2 + 1)) a0_0 l0_1 l0_2))) = some (r1, r2, r3, r4, r5, r6, r7) := H
     have A28 := aM A280
     clear A280
     obtain ⟨ji29, hji29⟩ : ∃ j_ : Int, (mx t525 t526) = j_ := ⟨_, rfl⟩
     replace H : (if x6_2 = 0 then (rf_Split.l0 k2 (wrap64 ((l0_1.length : Int) + (l0_2.length : Int))) x8_2 ji29 (wrap64 (x8_2 + 1)) a0_0 l0_1 l0_2) else (if (ji29) < x7_2 then (rf_Split.l0 k2 (wrap64 ((l0_1.length : Int) + (l0_2.length : Int))) x8_2 ji29 (wrap64 (x8_2 + 1)) a0_0 l0_1 l0_2) else (rf_Split.l0 k2 (wrap64 ((l0_1.length : Int) + (l0_2.length : Int))) x6_2 x7_2 (wrap64 (x8_2 + 1)) a0_0 l0_1 l0_2))) = some (r1, r2, r3, r4, r5, r6, r7) := by first | (rw [hji29] at H; exact H) | (simp only [hji29] at H ⊢; exact H)
     (try rw [hji29] at A26)
     (try rw [hji29] at A27)
     (try rw [hji29] at A28)
     have hji29_ : (if t525 < t526 then t526 else t525) = ji29 := hji29
     by_cases c30 : x6_2 = 0
     ·rw [if_pos c30] at H
      have c30b0 : (x6_2 == 0) = true := beq_iff_eq.mpr c30
      have c30b1 : (x6_2 != 0) = false := bne_eq_false_iff_eq.mpr c30
      clear c30
      have H' := aM H
      clear H
      have hnb31 := NB489_490.out
      have hnc31 := NB490_489.out
      have hnb32 := NB489_491.out
      have hnc32 := NB491_489.out
      have hcz33_0 : wr.cell? ⟨gb489, 0, none⟩ = some (.bool a0_0) := bc BK489 0
      have hcz33_1 : wr.cell? ⟨gb489, 1, none⟩ = some (.slice A0_1 l0_1.length c0_1) := bc BK489 1
      have hcz33_2 : wr.cell? ⟨gb489, 2, none⟩ = some (.slice A0_2 l0_2.length c0_2) := bc BK489 2
      have hfz33_0 := blk_frozen BK489.out 0
      have hfz33_1 := blk_frozen BK489.out 1
      have hfz33_2 := blk_frozen BK489.out 2
      try go_wp2_with (first | ((with_reducible refine gate_callee (f := 50) rfl ?_); refine goesL_ (some 38) rfl rfl Try.func50 (by kernel_rfl) rfl #[.agg #[.bool a0_0, .slice A0_1 l0_1.length c0_1, .slice A0_2 l0_2.length c0_2], .int .i64 x8_2] rfl (by (try simp only [List.map_toArray, List.map_cons, List.map_nil]); first | done | rfl | (simp only [List.length_drop, List.length_take]; rfl)) ?_; (with_reducible refine (rf_cut.calls a0_0 _ _ l0_1 _ _ l0_2 x8_2 t509 t510 t513 t516 t517 t520 _ ?side1 ?side2 ?side3 ?side4 A26.out).mono ?_); (case side1 => exact kc (Kd.C_below HR0_1.out HB.out)); (case side2 => exact HC0_1.out); (case side3 => exact kc (Kd.C_below HR0_2.out HB.out)); (case side4 => exact HC0_2.out); rintro e w34 ⟨v511, v514, v518, v521, rfl, ho0, ho1, ho2, ho3, hb⟩; refine ⟨_, rfl, ?_⟩; have HO512 := aM (Kd.R_lower ho0 (below_size (kl HB))); have HO515 := aM (Kd.R_lower ho1 (below_size (kl HB))); have HO519 := aM (Kd.R_lower ho2 (below_size (kl HB))); have HO522 := aM (Kd.R_lower ho3 (below_size (kl HB))); replace BK489 := bb BK489 hb; replace BK490 := bb BK490 hb; replace BK491 := bb BK491 hb; replace HB := aM (below_step (kl HB) hb); clear hb ho0 ho1 ho2 ho3) | ((with_reducible refine gate_dst (N := 9) rfl ?_); refine box_event ?hg (N := 9) ?hd (cs := #[.bool false, .slice none 0 0, .slice none 0 0]) (t := 25) ?hr ?_; (case hd => rfl); (case hg => rfl); (case hr => first | (go_simp; done) | (go_simp; rfl)); intro gb523 hg w35 hbox hb; replace HO512 := rb HO512 hb; replace HO515 := rb HO515 hb; replace HO519 := rb HO519 hb; replace HO522 := rb HO522 hb; have BK523 := aM (hbox); have GW523 := gw hg HB; have GE523 := gw hg HB; replace HB := aM (below_step (kl HB) hb); have NB489_523 := nl hg BK489; have NB523_489 := ng hg BK489; replace BK489 := bb BK489 hb; have NB490_523 := nl hg BK490; have NB523_490 := ng hg BK490; replace BK490 := bb BK490 hb; have NB491_523 := nl hg BK491; have NB523_491 := ng hg BK491; replace BK491 := bb BK491 hb; clear hb hbox hg) | ((with_reducible refine gate_dst (N := 10) rfl ?_); refine box_event ?hg (N := 10) ?hd (cs := #[.bool false, .slice none 0 0, .slice none 0 0]) (t := 25) ?hr ?_; (case hd => rfl); (case hg => rfl); (case hr => first | (go_simp; done) | (go_simp; rfl)); intro gb524 hg w36 hbox hb; replace HO512 := rb HO512 hb; replace HO515 := rb HO515 hb; replace HO519 := rb HO519 hb; replace HO522 := rb HO522 hb; have BK524 := aM (hbox); have GW524 := gw hg HB; have GE524 := gw hg HB; replace HB := aM (below_step (kl HB) hb); have NB489_524 := nl hg BK489; have NB524_489 := ng hg BK489; replace BK489 := bb BK489 hb; have NB490_524 := nl hg BK490; have NB524_490 := ng hg BK490; replace BK490 := bb BK490 hb; have NB491_524 := nl hg BK491; have NB524_491 := ng hg BK491; replace BK491 := bb BK491 hb; have NB523_524 := nl hg BK523; have NB524_523 := ng hg BK523; replace BK523 := bb BK523 hb; clear hb hbox hg; have hnb37 := NB523_489.out; have hnc37 := NB489_523.out; have hnb38 := NB523_490.out; have hnc38 := NB490_523.out; have hnb39 := NB523_491.out; have hnc39 := NB491_523.out; have hnb40 := NB523_524.out; have hnc40 := NB524_523.out; have hcz41_0 : w36.cell? ⟨gb523, 0, none⟩ = some (.bool false) := bc BK523 0; have hcz41_1 : w36.cell? ⟨gb523, 1, none⟩ = some (.slice none 0 0) := bc BK523 1; have hcz41_2 : w36.cell? ⟨gb523, 2, none⟩ = some (.slice none 0 0) := bc BK523 2; have hfz41_0 := blk_frozen BK523.out 0; have hfz41_1 := blk_frozen BK523.out 1; have hfz41_2 := blk_frozen BK523.out 2; obtain ⟨Ao42, co42, eo42⟩ := Kd.R_slice HO512.out; subst eo42; obtain ⟨Ao43, co43, eo43⟩ := Kd.R_slice HO515.out; subst eo43; have hnb44 := NB524_489.out; have hnc44 := NB489_524.out; have hnb45 := NB524_490.out; have hnc45 := NB490_524.out; have hnb46 := NB524_491.out; have hnc46 := NB491_524.out; have hcz47_0 : w36.cell? ⟨gb524, 0, none⟩ = some (.bool false) := bc BK524 0; have hcz47_1 : w36.cell? ⟨gb524, 1, none⟩ = some (.slice none 0 0) := bc BK524 1; have hcz47_2 : w36.cell? ⟨gb524, 2, none⟩ = some (.slice none 0 0) := bc BK524 2; have hfz47_0 := blk_frozen BK524.out 0; have hfz47_1 := blk_frozen BK524.out 1; have hfz47_2 := blk_frozen BK524.out 2; obtain ⟨Ao48, co48, eo48⟩ := Kd.R_slice HO519.out; subst eo48; obtain ⟨Ao49, co49, eo49⟩ := Kd.R_slice HO522.out; subst eo49))
      have n0_ : Aside0 (Kd.R k75 75 ((((((w36.setCell ⟨gb523, 0, none⟩ (.bool t509)).setCell ⟨gb523, 1, none⟩ (.slice Ao42 t510.length co42)).setCell ⟨gb523, 2, none⟩ (.slice Ao43 t513.length co43)).setCell ⟨gb524, 0, none⟩ (.bool t516)).setCell ⟨gb524, 1, none⟩ (.slice Ao48 t517.length co48)).setCell ⟨gb524, 2, none⟩ (.slice Ao49 t520.length co49)) w.heap.size (fun k_ => some k_ ≠ (.slice Ao48 t517.length co48 : Value).ownBlock) (.slice Ao42 t510.length co42) t510) := ⟨by exact Kd.R_mono (Kd.R_far (Kd.R_far (Kd.R_far (Kd.R_far (Kd.R_far (Kd.R_far (Kd.R_types (Kd.R_types HO512.out BK523.out (by decide)) BK524.out (by decide)) (fun _ hk => hk.1.2) _) (fun _ hk => hk.1.2) _) (fun _ hk => hk.1.2) _) (fun _ hk => hk.2) _) (fun _ hk => hk.2) _) (fun _ hk => hk.2) _) (fun _ hk => hk.1.1)⟩
      have n1_ : Aside0 (Kd.R k76 76 ((((((w36.setCell ⟨gb523, 0, none⟩ (.bool t509)).setCell ⟨gb523, 1, none⟩ (.slice Ao42 t510.length co42)).setCell ⟨gb523, 2, none⟩ (.slice Ao43 t513.length co43)).setCell ⟨gb524, 0, none⟩ (.bool t516)).setCell ⟨gb524, 1, none⟩ (.slice Ao48 t517.length co48)).setCell ⟨gb524, 2, none⟩ (.slice Ao49 t520.length co49)) w.heap.size (fun k_ => some k_ ≠ (.slice Ao49 t520.length co49 : Value).ownBlock) (.slice Ao43 t513.length co43) t513) := ⟨by exact Kd.R_mono (Kd.R_far (Kd.R_far (Kd.R_far (Kd.R_far (Kd.R_far (Kd.R_far (Kd.R_types (Kd.R_types HO515.out BK523.out (by decide)) BK524.out (by decide)) (fun _ hk => hk.1.2) _) (fun _ hk => hk.1.2) _) (fun _ hk => hk.1.2) _) (fun _ hk => hk.2) _) (fun _ hk => hk.2) _) (fun _ hk => hk.2) _) (fun _ hk => hk.1.1)⟩
      have n2_ : Aside0 (Kd.R k75 75 ((((((w36.setCell ⟨gb523, 0, none⟩ (.bool t509)).setCell ⟨gb523, 1, none⟩ (.slice Ao42 t510.length co42)).setCell ⟨gb523, 2, none⟩ (.slice Ao43 t513.length co43)).setCell ⟨gb524, 0, none⟩ (.bool t516)).setCell ⟨gb524, 1, none⟩ (.slice Ao48 t517.length co48)).setCell ⟨gb524, 2, none⟩ (.slice Ao49 t520.length co49)) w.heap.size (fun k_ => some k_ ≠ (.slice Ao42 t510.length co42 : Value).ownBlock) (.slice Ao48 t517.length co48) t517) := ⟨by exact Kd.R_mono (Kd.R_far (Kd.R_far (Kd.R_far (Kd.R_far (Kd.R_far (Kd.R_far (Kd.R_types (Kd.R_types HO519.out BK523.out (by decide)) BK524.out (by decide)) (fun _ hk => hk.1.2) _) (fun _ hk => hk.1.2) _) (fun _ hk => hk.1.2) _) (fun _ hk => hk.2) _) (fun _ hk => hk.2) _) (fun _ hk => hk.2) _) (fun _ hk => hk.1.1)⟩
      have n3_ : Aside0 (Kd.R k76 76 ((((((w36.setCell ⟨gb523, 0, none⟩ (.bool t509)).setCell ⟨gb523, 1, none⟩ (.slice Ao42 t510.length co42)).setCell ⟨gb523, 2, none⟩ (.slice Ao43 t513.length co43)).setCell ⟨gb524, 0, none⟩ (.bool t516)).setCell ⟨gb524, 1, none⟩ (.slice Ao48 t517.length co48)).setCell ⟨gb524, 2, none⟩ (.slice Ao49 t520.length co49)) w.heap.size (fun k_ => some k_ ≠ (.slice Ao43 t513.length co43 : Value).ownBlock) (.slice Ao49 t520.length co49) t520) := ⟨by exact Kd.R_mono (Kd.R_far (Kd.R_far (Kd.R_far (Kd.R_far (Kd.R_far (Kd.R_far (Kd.R_types (Kd.R_types HO522.out BK523.out (by decide)) BK524.out (by decide)) (fun _ hk => hk.1.2) _) (fun _ hk => hk.1.2) _) (fun _ hk => hk.1.2) _) (fun _ hk => hk.2) _) (fun _ hk => hk.2) _) (fun _ hk => hk.2) _) (fun _ hk => hk.1.1)⟩
      have n4_ : Aside0 (((((((w36.setCell ⟨gb523, 0, none⟩ (.bool t509)).setCell ⟨gb523, 1, none⟩ (.slice Ao42 t510.length co42)).setCell ⟨gb523, 2, none⟩ (.slice Ao43 t513.length co43)).setCell ⟨gb524, 0, none⟩ (.bool t516)).setCell ⟨gb524, 1, none⟩ (.slice Ao48 t517.length co48)).setCell ⟨gb524, 2, none⟩ (.slice Ao49 t520.length co49)).heap[gb489]? = some (.cells #[.bool a0_0, .slice A0_1 l0_1.length c0_1, .slice A0_2 l0_2.length c0_2] 25 (0, 0))) := ⟨kg2 NB489_524 NB489_523 BK489⟩
      have n5_ : Aside0 (((((((w36.setCell ⟨gb523, 0, none⟩ (.bool t509)).setCell ⟨gb523, 1, none⟩ (.slice Ao42 t510.length co42)).setCell ⟨gb523, 2, none⟩ (.slice Ao43 t513.length co43)).setCell ⟨gb524, 0, none⟩ (.bool t516)).setCell ⟨gb524, 1, none⟩ (.slice Ao48 t517.length co48)).setCell ⟨gb524, 2, none⟩ (.slice Ao49 t520.length co49)).heap[gb490]? = some (.cells #[.bool false, .slice none 0 0, .slice none 0 0] 25 (0, 0))) := ⟨kg2 NB490_524 NB490_523 BK490⟩
      have n6_ : Aside0 (((((((w36.setCell ⟨gb523, 0, none⟩ (.bool t509)).setCell ⟨gb523, 1, none⟩ (.slice Ao42 t510.length co42)).setCell ⟨gb523, 2, none⟩ (.slice Ao43 t513.length co43)).setCell ⟨gb524, 0, none⟩ (.bool t516)).setCell ⟨gb524, 1, none⟩ (.slice Ao48 t517.length co48)).setCell ⟨gb524, 2, none⟩ (.slice Ao49 t520.length co49)).heap[gb491]? = some (.cells #[.bool false, .slice none 0 0, .slice none 0 0] 25 (0, 0))) := ⟨kg2 NB491_524 NB491_523 BK491⟩
      have n7_ : Aside0 (((((((w36.setCell ⟨gb523, 0, none⟩ (.bool t509)).setCell ⟨gb523, 1, none⟩ (.slice Ao42 t510.length co42)).setCell ⟨gb523, 2, none⟩ (.slice Ao43 t513.length co43)).setCell ⟨gb524, 0, none⟩ (.bool t516)).setCell ⟨gb524, 1, none⟩ (.slice Ao48 t517.length co48)).setCell ⟨gb524, 2, none⟩ (.slice Ao49 t520.length co49)).heap[gb523]? = some (.cells #[.bool t509, .slice Ao42 t510.length co42, .slice Ao43 t513.length co43] 25 (0, 0))) := ⟨by (with_reducible repeat (first | refine blk_drewN ?_ _ | refine blk_drew ?_ | refine blk_alloc ?_ _)); refine blk_far ?_ NB523_524.out _; (with_reducible repeat (first | refine blk_drewN ?_ _ | refine blk_drew ?_ | refine blk_alloc ?_ _)); refine blk_far ?_ NB523_524.out _; (with_reducible repeat (first | refine blk_drewN ?_ _ | refine blk_drew ?_ | refine blk_alloc ?_ _)); refine blk_far ?_ NB523_524.out _; (with_reducible repeat (first | refine blk_drewN ?_ _ | refine blk_drew ?_ | refine blk_alloc ?_ _)); refine blk_put (cs := #[.bool t509, .slice Ao42 t510.length co42, .slice none 0 0]) ?_ 2 _ rfl; (with_reducible repeat (first | refine blk_drewN ?_ _ | refine blk_drew ?_ | refine blk_alloc ?_ _)); refine blk_put (cs := #[.bool t509, .slice none 0 0, .slice none 0 0]) ?_ 1 _ rfl; (with_reducible repeat (first | refine blk_drewN ?_ _ | refine blk_drew ?_ | refine blk_alloc ?_ _)); refine blk_put (cs := #[.bool false, .slice none 0 0, .slice none 0 0]) ?_ 0 _ rfl; exact kb BK523⟩
      have n8_ : Aside0 (((((((w36.setCell ⟨gb523, 0, none⟩ (.bool t509)).setCell ⟨gb523, 1, none⟩ (.slice Ao42 t510.length co42)).setCell ⟨gb523, 2, none⟩ (.slice Ao43 t513.length co43)).setCell ⟨gb524, 0, none⟩ (.bool t516)).setCell ⟨gb524, 1, none⟩ (.slice Ao48 t517.length co48)).setCell ⟨gb524, 2, none⟩ (.slice Ao49 t520.length co49)).heap[gb524]? = some (.cells #[.bool t516, .slice Ao48 t517.length co48, .slice Ao49 t520.length co49] 25 (0, 0))) := ⟨by (with_reducible repeat (first | refine blk_drewN ?_ _ | refine blk_drew ?_ | refine blk_alloc ?_ _)); refine blk_put (cs := #[.bool t516, .slice Ao48 t517.length co48, .slice none 0 0]) ?_ 2 _ rfl; (with_reducible repeat (first | refine blk_drewN ?_ _ | refine blk_drew ?_ | refine blk_alloc ?_ _)); refine blk_put (cs := #[.bool t516, .slice none 0 0, .slice none 0 0]) ?_ 1 _ rfl; (with_reducible repeat (first | refine blk_drewN ?_ _ | refine blk_drew ?_ | refine blk_alloc ?_ _)); refine blk_put (cs := #[.bool false, .slice none 0 0, .slice none 0 0]) ?_ 0 _ rfl; exact kf NB524_523 BK524⟩
      have n9_ : Aside0 (Below w.heap.size w ((((((w36.setCell ⟨gb523, 0, none⟩ (.bool t509)).setCell ⟨gb523, 1, none⟩ (.slice Ao42 t510.length co42)).setCell ⟨gb523, 2, none⟩ (.slice Ao43 t513.length co43)).setCell ⟨gb524, 0, none⟩ (.bool t516)).setCell ⟨gb524, 1, none⟩ (.slice Ao48 t517.length co48)).setCell ⟨gb524, 2, none⟩ (.slice Ao49 t520.length co49))) := ⟨kl HB⟩
      (try clear HO512)
      (try clear HO515)
      (try clear HO519)
      (try clear HO522)
      (try clear BK489)
      (try clear BK490)
      (try clear BK491)
      (try clear BK523)
      (try clear BK524)
      (try clear HB)
      generalize ((((((w36.setCell ⟨gb523, 0, none⟩ (.bool t509)).setCell ⟨gb523, 1, none⟩ (.slice Ao42 t510.length co42)).setCell ⟨gb523, 2, none⟩ (.slice Ao43 t513.length co43)).setCell ⟨gb524, 0, none⟩ (.bool t516)).setCell ⟨gb524, 1, none⟩ (.slice Ao48 t517.length co48)).setCell ⟨gb524, 2, none⟩ (.slice Ao49 t520.length co49)) = w50 at n0_ n1_ n2_ n3_ n4_ n5_ n6_ n7_ n8_ n9_ ⊢
      have HO512 := n0_
      have HO515 := n1_
      have HO519 := n2_
      have HO522 := n3_
      have BK489 := n4_
      have BK490 := n5_
      have BK491 := n6_
      have BK523 := n7_
      have BK524 := n8_
      have HB := n9_
      clear n0_ n1_ n2_ n3_ n4_ n5_ n6_ n7_ n8_ n9_
      replace HO512 := aM (Kd.R_drew HO512.out)
      replace HO515 := aM (Kd.R_drew HO515.out)
      replace HO519 := aM (Kd.R_drew HO519.out)
      replace HO522 := aM (Kd.R_drew HO522.out)
      replace BK489 := aM (blk_drew BK489.out)
      replace BK490 := aM (blk_drew BK490.out)
      replace BK491 := aM (blk_drew BK491.out)
      replace BK523 := aM (blk_drew BK523.out)
      replace BK524 := aM (blk_drew BK524.out)
      replace HB := aM (below_drew1 HB.out)
      refine start_ (n := 6) (S := fun w' => w'.cell? ⟨gb523, 0, none⟩ = some (.bool t509) ∧ w'.cell? ⟨gb523, 1, none⟩ = some (.slice Ao42 t510.length co42) ∧ w'.cell? ⟨gb523, 2, none⟩ = some (.slice Ao43 t513.length co43) ∧ w'.cell? ⟨gb524, 0, none⟩ = some (.bool t516) ∧ w'.cell? ⟨gb524, 1, none⟩ = some (.slice Ao48 t517.length co48) ∧ w'.cell? ⟨gb524, 2, none⟩ = some (.slice Ao49 t520.length co49)) (ds := []) #[false, false, false, false, false, false] (by kernel_rfl) rfl rfl ⟨bc BK523 0, bc BK523 1, bc BK523 2, bc BK524 0, bc BK524 1, bc BK524 2⟩ (fun hHeld => ?_)
      generalize w50.drew = w51 at HO512 HO515 HO519 HO522 BK489 BK490 BK491 BK523 BK524 HB hHeld ⊢
      refine take_ (i := 0) (N := some 41) (v := ?_) (a' := ?_) #[true, false, false, false, false, false] rfl rfl (by kernel_rfl) (fun _ _ _ h => h) (Or.inl ⟨by rfl, ?_⟩) hHeld ?_ ?_
      rotate_left
      ·rintro w' ⟨s0, s1, s2, s3, s4, s5⟩
       go_simp
       with_reducible rfl
      rotate_left
      ·simp only [Act.put, List.setIfInBounds_toArray, List.set_cons_zero, List.set_cons_succ, i64_w, i32_w]
       rfl
      refine take_ (i := 2) (N := some 43) (v := ?_) (a' := ?_) #[true, false, true, false, false, false] rfl rfl (by kernel_rfl) (fun _ _ _ h => h) (Or.inl ⟨by rfl, ?_⟩) hHeld ?_ ?_
      rotate_left
      ·rintro w' ⟨s0, s1, s2, s3, s4, s5⟩
       go_simp
       with_reducible rfl
      rotate_left
      ·simp only [Act.put, List.setIfInBounds_toArray, List.set_cons_zero, List.set_cons_succ, i64_w, i32_w]
       rfl
      refine one_ (i := 1) (N := some 42) #[true, true, true, false, false, false] rfl rfl (by kernel_rfl) (by decide) (fun K hK => ?_)
      refine goes_ Try.func22 (by kernel_rfl) rfl #[.agg #[.bool t509, .slice Ao42 t510.length co42, .slice Ao43 t513.length co43]] (by rfl) rfl rfl (by (try simp only [List.map_toArray, List.map_cons, List.map_nil]); first | done | rfl | (simp only [List.length_drop, List.length_take]; rfl)) ?_
      with_reducible refine (rf_Size.calls k2 t509 _ _ t510 _ _ t513 t525 _ ?side1 ?side2 ?side3 ?side4 A27.out).mono ?_
      (case side1 => exact kc (Kd.R_reads' HO512.out).2.2)
      (case side2 => exact (Kd.R_reads' HO512.out).2.1)
      (case side3 => exact kc (Kd.R_reads' HO515.out).2.2)
      (case side4 => exact (Kd.R_reads' HO515.out).2.1)
      rintro e w52 ⟨rfl, hb⟩
      refine ⟨_, rfl, ?_⟩
      replace HO512 := rb HO512 hb
      replace HO515 := rb HO515 hb
      replace HO519 := rb HO519 hb
      replace HO522 := rb HO522 hb
      replace BK489 := bb BK489 hb
      replace BK490 := bb BK490 hb
      replace BK491 := bb BK491 hb
      replace BK523 := bb BK523 hb
      replace BK524 := bb BK524 hb
      replace HB := aM (below_step (kl HB) hb)
      (try clear hb)
      (try clear hb2)
      (try clear hk)
      (try clear hi)
      refine hK.out _ _ ⟨bc BK523 0, bc BK523 1, bc BK523 2, bc BK524 0, bc BK524 1, bc BK524 2⟩ (fun hHeld => ?_)
      clear hK K
      refine norm_ (a' := ?_) ?_ ?_
      rotate_left
      ·show Act.put _ (some 42) _ = _
       simp only [Act.put, List.setIfInBounds_toArray, List.set_cons_zero, List.set_cons_succ, i64_w, i32_w]
       rfl
      refine one_ (i := 3) (N := some 44) #[true, true, true, true, false, false] rfl rfl (by kernel_rfl) (by decide) (fun K hK => ?_)
      refine goes_ Try.func22 (by kernel_rfl) rfl #[.agg #[.bool t516, .slice Ao48 t517.length co48, .slice Ao49 t520.length co49]] (by rfl) rfl rfl (by (try simp only [List.map_toArray, List.map_cons, List.map_nil]); first | done | rfl | (simp only [List.length_drop, List.length_take]; rfl)) ?_
      with_reducible refine (rf_Size.calls k2 t516 _ _ t517 _ _ t520 t526 _ ?side1 ?side2 ?side3 ?side4 A28.out).mono ?_
      (case side1 => exact kc (Kd.R_reads' HO519.out).2.2)
      (case side2 => exact (Kd.R_reads' HO519.out).2.1)
      (case side3 => exact kc (Kd.R_reads' HO522.out).2.2)
      (case side4 => exact (Kd.R_reads' HO522.out).2.1)
      rintro e w53 ⟨rfl, hb⟩
      refine ⟨_, rfl, ?_⟩
      replace HO512 := rb HO512 hb
      replace HO515 := rb HO515 hb
      replace HO519 := rb HO519 hb
      replace HO522 := rb HO522 hb
      replace BK489 := bb BK489 hb
      replace BK490 := bb BK490 hb
      replace BK491 := bb BK491 hb
      replace BK523 := bb BK523 hb
      replace BK524 := bb BK524 hb
      replace HB := aM (below_step (kl HB) hb)
      (try clear hb)
      (try clear hb2)
      (try clear hk)
      (try clear hi)
      refine hK.out _ _ ⟨bc BK523 0, bc BK523 1, bc BK523 2, bc BK524 0, bc BK524 1, bc BK524 2⟩ (fun hHeld => ?_)
      clear hK K
      refine norm_ (a' := ?_) ?_ ?_
      rotate_left
      ·show Act.put _ (some 44) _ = _
       simp only [Act.put, List.setIfInBounds_toArray, List.set_cons_zero, List.set_cons_succ, i64_w, i32_w]
       rfl
      refine pure_ (i := 4) (N := some 45) (v := ?_) (a' := ?_) #[true, true, true, true, true, false] rfl rfl (by kernel_rfl) (fun _ _ _ h => h) (Or.inl ⟨by rfl, ?_⟩) ?_ ?_
      rotate_left
      ·intro w'
       go_simp
       with_reducible rfl
      rotate_left
      ·simp only [Act.put, List.setIfInBounds_toArray, List.set_cons_zero, List.set_cons_succ, i64_w, i32_w]
       rfl
      refine pure_ (i := 5) (N := some 11) (v := ?_) (a' := ?_) #[true, true, true, true, true, true] rfl rfl (by kernel_rfl) (fun _ _ _ h => h) (Or.inl ⟨by rfl, ?_⟩) ?_ ?_
      rotate_left
      ·intro w'
       go_simp
       with_reducible rfl
      rotate_left
      ·simp only [Act.put, List.setIfInBounds_toArray, List.set_cons_zero, List.set_cons_succ, i64_w, i32_w]
       rfl
      refine done_ (by kernel_rfl) ?_
      try go_wp2
      go_roundg k2
      case measure => have := HJ1.out; have := HK2.out; omega
      case rel => exact ⟨(x8_2), (ji29), (wrap64 (x8_2 + 1)), (by first | rfl | (simp; done) | (simp [*]; done)), (by first | rfl | (simp; done) | (simp only [← hji29] <;> (first | rfl | simp)) | (simp [*]; done)), (by first | rfl | (simp; done) | (simp [*]; done)), H', ⟨by have := HJ1.out; have := HK2.out; omega⟩, ⟨kb BK489⟩, ⟨kb BK490⟩, ⟨kb BK491⟩, ⟨kl HB⟩⟩
     rw [if_neg c30] at H
     have c30b0 : (x6_2 == 0) = false := beq_eq_false_iff_ne.mpr c30
     have c30b1 : (x6_2 != 0) = true := bne_iff_ne.mpr c30
     by_cases c54 : (ji29) < x7_2
     ·rw [if_pos c54] at H
      have c54b0 : decide ((ji29) < x7_2) = true := decide_eq_true c54
      clear c54
      have H' := aM H
      clear H
      have hnb55 := NB489_490.out
      have hnc55 := NB490_489.out
      have hnb56 := NB489_491.out
      have hnc56 := NB491_489.out
      have hcz57_0 : wr.cell? ⟨gb489, 0, none⟩ = some (.bool a0_0) := bc BK489 0
      have hcz57_1 : wr.cell? ⟨gb489, 1, none⟩ = some (.slice A0_1 l0_1.length c0_1) := bc BK489 1
      have hcz57_2 : wr.cell? ⟨gb489, 2, none⟩ = some (.slice A0_2 l0_2.length c0_2) := bc BK489 2
      have hfz57_0 := blk_frozen BK489.out 0
      have hfz57_1 := blk_frozen BK489.out 1
      have hfz57_2 := blk_frozen BK489.out 2
      try go_wp2_with (first | ((with_reducible refine gate_callee (f := 50) rfl ?_); refine goesL_ (some 38) rfl rfl Try.func50 (by kernel_rfl) rfl #[.agg #[.bool a0_0, .slice A0_1 l0_1.length c0_1, .slice A0_2 l0_2.length c0_2], .int .i64 x8_2] rfl (by (try simp only [List.map_toArray, List.map_cons, List.map_nil]); first | done | rfl | (simp only [List.length_drop, List.length_take]; rfl)) ?_; (with_reducible refine (rf_cut.calls a0_0 _ _ l0_1 _ _ l0_2 x8_2 t509 t510 t513 t516 t517 t520 _ ?side1 ?side2 ?side3 ?side4 A26.out).mono ?_); (case side1 => exact kc (Kd.C_below HR0_1.out HB.out)); (case side2 => exact HC0_1.out); (case side3 => exact kc (Kd.C_below HR0_2.out HB.out)); (case side4 => exact HC0_2.out); rintro e w58 ⟨v511, v514, v518, v521, rfl, ho0, ho1, ho2, ho3, hb⟩; refine ⟨_, rfl, ?_⟩; have HO512 := aM (Kd.R_lower ho0 (below_size (kl HB))); have HO515 := aM (Kd.R_lower ho1 (below_size (kl HB))); have HO519 := aM (Kd.R_lower ho2 (below_size (kl HB))); have HO522 := aM (Kd.R_lower ho3 (below_size (kl HB))); replace BK489 := bb BK489 hb; replace BK490 := bb BK490 hb; replace BK491 := bb BK491 hb; replace HB := aM (below_step (kl HB) hb); clear hb ho0 ho1 ho2 ho3) | ((with_reducible refine gate_dst (N := 9) rfl ?_); refine box_event ?hg (N := 9) ?hd (cs := #[.bool false, .slice none 0 0, .slice none 0 0]) (t := 25) ?hr ?_; (case hd => rfl); (case hg => rfl); (case hr => first | (go_simp; done) | (go_simp; rfl)); intro gb523 hg w59 hbox hb; replace HO512 := rb HO512 hb; replace HO515 := rb HO515 hb; replace HO519 := rb HO519 hb; replace HO522 := rb HO522 hb; have BK523 := aM (hbox); have GW523 := gw hg HB; have GE523 := gw hg HB; replace HB := aM (below_step (kl HB) hb); have NB489_523 := nl hg BK489; have NB523_489 := ng hg BK489; replace BK489 := bb BK489 hb; have NB490_523 := nl hg BK490; have NB523_490 := ng hg BK490; replace BK490 := bb BK490 hb; have NB491_523 := nl hg BK491; have NB523_491 := ng hg BK491; replace BK491 := bb BK491 hb; clear hb hbox hg) | ((with_reducible refine gate_dst (N := 10) rfl ?_); refine box_event ?hg (N := 10) ?hd (cs := #[.bool false, .slice none 0 0, .slice none 0 0]) (t := 25) ?hr ?_; (case hd => rfl); (case hg => rfl); (case hr => first | (go_simp; done) | (go_simp; rfl)); intro gb524 hg w60 hbox hb; replace HO512 := rb HO512 hb; replace HO515 := rb HO515 hb; replace HO519 := rb HO519 hb; replace HO522 := rb HO522 hb; have BK524 := aM (hbox); have GW524 := gw hg HB; have GE524 := gw hg HB; replace HB := aM (below_step (kl HB) hb); have NB489_524 := nl hg BK489; have NB524_489 := ng hg BK489; replace BK489 := bb BK489 hb; have NB490_524 := nl hg BK490; have NB524_490 := ng hg BK490; replace BK490 := bb BK490 hb; have NB491_524 := nl hg BK491; have NB524_491 := ng hg BK491; replace BK491 := bb BK491 hb; have NB523_524 := nl hg BK523; have NB524_523 := ng hg BK523; replace BK523 := bb BK523 hb; clear hb hbox hg; have hnb61 := NB523_489.out; have hnc61 := NB489_523.out; have hnb62 := NB523_490.out; have hnc62 := NB490_523.out; have hnb63 := NB523_491.out; have hnc63 := NB491_523.out; have hnb64 := NB523_524.out; have hnc64 := NB524_523.out; have hcz65_0 : w60.cell? ⟨gb523, 0, none⟩ = some (.bool false) := bc BK523 0; have hcz65_1 : w60.cell? ⟨gb523, 1, none⟩ = some (.slice none 0 0) := bc BK523 1; have hcz65_2 : w60.cell? ⟨gb523, 2, none⟩ = some (.slice none 0 0) := bc BK523 2; have hfz65_0 := blk_frozen BK523.out 0; have hfz65_1 := blk_frozen BK523.out 1; have hfz65_2 := blk_frozen BK523.out 2; obtain ⟨Ao66, co66, eo66⟩ := Kd.R_slice HO512.out; subst eo66; obtain ⟨Ao67, co67, eo67⟩ := Kd.R_slice HO515.out; subst eo67; have hnb68 := NB524_489.out; have hnc68 := NB489_524.out; have hnb69 := NB524_490.out; have hnc69 := NB490_524.out; have hnb70 := NB524_491.out; have hnc70 := NB491_524.out; have hcz71_0 : w60.cell? ⟨gb524, 0, none⟩ = some (.bool false) := bc BK524 0; have hcz71_1 : w60.cell? ⟨gb524, 1, none⟩ = some (.slice none 0 0) := bc BK524 1; have hcz71_2 : w60.cell? ⟨gb524, 2, none⟩ = some (.slice none 0 0) := bc BK524 2; have hfz71_0 := blk_frozen BK524.out 0; have hfz71_1 := blk_frozen BK524.out 1; have hfz71_2 := blk_frozen BK524.out 2; obtain ⟨Ao72, co72, eo72⟩ := Kd.R_slice HO519.out; subst eo72; obtain ⟨Ao73, co73, eo73⟩ := Kd.R_slice HO522.out; subst eo73))
      have n0_ : Aside0 (Kd.R k75 75 ((((((w60.setCell ⟨gb523, 0, none⟩ (.bool t509)).setCell ⟨gb523, 1, none⟩ (.slice Ao66 t510.length co66)).setCell ⟨gb523, 2, none⟩ (.slice Ao67 t513.length co67)).setCell ⟨gb524, 0, none⟩ (.bool t516)).setCell ⟨gb524, 1, none⟩ (.slice Ao72 t517.length co72)).setCell ⟨gb524, 2, none⟩ (.slice Ao73 t520.length co73)) w.heap.size (fun k_ => some k_ ≠ (.slice Ao72 t517.length co72 : Value).ownBlock) (.slice Ao66 t510.length co66) t510) := ⟨by exact Kd.R_mono (Kd.R_far (Kd.R_far (Kd.R_far (Kd.R_far (Kd.R_far (Kd.R_far (Kd.R_types (Kd.R_types HO512.out BK523.out (by decide)) BK524.out (by decide)) (fun _ hk => hk.1.2) _) (fun _ hk => hk.1.2) _) (fun _ hk => hk.1.2) _) (fun _ hk => hk.2) _) (fun _ hk => hk.2) _) (fun _ hk => hk.2) _) (fun _ hk => hk.1.1)⟩
      have n1_ : Aside0 (Kd.R k76 76 ((((((w60.setCell ⟨gb523, 0, none⟩ (.bool t509)).setCell ⟨gb523, 1, none⟩ (.slice Ao66 t510.length co66)).setCell ⟨gb523, 2, none⟩ (.slice Ao67 t513.length co67)).setCell ⟨gb524, 0, none⟩ (.bool t516)).setCell ⟨gb524, 1, none⟩ (.slice Ao72 t517.length co72)).setCell ⟨gb524, 2, none⟩ (.slice Ao73 t520.length co73)) w.heap.size (fun k_ => some k_ ≠ (.slice Ao73 t520.length co73 : Value).ownBlock) (.slice Ao67 t513.length co67) t513) := ⟨by exact Kd.R_mono (Kd.R_far (Kd.R_far (Kd.R_far (Kd.R_far (Kd.R_far (Kd.R_far (Kd.R_types (Kd.R_types HO515.out BK523.out (by decide)) BK524.out (by decide)) (fun _ hk => hk.1.2) _) (fun _ hk => hk.1.2) _) (fun _ hk => hk.1.2) _) (fun _ hk => hk.2) _) (fun _ hk => hk.2) _) (fun _ hk => hk.2) _) (fun _ hk => hk.1.1)⟩
      have n2_ : Aside0 (Kd.R k75 75 ((((((w60.setCell ⟨gb523, 0, none⟩ (.bool t509)).setCell ⟨gb523, 1, none⟩ (.slice Ao66 t510.length co66)).setCell ⟨gb523, 2, none⟩ (.slice Ao67 t513.length co67)).setCell ⟨gb524, 0, none⟩ (.bool t516)).setCell ⟨gb524, 1, none⟩ (.slice Ao72 t517.length co72)).setCell ⟨gb524, 2, none⟩ (.slice Ao73 t520.length co73)) w.heap.size (fun k_ => some k_ ≠ (.slice Ao66 t510.length co66 : Value).ownBlock) (.slice Ao72 t517.length co72) t517) := ⟨by exact Kd.R_mono (Kd.R_far (Kd.R_far (Kd.R_far (Kd.R_far (Kd.R_far (Kd.R_far (Kd.R_types (Kd.R_types HO519.out BK523.out (by decide)) BK524.out (by decide)) (fun _ hk => hk.1.2) _) (fun _ hk => hk.1.2) _) (fun _ hk => hk.1.2) _) (fun _ hk => hk.2) _) (fun _ hk => hk.2) _) (fun _ hk => hk.2) _) (fun _ hk => hk.1.1)⟩
      have n3_ : Aside0 (Kd.R k76 76 ((((((w60.setCell ⟨gb523, 0, none⟩ (.bool t509)).setCell ⟨gb523, 1, none⟩ (.slice Ao66 t510.length co66)).setCell ⟨gb523, 2, none⟩ (.slice Ao67 t513.length co67)).setCell ⟨gb524, 0, none⟩ (.bool t516)).setCell ⟨gb524, 1, none⟩ (.slice Ao72 t517.length co72)).setCell ⟨gb524, 2, none⟩ (.slice Ao73 t520.length co73)) w.heap.size (fun k_ => some k_ ≠ (.slice Ao67 t513.length co67 : Value).ownBlock) (.slice Ao73 t520.length co73) t520) := ⟨by exact Kd.R_mono (Kd.R_far (Kd.R_far (Kd.R_far (Kd.R_far (Kd.R_far (Kd.R_far (Kd.R_types (Kd.R_types HO522.out BK523.out (by decide)) BK524.out (by decide)) (fun _ hk => hk.1.2) _) (fun _ hk => hk.1.2) _) (fun _ hk => hk.1.2) _) (fun _ hk => hk.2) _) (fun _ hk => hk.2) _) (fun _ hk => hk.2) _) (fun _ hk => hk.1.1)⟩
      have n4_ : Aside0 (((((((w60.setCell ⟨gb523, 0, none⟩ (.bool t509)).setCell ⟨gb523, 1, none⟩ (.slice Ao66 t510.length co66)).setCell ⟨gb523, 2, none⟩ (.slice Ao67 t513.length co67)).setCell ⟨gb524, 0, none⟩ (.bool t516)).setCell ⟨gb524, 1, none⟩ (.slice Ao72 t517.length co72)).setCell ⟨gb524, 2, none⟩ (.slice Ao73 t520.length co73)).heap[gb489]? = some (.cells #[.bool a0_0, .slice A0_1 l0_1.length c0_1, .slice A0_2 l0_2.length c0_2] 25 (0, 0))) := ⟨kg2 NB489_524 NB489_523 BK489⟩
      have n5_ : Aside0 (((((((w60.setCell ⟨gb523, 0, none⟩ (.bool t509)).setCell ⟨gb523, 1, none⟩ (.slice Ao66 t510.length co66)).setCell ⟨gb523, 2, none⟩ (.slice Ao67 t513.length co67)).setCell ⟨gb524, 0, none⟩ (.bool t516)).setCell ⟨gb524, 1, none⟩ (.slice Ao72 t517.length co72)).setCell ⟨gb524, 2, none⟩ (.slice Ao73 t520.length co73)).heap[gb490]? = some (.cells #[.bool false, .slice none 0 0, .slice none 0 0] 25 (0, 0))) := ⟨kg2 NB490_524 NB490_523 BK490⟩
      have n6_ : Aside0 (((((((w60.setCell ⟨gb523, 0, none⟩ (.bool t509)).setCell ⟨gb523, 1, none⟩ (.slice Ao66 t510.length co66)).setCell ⟨gb523, 2, none⟩ (.slice Ao67 t513.length co67)).setCell ⟨gb524, 0, none⟩ (.bool t516)).setCell ⟨gb524, 1, none⟩ (.slice Ao72 t517.length co72)).setCell ⟨gb524, 2, none⟩ (.slice Ao73 t520.length co73)).heap[gb491]? = some (.cells #[.bool false, .slice none 0 0, .slice none 0 0] 25 (0, 0))) := ⟨kg2 NB491_524 NB491_523 BK491⟩
      have n7_ : Aside0 (((((((w60.setCell ⟨gb523, 0, none⟩ (.bool t509)).setCell ⟨gb523, 1, none⟩ (.slice Ao66 t510.length co66)).setCell ⟨gb523, 2, none⟩ (.slice Ao67 t513.length co67)).setCell ⟨gb524, 0, none⟩ (.bool t516)).setCell ⟨gb524, 1, none⟩ (.slice Ao72 t517.length co72)).setCell ⟨gb524, 2, none⟩ (.slice Ao73 t520.length co73)).heap[gb523]? = some (.cells #[.bool t509, .slice Ao66 t510.length co66, .slice Ao67 t513.length co67] 25 (0, 0))) := ⟨by (with_reducible repeat (first | refine blk_drewN ?_ _ | refine blk_drew ?_ | refine blk_alloc ?_ _)); refine blk_far ?_ NB523_524.out _; (with_reducible repeat (first | refine blk_drewN ?_ _ | refine blk_drew ?_ | refine blk_alloc ?_ _)); refine blk_far ?_ NB523_524.out _; (with_reducible repeat (first | refine blk_drewN ?_ _ | refine blk_drew ?_ | refine blk_alloc ?_ _)); refine blk_far ?_ NB523_524.out _; (with_reducible repeat (first | refine blk_drewN ?_ _ | refine blk_drew ?_ | refine blk_alloc ?_ _)); refine blk_put (cs := #[.bool t509, .slice Ao66 t510.length co66, .slice none 0 0]) ?_ 2 _ rfl; (with_reducible repeat (first | refine blk_drewN ?_ _ | refine blk_drew ?_ | refine blk_alloc ?_ _)); refine blk_put (cs := #[.bool t509, .slice none 0 0, .slice none 0 0]) ?_ 1 _ rfl; (with_reducible repeat (first | refine blk_drewN ?_ _ | refine blk_drew ?_ | refine blk_alloc ?_ _)); refine blk_put (cs := #[.bool false, .slice none 0 0, .slice none 0 0]) ?_ 0 _ rfl; exact kb BK523⟩
      have n8_ : Aside0 (((((((w60.setCell ⟨gb523, 0, none⟩ (.bool t509)).setCell ⟨gb523, 1, none⟩ (.slice Ao66 t510.length co66)).setCell ⟨gb523, 2, none⟩ (.slice Ao67 t513.length co67)).setCell ⟨gb524, 0, none⟩ (.bool t516)).setCell ⟨gb524, 1, none⟩ (.slice Ao72 t517.length co72)).setCell ⟨gb524, 2, none⟩ (.slice Ao73 t520.length co73)).heap[gb524]? = some (.cells #[.bool t516, .slice Ao72 t517.length co72, .slice Ao73 t520.length co73] 25 (0, 0))) := ⟨by (with_reducible repeat (first | refine blk_drewN ?_ _ | refine blk_drew ?_ | refine blk_alloc ?_ _)); refine blk_put (cs := #[.bool t516, .slice Ao72 t517.length co72, .slice none 0 0]) ?_ 2 _ rfl; (with_reducible repeat (first | refine blk_drewN ?_ _ | refine blk_drew ?_ | refine blk_alloc ?_ _)); refine blk_put (cs := #[.bool t516, .slice none 0 0, .slice none 0 0]) ?_ 1 _ rfl; (with_reducible repeat (first | refine blk_drewN ?_ _ | refine blk_drew ?_ | refine blk_alloc ?_ _)); refine blk_put (cs := #[.bool false, .slice none 0 0, .slice none 0 0]) ?_ 0 _ rfl; exact kf NB524_523 BK524⟩
      have n9_ : Aside0 (Below w.heap.size w ((((((w60.setCell ⟨gb523, 0, none⟩ (.bool t509)).setCell ⟨gb523, 1, none⟩ (.slice Ao66 t510.length co66)).setCell ⟨gb523, 2, none⟩ (.slice Ao67 t513.length co67)).setCell ⟨gb524, 0, none⟩ (.bool t516)).setCell ⟨gb524, 1, none⟩ (.slice Ao72 t517.length co72)).setCell ⟨gb524, 2, none⟩ (.slice Ao73 t520.length co73))) := ⟨kl HB⟩
      (try clear HO512)
      (try clear HO515)
      (try clear HO519)
      (try clear HO522)
      (try clear BK489)
      (try clear BK490)
      (try clear BK491)
      (try clear BK523)
      (try clear BK524)
      (try clear HB)
      generalize ((((((w60.setCell ⟨gb523, 0, none⟩ (.bool t509)).setCell ⟨gb523, 1, none⟩ (.slice Ao66 t510.length co66)).setCell ⟨gb523, 2, none⟩ (.slice Ao67 t513.length co67)).setCell ⟨gb524, 0, none⟩ (.bool t516)).setCell ⟨gb524, 1, none⟩ (.slice Ao72 t517.length co72)).setCell ⟨gb524, 2, none⟩ (.slice Ao73 t520.length co73)) = w74 at n0_ n1_ n2_ n3_ n4_ n5_ n6_ n7_ n8_ n9_ ⊢
      have HO512 := n0_
      have HO515 := n1_
      have HO519 := n2_
      have HO522 := n3_
      have BK489 := n4_
      have BK490 := n5_
      have BK491 := n6_
      have BK523 := n7_
      have BK524 := n8_
      have HB := n9_
      clear n0_ n1_ n2_ n3_ n4_ n5_ n6_ n7_ n8_ n9_
      replace HO512 := aM (Kd.R_drew HO512.out)
      replace HO515 := aM (Kd.R_drew HO515.out)
      replace HO519 := aM (Kd.R_drew HO519.out)
      replace HO522 := aM (Kd.R_drew HO522.out)
      replace BK489 := aM (blk_drew BK489.out)
      replace BK490 := aM (blk_drew BK490.out)
      replace BK491 := aM (blk_drew BK491.out)
      replace BK523 := aM (blk_drew BK523.out)
      replace BK524 := aM (blk_drew BK524.out)
      replace HB := aM (below_drew1 HB.out)
      refine start_ (n := 6) (S := fun w' => w'.cell? ⟨gb523, 0, none⟩ = some (.bool t509) ∧ w'.cell? ⟨gb523, 1, none⟩ = some (.slice Ao66 t510.length co66) ∧ w'.cell? ⟨gb523, 2, none⟩ = some (.slice Ao67 t513.length co67) ∧ w'.cell? ⟨gb524, 0, none⟩ = some (.bool t516) ∧ w'.cell? ⟨gb524, 1, none⟩ = some (.slice Ao72 t517.length co72) ∧ w'.cell? ⟨gb524, 2, none⟩ = some (.slice Ao73 t520.length co73)) (ds := []) #[false, false, false, false, false, false] (by kernel_rfl) rfl rfl ⟨bc BK523 0, bc BK523 1, bc BK523 2, bc BK524 0, bc BK524 1, bc BK524 2⟩ (fun hHeld => ?_)
      generalize w74.drew = w75 at HO512 HO515 HO519 HO522 BK489 BK490 BK491 BK523 BK524 HB hHeld ⊢
      refine take_ (i := 0) (N := some 41) (v := ?_) (a' := ?_) #[true, false, false, false, false, false] rfl rfl (by kernel_rfl) (fun _ _ _ h => h) (Or.inl ⟨by rfl, ?_⟩) hHeld ?_ ?_
      rotate_left
      ·rintro w' ⟨s0, s1, s2, s3, s4, s5⟩
       go_simp
       with_reducible rfl
      rotate_left
      ·simp only [Act.put, List.setIfInBounds_toArray, List.set_cons_zero, List.set_cons_succ, i64_w, i32_w]
       rfl
      refine take_ (i := 2) (N := some 43) (v := ?_) (a' := ?_) #[true, false, true, false, false, false] rfl rfl (by kernel_rfl) (fun _ _ _ h => h) (Or.inl ⟨by rfl, ?_⟩) hHeld ?_ ?_
      rotate_left
      ·rintro w' ⟨s0, s1, s2, s3, s4, s5⟩
       go_simp
       with_reducible rfl
      rotate_left
      ·simp only [Act.put, List.setIfInBounds_toArray, List.set_cons_zero, List.set_cons_succ, i64_w, i32_w]
       rfl
      refine one_ (i := 1) (N := some 42) #[true, true, true, false, false, false] rfl rfl (by kernel_rfl) (by decide) (fun K hK => ?_)
      refine goes_ Try.func22 (by kernel_rfl) rfl #[.agg #[.bool t509, .slice Ao66 t510.length co66, .slice Ao67 t513.length co67]] (by rfl) rfl rfl (by (try simp only [List.map_toArray, List.map_cons, List.map_nil]); first | done | rfl | (simp only [List.length_drop, List.length_take]; rfl)) ?_
      with_reducible refine (rf_Size.calls k2 t509 _ _ t510 _ _ t513 t525 _ ?side1 ?side2 ?side3 ?side4 A27.out).mono ?_
      (case side1 => exact kc (Kd.R_reads' HO512.out).2.2)
      (case side2 => exact (Kd.R_reads' HO512.out).2.1)
      (case side3 => exact kc (Kd.R_reads' HO515.out).2.2)
      (case side4 => exact (Kd.R_reads' HO515.out).2.1)
      rintro e w76 ⟨rfl, hb⟩
      refine ⟨_, rfl, ?_⟩
      replace HO512 := rb HO512 hb
      replace HO515 := rb HO515 hb
      replace HO519 := rb HO519 hb
      replace HO522 := rb HO522 hb
      replace BK489 := bb BK489 hb
      replace BK490 := bb BK490 hb
      replace BK491 := bb BK491 hb
      replace BK523 := bb BK523 hb
      replace BK524 := bb BK524 hb
      replace HB := aM (below_step (kl HB) hb)
      (try clear hb)
      (try clear hb2)
      (try clear hk)
      (try clear hi)
      refine hK.out _ _ ⟨bc BK523 0, bc BK523 1, bc BK523 2, bc BK524 0, bc BK524 1, bc BK524 2⟩ (fun hHeld => ?_)
      clear hK K
      refine norm_ (a' := ?_) ?_ ?_
      rotate_left
      ·show Act.put _ (some 42) _ = _
       simp only [Act.put, List.setIfInBounds_toArray, List.set_cons_zero, List.set_cons_succ, i64_w, i32_w]
       rfl
      refine one_ (i := 3) (N := some 44) #[true, true, true, true, false, false] rfl rfl (by kernel_rfl) (by decide) (fun K hK => ?_)
      refine goes_ Try.func22 (by kernel_rfl) rfl #[.agg #[.bool t516, .slice Ao72 t517.length co72, .slice Ao73 t520.length co73]] (by rfl) rfl rfl (by (try simp only [List.map_toArray, List.map_cons, List.map_nil]); first | done | rfl | (simp only [List.length_drop, List.length_take]; rfl)) ?_
      with_reducible refine (rf_Size.calls k2 t516 _ _ t517 _ _ t520 t526 _ ?side1 ?side2 ?side3 ?side4 A28.out).mono ?_
      (case side1 => exact kc (Kd.R_reads' HO519.out).2.2)
      (case side2 => exact (Kd.R_reads' HO519.out).2.1)
      (case side3 => exact kc (Kd.R_reads' HO522.out).2.2)
      (case side4 => exact (Kd.R_reads' HO522.out).2.1)
      rintro e w77 ⟨rfl, hb⟩
      refine ⟨_, rfl, ?_⟩
      replace HO512 := rb HO512 hb
      replace HO515 := rb HO515 hb
      replace HO519 := rb HO519 hb
      replace HO522 := rb HO522 hb
      replace BK489 := bb BK489 hb
      replace BK490 := bb BK490 hb
      replace BK491 := bb BK491 hb
      replace BK523 := bb BK523 hb
      replace BK524 := bb BK524 hb
      replace HB := aM (below_step (kl HB) hb)
      (try clear hb)
      (try clear hb2)
      (try clear hk)
      (try clear hi)
      refine hK.out _ _ ⟨bc BK523 0, bc BK523 1, bc BK523 2, bc BK524 0, bc BK524 1, bc BK524 2⟩ (fun hHeld => ?_)
      clear hK K
      refine norm_ (a' := ?_) ?_ ?_
      rotate_left
      ·show Act.put _ (some 44) _ = _
       simp only [Act.put, List.setIfInBounds_toArray, List.set_cons_zero, List.set_cons_succ, i64_w, i32_w]
       rfl
      refine pure_ (i := 4) (N := some 45) (v := ?_) (a' := ?_) #[true, true, true, true, true, false] rfl rfl (by kernel_rfl) (fun _ _ _ h => h) (Or.inl ⟨by rfl, ?_⟩) ?_ ?_
      rotate_left
      ·intro w'
       go_simp
       with_reducible rfl
      rotate_left
      ·simp only [Act.put, List.setIfInBounds_toArray, List.set_cons_zero, List.set_cons_succ, i64_w, i32_w]
       rfl
      refine pure_ (i := 5) (N := some 11) (v := ?_) (a' := ?_) #[true, true, true, true, true, true] rfl rfl (by kernel_rfl) (fun _ _ _ h => h) (Or.inl ⟨by rfl, ?_⟩) ?_ ?_
      rotate_left
      ·intro w'
       go_simp
       with_reducible rfl
      rotate_left
      ·simp only [Act.put, List.setIfInBounds_toArray, List.set_cons_zero, List.set_cons_succ, i64_w, i32_w]
       rfl
      refine done_ (by kernel_rfl) ?_
      try go_wp2
      go_roundg k2
      case measure => have := HJ1.out; have := HK2.out; omega
      case rel => exact ⟨(x8_2), (ji29), (wrap64 (x8_2 + 1)), (by first | rfl | (simp; done) | (simp [*]; done)), (by first | rfl | (simp; done) | (simp only [← hji29] <;> (first | rfl | simp)) | (simp [*]; done)), (by first | rfl | (simp; done) | (simp [*]; done)), H', ⟨by have := HJ1.out; have := HK2.out; omega⟩, ⟨kb BK489⟩, ⟨kb BK490⟩, ⟨kb BK491⟩, ⟨kl HB⟩⟩
     rw [if_neg c54] at H
     have c54b0 : decide ((ji29) < x7_2) = false := decide_eq_false c54
     clear c54
     have H' := aM H
     clear H
     have hnb78 := NB489_490.out
     have hnc78 := NB490_489.out
     have hnb79 := NB489_491.out
     have hnc79 := NB491_489.out
     have hcz80_0 : wr.cell? ⟨gb489, 0, none⟩ = some (.bool a0_0) := bc BK489 0
     have hcz80_1 : wr.cell? ⟨gb489, 1, none⟩ = some (.slice A0_1 l0_1.length c0_1) := bc BK489 1
     have hcz80_2 : wr.cell? ⟨gb489, 2, none⟩ = some (.slice A0_2 l0_2.length c0_2) := bc BK489 2
     have hfz80_0 := blk_frozen BK489.out 0
     have hfz80_1 := blk_frozen BK489.out 1
     have hfz80_2 := blk_frozen BK489.out 2
     try go_wp2_with (first | ((with_reducible refine gate_callee (f := 50) rfl ?_); refine goesL_ (some 38) rfl rfl Try.func50 (by kernel_rfl) rfl #[.agg #[.bool a0_0, .slice A0_1 l0_1.length c0_1, .slice A0_2 l0_2.length c0_2], .int .i64 x8_2] rfl (by (try simp only [List.map_toArray, List.map_cons, List.map_nil]); first | done | rfl | (simp only [List.length_drop, List.length_take]; rfl)) ?_; (with_reducible refine (rf_cut.calls a0_0 _ _ l0_1 _ _ l0_2 x8_2 t509 t510 t513 t516 t517 t520 _ ?side1 ?side2 ?side3 ?side4 A26.out).mono ?_); (case side1 => exact kc (Kd.C_below HR0_1.out HB.out)); (case side2 => exact HC0_1.out); (case side3 => exact kc (Kd.C_below HR0_2.out HB.out)); (case side4 => exact HC0_2.out); rintro e w81 ⟨v511, v514, v518, v521, rfl, ho0, ho1, ho2, ho3, hb⟩; refine ⟨_, rfl, ?_⟩; have HO512 := aM (Kd.R_lower ho0 (below_size (kl HB))); have HO515 := aM (Kd.R_lower ho1 (below_size (kl HB))); have HO519 := aM (Kd.R_lower ho2 (below_size (kl HB))); have HO522 := aM (Kd.R_lower ho3 (below_size (kl HB))); replace BK489 := bb BK489 hb; replace BK490 := bb BK490 hb; replace BK491 := bb BK491 hb; replace HB := aM (below_step (kl HB) hb); clear hb ho0 ho1 ho2 ho3) | ((with_reducible refine gate_dst (N := 9) rfl ?_); refine box_event ?hg (N := 9) ?hd (cs := #[.bool false, .slice none 0 0, .slice none 0 0]) (t := 25) ?hr ?_; (case hd => rfl); (case hg => rfl); (case hr => first | (go_simp; done) | (go_simp; rfl)); intro gb523 hg w82 hbox hb; replace HO512 := rb HO512 hb; replace HO515 := rb HO515 hb; replace HO519 := rb HO519 hb; replace HO522 := rb HO522 hb; have BK523 := aM (hbox); have GW523 := gw hg HB; have GE523 := gw hg HB; replace HB := aM (below_step (kl HB) hb); have NB489_523 := nl hg BK489; have NB523_489 := ng hg BK489; replace BK489 := bb BK489 hb; have NB490_523 := nl hg BK490; have NB523_490 := ng hg BK490; replace BK490 := bb BK490 hb; have NB491_523 := nl hg BK491; have NB523_491 := ng hg BK491; replace BK491 := bb BK491 hb; clear hb hbox hg) | ((with_reducible refine gate_dst (N := 10) rfl ?_); refine box_event ?hg (N := 10) ?hd (cs := #[.bool false, .slice none 0 0, .slice none 0 0]) (t := 25) ?hr ?_; (case hd => rfl); (case hg => rfl); (case hr => first | (go_simp; done) | (go_simp; rfl)); intro gb524 hg w83 hbox hb; replace HO512 := rb HO512 hb; replace HO515 := rb HO515 hb; replace HO519 := rb HO519 hb; replace HO522 := rb HO522 hb; have BK524 := aM (hbox); have GW524 := gw hg HB; have GE524 := gw hg HB; replace HB := aM (below_step (kl HB) hb); have NB489_524 := nl hg BK489; have NB524_489 := ng hg BK489; replace BK489 := bb BK489 hb; have NB490_524 := nl hg BK490; have NB524_490 := ng hg BK490; replace BK490 := bb BK490 hb; have NB491_524 := nl hg BK491; have NB524_491 := ng hg BK491; replace BK491 := bb BK491 hb; have NB523_524 := nl hg BK523; have NB524_523 := ng hg BK523; replace BK523 := bb BK523 hb; clear hb hbox hg; have hnb84 := NB523_489.out; have hnc84 := NB489_523.out; have hnb85 := NB523_490.out; have hnc85 := NB490_523.out; have hnb86 := NB523_491.out; have hnc86 := NB491_523.out; have hnb87 := NB523_524.out; have hnc87 := NB524_523.out; have hcz88_0 : w83.cell? ⟨gb523, 0, none⟩ = some (.bool false) := bc BK523 0; have hcz88_1 : w83.cell? ⟨gb523, 1, none⟩ = some (.slice none 0 0) := bc BK523 1; have hcz88_2 : w83.cell? ⟨gb523, 2, none⟩ = some (.slice none 0 0) := bc BK523 2; have hfz88_0 := blk_frozen BK523.out 0; have hfz88_1 := blk_frozen BK523.out 1; have hfz88_2 := blk_frozen BK523.out 2; obtain ⟨Ao89, co89, eo89⟩ := Kd.R_slice HO512.out; subst eo89; obtain ⟨Ao90, co90, eo90⟩ := Kd.R_slice HO515.out; subst eo90; have hnb91 := NB524_489.out; have hnc91 := NB489_524.out; have hnb92 := NB524_490.out; have hnc92 := NB490_524.out; have hnb93 := NB524_491.out; have hnc93 := NB491_524.out; have hcz94_0 : w83.cell? ⟨gb524, 0, none⟩ = some (.bool false) := bc BK524 0; have hcz94_1 : w83.cell? ⟨gb524, 1, none⟩ = some (.slice none 0 0) := bc BK524 1; have hcz94_2 : w83.cell? ⟨gb524, 2, none⟩ = some (.slice none 0 0) := bc BK524 2; have hfz94_0 := blk_frozen BK524.out 0; have hfz94_1 := blk_frozen BK524.out 1; have hfz94_2 := blk_frozen BK524.out 2; obtain ⟨Ao95, co95, eo95⟩ := Kd.R_slice HO519.out; subst eo95; obtain ⟨Ao96, co96, eo96⟩ := Kd.R_slice HO522.out; subst eo96))
     have n0_ : Aside0 (Kd.R k75 75 ((((((w83.setCell ⟨gb523, 0, none⟩ (.bool t509)).setCell ⟨gb523, 1, none⟩ (.slice Ao89 t510.length co89)).setCell ⟨gb523, 2, none⟩ (.slice Ao90 t513.length co90)).setCell ⟨gb524, 0, none⟩ (.bool t516)).setCell ⟨gb524, 1, none⟩ (.slice Ao95 t517.length co95)).setCell ⟨gb524, 2, none⟩ (.slice Ao96 t520.length co96)) w.heap.size (fun k_ => some k_ ≠ (.slice Ao95 t517.length co95 : Value).ownBlock) (.slice Ao89 t510.length co89) t510) := ⟨by exact Kd.R_mono (Kd.R_far (Kd.R_far (Kd.R_far (Kd.R_far (Kd.R_far (Kd.R_far (Kd.R_types (Kd.R_types HO512.out BK523.out (by decide)) BK524.out (by decide)) (fun _ hk => hk.1.2) _) (fun _ hk => hk.1.2) _) (fun _ hk => hk.1.2) _) (fun _ hk => hk.2) _) (fun _ hk => hk.2) _) (fun _ hk => hk.2) _) (fun _ hk => hk.1.1)⟩
     have n1_ : Aside0 (Kd.R k76 76 ((((((w83.setCell ⟨gb523, 0, none⟩ (.bool t509)).setCell ⟨gb523, 1, none⟩ (.slice Ao89 t510.length co89)).setCell ⟨gb523, 2, none⟩ (.slice Ao90 t513.length co90)).setCell ⟨gb524, 0, none⟩ (.bool t516)).setCell ⟨gb524, 1, none⟩ (.slice Ao95 t517.length co95)).setCell ⟨gb524, 2, none⟩ (.slice Ao96 t520.length co96)) w.heap.size (fun k_ => some k_ ≠ (.slice Ao96 t520.length co96 : Value).ownBlock) (.slice Ao90 t513.length co90) t513) := ⟨by exact Kd.R_mono (Kd.R_far (Kd.R_far (Kd.R_far (Kd.R_far (Kd.R_far (Kd.R_far (Kd.R_types (Kd.R_types HO515.out BK523.out (by decide)) BK524.out (by decide)) (fun _ hk => hk.1.2) _) (fun _ hk => hk.1.2) _) (fun _ hk => hk.1.2) _) (fun _ hk => hk.2) _) (fun _ hk => hk.2) _) (fun _ hk => hk.2) _) (fun _ hk => hk.1.1)⟩
     have n2_ : Aside0 (Kd.R k75 75 ((((((w83.setCell ⟨gb523, 0, none⟩ (.bool t509)).setCell ⟨gb523, 1, none⟩ (.slice Ao89 t510.length co89)).setCell ⟨gb523, 2, none⟩ (.slice Ao90 t513.length co90)).setCell ⟨gb524, 0, none⟩ (.bool t516)).setCell ⟨gb524, 1, none⟩ (.slice Ao95 t517.length co95)).setCell ⟨gb524, 2, none⟩ (.slice Ao96 t520.length co96)) w.heap.size (fun k_ => some k_ ≠ (.slice Ao89 t510.length co89 : Value).ownBlock) (.slice Ao95 t517.length co95) t517) := ⟨by exact Kd.R_mono (Kd.R_far (Kd.R_far (Kd.R_far (Kd.R_far (Kd.R_far (Kd.R_far (Kd.R_types (Kd.R_types HO519.out BK523.out (by decide)) BK524.out (by decide)) (fun _ hk => hk.1.2) _) (fun _ hk => hk.1.2) _) (fun _ hk => hk.1.2) _) (fun _ hk => hk.2) _) (fun _ hk => hk.2) _) (fun _ hk => hk.2) _) (fun _ hk => hk.1.1)⟩
     have n3_ : Aside0 (Kd.R k76 76 ((((((w83.setCell ⟨gb523, 0, none⟩ (.bool t509)).setCell ⟨gb523, 1, none⟩ (.slice Ao89 t510.length co89)).setCell ⟨gb523, 2, none⟩ (.slice Ao90 t513.length co90)).setCell ⟨gb524, 0, none⟩ (.bool t516)).setCell ⟨gb524, 1, none⟩ (.slice Ao95 t517.length co95)).setCell ⟨gb524, 2, none⟩ (.slice Ao96 t520.length co96)) w.heap.size (fun k_ => some k_ ≠ (.slice Ao90 t513.length co90 : Value).ownBlock) (.slice Ao96 t520.length co96) t520) := ⟨by exact Kd.R_mono (Kd.R_far (Kd.R_far (Kd.R_far (Kd.R_far (Kd.R_far (Kd.R_far (Kd.R_types (Kd.R_types HO522.out BK523.out (by decide)) BK524.out (by decide)) (fun _ hk => hk.1.2) _) (fun _ hk => hk.1.2) _) (fun _ hk => hk.1.2) _) (fun _ hk => hk.2) _) (fun _ hk => hk.2) _) (fun _ hk => hk.2) _) (fun _ hk => hk.1.1)⟩
     have n4_ : Aside0 (((((((w83.setCell ⟨gb523, 0, none⟩ (.bool t509)).setCell ⟨gb523, 1, none⟩ (.slice Ao89 t510.length co89)).setCell ⟨gb523, 2, none⟩ (.slice Ao90 t513.length co90)).setCell ⟨gb524, 0, none⟩ (.bool t516)).setCell ⟨gb524, 1, none⟩ (.slice Ao95 t517.length co95)).setCell ⟨gb524, 2, none⟩ (.slice Ao96 t520.length co96)).heap[gb489]? = some (.cells #[.bool a0_0, .slice A0_1 l0_1.length c0_1, .slice A0_2 l0_2.length c0_2] 25 (0, 0))) := ⟨kg2 NB489_524 NB489_523 BK489⟩
     have n5_ : Aside0 (((((((w83.setCell ⟨gb523, 0, none⟩ (.bool t509)).setCell ⟨gb523, 1, none⟩ (.slice Ao89 t510.length co89)).setCell ⟨gb523, 2, none⟩ (.slice Ao90 t513.length co90)).setCell ⟨gb524, 0, none⟩ (.bool t516)).setCell ⟨gb524, 1, none⟩ (.slice Ao95 t517.length co95)).setCell ⟨gb524, 2, none⟩ (.slice Ao96 t520.length co96)).heap[gb490]? = some (.cells #[.bool false, .slice none 0 0, .slice none 0 0] 25 (0, 0))) := ⟨kg2 NB490_524 NB490_523 BK490⟩
     have n6_ : Aside0 (((((((w83.setCell ⟨gb523, 0, none⟩ (.bool t509)).setCell ⟨gb523, 1, none⟩ (.slice Ao89 t510.length co89)).setCell ⟨gb523, 2, none⟩ (.slice Ao90 t513.length co90)).setCell ⟨gb524, 0, none⟩ (.bool t516)).setCell ⟨gb524, 1, none⟩ (.slice Ao95 t517.length co95)).setCell ⟨gb524, 2, none⟩ (.slice Ao96 t520.length co96)).heap[gb491]? = some (.cells #[.bool false, .slice none 0 0, .slice none 0 0] 25 (0, 0))) := ⟨kg2 NB491_524 NB491_523 BK491⟩
     have n7_ : Aside0 (((((((w83.setCell ⟨gb523, 0, none⟩ (.bool t509)).setCell ⟨gb523, 1, none⟩ (.slice Ao89 t510.length co89)).setCell ⟨gb523, 2, none⟩ (.slice Ao90 t513.length co90)).setCell ⟨gb524, 0, none⟩ (.bool t516)).setCell ⟨gb524, 1, none⟩ (.slice Ao95 t517.length co95)).setCell ⟨gb524, 2, none⟩ (.slice Ao96 t520.length co96)).heap[gb523]? = some (.cells #[.bool t509, .slice Ao89 t510.length co89, .slice Ao90 t513.length co90] 25 (0, 0))) := ⟨by (with_reducible repeat (first | refine blk_drewN ?_ _ | refine blk_drew ?_ | refine blk_alloc ?_ _)); refine blk_far ?_ NB523_524.out _; (with_reducible repeat (first | refine blk_drewN ?_ _ | refine blk_drew ?_ | refine blk_alloc ?_ _)); refine blk_far ?_ NB523_524.out _; (with_reducible repeat (first | refine blk_drewN ?_ _ | refine blk_drew ?_ | refine blk_alloc ?_ _)); refine blk_far ?_ NB523_524.out _; (with_reducible repeat (first | refine blk_drewN ?_ _ | refine blk_drew ?_ | refine blk_alloc ?_ _)); refine blk_put (cs := #[.bool t509, .slice Ao89 t510.length co89, .slice none 0 0]) ?_ 2 _ rfl; (with_reducible repeat (first | refine blk_drewN ?_ _ | refine blk_drew ?_ | refine blk_alloc ?_ _)); refine blk_put (cs := #[.bool t509, .slice none 0 0, .slice none 0 0]) ?_ 1 _ rfl; (with_reducible repeat (first | refine blk_drewN ?_ _ | refine blk_drew ?_ | refine blk_alloc ?_ _)); refine blk_put (cs := #[.bool false, .slice none 0 0, .slice none 0 0]) ?_ 0 _ rfl; exact kb BK523⟩
     have n8_ : Aside0 (((((((w83.setCell ⟨gb523, 0, none⟩ (.bool t509)).setCell ⟨gb523, 1, none⟩ (.slice Ao89 t510.length co89)).setCell ⟨gb523, 2, none⟩ (.slice Ao90 t513.length co90)).setCell ⟨gb524, 0, none⟩ (.bool t516)).setCell ⟨gb524, 1, none⟩ (.slice Ao95 t517.length co95)).setCell ⟨gb524, 2, none⟩ (.slice Ao96 t520.length co96)).heap[gb524]? = some (.cells #[.bool t516, .slice Ao95 t517.length co95, .slice Ao96 t520.length co96] 25 (0, 0))) := ⟨by (with_reducible repeat (first | refine blk_drewN ?_ _ | refine blk_drew ?_ | refine blk_alloc ?_ _)); refine blk_put (cs := #[.bool t516, .slice Ao95 t517.length co95, .slice none 0 0]) ?_ 2 _ rfl; (with_reducible repeat (first | refine blk_drewN ?_ _ | refine blk_drew ?_ | refine blk_alloc ?_ _)); refine blk_put (cs := #[.bool t516, .slice none 0 0, .slice none 0 0]) ?_ 1 _ rfl; (with_reducible repeat (first | refine blk_drewN ?_ _ | refine blk_drew ?_ | refine blk_alloc ?_ _)); refine blk_put (cs := #[.bool false, .slice none 0 0, .slice none 0 0]) ?_ 0 _ rfl; exact kf NB524_523 BK524⟩
     have n9_ : Aside0 (Below w.heap.size w ((((((w83.setCell ⟨gb523, 0, none⟩ (.bool t509)).setCell ⟨gb523, 1, none⟩ (.slice Ao89 t510.length co89)).setCell ⟨gb523, 2, none⟩ (.slice Ao90 t513.length co90)).setCell ⟨gb524, 0, none⟩ (.bool t516)).setCell ⟨gb524, 1, none⟩ (.slice Ao95 t517.length co95)).setCell ⟨gb524, 2, none⟩ (.slice Ao96 t520.length co96))) := ⟨kl HB⟩
     (try clear HO512)
     (try clear HO515)
     (try clear HO519)
     (try clear HO522)
     (try clear BK489)
     (try clear BK490)
     (try clear BK491)
     (try clear BK523)
     (try clear BK524)
     (try clear HB)
     generalize ((((((w83.setCell ⟨gb523, 0, none⟩ (.bool t509)).setCell ⟨gb523, 1, none⟩ (.slice Ao89 t510.length co89)).setCell ⟨gb523, 2, none⟩ (.slice Ao90 t513.length co90)).setCell ⟨gb524, 0, none⟩ (.bool t516)).setCell ⟨gb524, 1, none⟩ (.slice Ao95 t517.length co95)).setCell ⟨gb524, 2, none⟩ (.slice Ao96 t520.length co96)) = w97 at n0_ n1_ n2_ n3_ n4_ n5_ n6_ n7_ n8_ n9_ ⊢
     have HO512 := n0_
     have HO515 := n1_
     have HO519 := n2_
     have HO522 := n3_
     have BK489 := n4_
     have BK490 := n5_
     have BK491 := n6_
     have BK523 := n7_
     have BK524 := n8_
     have HB := n9_
     clear n0_ n1_ n2_ n3_ n4_ n5_ n6_ n7_ n8_ n9_
     replace HO512 := aM (Kd.R_drew HO512.out)
     replace HO515 := aM (Kd.R_drew HO515.out)
     replace HO519 := aM (Kd.R_drew HO519.out)
     replace HO522 := aM (Kd.R_drew HO522.out)
     replace BK489 := aM (blk_drew BK489.out)
     replace BK490 := aM (blk_drew BK490.out)
     replace BK491 := aM (blk_drew BK491.out)
     replace BK523 := aM (blk_drew BK523.out)
     replace BK524 := aM (blk_drew BK524.out)
     replace HB := aM (below_drew1 HB.out)
     refine start_ (n := 6) (S := fun w' => w'.cell? ⟨gb523, 0, none⟩ = some (.bool t509) ∧ w'.cell? ⟨gb523, 1, none⟩ = some (.slice Ao89 t510.length co89) ∧ w'.cell? ⟨gb523, 2, none⟩ = some (.slice Ao90 t513.length co90) ∧ w'.cell? ⟨gb524, 0, none⟩ = some (.bool t516) ∧ w'.cell? ⟨gb524, 1, none⟩ = some (.slice Ao95 t517.length co95) ∧ w'.cell? ⟨gb524, 2, none⟩ = some (.slice Ao96 t520.length co96)) (ds := []) #[false, false, false, false, false, false] (by kernel_rfl) rfl rfl ⟨bc BK523 0, bc BK523 1, bc BK523 2, bc BK524 0, bc BK524 1, bc BK524 2⟩ (fun hHeld => ?_)
     generalize w97.drew = w98 at HO512 HO515 HO519 HO522 BK489 BK490 BK491 BK523 BK524 HB hHeld ⊢
     refine take_ (i := 0) (N := some 41) (v := ?_) (a' := ?_) #[true, false, false, false, false, false] rfl rfl (by kernel_rfl) (fun _ _ _ h => h) (Or.inl ⟨by rfl, ?_⟩) hHeld ?_ ?_
     rotate_left
     ·rintro w' ⟨s0, s1, s2, s3, s4, s5⟩
      go_simp
      with_reducible rfl
     rotate_left
     ·simp only [Act.put, List.setIfInBounds_toArray, List.set_cons_zero, List.set_cons_succ, i64_w, i32_w]
      rfl
     refine take_ (i := 2) (N := some 43) (v := ?_) (a' := ?_) #[true, false, true, false, false, false] rfl rfl (by kernel_rfl) (fun _ _ _ h => h) (Or.inl ⟨by rfl, ?_⟩) hHeld ?_ ?_
     rotate_left
     ·rintro w' ⟨s0, s1, s2, s3, s4, s5⟩
      go_simp
      with_reducible rfl
     rotate_left
     ·simp only [Act.put, List.setIfInBounds_toArray, List.set_cons_zero, List.set_cons_succ, i64_w, i32_w]
      rfl
     refine one_ (i := 1) (N := some 42) #[true, true, true, false, false, false] rfl rfl (by kernel_rfl) (by decide) (fun K hK => ?_)
     refine goes_ Try.func22 (by kernel_rfl) rfl #[.agg #[.bool t509, .slice Ao89 t510.length co89, .slice Ao90 t513.length co90]] (by rfl) rfl rfl (by (try simp only [List.map_toArray, List.map_cons, List.map_nil]); first | done | rfl | (simp only [List.length_drop, List.length_take]; rfl)) ?_
     with_reducible refine (rf_Size.calls k2 t509 _ _ t510 _ _ t513 t525 _ ?side1 ?side2 ?side3 ?side4 A27.out).mono ?_
     (case side1 => exact kc (Kd.R_reads' HO512.out).2.2)
     (case side2 => exact (Kd.R_reads' HO512.out).2.1)
     (case side3 => exact kc (Kd.R_reads' HO515.out).2.2)
     (case side4 => exact (Kd.R_reads' HO515.out).2.1)
     rintro e w99 ⟨rfl, hb⟩
     refine ⟨_, rfl, ?_⟩
     replace HO512 := rb HO512 hb
     replace HO515 := rb HO515 hb
     replace HO519 := rb HO519 hb
     replace HO522 := rb HO522 hb
     replace BK489 := bb BK489 hb
     replace BK490 := bb BK490 hb
     replace BK491 := bb BK491 hb
     replace BK523 := bb BK523 hb
     replace BK524 := bb BK524 hb
     replace HB := aM (below_step (kl HB) hb)
     (try clear hb)
     (try clear hb2)
     (try clear hk)
     (try clear hi)
     refine hK.out _ _ ⟨bc BK523 0, bc BK523 1, bc BK523 2, bc BK524 0, bc BK524 1, bc BK524 2⟩ (fun hHeld => ?_)
     clear hK K
     refine norm_ (a' := ?_) ?_ ?_
     rotate_left
     ·show Act.put _ (some 42) _ = _
      simp only [Act.put, List.setIfInBounds_toArray, List.set_cons_zero, List.set_cons_succ, i64_w, i32_w]
      rfl
     refine one_ (i := 3) (N := some 44) #[true, true, true, true, false, false] rfl rfl (by kernel_rfl) (by decide) (fun K hK => ?_)
     refine goes_ Try.func22 (by kernel_rfl) rfl #[.agg #[.bool t516, .slice Ao95 t517.length co95, .slice Ao96 t520.length co96]] (by rfl) rfl rfl (by (try simp only [List.map_toArray, List.map_cons, List.map_nil]); first | done | rfl | (simp only [List.length_drop, List.length_take]; rfl)) ?_
     with_reducible refine (rf_Size.calls k2 t516 _ _ t517 _ _ t520 t526 _ ?side1 ?side2 ?side3 ?side4 A28.out).mono ?_
     (case side1 => exact kc (Kd.R_reads' HO519.out).2.2)
     (case side2 => exact (Kd.R_reads' HO519.out).2.1)
     (case side3 => exact kc (Kd.R_reads' HO522.out).2.2)
     (case side4 => exact (Kd.R_reads' HO522.out).2.1)
     rintro e w100 ⟨rfl, hb⟩
     refine ⟨_, rfl, ?_⟩
     replace HO512 := rb HO512 hb
     replace HO515 := rb HO515 hb
     replace HO519 := rb HO519 hb
     replace HO522 := rb HO522 hb
     replace BK489 := bb BK489 hb
     replace BK490 := bb BK490 hb
     replace BK491 := bb BK491 hb
     replace BK523 := bb BK523 hb
     replace BK524 := bb BK524 hb
     replace HB := aM (below_step (kl HB) hb)
     (try clear hb)
     (try clear hb2)
     (try clear hk)
     (try clear hi)
     refine hK.out _ _ ⟨bc BK523 0, bc BK523 1, bc BK523 2, bc BK524 0, bc BK524 1, bc BK524 2⟩ (fun hHeld => ?_)
     clear hK K
     refine norm_ (a' := ?_) ?_ ?_
     rotate_left
     ·show Act.put _ (some 44) _ = _
      simp only [Act.put, List.setIfInBounds_toArray, List.set_cons_zero, List.set_cons_succ, i64_w, i32_w]
      rfl
     refine pure_ (i := 4) (N := some 45) (v := ?_) (a' := ?_) #[true, true, true, true, true, false] rfl rfl (by kernel_rfl) (fun _ _ _ h => h) (Or.inl ⟨by rfl, ?_⟩) ?_ ?_
     rotate_left
     ·intro w'
      go_simp
      with_reducible rfl
     rotate_left
     ·simp only [Act.put, List.setIfInBounds_toArray, List.set_cons_zero, List.set_cons_succ, i64_w, i32_w]
      rfl
     refine pure_ (i := 5) (N := some 11) (v := ?_) (a' := ?_) #[true, true, true, true, true, true] rfl rfl (by kernel_rfl) (fun _ _ _ h => h) (Or.inl ⟨by rfl, ?_⟩) ?_ ?_
     rotate_left
     ·intro w'
      go_simp
      with_reducible rfl
     rotate_left
     ·simp only [Act.put, List.setIfInBounds_toArray, List.set_cons_zero, List.set_cons_succ, i64_w, i32_w]
      rfl
     refine done_ (by kernel_rfl) ?_
     try go_wp2
     go_roundg k2
     case measure => have := HJ1.out; have := HK2.out; omega
     case rel => exact ⟨(x6_2), (x7_2), (wrap64 (x8_2 + 1)), (by first | rfl | (simp; done) | (simp [*]; done)), (by first | rfl | (simp; done) | (simp [*]; done)), (by first | rfl | (simp; done) | (simp [*]; done)), H', ⟨by have := HJ1.out; have := HK2.out; omega⟩, ⟨kb BK489⟩, ⟨kb BK490⟩, ⟨kb BK491⟩, ⟨kl HB⟩⟩
end Go.Proofs.Ytfbaejhjppikpaa.P
namespace Go.Proofs.Ytfbaejhjppikpaa.P
open Go.RowKit Go.Proofs.YtfbaejhjppikpaaW.PrintWords Go.Proofs.YtfbaejhjppikpaaW.PrintLast Go.Proofs.YtfbaejhjppikpaaW.PrintMore
open Go.Proofs.YtfbaejhjppikpaaB
theorem sizeN_cut {a : Bool} {E : List S47} {M : List S36} (h : if a then M = [] else E = []) (b : Nat) : sizeN (E.take b) (M.take b) = 1 + sumTo (sizesN E M) b ∧ sizeN (E.drop b) (M.drop b) = 1 + ((sizesN E M).sum - sumTo (sizesN E M) b) := by
  obtain ⟨h1, h2⟩ := sizes_take h b
  have h3 := sum_split (sizesN E M) b
  unfold sizeN
  rw [h1, h2]
  refine ⟨rfl, ?_⟩
  omega
theorem cut_tells (a : Bool) (l : List S75) (m : List S76) (h : if a then m = [] else l = []) (b : Nat) (hb : b ≤ l.length + m.length) (hl : l.length ≤ 1000) (hm : m.length ≤ 1000) :
    rf_cut.f a l m (b : Int) = some (a, l.take b, m.take b, a, l.drop b, m.drop b) := by
  unfold rf_cut.f
  cases a with
  | true =>
    simp only [if_true] at h
    subst h
    simp only [List.length_nil] at hb
    rw [if_pos rfl, if_pos (by omega), if_pos (by omega)]
    simp only [Option.bind_some, Int.toNat_natCast, List.length_nil, Nat.zero_add, List.nil_append, List.take_nil, List.drop_nil]
    rw [if_pos (by rw [List.length_take]; omega), if_pos (by rw [List.length_drop]; omega)]
  | false =>
    simp only [Bool.false_eq_true, if_false] at h
    subst h
    simp only [List.length_nil] at hb
    rw [if_neg (by decide), if_pos (by omega), if_pos (by omega)]
    simp only [Option.bind_some, Int.toNat_natCast, List.length_nil, Nat.zero_add, List.nil_append, List.take_nil, List.drop_nil]
    rw [if_pos (by rw [List.length_take]; omega), if_pos (by rw [List.length_drop]; omega)]
theorem mx_one (x y : Int) : mx (1 + x) (1 + y) = 1 + mx x y := by unfold mx; split <;> split <;> omega
theorem refSplit_l0 (a : Bool) (l : List S75) (m : List S76) (hS : Small (l.map toE) (m.map toB)) (hp : if a then m.map toB = [] else l.map toE = []) (n : Nat) (hn : l.length + m.length = n + 1) (hn1 : 1 ≤ n) : ∀ (d i k best : Nat) (least : Int), i + d = n → 5000 ≤ k → SplitInv (sizesN (l.map toE) (m.map toB)) i best least →
    ∃ b, IsBest (sizesN (l.map toE) (m.map toB)) b ∧ rf_Split.l0 (d + (k + 1)) ((n + 1 : Nat) : Int) (best : Int) (if best = 0 then 0 else 1 + least) ((i + 1 : Nat) : Int) a l m = some (a, l.take b, m.take b, a, l.drop b, m.drop b, (0 : Int)) := by
  have hp' : if a then m = [] else l = [] := by
    cases a <;> simpa using hp
  obtain ⟨hl, hm, _, _⟩ := small_back hS
  have hlen : (sizesN (l.map toE) (m.map toB)).length = n + 1 := by rw [sizesN_len, List.length_map, List.length_map]; exact hn
  intro d
  induction d with
  | zero =>
    intro i k best least h hk hI
    refine ⟨best, ?_, ?_⟩
    · rcases hI with hI | ⟨g1, g2, g3, g4, g5⟩
      · omega
      · exact ⟨g1, by omega, g4, fun c hc hc' => g5 c hc (by omega)⟩
    · rw [show 0 + (k + 1) = k + 1 from by omega]
      simp only [rf_Split.l0]
      have hbl : best ≤ l.length + m.length := by
        rcases hI with hI | ⟨g1, g2, _⟩ <;> omega
      rw [if_neg (by omega), cut_tells a l m hp' best hbl hl hm]; rfl
  | succ d ih =>
    intro i k best least h hk hI
    obtain ⟨q, hq⟩ : ∃ q, q = d + (k + 1) := ⟨_, rfl⟩
    rw [show d + 1 + (k + 1) = q + 1 from by omega]
    obtain ⟨z1, z2⟩ := sizeN_cut hp (i + 1)
    obtain ⟨s1, s2⟩ := small_take hS (i + 1)
    rw [← List.map_take, ← List.map_take] at z1 s1
    rw [← List.map_drop, ← List.map_drop] at z2 s2
    have hc : mx (sizeN ((l.take (i + 1)).map toE) ((m.take (i + 1)).map toB)) (sizeN ((l.drop (i + 1)).map toE) ((m.drop (i + 1)).map toB)) = 1 + costAt (sizesN (l.map toE) (m.map toB)) (i + 1) := by
      rw [z1, z2, mx_one]; rfl
    simp only [rf_Split.l0]
    rw [if_pos (by omega), cut_tells a l m hp' (i + 1) (by omega) hl hm]
    simp only [Option.bind_some]
    rw [refSize_tells a _ _ s1 q (by omega), refSize_tells a _ _ s2 q (by omega)]
    simp only [Option.bind_some]
    rw [hc, wrap_nat (i + 1) (by omega)]
    generalize sizesN (l.map toE) (m.map toB) = L at *
    rcases hI with ⟨g1, g2⟩ | ⟨g1, g2, g3, g4, g5⟩
    · rw [if_pos (by omega), hq]
      have := ih (i + 1) k (i + 1) (costAt L (i + 1)) (by omega) hk (.inr ⟨by omega, Nat.le_refl _, rfl, fun c hc hc' => by omega, fun c hc hc' => by rw [show c = i + 1 from by omega]; exact Int.le_refl _⟩)
      rw [if_neg (by omega)] at this
      exact this
    · rw [if_neg (by omega), if_neg (by omega : ¬ best = 0)]
      by_cases e : costAt L (i + 1) < least
      · rw [if_pos (by omega), hq]
        have := ih (i + 1) k (i + 1) (costAt L (i + 1)) (by omega) hk (.inr ⟨by omega, Nat.le_refl _, rfl, fun c hc hc' => by
          by_cases f : c < best
          · have := g4 c hc f; omega
          · have := g5 c (by omega) (by omega); omega, fun c hc hc' => by rw [show c = i + 1 from by omega]; exact Int.le_refl _⟩)
        rw [if_neg (by omega)] at this
        exact this
      · rw [if_neg (by omega), hq]
        have := ih (i + 1) k best least (by omega) hk (.inr ⟨g1, by omega, g3, g4, fun c hc hc' => by
          by_cases f : c ≤ i
          · exact g5 c hc f
          · rw [show c = i + 1 from by omega]; omega⟩)
        rw [if_neg (by omega)] at this
        exact this
theorem refSplit_tells (a : Bool) (l : List S75) (m : List S76) (hS : Small (l.map toE) (m.map toB)) (k : Nat) (hk : 8000 ≤ k) :
    (canSplit a (l.map toE) (m.map toB) = false → rf_Split.f k a l m = some (false, [], [], false, [], [], 4)) ∧
    (canSplit a (l.map toE) (m.map toB) = true → ∃ b, IsBest (sizesN (l.map toE) (m.map toB)) b ∧ rf_Split.f k a l m = some (a, l.take b, m.take b, a, l.drop b, m.drop b, 0)) := by
  obtain ⟨hl, hm, _, _⟩ := small_back hS
  obtain ⟨k, rfl⟩ : ∃ q, k = q + 1 := ⟨k - 1, by omega⟩
  have hw : wrap64 ((l.length : Int) + (m.length : Int)) = ((l.length + m.length : Nat) : Int) := by unfold wrap64; omega
  unfold rf_Split.f
  rw [refMay_tells a l m hl hm (k + 1) (by omega), hw]
  simp only [Option.bind_some]
  unfold canSplit
  rw [List.length_map, List.length_map]
  cases e : mayB a (l.map toE) (m.map toB) with
  | false =>
    rw [if_neg (by decide)]
    simp only [rf_Split.j0, if_true, Bool.false_and]
    simp
  | true =>
    rw [if_pos rfl, Bool.true_and]
    by_cases h2 : 2 ≤ l.length + m.length
    · rw [decide_eq_true h2, decide_eq_false (by omega)]
      refine ⟨fun h => by simp at h, fun _ => ?_⟩
      obtain ⟨hp, _, _⟩ := may_parts e
      obtain ⟨n, hn⟩ : ∃ n, l.length + m.length = n + 1 := ⟨l.length + m.length - 1, by omega⟩
      simp only [rf_Split.j0, Bool.false_eq_true, if_false]
      obtain ⟨q, hq⟩ : ∃ q, k = n + (q + 1) := ⟨k - n - 1, by omega⟩
      obtain ⟨b, hb, hs⟩ := refSplit_l0 a l m hS hp n hn (by omega) n 0 q 0 0 (by omega) (by omega) (.inl ⟨rfl, rfl⟩)
      refine ⟨b, hb, ?_⟩
      rw [hq, hn]
      exact hs
    · rw [decide_eq_false h2, decide_eq_true (by omega)]
      simp only [rf_Split.j0, if_true]
      simp
end Go.Proofs.Ytfbaejhjppikpaa.P
namespace Go.Proofs.Ytfbaejhjppikpaa.P
open Go.RowKit Go.Proofs.YtfbaejhjppikpaaW.PrintWords Go.Proofs.YtfbaejhjppikpaaW.PrintLast Go.Proofs.YtfbaejhjppikpaaW.PrintMore
attribute [local go_sem] max2_int min2_int max_two min_two max_three min_three max_four min_four
set_option linter.unusedVariables false
set_option linter.unusedSimpArgs false
end Go.Proofs.Ytfbaejhjppikpaa.P
