import Derived.Test.YtfbaejhjppikpaaKLeafTells0
import Derived.Test.YtfbaejhjppikpaaKLeafTells1
import Derived.Outline
import Derived.IntWalk
import Derived.WalkSpells
import Derived.RegionTactic
import Derived.ChangeAlike
import Derived.BigQuiet
import Derived.Laws.EntriesVeiled
import Derived.Deep.RegionLaw
import Derived.Laws.BitsLemmas
namespace Go.Proofs.Ytfbaejhjppikpaa.P
open Go.RowKit Go.Proofs.YtfbaejhjppikpaaW.PrintWords Go.Proofs.YtfbaejhjppikpaaW.PrintLast Go.Proofs.YtfbaejhjppikpaaW.PrintMore
attribute [local go_sem] max2_int min2_int max_two min_two max_three min_three max_four min_four
set_option linter.unusedVariables false
set_option linter.unusedSimpArgs false
mutual
def rf_May.j0 : Nat → Bool → Bool → List S75 → List S76 → Option (Bool)
 | 0, _, _, _, _ => none
 | k + 1, x25, x406000, x406001, x406002 => if x25 = true then (some false) else (rf_May.l0 k 0 x406000 x406001 x406002)
def rf_May.l0 : Nat → Int → Bool → List S75 → List S76 → Option (Bool)
 | 0, _, _, _, _ => none
 | k + 1, x3, x406000, x406001, x406002 => if x3 < (x406001.length : Int) then (if 0 ≤ x3 then (if (((rd_T75 x406001 x3).f0).size : Int) < 1 then (some false) else (if (((rd_T75 x406001 x3).f0).size : Int) > 24 then (some false) else (if (((rd_T75 x406001 x3).f1).size : Int) > 100 then (some false) else (if x3 > 0 then (if 0 ≤ (wrap64 (x3 - 1)) then (if (wrap64 (x3 - 1)) < (x406001.length : Int) then (if ((Op.bytesLess (((rd_T75 x406001 (wrap64 (x3 - 1))).f0).toList) (((rd_T75 x406001 x3).f0).toList)) = true) then (rf_May.l0 k (wrap64 (x3 + 1)) x406000 x406001 x406002) else (some false)) else (none)) else (none)) else (rf_May.l0 k (wrap64 (x3 + 1)) x406000 x406001 x406002))))) else (none)) else (rf_May.l1 k 0 x406000 x406001 x406002)
def rf_May.l1 : Nat → Int → Bool → List S75 → List S76 → Option (Bool)
 | 0, _, _, _, _ => none
 | k + 1, x5, x406000, x406001, x406002 => if x5 < (x406002.length : Int) then (if 0 ≤ x5 then (if x5 > 0 then (if (((rd_T76 x406002 x5).f0).size : Int) < 1 then (some false) else (if (((rd_T76 x406002 x5).f0).size : Int) > 24 then (some false) else (if ((rd_T76 x406002 x5).f1) < 2 then (some false) else (if ((rd_T76 x406002 x5).f1) > 1023 then (some false) else (if 0 ≤ (wrap64 (x5 - 1)) then (if (wrap64 (x5 - 1)) < (x406002.length : Int) then (if ((Op.bytesLess (((rd_T76 x406002 (wrap64 (x5 - 1))).f0).toList) (((rd_T76 x406002 x5).f0).toList)) = true) then (rf_May.l1 k (wrap64 (x5 + 1)) x406000 x406001 x406002) else (some false)) else (none)) else (none)))))) else (if (((rd_T76 x406002 x5).f0).size : Int) > 24 then (some false) else (if ((rd_T76 x406002 x5).f1) < 2 then (some false) else (if ((rd_T76 x406002 x5).f1) > 1023 then (some false) else (rf_May.l1 k (wrap64 (x5 + 1)) x406000 x406001 x406002))))) else (none)) else (some true)
end
def rf_May.f (k : Nat) (a0_0 : Bool) (l0_1 : List S75) (l0_2 : List S76) : Option (Bool) := if a0_0 = true then (if (l0_2.length : Int) > 0 then (rf_May.j0 k true a0_0 l0_1 l0_2) else (rf_May.j0 k false a0_0 l0_1 l0_2)) else (rf_May.j0 k (decide ((l0_1.length : Int) > 0)) a0_0 l0_1 l0_2)
set_option maxHeartbeats 8000000 in
set_option maxRecDepth 100000 in
theorem rf_May.calls (k : Nat) (a0_0 : Bool) (A0_1 : Option Addr) (c0_1 : Nat) (l0_1 : List S75) (A0_2 : Option Addr) (c0_2 : Nat) (l0_2 : List S76) (r : Bool) (w : World) (hr0_1 : Kd.C k75 w A0_1 l0_1.length l0_1) (hc0_1 : l0_1.length ≤ c0_1) (hr0_2 : Kd.C k76 w A0_2 l0_2.length l0_2) (hc0_2 : l0_2.length ≤ c0_2) (h : rf_May.f k a0_0 l0_1 l0_2 = some r) :
  Calls Try.prog 21 #[.agg #[.bool a0_0, .slice A0_1 l0_1.length c0_1, .slice A0_2 l0_2.length c0_2]] w fun e w' => e = .returned (.bool r) ∧ Below w.heap.size w w' := by
 have hu25 := Try.underlying25
 have HR0_1 := aM hr0_1
 have HC0_1 := aM hc0_1
 clear hr0_1 hc0_1
 have HR0_2 := aM hr0_2
 have HC0_2 := aM hc0_2
 clear hr0_2 hc0_2
 have HB := aM (Below.refl w.heap.size w)
 have H : (if a0_0 = true then (if (l0_2.length : Int) > 0 then (rf_May.j0 k true a0_0 l0_1 l0_2) else (rf_May.j0 k false a0_0 l0_1 l0_2)) else (rf_May.j0 k (decide ((l0_1.length : Int) > 0)) a0_0 l0_1 l0_2)) = some r := h
 clear h
 have HC2 := aM H
 clear H
 go_enter Try.func21, Try.ntmps21
 go_upto_region 1 with (first | ((with_reducible refine gate_dst (N := 1) rfl ?_); (try (refine gate_guard (by rfl) ?_; dsimp only)); refine box_event ?hg (N := 1) ?hd (cs := #[.bool a0_0, .slice A0_1 l0_1.length c0_1, .slice A0_2 l0_2.length c0_2]) (t := 25) ?hr ?_; (case hd => rfl); (case hg => rfl); (case hr => first | (go_simp; done) | (go_simp; rfl)); intro gb405 hg w3 hbox hb; have BK405 := aM (hbox); have GE405 := gw hg HB; replace HB := aM (below_step (kl HB) hb); clear hb hbox hg))
 (try simp only [Act.put, List.setIfInBounds_toArray, List.set_cons_zero, List.set_cons_succ])
 go_cut [25] (fun v25 wc => ∃ (kq : Nat) (x25_1 : Bool), v25 = .bool x25_1 ∧ Aside0 (rf_May.j0 kq x25_1 a0_0 l0_1 l0_2 = some r) ∧ Aside0 (kq ≤ k) ∧ Aside0 (wc.heap[gb405]? = some (.cells #[.bool a0_0, (.slice A0_1 l0_1.length c0_1), (.slice A0_2 l0_2.length c0_2)] 25 (0, 0))) ∧ Aside0 (Below w.heap.size w wc))
 case first =>
  have H := HC2.out
  clear HC2
  by_cases c4 : a0_0 = true
  rotate_left
  ·replace c4 := Bool.eq_false_iff.mpr c4
   subst c4
   have H1 : (rf_May.j0 k (decide ((l0_1.length : Int) > 0)) false l0_1 l0_2) = some r := by rw [if_neg (show ¬ (false = true) by decide)] at H; exact H
   clear H
   have H := H1
   clear H1
   have H' := aM H
   clear H
   have hcz8_0 : w3.cell? ⟨gb405, 0, none⟩ = some (.bool false) := bc BK405 0
   have hcz8_1 : w3.cell? ⟨gb405, 1, none⟩ = some (.slice A0_1 l0_1.length c0_1) := bc BK405 1
   have hcz8_2 : w3.cell? ⟨gb405, 2, none⟩ = some (.slice A0_2 l0_2.length c0_2) := bc BK405 2
   have hfz8_0 := blk_frozen BK405.out 0
   have hfz8_1 := blk_frozen BK405.out 1
   have hfz8_2 := blk_frozen BK405.out 2
   go_wp2
   go_meet
   case rel => exact ⟨_, (decide ((l0_1.length : Int) > 0)), (by first | rfl | (simp; done) | (simp [*]; done)), H', ⟨by first | omega | exact Nat.le_refl _⟩, ⟨kb BK405⟩, ⟨kl HB⟩⟩
  subst c4
  have H1 : (if (l0_2.length : Int) > 0 then (rf_May.j0 k true true l0_1 l0_2) else (rf_May.j0 k false true l0_1 l0_2)) = some r := by rw [if_pos rfl] at H; exact H
  clear H
  have H := H1
  clear H1
  by_cases c5 : (l0_2.length : Int) > 0
  ·rw [if_pos c5] at H
   have c5b0 : decide (0 < (l0_2.length : Int)) = true := decide_eq_true c5
   have c5b1 : decide (0 < l0_2.length) = true := decide_eq_true (by omega)
   clear c5
   (first | rw [c5b0] | (simp only [i64_w, i32_w]; rw [c5b0]) | skip)
   have H' := aM H
   clear H
   have hcz6_0 : w3.cell? ⟨gb405, 0, none⟩ = some (.bool true) := bc BK405 0
   have hcz6_1 : w3.cell? ⟨gb405, 1, none⟩ = some (.slice A0_1 l0_1.length c0_1) := bc BK405 1
   have hcz6_2 : w3.cell? ⟨gb405, 2, none⟩ = some (.slice A0_2 l0_2.length c0_2) := bc BK405 2
   have hfz6_0 := blk_frozen BK405.out 0
   have hfz6_1 := blk_frozen BK405.out 1
   have hfz6_2 := blk_frozen BK405.out 2
   go_wp2
   go_meet
   case rel => exact ⟨_, (true), (by first | rfl | (simp; done) | (simp [*]; done)), H', ⟨by first | omega | exact Nat.le_refl _⟩, ⟨kb BK405⟩, ⟨kl HB⟩⟩
  rw [if_neg c5] at H
  have c5b0 : decide (0 < (l0_2.length : Int)) = false := decide_eq_false c5
  have c5b1 : decide (0 < l0_2.length) = false := decide_eq_false (by omega)
  clear c5
  (first | rw [c5b0] | (simp only [i64_w, i32_w]; rw [c5b0]) | skip)
  have H' := aM H
  clear H
  have hcz7_0 : w3.cell? ⟨gb405, 0, none⟩ = some (.bool true) := bc BK405 0
  have hcz7_1 : w3.cell? ⟨gb405, 1, none⟩ = some (.slice A0_1 l0_1.length c0_1) := bc BK405 1
  have hcz7_2 : w3.cell? ⟨gb405, 2, none⟩ = some (.slice A0_2 l0_2.length c0_2) := bc BK405 2
  have hfz7_0 := blk_frozen BK405.out 0
  have hfz7_1 := blk_frozen BK405.out 1
  have hfz7_2 := blk_frozen BK405.out 2
  go_wp2
  go_meet
  case rel => exact ⟨_, (false), (by first | rfl | (simp; done) | (simp [*]; done)), H', ⟨by first | omega | exact Nat.le_refl _⟩, ⟨kb BK405⟩, ⟨kl HB⟩⟩
 case rest =>
  clear HC2
  try clear c2
  try clear p2
  try clear c4
  try clear c5
  try clear c5b0
  try clear c5b1
  try clear hcz6_0
  try clear hcz6_1
  try clear hcz6_2
  try clear hcz7_0
  try clear hcz7_1
  try clear hcz7_2
  try clear hcz8_0
  try clear hcz8_1
  try clear hcz8_2
  try clear hfz6_0
  try clear hfz6_1
  try clear hfz6_2
  try clear hfz7_0
  try clear hfz7_1
  try clear hfz7_2
  try clear hfz8_0
  try clear hfz8_1
  try clear hfz8_2
  obtain ⟨kq, x25_1, rfl, HA, HJ1, BK405, HB⟩ := hcut
  cases kq with
  | zero => exact absurd HA.out (by simp [rf_May.j0])
  | succ kj1 =>
   have H := HA.out
   clear HA
   simp only [rf_May.j0] at H
   by_cases c9 : x25_1 = true
   ·subst c9
    have H1 : (some false) = some r := by rw [if_pos rfl] at H; exact H
    clear H
    have H := H1
    clear H1
    obtain rfl := Option.some.inj H
    go_wp2
    go_ret
    exact ⟨by first | rfl | (simp [errW_none, errW_some] <;> rfl) | (simp [*, errW_none, errW_some] <;> rfl), kl HB⟩
   replace c9 := Bool.eq_false_iff.mpr c9
   subst c9
   have H1 : (rf_May.l0 kj1 0 a0_0 l0_1 l0_2) = some r := by rw [if_neg (show ¬ (false = true) by decide)] at H; exact H
   clear H
   have H := H1
   clear H1
   have H' := aM H
   clear H
   go_wp2
   go_loopg [3] kj1 (fun kq v3 w' => ∃ (x3_2 : Int), v3 = .int .i64 x3_2 ∧ Aside0 (rf_May.l0 kq x3_2 a0_0 l0_1 l0_2 = some r) ∧ Aside0 (kq ≤ kj1) ∧ Aside0 (w'.heap[gb405]? = some (.cells #[.bool a0_0, (.slice A0_1 l0_1.length c0_1), (.slice A0_2 l0_2.length c0_2)] 25 (0, 0))) ∧ Aside0 (Below w.heap.size w w'))
   case atStart => exact ⟨(0), (by first | rfl | (simp; done) | (simp [*]; done)), H', ⟨Nat.le_refl _⟩, ⟨kb BK405⟩, ⟨kl HB⟩⟩
   case round =>
    clear H'
    try clear c2
    try clear p2
    try clear c4
    try clear c5
    try clear c5b0
    try clear c5b1
    try clear c9
    try clear hcz6_0
    try clear hcz6_1
    try clear hcz6_2
    try clear hcz7_0
    try clear hcz7_1
    try clear hcz7_2
    try clear hcz8_0
    try clear hcz8_1
    try clear hcz8_2
    try clear hfz6_0
    try clear hfz6_1
    try clear hfz6_2
    try clear hfz7_0
    try clear hfz7_1
    try clear hfz7_2
    try clear hfz8_0
    try clear hfz8_1
    try clear hfz8_2
    try clear p2
    obtain ⟨x3_2, rfl, HA, HK2, BK405, HB⟩ := hrel
    cases gk with
    | zero => exact absurd HA.out (by simp [rf_May.l0])
    | succ k2 =>
     have H := HA.out
     clear HA
     simp only [rf_May.l0] at H
     by_cases c10 : x3_2 < (l0_1.length : Int)
     ·rw [if_pos c10] at H
      have c10b0 : decide (x3_2 < (l0_1.length : Int)) = true := decide_eq_true c10
      clear c10
      by_cases c11 : 0 ≤ x3_2
      rotate_left
      ·rw [if_neg c11] at H
       exact absurd H (by simp)
      rw [if_pos c11] at H
      have c11b0 : decide (0 ≤ x3_2) = true := decide_eq_true c11
      clear c11
      by_cases c12 : (((rd_T75 l0_1 x3_2).f0).size : Int) < 1
      ·rw [if_pos c12] at H
       have c12b0 : decide ((((rd_T75 l0_1 x3_2).f0).size : Int) < 1) = true := decide_eq_true c12
       have c12b1 : decide (((rd_T75 l0_1 x3_2).f0).size < 1) = true := decide_eq_true (by omega)
       clear c12
       obtain rfl := Option.some.inj H
       have hcz13_0 : wr.cell? ⟨gb405, 0, none⟩ = some (.bool a0_0) := bc BK405 0
       have hcz13_1 : wr.cell? ⟨gb405, 1, none⟩ = some (.slice A0_1 l0_1.length c0_1) := bc BK405 1
       have hcz13_2 : wr.cell? ⟨gb405, 2, none⟩ = some (.slice A0_2 l0_2.length c0_2) := bc BK405 2
       have hfz13_0 := blk_frozen BK405.out 0
       have hfz13_1 := blk_frozen BK405.out 1
       have hfz13_2 := blk_frozen BK405.out 2
       have p406 : 0 ≤ (x3_2 : Int) := of_decide_eq_true (by first | (with_reducible assumption) | assumption)
       have q406 : x3_2 < (l0_1.length : Int) := of_decide_eq_true (by first | (with_reducible assumption) | assumption)
       obtain ⟨ad406, e406, hx406_0, hx406_1⟩ := at_T75 HR0_1.out x3_2 p406 q406
       cases e406
       replace hx406_0 := (HB.out.cell (World.block_lt_of_cell? w _ hx406_0)).trans hx406_0
       replace hx406_1 := (HB.out.cell (World.block_lt_of_cell? w _ hx406_1)).trans hx406_1
       replace p406 := eq_true p406
       replace q406 := eq_true q406
       go_wp2
       go_ret
       exact ⟨by first | rfl | (simp [errW_none, errW_some] <;> rfl) | (simp [*, errW_none, errW_some] <;> rfl), kl HB⟩
      rw [if_neg c12] at H
      have c12b0 : decide ((((rd_T75 l0_1 x3_2).f0).size : Int) < 1) = false := decide_eq_false c12
      have c12b1 : decide (((rd_T75 l0_1 x3_2).f0).size < 1) = false := decide_eq_false (by omega)
      clear c12
      by_cases c14 : (((rd_T75 l0_1 x3_2).f0).size : Int) > 24
      ·rw [if_pos c14] at H
       have c14b0 : decide (24 < (((rd_T75 l0_1 x3_2).f0).size : Int)) = true := decide_eq_true c14
       have c14b1 : decide (24 < ((rd_T75 l0_1 x3_2).f0).size) = true := decide_eq_true (by omega)
       clear c14
       obtain rfl := Option.some.inj H
       have hcz15_0 : wr.cell? ⟨gb405, 0, none⟩ = some (.bool a0_0) := bc BK405 0
       have hcz15_1 : wr.cell? ⟨gb405, 1, none⟩ = some (.slice A0_1 l0_1.length c0_1) := bc BK405 1
       have hcz15_2 : wr.cell? ⟨gb405, 2, none⟩ = some (.slice A0_2 l0_2.length c0_2) := bc BK405 2
       have hfz15_0 := blk_frozen BK405.out 0
       have hfz15_1 := blk_frozen BK405.out 1
       have hfz15_2 := blk_frozen BK405.out 2
       have p406 : 0 ≤ (x3_2 : Int) := of_decide_eq_true (by first | (with_reducible assumption) | assumption)
       have q406 : x3_2 < (l0_1.length : Int) := of_decide_eq_true (by first | (with_reducible assumption) | assumption)
       obtain ⟨ad406, e406, hx406_0, hx406_1⟩ := at_T75 HR0_1.out x3_2 p406 q406
       cases e406
       replace hx406_0 := (HB.out.cell (World.block_lt_of_cell? w _ hx406_0)).trans hx406_0
       replace hx406_1 := (HB.out.cell (World.block_lt_of_cell? w _ hx406_1)).trans hx406_1
       replace p406 := eq_true p406
       replace q406 := eq_true q406
       go_wp2
       go_ret
       exact ⟨by first | rfl | (simp [errW_none, errW_some] <;> rfl) | (simp [*, errW_none, errW_some] <;> rfl), kl HB⟩
      rw [if_neg c14] at H
      have c14b0 : decide (24 < (((rd_T75 l0_1 x3_2).f0).size : Int)) = false := decide_eq_false c14
      have c14b1 : decide (24 < ((rd_T75 l0_1 x3_2).f0).size) = false := decide_eq_false (by omega)
      clear c14
      by_cases c16 : (((rd_T75 l0_1 x3_2).f1).size : Int) > 100
      ·rw [if_pos c16] at H
       have c16b0 : decide (100 < (((rd_T75 l0_1 x3_2).f1).size : Int)) = true := decide_eq_true c16
       have c16b1 : decide (100 < ((rd_T75 l0_1 x3_2).f1).size) = true := decide_eq_true (by omega)
       clear c16
       obtain rfl := Option.some.inj H
       have hcz17_0 : wr.cell? ⟨gb405, 0, none⟩ = some (.bool a0_0) := bc BK405 0
       have hcz17_1 : wr.cell? ⟨gb405, 1, none⟩ = some (.slice A0_1 l0_1.length c0_1) := bc BK405 1
       have hcz17_2 : wr.cell? ⟨gb405, 2, none⟩ = some (.slice A0_2 l0_2.length c0_2) := bc BK405 2
       have hfz17_0 := blk_frozen BK405.out 0
       have hfz17_1 := blk_frozen BK405.out 1
       have hfz17_2 := blk_frozen BK405.out 2
       have p406 : 0 ≤ (x3_2 : Int) := of_decide_eq_true (by first | (with_reducible assumption) | assumption)
       have q406 : x3_2 < (l0_1.length : Int) := of_decide_eq_true (by first | (with_reducible assumption) | assumption)
       obtain ⟨ad406, e406, hx406_0, hx406_1⟩ := at_T75 HR0_1.out x3_2 p406 q406
       cases e406
       replace hx406_0 := (HB.out.cell (World.block_lt_of_cell? w _ hx406_0)).trans hx406_0
       replace hx406_1 := (HB.out.cell (World.block_lt_of_cell? w _ hx406_1)).trans hx406_1
       replace p406 := eq_true p406
       replace q406 := eq_true q406
       have p407 : 0 ≤ (x3_2 : Int) := of_decide_eq_true (by first | (with_reducible assumption) | assumption)
       have q407 : x3_2 < (l0_1.length : Int) := of_decide_eq_true (by first | (with_reducible assumption) | assumption)
       obtain ⟨ad407, e407, hx407_0, hx407_1⟩ := at_T75 HR0_1.out x3_2 p407 q407
       obtain rfl : ad406 = ad407 := (by injection e407)
       replace hx407_0 := (HB.out.cell (World.block_lt_of_cell? w _ hx407_0)).trans hx407_0
       replace hx407_1 := (HB.out.cell (World.block_lt_of_cell? w _ hx407_1)).trans hx407_1
       replace p407 := eq_true p407
       replace q407 := eq_true q407
       go_wp2
       go_ret
       exact ⟨by first | rfl | (simp [errW_none, errW_some] <;> rfl) | (simp [*, errW_none, errW_some] <;> rfl), kl HB⟩
      rw [if_neg c16] at H
      have c16b0 : decide (100 < (((rd_T75 l0_1 x3_2).f1).size : Int)) = false := decide_eq_false c16
      have c16b1 : decide (100 < ((rd_T75 l0_1 x3_2).f1).size) = false := decide_eq_false (by omega)
      clear c16
      by_cases c18 : x3_2 > 0
      rotate_left
      ·rw [if_neg c18] at H
       have c18b0 : decide (0 < x3_2) = false := decide_eq_false c18
       clear c18
       have H' := aM H
       clear H
       have hcz25_0 : wr.cell? ⟨gb405, 0, none⟩ = some (.bool a0_0) := bc BK405 0
       have hcz25_1 : wr.cell? ⟨gb405, 1, none⟩ = some (.slice A0_1 l0_1.length c0_1) := bc BK405 1
       have hcz25_2 : wr.cell? ⟨gb405, 2, none⟩ = some (.slice A0_2 l0_2.length c0_2) := bc BK405 2
       have hfz25_0 := blk_frozen BK405.out 0
       have hfz25_1 := blk_frozen BK405.out 1
       have hfz25_2 := blk_frozen BK405.out 2
       have p406 : 0 ≤ (x3_2 : Int) := of_decide_eq_true (by first | (with_reducible assumption) | assumption)
       have q406 : x3_2 < (l0_1.length : Int) := of_decide_eq_true (by first | (with_reducible assumption) | assumption)
       obtain ⟨ad406, e406, hx406_0, hx406_1⟩ := at_T75 HR0_1.out x3_2 p406 q406
       cases e406
       replace hx406_0 := (HB.out.cell (World.block_lt_of_cell? w _ hx406_0)).trans hx406_0
       replace hx406_1 := (HB.out.cell (World.block_lt_of_cell? w _ hx406_1)).trans hx406_1
       replace p406 := eq_true p406
       replace q406 := eq_true q406
       have p407 : 0 ≤ (x3_2 : Int) := of_decide_eq_true (by first | (with_reducible assumption) | assumption)
       have q407 : x3_2 < (l0_1.length : Int) := of_decide_eq_true (by first | (with_reducible assumption) | assumption)
       obtain ⟨ad407, e407, hx407_0, hx407_1⟩ := at_T75 HR0_1.out x3_2 p407 q407
       obtain rfl : ad406 = ad407 := (by injection e407)
       replace hx407_0 := (HB.out.cell (World.block_lt_of_cell? w _ hx407_0)).trans hx407_0
       replace hx407_1 := (HB.out.cell (World.block_lt_of_cell? w _ hx407_1)).trans hx407_1
       replace p407 := eq_true p407
       replace q407 := eq_true q407
       go_wp2
       go_roundg k2
       case measure => have := HJ1.out; have := HK2.out; omega
       case rel => exact ⟨(wrap64 (x3_2 + 1)), (by first | rfl | (simp; done) | (simp [*]; done)), H', ⟨by have := HJ1.out; have := HK2.out; omega⟩, ⟨kb BK405⟩, ⟨kl HB⟩⟩
      rw [if_pos c18] at H
      have c18b0 : decide (0 < x3_2) = true := decide_eq_true c18
      clear c18
      obtain ⟨ji19, hji19⟩ : ∃ j_ : Int, (wrap64 (x3_2 - 1)) = j_ := ⟨_, rfl⟩
      replace H : (if 0 ≤ (ji19) then (if (ji19) < (l0_1.length : Int) then (if ((Op.bytesLess (((rd_T75 l0_1 (ji19)).f0).toList) (((rd_T75 l0_1 x3_2).f0).toList)) = true) then (rf_May.l0 k2 (wrap64 (x3_2 + 1)) a0_0 l0_1 l0_2) else (some false)) else (none)) else (none)) = some r := by first | (rw [hji19] at H; exact H) | (simp only [hji19] at H ⊢; exact H)
      have hji19w : (IntKind.i64.wrap (x3_2 - 1)) = ji19 := (i64_w _).trans hji19
      by_cases c20 : 0 ≤ (ji19)
      rotate_left
      ·rw [if_neg c20] at H
       exact absurd H (by simp)
      rw [if_pos c20] at H
      have c20b0 : decide (0 ≤ (ji19)) = true := decide_eq_true c20
      clear c20
      by_cases c21 : (ji19) < (l0_1.length : Int)
      rotate_left
      ·rw [if_neg c21] at H
       exact absurd H (by simp)
      rw [if_pos c21] at H
      have c21b0 : decide ((ji19) < (l0_1.length : Int)) = true := decide_eq_true c21
      clear c21
      by_cases c22 : ((Op.bytesLess (((rd_T75 l0_1 (ji19)).f0).toList) (((rd_T75 l0_1 x3_2).f0).toList)) = true)
      rotate_left
      ·rw [if_neg c22] at H
       have c22b0 : (Op.bytesLess (((rd_T75 l0_1 (ji19)).f0).toList) (((rd_T75 l0_1 x3_2).f0).toList)) = false := by simpa using c22
       clear c22
       obtain rfl := Option.some.inj H
       have hcz24_0 : wr.cell? ⟨gb405, 0, none⟩ = some (.bool a0_0) := bc BK405 0
       have hcz24_1 : wr.cell? ⟨gb405, 1, none⟩ = some (.slice A0_1 l0_1.length c0_1) := bc BK405 1
       have hcz24_2 : wr.cell? ⟨gb405, 2, none⟩ = some (.slice A0_2 l0_2.length c0_2) := bc BK405 2
       have hfz24_0 := blk_frozen BK405.out 0
       have hfz24_1 := blk_frozen BK405.out 1
       have hfz24_2 := blk_frozen BK405.out 2
       have p406 : 0 ≤ (x3_2 : Int) := of_decide_eq_true (by first | (with_reducible assumption) | assumption)
       have q406 : x3_2 < (l0_1.length : Int) := of_decide_eq_true (by first | (with_reducible assumption) | assumption)
       obtain ⟨ad406, e406, hx406_0, hx406_1⟩ := at_T75 HR0_1.out x3_2 p406 q406
       cases e406
       replace hx406_0 := (HB.out.cell (World.block_lt_of_cell? w _ hx406_0)).trans hx406_0
       replace hx406_1 := (HB.out.cell (World.block_lt_of_cell? w _ hx406_1)).trans hx406_1
       replace p406 := eq_true p406
       replace q406 := eq_true q406
       have p407 : 0 ≤ (x3_2 : Int) := of_decide_eq_true (by first | (with_reducible assumption) | assumption)
       have q407 : x3_2 < (l0_1.length : Int) := of_decide_eq_true (by first | (with_reducible assumption) | assumption)
       obtain ⟨ad407, e407, hx407_0, hx407_1⟩ := at_T75 HR0_1.out x3_2 p407 q407
       obtain rfl : ad406 = ad407 := (by injection e407)
       replace hx407_0 := (HB.out.cell (World.block_lt_of_cell? w _ hx407_0)).trans hx407_0
       replace hx407_1 := (HB.out.cell (World.block_lt_of_cell? w _ hx407_1)).trans hx407_1
       replace p407 := eq_true p407
       replace q407 := eq_true q407
       have p408 : 0 ≤ ((ji19) : Int) := of_decide_eq_true (by first | (with_reducible assumption) | assumption)
       have q408 : (ji19) < (l0_1.length : Int) := of_decide_eq_true (by first | (with_reducible assumption) | assumption)
       obtain ⟨ad408, e408, hx408_0, hx408_1⟩ := at_T75 HR0_1.out (ji19) p408 q408
       obtain rfl : ad406 = ad408 := (by injection e408)
       replace hx408_0 := (HB.out.cell (World.block_lt_of_cell? w _ hx408_0)).trans hx408_0
       replace hx408_1 := (HB.out.cell (World.block_lt_of_cell? w _ hx408_1)).trans hx408_1
       replace p408 := eq_true p408
       replace q408 := eq_true q408
       go_wp2
       go_ret
       exact ⟨by first | rfl | (simp [errW_none, errW_some] <;> rfl) | (simp only [← hji19]; first | rfl | (simp [errW_none, errW_some] <;> rfl)) | (simp [*, errW_none, errW_some] <;> rfl), kl HB⟩
      rw [if_pos c22] at H
      have c22b0 : (Op.bytesLess (((rd_T75 l0_1 (ji19)).f0).toList) (((rd_T75 l0_1 x3_2).f0).toList)) = true := c22
      clear c22
      have H' := aM H
      clear H
      have hcz23_0 : wr.cell? ⟨gb405, 0, none⟩ = some (.bool a0_0) := bc BK405 0
      have hcz23_1 : wr.cell? ⟨gb405, 1, none⟩ = some (.slice A0_1 l0_1.length c0_1) := bc BK405 1
      have hcz23_2 : wr.cell? ⟨gb405, 2, none⟩ = some (.slice A0_2 l0_2.length c0_2) := bc BK405 2
      have hfz23_0 := blk_frozen BK405.out 0
      have hfz23_1 := blk_frozen BK405.out 1
      have hfz23_2 := blk_frozen BK405.out 2
      have p406 : 0 ≤ (x3_2 : Int) := of_decide_eq_true (by first | (with_reducible assumption) | assumption)
      have q406 : x3_2 < (l0_1.length : Int) := of_decide_eq_true (by first | (with_reducible assumption) | assumption)
      obtain ⟨ad406, e406, hx406_0, hx406_1⟩ := at_T75 HR0_1.out x3_2 p406 q406
      cases e406
      replace hx406_0 := (HB.out.cell (World.block_lt_of_cell? w _ hx406_0)).trans hx406_0
      replace hx406_1 := (HB.out.cell (World.block_lt_of_cell? w _ hx406_1)).trans hx406_1
      replace p406 := eq_true p406
      replace q406 := eq_true q406
      have p407 : 0 ≤ (x3_2 : Int) := of_decide_eq_true (by first | (with_reducible assumption) | assumption)
      have q407 : x3_2 < (l0_1.length : Int) := of_decide_eq_true (by first | (with_reducible assumption) | assumption)
      obtain ⟨ad407, e407, hx407_0, hx407_1⟩ := at_T75 HR0_1.out x3_2 p407 q407
      obtain rfl : ad406 = ad407 := (by injection e407)
      replace hx407_0 := (HB.out.cell (World.block_lt_of_cell? w _ hx407_0)).trans hx407_0
      replace hx407_1 := (HB.out.cell (World.block_lt_of_cell? w _ hx407_1)).trans hx407_1
      replace p407 := eq_true p407
      replace q407 := eq_true q407
      have p408 : 0 ≤ ((ji19) : Int) := of_decide_eq_true (by first | (with_reducible assumption) | assumption)
      have q408 : (ji19) < (l0_1.length : Int) := of_decide_eq_true (by first | (with_reducible assumption) | assumption)
      obtain ⟨ad408, e408, hx408_0, hx408_1⟩ := at_T75 HR0_1.out (ji19) p408 q408
      obtain rfl : ad406 = ad408 := (by injection e408)
      replace hx408_0 := (HB.out.cell (World.block_lt_of_cell? w _ hx408_0)).trans hx408_0
      replace hx408_1 := (HB.out.cell (World.block_lt_of_cell? w _ hx408_1)).trans hx408_1
      replace p408 := eq_true p408
      replace q408 := eq_true q408
      go_wp2
      go_roundg k2
      case measure => have := HJ1.out; have := HK2.out; omega
      case rel => exact ⟨(wrap64 (x3_2 + 1)), (by first | rfl | (simp; done) | (simp [*]; done)), H', ⟨by have := HJ1.out; have := HK2.out; omega⟩, ⟨kb BK405⟩, ⟨kl HB⟩⟩
     rw [if_neg c10] at H
     have c10b0 : decide (x3_2 < (l0_1.length : Int)) = false := decide_eq_false c10
     clear c10
     have H' := aM H
     clear H
     have hcz26_0 : wr.cell? ⟨gb405, 0, none⟩ = some (.bool a0_0) := bc BK405 0
     have hcz26_1 : wr.cell? ⟨gb405, 1, none⟩ = some (.slice A0_1 l0_1.length c0_1) := bc BK405 1
     have hcz26_2 : wr.cell? ⟨gb405, 2, none⟩ = some (.slice A0_2 l0_2.length c0_2) := bc BK405 2
     have hfz26_0 := blk_frozen BK405.out 0
     have hfz26_1 := blk_frozen BK405.out 1
     have hfz26_2 := blk_frozen BK405.out 2
     go_wp2
     go_loopg [5] k2 (fun kq v5 w' => ∃ (x5_3 : Int), v5 = .int .i64 x5_3 ∧ Aside0 (rf_May.l1 kq x5_3 a0_0 l0_1 l0_2 = some r) ∧ Aside0 (kq ≤ k2) ∧ Aside0 (w'.heap[gb405]? = some (.cells #[.bool a0_0, (.slice A0_1 l0_1.length c0_1), (.slice A0_2 l0_2.length c0_2)] 25 (0, 0))) ∧ Aside0 (Below w.heap.size w w'))
     case atStart => exact ⟨(0), (by first | rfl | (simp; done) | (simp [*]; done)), H', ⟨Nat.le_refl _⟩, ⟨kb BK405⟩, ⟨kl HB⟩⟩
     case round =>
      clear H'
      try clear c1
      try clear c2
      try clear p2
      try clear c4
      try clear p4
      try clear q4
      try clear hx4
      try clear c5
      try clear c5b0
      try clear c5b1
      try clear p6
      try clear c9
      try clear c10
      try clear c10b0
      try clear c11
      try clear c11b0
      try clear c12
      try clear c12b0
      try clear c12b1
      try clear c14
      try clear c14b0
      try clear c14b1
      try clear c16
      try clear c16b0
      try clear c16b1
      try clear c18
      try clear c18b0
      try clear c20
      try clear c20b0
      try clear c21
      try clear c21b0
      try clear c22
      try clear c22b0
      try clear hcz13_0
      try clear hcz13_1
      try clear hcz13_2
      try clear hcz15_0
      try clear hcz15_1
      try clear hcz15_2
      try clear hcz17_0
      try clear hcz17_1
      try clear hcz17_2
      try clear hcz23_0
      try clear hcz23_1
      try clear hcz23_2
      try clear hcz24_0
      try clear hcz24_1
      try clear hcz24_2
      try clear hcz25_0
      try clear hcz25_1
      try clear hcz25_2
      try clear hcz26_0
      try clear hcz26_1
      try clear hcz26_2
      try clear hcz6_0
      try clear hcz6_1
      try clear hcz6_2
      try clear hcz7_0
      try clear hcz7_1
      try clear hcz7_2
      try clear hcz8_0
      try clear hcz8_1
      try clear hcz8_2
      try clear hfz13_0
      try clear hfz13_1
      try clear hfz13_2
      try clear hfz15_0
      try clear hfz15_1
      try clear hfz15_2
      try clear hfz17_0
      try clear hfz17_1
      try clear hfz17_2
      try clear hfz23_0
      try clear hfz23_1
      try clear hfz23_2
      try clear hfz24_0
      try clear hfz24_1
      try clear hfz24_2
      try clear hfz25_0
      try clear hfz25_1
      try clear hfz25_2
      try clear hfz26_0
      try clear hfz26_1
      try clear hfz26_2
      try clear hfz6_0
      try clear hfz6_1
      try clear hfz6_2
      try clear hfz7_0
      try clear hfz7_1
      try clear hfz7_2
      try clear hfz8_0
      try clear hfz8_1
      try clear hfz8_2
      try clear hx406_0
      try clear hx406_1
      try clear hx407_0
      try clear hx407_1
      try clear hx408_0
      try clear hx408_1
      try clear p2
      try clear p406
      try clear p407
      try clear p408
      try clear q406
      try clear q407
      try clear q408
      obtain ⟨x5_3, rfl, HA, HK3, BK405, HB⟩ := hrel
      cases gk with
      | zero => exact absurd HA.out (by simp [rf_May.l1])
      | succ k3 =>
       have H := HA.out
       clear HA
       simp only [rf_May.l1] at H
       by_cases c27 : x5_3 < (l0_2.length : Int)
       rotate_left
       ·rw [if_neg c27] at H
        have c27b0 : decide (x5_3 < (l0_2.length : Int)) = false := decide_eq_false c27
        clear c27
        obtain rfl := Option.some.inj H
        have hcz51_0 : wr.cell? ⟨gb405, 0, none⟩ = some (.bool a0_0) := bc BK405 0
        have hcz51_1 : wr.cell? ⟨gb405, 1, none⟩ = some (.slice A0_1 l0_1.length c0_1) := bc BK405 1
        have hcz51_2 : wr.cell? ⟨gb405, 2, none⟩ = some (.slice A0_2 l0_2.length c0_2) := bc BK405 2
        have hfz51_0 := blk_frozen BK405.out 0
        have hfz51_1 := blk_frozen BK405.out 1
        have hfz51_2 := blk_frozen BK405.out 2
        go_wp2
        go_ret
        exact ⟨by first | rfl | (simp [errW_none, errW_some] <;> rfl) | (simp [*, errW_none, errW_some] <;> rfl), kl HB⟩
       rw [if_pos c27] at H
       have c27b0 : decide (x5_3 < (l0_2.length : Int)) = true := decide_eq_true c27
       clear c27
       by_cases c28 : 0 ≤ x5_3
       rotate_left
       ·rw [if_neg c28] at H
        exact absurd H (by simp)
       rw [if_pos c28] at H
       have c28b0 : decide (0 ≤ x5_3) = true := decide_eq_true c28
       clear c28
       by_cases c29 : x5_3 > 0
       rotate_left
       ·rw [if_neg c29] at H
        have c29b0 : decide (0 < x5_3) = false := decide_eq_false c29
        clear c29
        by_cases c44 : (((rd_T76 l0_2 x5_3).f0).size : Int) > 24
        ·rw [if_pos c44] at H
         have c44b0 : decide (24 < (((rd_T76 l0_2 x5_3).f0).size : Int)) = true := decide_eq_true c44
         have c44b1 : decide (24 < ((rd_T76 l0_2 x5_3).f0).size) = true := decide_eq_true (by omega)
         clear c44
         obtain rfl := Option.some.inj H
         have hcz45_0 : wr.cell? ⟨gb405, 0, none⟩ = some (.bool a0_0) := bc BK405 0
         have hcz45_1 : wr.cell? ⟨gb405, 1, none⟩ = some (.slice A0_1 l0_1.length c0_1) := bc BK405 1
         have hcz45_2 : wr.cell? ⟨gb405, 2, none⟩ = some (.slice A0_2 l0_2.length c0_2) := bc BK405 2
         have hfz45_0 := blk_frozen BK405.out 0
         have hfz45_1 := blk_frozen BK405.out 1
         have hfz45_2 := blk_frozen BK405.out 2
         have p409 : 0 ≤ (x5_3 : Int) := of_decide_eq_true (by first | (with_reducible assumption) | assumption)
         have q409 : x5_3 < (l0_2.length : Int) := of_decide_eq_true (by first | (with_reducible assumption) | assumption)
         obtain ⟨ad409, e409, hx409_0, hx409_1⟩ := at_T76 HR0_2.out x5_3 p409 q409
         cases e409
         replace hx409_0 := (HB.out.cell (World.block_lt_of_cell? w _ hx409_0)).trans hx409_0
         replace hx409_1 := (HB.out.cell (World.block_lt_of_cell? w _ hx409_1)).trans hx409_1
         replace p409 := eq_true p409
         replace q409 := eq_true q409
         go_wp2
         go_ret
         exact ⟨by first | rfl | (simp [errW_none, errW_some] <;> rfl) | (simp [*, errW_none, errW_some] <;> rfl), kl HB⟩
        rw [if_neg c44] at H
        have c44b0 : decide (24 < (((rd_T76 l0_2 x5_3).f0).size : Int)) = false := decide_eq_false c44
        have c44b1 : decide (24 < ((rd_T76 l0_2 x5_3).f0).size) = false := decide_eq_false (by omega)
        clear c44
        by_cases c46 : ((rd_T76 l0_2 x5_3).f1) < 2
        ·rw [if_pos c46] at H
         have c46b0 : decide (((rd_T76 l0_2 x5_3).f1) < 2) = true := decide_eq_true c46
         clear c46
         obtain rfl := Option.some.inj H
         have hcz47_0 : wr.cell? ⟨gb405, 0, none⟩ = some (.bool a0_0) := bc BK405 0
         have hcz47_1 : wr.cell? ⟨gb405, 1, none⟩ = some (.slice A0_1 l0_1.length c0_1) := bc BK405 1
         have hcz47_2 : wr.cell? ⟨gb405, 2, none⟩ = some (.slice A0_2 l0_2.length c0_2) := bc BK405 2
         have hfz47_0 := blk_frozen BK405.out 0
         have hfz47_1 := blk_frozen BK405.out 1
         have hfz47_2 := blk_frozen BK405.out 2
         have p409 : 0 ≤ (x5_3 : Int) := of_decide_eq_true (by first | (with_reducible assumption) | assumption)
         have q409 : x5_3 < (l0_2.length : Int) := of_decide_eq_true (by first | (with_reducible assumption) | assumption)
         obtain ⟨ad409, e409, hx409_0, hx409_1⟩ := at_T76 HR0_2.out x5_3 p409 q409
         cases e409
         replace hx409_0 := (HB.out.cell (World.block_lt_of_cell? w _ hx409_0)).trans hx409_0
         replace hx409_1 := (HB.out.cell (World.block_lt_of_cell? w _ hx409_1)).trans hx409_1
         replace p409 := eq_true p409
         replace q409 := eq_true q409
         have p413 : 0 ≤ (x5_3 : Int) := of_decide_eq_true (by first | (with_reducible assumption) | assumption)
         have q413 : x5_3 < (l0_2.length : Int) := of_decide_eq_true (by first | (with_reducible assumption) | assumption)
         obtain ⟨ad413, e413, hx413_0, hx413_1⟩ := at_T76 HR0_2.out x5_3 p413 q413
         obtain rfl : ad409 = ad413 := (by injection e413)
         replace hx413_0 := (HB.out.cell (World.block_lt_of_cell? w _ hx413_0)).trans hx413_0
         replace hx413_1 := (HB.out.cell (World.block_lt_of_cell? w _ hx413_1)).trans hx413_1
         replace p413 := eq_true p413
         replace q413 := eq_true q413
         go_wp2
         go_ret
         exact ⟨by first | rfl | (simp [errW_none, errW_some] <;> rfl) | (simp [*, errW_none, errW_some] <;> rfl), kl HB⟩
        rw [if_neg c46] at H
        have c46b0 : decide (((rd_T76 l0_2 x5_3).f1) < 2) = false := decide_eq_false c46
        clear c46
        by_cases c48 : ((rd_T76 l0_2 x5_3).f1) > 1023
        ·rw [if_pos c48] at H
         have c48b0 : decide (1023 < ((rd_T76 l0_2 x5_3).f1)) = true := decide_eq_true c48
         clear c48
         obtain rfl := Option.some.inj H
         have hcz49_0 : wr.cell? ⟨gb405, 0, none⟩ = some (.bool a0_0) := bc BK405 0
         have hcz49_1 : wr.cell? ⟨gb405, 1, none⟩ = some (.slice A0_1 l0_1.length c0_1) := bc BK405 1
         have hcz49_2 : wr.cell? ⟨gb405, 2, none⟩ = some (.slice A0_2 l0_2.length c0_2) := bc BK405 2
         have hfz49_0 := blk_frozen BK405.out 0
         have hfz49_1 := blk_frozen BK405.out 1
         have hfz49_2 := blk_frozen BK405.out 2
         have p409 : 0 ≤ (x5_3 : Int) := of_decide_eq_true (by first | (with_reducible assumption) | assumption)
         have q409 : x5_3 < (l0_2.length : Int) := of_decide_eq_true (by first | (with_reducible assumption) | assumption)
         obtain ⟨ad409, e409, hx409_0, hx409_1⟩ := at_T76 HR0_2.out x5_3 p409 q409
         cases e409
         replace hx409_0 := (HB.out.cell (World.block_lt_of_cell? w _ hx409_0)).trans hx409_0
         replace hx409_1 := (HB.out.cell (World.block_lt_of_cell? w _ hx409_1)).trans hx409_1
         replace p409 := eq_true p409
         replace q409 := eq_true q409
         have p413 : 0 ≤ (x5_3 : Int) := of_decide_eq_true (by first | (with_reducible assumption) | assumption)
         have q413 : x5_3 < (l0_2.length : Int) := of_decide_eq_true (by first | (with_reducible assumption) | assumption)
         obtain ⟨ad413, e413, hx413_0, hx413_1⟩ := at_T76 HR0_2.out x5_3 p413 q413
         obtain rfl : ad409 = ad413 := (by injection e413)
         replace hx413_0 := (HB.out.cell (World.block_lt_of_cell? w _ hx413_0)).trans hx413_0
         replace hx413_1 := (HB.out.cell (World.block_lt_of_cell? w _ hx413_1)).trans hx413_1
         replace p413 := eq_true p413
         replace q413 := eq_true q413
         have p414 : 0 ≤ (x5_3 : Int) := of_decide_eq_true (by first | (with_reducible assumption) | assumption)
         have q414 : x5_3 < (l0_2.length : Int) := of_decide_eq_true (by first | (with_reducible assumption) | assumption)
         obtain ⟨ad414, e414, hx414_0, hx414_1⟩ := at_T76 HR0_2.out x5_3 p414 q414
         obtain rfl : ad409 = ad414 := (by injection e414)
         replace hx414_0 := (HB.out.cell (World.block_lt_of_cell? w _ hx414_0)).trans hx414_0
         replace hx414_1 := (HB.out.cell (World.block_lt_of_cell? w _ hx414_1)).trans hx414_1
         replace p414 := eq_true p414
         replace q414 := eq_true q414
         go_wp2
         go_ret
         exact ⟨by first | rfl | (simp [errW_none, errW_some] <;> rfl) | (simp [*, errW_none, errW_some] <;> rfl), kl HB⟩
        rw [if_neg c48] at H
        have c48b0 : decide (1023 < ((rd_T76 l0_2 x5_3).f1)) = false := decide_eq_false c48
        clear c48
        have H' := aM H
        clear H
        have hcz50_0 : wr.cell? ⟨gb405, 0, none⟩ = some (.bool a0_0) := bc BK405 0
        have hcz50_1 : wr.cell? ⟨gb405, 1, none⟩ = some (.slice A0_1 l0_1.length c0_1) := bc BK405 1
        have hcz50_2 : wr.cell? ⟨gb405, 2, none⟩ = some (.slice A0_2 l0_2.length c0_2) := bc BK405 2
        have hfz50_0 := blk_frozen BK405.out 0
        have hfz50_1 := blk_frozen BK405.out 1
        have hfz50_2 := blk_frozen BK405.out 2
        have p409 : 0 ≤ (x5_3 : Int) := of_decide_eq_true (by first | (with_reducible assumption) | assumption)
        have q409 : x5_3 < (l0_2.length : Int) := of_decide_eq_true (by first | (with_reducible assumption) | assumption)
        obtain ⟨ad409, e409, hx409_0, hx409_1⟩ := at_T76 HR0_2.out x5_3 p409 q409
        cases e409
        replace hx409_0 := (HB.out.cell (World.block_lt_of_cell? w _ hx409_0)).trans hx409_0
        replace hx409_1 := (HB.out.cell (World.block_lt_of_cell? w _ hx409_1)).trans hx409_1
        replace p409 := eq_true p409
        replace q409 := eq_true q409
        have p413 : 0 ≤ (x5_3 : Int) := of_decide_eq_true (by first | (with_reducible assumption) | assumption)
        have q413 : x5_3 < (l0_2.length : Int) := of_decide_eq_true (by first | (with_reducible assumption) | assumption)
        obtain ⟨ad413, e413, hx413_0, hx413_1⟩ := at_T76 HR0_2.out x5_3 p413 q413
        obtain rfl : ad409 = ad413 := (by injection e413)
        replace hx413_0 := (HB.out.cell (World.block_lt_of_cell? w _ hx413_0)).trans hx413_0
        replace hx413_1 := (HB.out.cell (World.block_lt_of_cell? w _ hx413_1)).trans hx413_1
        replace p413 := eq_true p413
        replace q413 := eq_true q413
        have p414 : 0 ≤ (x5_3 : Int) := of_decide_eq_true (by first | (with_reducible assumption) | assumption)
        have q414 : x5_3 < (l0_2.length : Int) := of_decide_eq_true (by first | (with_reducible assumption) | assumption)
        obtain ⟨ad414, e414, hx414_0, hx414_1⟩ := at_T76 HR0_2.out x5_3 p414 q414
        obtain rfl : ad409 = ad414 := (by injection e414)
        replace hx414_0 := (HB.out.cell (World.block_lt_of_cell? w _ hx414_0)).trans hx414_0
        replace hx414_1 := (HB.out.cell (World.block_lt_of_cell? w _ hx414_1)).trans hx414_1
        replace p414 := eq_true p414
        replace q414 := eq_true q414
        go_wp2
        go_roundg k3
        case measure => have := HJ1.out; have := HK2.out; have := HK3.out; omega
        case rel => exact ⟨(wrap64 (x5_3 + 1)), (by first | rfl | (simp; done) | (simp [*]; done)), H', ⟨by have := HJ1.out; have := HK2.out; have := HK3.out; omega⟩, ⟨kb BK405⟩, ⟨kl HB⟩⟩
       rw [if_pos c29] at H
       have c29b0 : decide (0 < x5_3) = true := decide_eq_true c29
       clear c29
       by_cases c30 : (((rd_T76 l0_2 x5_3).f0).size : Int) < 1
       ·rw [if_pos c30] at H
        have c30b0 : decide ((((rd_T76 l0_2 x5_3).f0).size : Int) < 1) = true := decide_eq_true c30
        have c30b1 : decide (((rd_T76 l0_2 x5_3).f0).size < 1) = true := decide_eq_true (by omega)
        clear c30
        obtain rfl := Option.some.inj H
        have hcz31_0 : wr.cell? ⟨gb405, 0, none⟩ = some (.bool a0_0) := bc BK405 0
        have hcz31_1 : wr.cell? ⟨gb405, 1, none⟩ = some (.slice A0_1 l0_1.length c0_1) := bc BK405 1
        have hcz31_2 : wr.cell? ⟨gb405, 2, none⟩ = some (.slice A0_2 l0_2.length c0_2) := bc BK405 2
        have hfz31_0 := blk_frozen BK405.out 0
        have hfz31_1 := blk_frozen BK405.out 1
        have hfz31_2 := blk_frozen BK405.out 2
        have p409 : 0 ≤ (x5_3 : Int) := of_decide_eq_true (by first | (with_reducible assumption) | assumption)
        have q409 : x5_3 < (l0_2.length : Int) := of_decide_eq_true (by first | (with_reducible assumption) | assumption)
        obtain ⟨ad409, e409, hx409_0, hx409_1⟩ := at_T76 HR0_2.out x5_3 p409 q409
        cases e409
        replace hx409_0 := (HB.out.cell (World.block_lt_of_cell? w _ hx409_0)).trans hx409_0
        replace hx409_1 := (HB.out.cell (World.block_lt_of_cell? w _ hx409_1)).trans hx409_1
        replace p409 := eq_true p409
        replace q409 := eq_true q409
        go_wp2
        go_ret
        exact ⟨by first | rfl | (simp [errW_none, errW_some] <;> rfl) | (simp [*, errW_none, errW_some] <;> rfl), kl HB⟩
       rw [if_neg c30] at H
       have c30b0 : decide ((((rd_T76 l0_2 x5_3).f0).size : Int) < 1) = false := decide_eq_false c30
       have c30b1 : decide (((rd_T76 l0_2 x5_3).f0).size < 1) = false := decide_eq_false (by omega)
       clear c30
       by_cases c32 : (((rd_T76 l0_2 x5_3).f0).size : Int) > 24
       ·rw [if_pos c32] at H
        have c32b0 : decide (24 < (((rd_T76 l0_2 x5_3).f0).size : Int)) = true := decide_eq_true c32
        have c32b1 : decide (24 < ((rd_T76 l0_2 x5_3).f0).size) = true := decide_eq_true (by omega)
        clear c32
        obtain rfl := Option.some.inj H
        have hcz33_0 : wr.cell? ⟨gb405, 0, none⟩ = some (.bool a0_0) := bc BK405 0
        have hcz33_1 : wr.cell? ⟨gb405, 1, none⟩ = some (.slice A0_1 l0_1.length c0_1) := bc BK405 1
        have hcz33_2 : wr.cell? ⟨gb405, 2, none⟩ = some (.slice A0_2 l0_2.length c0_2) := bc BK405 2
        have hfz33_0 := blk_frozen BK405.out 0
        have hfz33_1 := blk_frozen BK405.out 1
        have hfz33_2 := blk_frozen BK405.out 2
        have p409 : 0 ≤ (x5_3 : Int) := of_decide_eq_true (by first | (with_reducible assumption) | assumption)
        have q409 : x5_3 < (l0_2.length : Int) := of_decide_eq_true (by first | (with_reducible assumption) | assumption)
        obtain ⟨ad409, e409, hx409_0, hx409_1⟩ := at_T76 HR0_2.out x5_3 p409 q409
        cases e409
        replace hx409_0 := (HB.out.cell (World.block_lt_of_cell? w _ hx409_0)).trans hx409_0
        replace hx409_1 := (HB.out.cell (World.block_lt_of_cell? w _ hx409_1)).trans hx409_1
        replace p409 := eq_true p409
        replace q409 := eq_true q409
        go_wp2
        go_ret
        exact ⟨by first | rfl | (simp [errW_none, errW_some] <;> rfl) | (simp [*, errW_none, errW_some] <;> rfl), kl HB⟩
       rw [if_neg c32] at H
       have c32b0 : decide (24 < (((rd_T76 l0_2 x5_3).f0).size : Int)) = false := decide_eq_false c32
       have c32b1 : decide (24 < ((rd_T76 l0_2 x5_3).f0).size) = false := decide_eq_false (by omega)
       clear c32
       by_cases c34 : ((rd_T76 l0_2 x5_3).f1) < 2
       ·rw [if_pos c34] at H
        have c34b0 : decide (((rd_T76 l0_2 x5_3).f1) < 2) = true := decide_eq_true c34
        clear c34
        obtain rfl := Option.some.inj H
        have hcz35_0 : wr.cell? ⟨gb405, 0, none⟩ = some (.bool a0_0) := bc BK405 0
        have hcz35_1 : wr.cell? ⟨gb405, 1, none⟩ = some (.slice A0_1 l0_1.length c0_1) := bc BK405 1
        have hcz35_2 : wr.cell? ⟨gb405, 2, none⟩ = some (.slice A0_2 l0_2.length c0_2) := bc BK405 2
        have hfz35_0 := blk_frozen BK405.out 0
        have hfz35_1 := blk_frozen BK405.out 1
        have hfz35_2 := blk_frozen BK405.out 2
        have p409 : 0 ≤ (x5_3 : Int) := of_decide_eq_true (by first | (with_reducible assumption) | assumption)
        have q409 : x5_3 < (l0_2.length : Int) := of_decide_eq_true (by first | (with_reducible assumption) | assumption)
        obtain ⟨ad409, e409, hx409_0, hx409_1⟩ := at_T76 HR0_2.out x5_3 p409 q409
        cases e409
        replace hx409_0 := (HB.out.cell (World.block_lt_of_cell? w _ hx409_0)).trans hx409_0
        replace hx409_1 := (HB.out.cell (World.block_lt_of_cell? w _ hx409_1)).trans hx409_1
        replace p409 := eq_true p409
        replace q409 := eq_true q409
        have p410 : 0 ≤ (x5_3 : Int) := of_decide_eq_true (by first | (with_reducible assumption) | assumption)
        have q410 : x5_3 < (l0_2.length : Int) := of_decide_eq_true (by first | (with_reducible assumption) | assumption)
        obtain ⟨ad410, e410, hx410_0, hx410_1⟩ := at_T76 HR0_2.out x5_3 p410 q410
        obtain rfl : ad409 = ad410 := (by injection e410)
        replace hx410_0 := (HB.out.cell (World.block_lt_of_cell? w _ hx410_0)).trans hx410_0
        replace hx410_1 := (HB.out.cell (World.block_lt_of_cell? w _ hx410_1)).trans hx410_1
        replace p410 := eq_true p410
        replace q410 := eq_true q410
        go_wp2
        go_ret
        exact ⟨by first | rfl | (simp [errW_none, errW_some] <;> rfl) | (simp [*, errW_none, errW_some] <;> rfl), kl HB⟩
       rw [if_neg c34] at H
       have c34b0 : decide (((rd_T76 l0_2 x5_3).f1) < 2) = false := decide_eq_false c34
       clear c34
       by_cases c36 : ((rd_T76 l0_2 x5_3).f1) > 1023
       ·rw [if_pos c36] at H
        have c36b0 : decide (1023 < ((rd_T76 l0_2 x5_3).f1)) = true := decide_eq_true c36
        clear c36
        obtain rfl := Option.some.inj H
        have hcz37_0 : wr.cell? ⟨gb405, 0, none⟩ = some (.bool a0_0) := bc BK405 0
        have hcz37_1 : wr.cell? ⟨gb405, 1, none⟩ = some (.slice A0_1 l0_1.length c0_1) := bc BK405 1
        have hcz37_2 : wr.cell? ⟨gb405, 2, none⟩ = some (.slice A0_2 l0_2.length c0_2) := bc BK405 2
        have hfz37_0 := blk_frozen BK405.out 0
        have hfz37_1 := blk_frozen BK405.out 1
        have hfz37_2 := blk_frozen BK405.out 2
        have p409 : 0 ≤ (x5_3 : Int) := of_decide_eq_true (by first | (with_reducible assumption) | assumption)
        have q409 : x5_3 < (l0_2.length : Int) := of_decide_eq_true (by first | (with_reducible assumption) | assumption)
        obtain ⟨ad409, e409, hx409_0, hx409_1⟩ := at_T76 HR0_2.out x5_3 p409 q409
        cases e409
        replace hx409_0 := (HB.out.cell (World.block_lt_of_cell? w _ hx409_0)).trans hx409_0
        replace hx409_1 := (HB.out.cell (World.block_lt_of_cell? w _ hx409_1)).trans hx409_1
        replace p409 := eq_true p409
        replace q409 := eq_true q409
        have p410 : 0 ≤ (x5_3 : Int) := of_decide_eq_true (by first | (with_reducible assumption) | assumption)
        have q410 : x5_3 < (l0_2.length : Int) := of_decide_eq_true (by first | (with_reducible assumption) | assumption)
        obtain ⟨ad410, e410, hx410_0, hx410_1⟩ := at_T76 HR0_2.out x5_3 p410 q410
        obtain rfl : ad409 = ad410 := (by injection e410)
        replace hx410_0 := (HB.out.cell (World.block_lt_of_cell? w _ hx410_0)).trans hx410_0
        replace hx410_1 := (HB.out.cell (World.block_lt_of_cell? w _ hx410_1)).trans hx410_1
        replace p410 := eq_true p410
        replace q410 := eq_true q410
        have p411 : 0 ≤ (x5_3 : Int) := of_decide_eq_true (by first | (with_reducible assumption) | assumption)
        have q411 : x5_3 < (l0_2.length : Int) := of_decide_eq_true (by first | (with_reducible assumption) | assumption)
        obtain ⟨ad411, e411, hx411_0, hx411_1⟩ := at_T76 HR0_2.out x5_3 p411 q411
        obtain rfl : ad409 = ad411 := (by injection e411)
        replace hx411_0 := (HB.out.cell (World.block_lt_of_cell? w _ hx411_0)).trans hx411_0
        replace hx411_1 := (HB.out.cell (World.block_lt_of_cell? w _ hx411_1)).trans hx411_1
        replace p411 := eq_true p411
        replace q411 := eq_true q411
        go_wp2
        go_ret
        exact ⟨by first | rfl | (simp [errW_none, errW_some] <;> rfl) | (simp [*, errW_none, errW_some] <;> rfl), kl HB⟩
       rw [if_neg c36] at H
       have c36b0 : decide (1023 < ((rd_T76 l0_2 x5_3).f1)) = false := decide_eq_false c36
       clear c36
       obtain ⟨ji38, hji38⟩ : ∃ j_ : Int, (wrap64 (x5_3 - 1)) = j_ := ⟨_, rfl⟩
       replace H : (if 0 ≤ (ji38) then (if (ji38) < (l0_2.length : Int) then (if ((Op.bytesLess (((rd_T76 l0_2 (ji38)).f0).toList) (((rd_T76 l0_2 x5_3).f0).toList)) = true) then (rf_May.l1 k3 (wrap64 (x5_3 + 1)) a0_0 l0_1 l0_2) else (some false)) else (none)) else (none)) = some r := by first | (rw [hji38] at H; exact H) | (simp only [hji38] at H ⊢; exact H)
       have hji38w : (IntKind.i64.wrap (x5_3 - 1)) = ji38 := (i64_w _).trans hji38
       by_cases c39 : 0 ≤ (ji38)
       rotate_left
       ·rw [if_neg c39] at H
        exact absurd H (by simp)
       rw [if_pos c39] at H
       have c39b0 : decide (0 ≤ (ji38)) = true := decide_eq_true c39
       clear c39
       by_cases c40 : (ji38) < (l0_2.length : Int)
       rotate_left
       ·rw [if_neg c40] at H
        exact absurd H (by simp)
       rw [if_pos c40] at H
       have c40b0 : decide ((ji38) < (l0_2.length : Int)) = true := decide_eq_true c40
       clear c40
       by_cases c41 : ((Op.bytesLess (((rd_T76 l0_2 (ji38)).f0).toList) (((rd_T76 l0_2 x5_3).f0).toList)) = true)
       rotate_left
       ·rw [if_neg c41] at H
        have c41b0 : (Op.bytesLess (((rd_T76 l0_2 (ji38)).f0).toList) (((rd_T76 l0_2 x5_3).f0).toList)) = false := by simpa using c41
        clear c41
        obtain rfl := Option.some.inj H
        have hcz43_0 : wr.cell? ⟨gb405, 0, none⟩ = some (.bool a0_0) := bc BK405 0
        have hcz43_1 : wr.cell? ⟨gb405, 1, none⟩ = some (.slice A0_1 l0_1.length c0_1) := bc BK405 1
        have hcz43_2 : wr.cell? ⟨gb405, 2, none⟩ = some (.slice A0_2 l0_2.length c0_2) := bc BK405 2
        have hfz43_0 := blk_frozen BK405.out 0
        have hfz43_1 := blk_frozen BK405.out 1
        have hfz43_2 := blk_frozen BK405.out 2
        have p409 : 0 ≤ (x5_3 : Int) := of_decide_eq_true (by first | (with_reducible assumption) | assumption)
        have q409 : x5_3 < (l0_2.length : Int) := of_decide_eq_true (by first | (with_reducible assumption) | assumption)
        obtain ⟨ad409, e409, hx409_0, hx409_1⟩ := at_T76 HR0_2.out x5_3 p409 q409
        cases e409
        replace hx409_0 := (HB.out.cell (World.block_lt_of_cell? w _ hx409_0)).trans hx409_0
        replace hx409_1 := (HB.out.cell (World.block_lt_of_cell? w _ hx409_1)).trans hx409_1
        replace p409 := eq_true p409
        replace q409 := eq_true q409
        have p410 : 0 ≤ (x5_3 : Int) := of_decide_eq_true (by first | (with_reducible assumption) | assumption)
        have q410 : x5_3 < (l0_2.length : Int) := of_decide_eq_true (by first | (with_reducible assumption) | assumption)
        obtain ⟨ad410, e410, hx410_0, hx410_1⟩ := at_T76 HR0_2.out x5_3 p410 q410
        obtain rfl : ad409 = ad410 := (by injection e410)
        replace hx410_0 := (HB.out.cell (World.block_lt_of_cell? w _ hx410_0)).trans hx410_0
        replace hx410_1 := (HB.out.cell (World.block_lt_of_cell? w _ hx410_1)).trans hx410_1
        replace p410 := eq_true p410
        replace q410 := eq_true q410
        have p411 : 0 ≤ (x5_3 : Int) := of_decide_eq_true (by first | (with_reducible assumption) | assumption)
        have q411 : x5_3 < (l0_2.length : Int) := of_decide_eq_true (by first | (with_reducible assumption) | assumption)
        obtain ⟨ad411, e411, hx411_0, hx411_1⟩ := at_T76 HR0_2.out x5_3 p411 q411
        obtain rfl : ad409 = ad411 := (by injection e411)
        replace hx411_0 := (HB.out.cell (World.block_lt_of_cell? w _ hx411_0)).trans hx411_0
        replace hx411_1 := (HB.out.cell (World.block_lt_of_cell? w _ hx411_1)).trans hx411_1
        replace p411 := eq_true p411
        replace q411 := eq_true q411
        have p412 : 0 ≤ ((ji38) : Int) := of_decide_eq_true (by first | (with_reducible assumption) | assumption)
        have q412 : (ji38) < (l0_2.length : Int) := of_decide_eq_true (by first | (with_reducible assumption) | assumption)
        obtain ⟨ad412, e412, hx412_0, hx412_1⟩ := at_T76 HR0_2.out (ji38) p412 q412
        obtain rfl : ad409 = ad412 := (by injection e412)
        replace hx412_0 := (HB.out.cell (World.block_lt_of_cell? w _ hx412_0)).trans hx412_0
        replace hx412_1 := (HB.out.cell (World.block_lt_of_cell? w _ hx412_1)).trans hx412_1
        replace p412 := eq_true p412
        replace q412 := eq_true q412
        go_wp2
        go_ret
        exact ⟨by first | rfl | (simp [errW_none, errW_some] <;> rfl) | (simp only [← hji38]; first | rfl | (simp [errW_none, errW_some] <;> rfl)) | (simp [*, errW_none, errW_some] <;> rfl), kl HB⟩
       rw [if_pos c41] at H
       have c41b0 : (Op.bytesLess (((rd_T76 l0_2 (ji38)).f0).toList) (((rd_T76 l0_2 x5_3).f0).toList)) = true := c41
       clear c41
       have H' := aM H
       clear H
       have hcz42_0 : wr.cell? ⟨gb405, 0, none⟩ = some (.bool a0_0) := bc BK405 0
       have hcz42_1 : wr.cell? ⟨gb405, 1, none⟩ = some (.slice A0_1 l0_1.length c0_1) := bc BK405 1
       have hcz42_2 : wr.cell? ⟨gb405, 2, none⟩ = some (.slice A0_2 l0_2.length c0_2) := bc BK405 2
       have hfz42_0 := blk_frozen BK405.out 0
       have hfz42_1 := blk_frozen BK405.out 1
       have hfz42_2 := blk_frozen BK405.out 2
       have p409 : 0 ≤ (x5_3 : Int) := of_decide_eq_true (by first | (with_reducible assumption) | assumption)
       have q409 : x5_3 < (l0_2.length : Int) := of_decide_eq_true (by first | (with_reducible assumption) | assumption)
       obtain ⟨ad409, e409, hx409_0, hx409_1⟩ := at_T76 HR0_2.out x5_3 p409 q409
       cases e409
       replace hx409_0 := (HB.out.cell (World.block_lt_of_cell? w _ hx409_0)).trans hx409_0
       replace hx409_1 := (HB.out.cell (World.block_lt_of_cell? w _ hx409_1)).trans hx409_1
       replace p409 := eq_true p409
       replace q409 := eq_true q409
       have p410 : 0 ≤ (x5_3 : Int) := of_decide_eq_true (by first | (with_reducible assumption) | assumption)
       have q410 : x5_3 < (l0_2.length : Int) := of_decide_eq_true (by first | (with_reducible assumption) | assumption)
       obtain ⟨ad410, e410, hx410_0, hx410_1⟩ := at_T76 HR0_2.out x5_3 p410 q410
       obtain rfl : ad409 = ad410 := (by injection e410)
       replace hx410_0 := (HB.out.cell (World.block_lt_of_cell? w _ hx410_0)).trans hx410_0
       replace hx410_1 := (HB.out.cell (World.block_lt_of_cell? w _ hx410_1)).trans hx410_1
       replace p410 := eq_true p410
       replace q410 := eq_true q410
       have p411 : 0 ≤ (x5_3 : Int) := of_decide_eq_true (by first | (with_reducible assumption) | assumption)
       have q411 : x5_3 < (l0_2.length : Int) := of_decide_eq_true (by first | (with_reducible assumption) | assumption)
       obtain ⟨ad411, e411, hx411_0, hx411_1⟩ := at_T76 HR0_2.out x5_3 p411 q411
       obtain rfl : ad409 = ad411 := (by injection e411)
       replace hx411_0 := (HB.out.cell (World.block_lt_of_cell? w _ hx411_0)).trans hx411_0
       replace hx411_1 := (HB.out.cell (World.block_lt_of_cell? w _ hx411_1)).trans hx411_1
       replace p411 := eq_true p411
       replace q411 := eq_true q411
       have p412 : 0 ≤ ((ji38) : Int) := of_decide_eq_true (by first | (with_reducible assumption) | assumption)
       have q412 : (ji38) < (l0_2.length : Int) := of_decide_eq_true (by first | (with_reducible assumption) | assumption)
       obtain ⟨ad412, e412, hx412_0, hx412_1⟩ := at_T76 HR0_2.out (ji38) p412 q412
       obtain rfl : ad409 = ad412 := (by injection e412)
       replace hx412_0 := (HB.out.cell (World.block_lt_of_cell? w _ hx412_0)).trans hx412_0
       replace hx412_1 := (HB.out.cell (World.block_lt_of_cell? w _ hx412_1)).trans hx412_1
       replace p412 := eq_true p412
       replace q412 := eq_true q412
       go_wp2
       go_roundg k3
       case measure => have := HJ1.out; have := HK2.out; have := HK3.out; omega
       case rel => exact ⟨(wrap64 (x5_3 + 1)), (by first | rfl | (simp; done) | (simp [*]; done)), H', ⟨by have := HJ1.out; have := HK2.out; have := HK3.out; omega⟩, ⟨kb BK405⟩, ⟨kl HB⟩⟩
end Go.Proofs.Ytfbaejhjppikpaa.P
namespace Go.Proofs.Ytfbaejhjppikpaa.P
open Go.RowKit Go.Proofs.YtfbaejhjppikpaaW.PrintWords Go.Proofs.YtfbaejhjppikpaaW.PrintLast Go.Proofs.YtfbaejhjppikpaaW.PrintMore
open Go.Proofs.YtfbaejhjppikpaaB
end Go.Proofs.Ytfbaejhjppikpaa.P
namespace Go.Proofs.Ytfbaejhjppikpaa.P
open Go.RowKit Go.Proofs.YtfbaejhjppikpaaW.PrintWords Go.Proofs.YtfbaejhjppikpaaW.PrintLast Go.Proofs.YtfbaejhjppikpaaW.PrintMore
open Go.Proofs.YtfbaejhjppikpaaB
theorem refSame_l0 (a b : Bool) (l l' : List S75) (m m' : List S76) (h : m.length = m'.length) (hl : m.length ≤ 1000000) : ∀ (d i k : Nat), i + d = m.length → rf_Same.l0 (d + (k + 1)) (i : Int) a l m b l' m' = some (decide (m.drop i = m'.drop i)) := by
  intro d
  induction d with
  | zero =>
    intro i k hi
    rw [show 0 + (k + 1) = k + 1 from by omega]
    simp only [rf_Same.l0]
    rw [if_neg (by omega), List.drop_eq_nil_of_le (by omega), List.drop_eq_nil_of_le (by omega)]; simp
  | succ d ih =>
    intro i k hi
    obtain ⟨q, hq⟩ : ∃ q, q = d + (k + 1) := ⟨_, rfl⟩
    rw [show d + 1 + (k + 1) = q + 1 from by omega]
    simp only [rf_Same.l0]
    have h1 : i < m.length := by omega
    have h2 : i < m'.length := by omega
    rw [if_pos (by omega), if_pos (by omega), if_pos (by omega), wrap_nat i (by omega), hq, ih (i + 1) k (by omega), rdB6 m i h1, rdB6 m' i h2]
    have e := drop_eq_iff m m' i h1 h2
    by_cases c : m[i] = m'[i]
    · have c' := S76_eq.1 c
      rw [if_neg (by simp [c'.1, c'.2])]
      congr 1
      exact decide_eq_decide.2 ⟨fun h => e.2 ⟨c, h⟩, fun h => (e.1 h).2⟩
    · rw [if_pos ?_]
      · congr 1
        symm
        exact decide_eq_false (fun h => c (e.1 h).1)
      · simp only [Bool.or_eq_true, Bool.not_eq_true', beq_eq_false_iff_ne]
        by_cases c2 : m[i].f0.toList = m'[i].f0.toList
        · right; exact fun c3 => c (S76_eq.2 ⟨c2, c3⟩)
        · left; exact c2
theorem refSame_tells (a b : Bool) (l l' : List S75) (m m' : List S76) (hl : l.length ≤ 1000) (hm : m.length ≤ 1000) (k : Nat) (hk : 6000 ≤ k) : rf_Same.f k a l m b l' m' = some (decide (a = b ∧ l = l' ∧ m = m')) := by
  unfold rf_Same.f
  obtain ⟨q, rfl⟩ : ∃ q, k = q + 1 := ⟨k - 1, by omega⟩
  have hst : ∀ x, rf_Same.j0 (q + 1) true a l m b l' m' = x → x = some false := by
    rintro x rfl; simp only [rf_Same.j0, if_true]
  by_cases c1 : a = b
  · rw [if_neg (by simp [c1]), refEntries_tells l l' hl (q + 1) (by omega)]
    simp only [Option.bind_some]
    by_cases c2 : l = l'
    · rw [if_pos (by simp [c2])]
      by_cases c3 : (m.length : Int) = (m'.length : Int)
      · rw [show ((m.length : Int) != (m'.length : Int)) = false from by simp [c3]]
        simp only [rf_Same.j0, Bool.false_eq_true, if_false]
        obtain ⟨p, rfl⟩ : ∃ p, q = m.length + (p + 1) := ⟨q - m.length - 1, by omega⟩
        have := refSame_l0 a b l l' m m' (by omega) (by omega) m.length 0 p (by omega)
        simp only [Int.natCast_zero, List.drop_zero] at this
        rw [this]; simp [c1, c2]
      · rw [show ((m.length : Int) != (m'.length : Int)) = true from by simpa using c3, hst _ rfl]
        congr 1; symm
        exact decide_eq_false (fun e => c3 (by rw [e.2.2]))
    · rw [if_neg (by simp [c2]), hst _ rfl]; simp [c2]
  · rw [if_pos (by simp [c1]), hst _ rfl]; simp [c1]
theorem okE_toE (l : List S75) (i : Nat) (h : i < l.length) : okE (l.map toE) i = (decide (1 ≤ l[i].f0.size) && decide (l[i].f0.size ≤ 24) && decide (l[i].f1.size ≤ 100) && (decide (i = 0) || Op.bytesLess (rd_T75 l ((i - 1 : Nat) : Int)).f0.toList l[i].f0.toList)) := by
  unfold okE
  have hl : i < (l.map toE).length := by rw [List.length_map]; exact h
  rw [keyE_get _ i hl, keyE_get _ (i - 1) (by omega), rdE7 _ i hl, rdE5 l (i - 1) (by omega)]
  simp only [List.getElem_map, toE]
  congr 3
  have hs : l[i].f0.toList.length = l[i].f0.size := by rw [ByteArray.toList_eq, Array.length_toList]; rfl
  by_cases c : 1 ≤ l[i].f0.size
  · rw [decide_eq_true c]
    cases e : l[i].f0.toList with
    | nil => rw [e] at hs; simp at hs; omega
    | cons _ _ => rfl
  · rw [decide_eq_false c]
    rw [List.eq_nil_of_length_eq_zero (by omega : l[i].f0.toList.length = 0)]; rfl
theorem refMay_one {X : Option Bool} (l : List S75) (i : Nat) (hi : i < l.length) (hl : l.length ≤ 1000000) :
    (if (((rd_T75 l (i : Int)).f0).size : Int) < 1 then (some false) else (if (((rd_T75 l (i : Int)).f0).size : Int) > 24 then (some false) else (if (((rd_T75 l (i : Int)).f1).size : Int) > 100 then (some false) else (if (i : Int) > 0 then (if 0 ≤ (wrap64 ((i : Int) - 1)) then (if (wrap64 ((i : Int) - 1)) < (l.length : Int) then (if ((Op.bytesLess (((rd_T75 l (wrap64 ((i : Int) - 1))).f0).toList) (((rd_T75 l (i : Int)).f0).toList)) = true) then X else (some false)) else (none)) else (none)) else X)))) = if okE (l.map toE) i then X else some false := by
  rw [okE_toE l i hi, rdE5 l i hi]
  by_cases c1 : (l[i].f0.size : Int) < 1
  · rw [if_pos c1]; have : ¬ 1 ≤ l[i].f0.size := by omega
    simp [this]
  rw [if_neg c1]
  by_cases c2 : (l[i].f0.size : Int) > 24
  · rw [if_pos c2]; have : ¬ l[i].f0.size ≤ 24 := by omega
    simp [this]
  rw [if_neg c2]
  by_cases c3 : (l[i].f1.size : Int) > 100
  · rw [if_pos c3]; have : ¬ l[i].f1.size ≤ 100 := by omega
    simp [this]
  rw [if_neg c3]
  have d1 : decide (1 ≤ l[i].f0.size) = true := decide_eq_true (by omega)
  have d2 : decide (l[i].f0.size ≤ 24) = true := decide_eq_true (by omega)
  have d3 : decide (l[i].f1.size ≤ 100) = true := decide_eq_true (by omega)
  rw [d1, d2, d3]
  by_cases h0 : i = 0
  · subst h0; simp
  · rw [if_pos (by omega), wrap_pred i (by omega) (by omega), if_pos (by omega), if_pos (by omega)]
    simp [h0]
theorem rdB_toB (l : List S76) (i : Nat) (h : i < l.length) : rd_T36 (l.map toB) (i : Int) = toB (rd_T76 l (i : Int)) := by
  rw [rdB7 _ i (by rw [List.length_map]; exact h), rdB6 l i h, List.getElem_map]
theorem refMay_oneB {X : Option Bool} (l : List S76) (i : Nat) (hi : i < l.length) (hl : l.length ≤ 1000000) :
    (if (i : Int) > 0 then (if (((rd_T76 l (i : Int)).f0).size : Int) < 1 then (some false) else (if (((rd_T76 l (i : Int)).f0).size : Int) > 24 then (some false) else (if ((rd_T76 l (i : Int)).f1) < 2 then (some false) else (if ((rd_T76 l (i : Int)).f1) > 1023 then (some false) else (if 0 ≤ (wrap64 ((i : Int) - 1)) then (if (wrap64 ((i : Int) - 1)) < (l.length : Int) then (if ((Op.bytesLess (((rd_T76 l (wrap64 ((i : Int) - 1))).f0).toList) (((rd_T76 l (i : Int)).f0).toList)) = true) then X else (some false)) else (none)) else (none)))))) else (if (((rd_T76 l (i : Int)).f0).size : Int) > 24 then (some false) else (if ((rd_T76 l (i : Int)).f1) < 2 then (some false) else (if ((rd_T76 l (i : Int)).f1) > 1023 then (some false) else X)))) = if okB (l.map toB) i then X else some false := by
  have ho : okB (l.map toB) i = (decide ((rd_T76 l (i : Int)).f0.size ≤ 24) && decide (2 ≤ (rd_T76 l (i : Int)).f1) && decide ((rd_T76 l (i : Int)).f1 < 1024) && (decide (i = 0) || Op.bytesLess (rd_T76 l ((i - 1 : Nat) : Int)).f0.toList (rd_T76 l (i : Int)).f0.toList)) := by
    unfold okB keyB
    rw [rdB_toB l i hi, rdB_toB l (i - 1) (by omega)]; rfl
  rw [ho]
  have hs : (rd_T76 l (i : Int)).f0.toList.length = (rd_T76 l (i : Int)).f0.size := by rw [ByteArray.toList_eq, Array.length_toList]; rfl
  by_cases h0 : i = 0
  · rw [if_neg (by omega)]
    by_cases c2 : (((rd_T76 l (i : Int)).f0).size : Int) > 24
    · rw [if_pos c2]; have : ¬ ((rd_T76 l (i : Int)).f0).size ≤ 24 := by omega
      simp [this]
    rw [if_neg c2]
    by_cases c3 : (rd_T76 l (i : Int)).f1 < 2
    · rw [if_pos c3]; have : ¬ 2 ≤ (rd_T76 l (i : Int)).f1 := by omega
      simp [this]
    rw [if_neg c3]
    by_cases c4 : (rd_T76 l (i : Int)).f1 > 1023
    · rw [if_pos c4]; have : ¬ (rd_T76 l (i : Int)).f1 < 1024 := by omega
      simp [this]
    rw [if_neg c4]
    have d2 : decide (((rd_T76 l (i : Int)).f0).size ≤ 24) = true := decide_eq_true (by omega)
    have d3 : decide (2 ≤ (rd_T76 l (i : Int)).f1) = true := decide_eq_true (by omega)
    have d4 : decide ((rd_T76 l (i : Int)).f1 < 1024) = true := decide_eq_true (by omega)
    rw [d2, d3, d4]; simp [h0]
  · rw [if_pos (by omega)]
    have hem : (((rd_T76 l (i : Int)).f0).size : Int) < 1 → Op.bytesLess (rd_T76 l ((i - 1 : Nat) : Int)).f0.toList (rd_T76 l (i : Int)).f0.toList = false := fun h => by
      rw [List.eq_nil_of_length_eq_zero (by omega : (rd_T76 l (i : Int)).f0.toList.length = 0)]
      cases (rd_T76 l ((i - 1 : Nat) : Int)).f0.toList <;> rfl
    by_cases c1 : (((rd_T76 l (i : Int)).f0).size : Int) < 1
    · rw [if_pos c1, hem c1]; simp [h0]
    rw [if_neg c1]
    by_cases c2 : (((rd_T76 l (i : Int)).f0).size : Int) > 24
    · rw [if_pos c2]; have : ¬ ((rd_T76 l (i : Int)).f0).size ≤ 24 := by omega
      simp [this]
    rw [if_neg c2]
    by_cases c3 : (rd_T76 l (i : Int)).f1 < 2
    · rw [if_pos c3]; have : ¬ 2 ≤ (rd_T76 l (i : Int)).f1 := by omega
      simp [this]
    rw [if_neg c3]
    by_cases c4 : (rd_T76 l (i : Int)).f1 > 1023
    · rw [if_pos c4]; have : ¬ (rd_T76 l (i : Int)).f1 < 1024 := by omega
      simp [this]
    rw [if_neg c4]
    have d2 : decide (((rd_T76 l (i : Int)).f0).size ≤ 24) = true := decide_eq_true (by omega)
    have d3 : decide (2 ≤ (rd_T76 l (i : Int)).f1) = true := decide_eq_true (by omega)
    have d4 : decide ((rd_T76 l (i : Int)).f1 < 1024) = true := decide_eq_true (by omega)
    rw [d2, d3, d4, wrap_pred i (by omega) (by omega), if_pos (by omega), if_pos (by omega)]
    simp [h0]
theorem refMay_l1 (a : Bool) (l : List S75) (m : List S76) (hm : m.length ≤ 1000000) : ∀ (d i k : Nat), i + d = m.length → rf_May.l1 (d + (k + 1)) (i : Int) a l m = some (allFrom (okB (m.map toB)) i d) := by
  intro d
  induction d with
  | zero =>
    intro i k h
    rw [show 0 + (k + 1) = k + 1 from by omega]
    simp only [rf_May.l1, allFrom]
    rw [if_neg (by omega)]
  | succ d ih =>
    intro i k h
    obtain ⟨q, hq⟩ : ∃ q, q = d + (k + 1) := ⟨_, rfl⟩
    rw [show d + 1 + (k + 1) = q + 1 from by omega]
    simp only [rf_May.l1]
    rw [if_pos (show (i : Int) < (m.length : Int) by omega), if_pos (show (0 : Int) ≤ (i : Int) by omega), refMay_oneB m i (by omega) hm, wrap_nat i (by omega), hq, ih (i + 1) k (by omega)]
    simp only [allFrom]
    cases okB (m.map toB) i <;> simp
theorem refMay_l0 (a : Bool) (l : List S75) (m : List S76) (hl : l.length ≤ 1000000) : ∀ (d i k : Nat), i + d = l.length → rf_May.l0 (d + (k + 1)) (i : Int) a l m = if allFrom (okE (l.map toE)) i d then rf_May.l1 k 0 a l m else some false := by
  intro d
  induction d with
  | zero =>
    intro i k h
    rw [show 0 + (k + 1) = k + 1 from by omega]
    simp only [rf_May.l0, allFrom]
    rw [if_neg (by omega)]; rfl
  | succ d ih =>
    intro i k h
    obtain ⟨q, hq⟩ : ∃ q, q = d + (k + 1) := ⟨_, rfl⟩
    rw [show d + 1 + (k + 1) = q + 1 from by omega]
    simp only [rf_May.l0]
    rw [if_pos (show (i : Int) < (l.length : Int) by omega), if_pos (show (0 : Int) ≤ (i : Int) by omega), refMay_one l i (by omega) hl, wrap_nat i (by omega), hq, ih (i + 1) k (by omega)]
    simp only [allFrom]
    by_cases ho : okE (l.map toE) i = true <;> simp [ho]
theorem refMay_tells (a : Bool) (l : List S75) (m : List S76) (hl : l.length ≤ 1000) (hm : m.length ≤ 1000) : ∀ k, 5000 ≤ k → rf_May.f k a l m = some (mayB a (l.map toE) (m.map toB)) := by
  intro k hk
  obtain ⟨k, rfl⟩ : ∃ q, k = q + 1 := ⟨k - 1, by omega⟩
  have H : rf_May.l0 k 0 a l m = some (allFrom (okE (l.map toE)) 0 l.length && allFrom (okB (m.map toB)) 0 m.length) := by
    obtain ⟨q, hq⟩ : ∃ q, k = l.length + ((m.length + (q + 1)) + 1) := ⟨k - l.length - m.length - 2, by omega⟩
    rw [hq]
    have h0 := refMay_l0 a l m (by omega) l.length 0 (m.length + (q + 1)) (by omega)
    have h1 := refMay_l1 a l m (by omega) m.length 0 q (by omega)
    simp only [Int.natCast_zero] at h0 h1
    rw [h0, h1]
    by_cases ho : allFrom (okE (l.map toE)) 0 l.length = true <;> simp [ho]
  have hj : ∀ b, rf_May.j0 (k + 1) b a l m = if b then some false else some (allFrom (okE (l.map toE)) 0 l.length && allFrom (okB (m.map toB)) 0 m.length) := by
    intro b
    simp only [rf_May.j0]
    rw [H]
  unfold rf_May.f mayB
  simp only [List.length_map, List.isEmpty_map]
  cases a with
  | true =>
    simp only [if_true, hj]
    cases m with
    | nil => simp
    | cons x m => rw [if_pos (by simp)]; simp
  | false =>
    simp only [Bool.false_eq_true, if_false, hj]
    cases l with
    | nil => simp
    | cons x l => simp
end Go.Proofs.Ytfbaejhjppikpaa.P
namespace Go.Proofs.Ytfbaejhjppikpaa.P
open Go.RowKit Go.Proofs.YtfbaejhjppikpaaW.PrintWords Go.Proofs.YtfbaejhjppikpaaW.PrintLast Go.Proofs.YtfbaejhjppikpaaW.PrintMore
attribute [local go_sem] max2_int min2_int max_two min_two max_three min_three max_four min_four
set_option linter.unusedVariables false
set_option linter.unusedSimpArgs false
end Go.Proofs.Ytfbaejhjppikpaa.P
namespace Go.Proofs.Ytfbaejhjppikpaa.P
open Go.RowKit Go.Proofs.YtfbaejhjppikpaaW.PrintWords Go.Proofs.YtfbaejhjppikpaaW.PrintLast Go.Proofs.YtfbaejhjppikpaaW.PrintMore
attribute [local go_sem] max2_int min2_int max_two min_two max_three min_three max_four min_four
set_option linter.unusedVariables false
set_option linter.unusedSimpArgs false
def leaf_Entry_48.f (l0 : List S47) (a1 : Int) : Option ((List S47) × (List S47)) := if (l0.length : Int) = 0 then (some (([] : List S47), ([] : List S47))) else (if 0 ≤ a1 then (if a1 ≤ (l0.length : Int) then ((leaf_Entry_52.f (l0.take (a1 : Int).toNat)).bind fun t230 => ((leaf_Entry_52.f (l0.drop (a1 : Int).toNat)).bind fun t237 => (some (t230, t237)))) else (none)) else (none))
def leaf_Entry_48.T3 : Bool × List (List Nat × List Nat) := (true, [([], []), ([], []), ([0, 1], [0, 1]), ([2], [2]), ([], []), ([], []), ([4, 5], [4, 5]), ([6, 3], [6]), ([3, 7, 0, 1, 2, 3], [3]), ([7, 8, 0, 1, 2, 3, 4, 5, 6, 7, 8], [7])])
def leaf_Entry_48.B3 : List Nat := [0, 0, 3, 7, 0, 0, 48, 127, 255, 511]
theorem leaf_Entry_48.tab3 : rtab .any (opsOf Try.f48 3) = leaf_Entry_48.T3 := by kernel_rfl
theorem leaf_Entry_48.bits3 : waitsOk leaf_Entry_48.T3.2 leaf_Entry_48.B3 = true := by kernel_rfl
set_option maxHeartbeats 8000000 in
set_option maxRecDepth 100000 in
theorem leaf_Entry_48.calls (A0 : Option Addr) (c0 : Nat) (l0 : List S47) (a1 : Int) (r1 : List S47) (r2 : List S47) (w : World) (hr0 : Kd.C k47 w A0 l0.length l0) (hc0 : l0.length ≤ c0) (h : leaf_Entry_48.f l0 a1 = some (r1, r2)) :
  Calls Try.prog 48 #[.slice A0 l0.length c0, .int .i64 a1] w fun e w' => ∃ v0_ v1_ : Value, e = .returned (.tuple #[v0_, v1_]) ∧ Kd.R k47 47 w' w.heap.size (fun k_ => some k_ ≠ (v1_ : Value).ownBlock) v0_ r1 ∧ Kd.R k47 47 w' w.heap.size (fun k_ => some k_ ≠ (v0_ : Value).ownBlock) v1_ r2 ∧ Below w.heap.size w w' := by
 have HR0 := aM hr0
 have HC0 := aM hc0
 clear hr0 hc0
 have HB := aM (Below.refl w.heap.size w)
 have H : (if (l0.length : Int) = 0 then (some (([] : List S47), ([] : List S47))) else (if 0 ≤ a1 then (if a1 ≤ (l0.length : Int) then ((leaf_Entry_52.f (l0.take (a1 : Int).toNat)).bind fun t230 => ((leaf_Entry_52.f (l0.drop (a1 : Int).toNat)).bind fun t237 => (some (t230, t237)))) else (none)) else (none))) = some (r1, r2) := h
 clear h
 by_cases c3 : (l0.length : Int) = 0
 ·rw [if_pos c3] at H
  have c3b0 : ((l0.length : Int) == 0) = true := beq_iff_eq.mpr c3
  have c3b1 : ((l0.length : Int) != 0) = false := bne_eq_false_iff_eq.mpr c3
  clear c3
  simp only [Option.some.injEq, Prod.mk.injEq] at H
  obtain ⟨rfl, rfl⟩ := H
  go_enter Try.func48, Try.ntmps48
  go_wp2
  go_ret2
  exact ⟨_, _, by first | rfl | (simp [errW_none, errW_some] <;> rfl) | (simp [*, errW_none, errW_some] <;> rfl), by first | exact Kd.R_nil _ _ _ _ _ | exact Kd.N_nil _ _ _ _ _ | exact Kd.V_nil _ _ _ _ _ | exact Kd.Q_nil _ _ _ _ _ | exact Kd.S_nil _ _ _ _ _, by first | exact Kd.R_nil _ _ _ _ _ | exact Kd.N_nil _ _ _ _ _ | exact Kd.V_nil _ _ _ _ _ | exact Kd.Q_nil _ _ _ _ _ | exact Kd.S_nil _ _ _ _ _, kl HB⟩
 rw [if_neg c3] at H
 have c3b0 : ((l0.length : Int) == 0) = false := beq_eq_false_iff_ne.mpr c3
 have c3b1 : ((l0.length : Int) != 0) = true := bne_iff_ne.mpr c3
 have c3b2 : ¬ (l0 = []) := fun h_ => c3 (by rw [h_]; rfl)
 by_cases c4 : 0 ≤ a1
 rotate_left
 ·rw [if_neg c4] at H
  exact absurd H (by simp)
 rw [if_pos c4] at H
 have c4b0 := eq_true c4
 have c4b1 : decide (0 ≤ a1) = true := decide_eq_true c4
 clear c4
 by_cases c5 : a1 ≤ (l0.length : Int)
 rotate_left
 ·rw [if_neg c5] at H
  exact absurd H (by simp)
 rw [if_pos c5] at H
 have c5b0 := eq_true c5
 have c5b1 : decide (a1 ≤ (l0.length : Int)) = true := decide_eq_true c5
 clear c5
 obtain ⟨y226, hy226⟩ : ∃ y_ : List S47, y_ = (l0.take (a1 : Int).toNat) := ⟨_, rfl⟩
 replace H : ((leaf_Entry_52.f y226).bind fun t230 => ((leaf_Entry_52.f (l0.drop (a1 : Int).toNat)).bind fun t237 => (some (t230, t237)))) = some (r1, r2) := by first | (rw [hy226]; with_reducible exact H) | (have H2_ := (Option.bind_some _ _).symm.trans H; rw [hy226]; with_reducible exact H2_) | (have H2_ := (Option.bind_some _ _).symm.trans H; with_reducible exact H2_) | with_reducible exact H | (rw [hy226]; exact H) | exact H
 have Ny226 := aM hy226
 clear hy226
 replace H := Option.bind_eq_some_iff.mp H
 obtain ⟨t230, A60, H⟩ := H
 replace H : ((leaf_Entry_52.f (l0.drop (a1 : Int).toNat)).bind fun t237 => (some (t230, t237))) = some (r1, r2) := H
 have A6 := aM A60
 clear A60
 have c7b0 := eq_true (of_decide_eq_true (by first | (with_reducible assumption) | assumption) : 0 ≤ a1)
 have c8b0 := eq_true (of_decide_eq_true (by first | (with_reducible assumption) | assumption) : a1 ≤ (l0.length : Int))
 obtain ⟨y233, hy233⟩ : ∃ y_ : List S47, y_ = (l0.drop (a1 : Int).toNat) := ⟨_, rfl⟩
 replace H : ((leaf_Entry_52.f y233).bind fun t237 => (some (t230, t237))) = some (r1, r2) := by first | (rw [hy233]; with_reducible exact H) | (have H2_ := (Option.bind_some _ _).symm.trans H; rw [hy233]; with_reducible exact H2_) | (have H2_ := (Option.bind_some _ _).symm.trans H; with_reducible exact H2_) | with_reducible exact H | (rw [hy233]; exact H) | exact H
 have Ny233 := aM hy233
 clear hy233
 replace H := Option.bind_eq_some_iff.mp H
 obtain ⟨t237, A90, H⟩ := H
 replace H : (some (t230, t237)) = some (r1, r2) := H
 have A9 := aM A90
 clear A90
 simp only [Option.some.injEq, Prod.mk.injEq] at H
 obtain ⟨rfl, rfl⟩ := H
 go_enter Try.func48, Try.ntmps48
 try go_wp2
 replace HB := aM (below_drew1 HB.out)
 have q11 : (a1 : Int) ≤ ((l0.length : Int) : Int) := of_decide_eq_true (by first | (with_reducible assumption) | assumption)
 obtain ⟨i011, hi011, _, hsz11, _⟩ := info_parts info47
 have hroom11 : l0.length ≤ c0 := HC0.out
 have hC11 : Kd.C k47 _ A0 l0.length l0 := HR0.out
 have hcut11 := cut_to (P := Try.prog) 28 47 .i64 Try.underlying28 hi011 A0 l0.length c0 a1 (of_decide_eq_true (by first | (with_reducible assumption) | assumption)) q11 hroom11
 have hr11 := Kd.C_take (m := (a1 : Int).toNat) hC11 (by omega)
 have hy11 : y226.length = (a1 : Int).toNat := (by rw [Ny226.out, List.length_take]; omega)
 rw [← Ny226.out] at hr11
 rw [← hy11] at hcut11
 have HR229 := aM hr11
 have HC229 := aM (show y226.length ≤ c0 from by omega)
 clear hr11 hC11 hroom11 hi011 hsz11
 have KY11 := aM hy11
 clear hy11
 replace q11 := eq_true q11
 have q12 : (a1 : Int) ≤ ((l0.length : Int) : Int) := of_decide_eq_true (by first | (with_reducible assumption) | assumption)
 obtain ⟨i012, hi012, _, hsz12, _⟩ := info_parts info47
 have hroom12 : l0.length ≤ c0 := HC0.out
 have hC12 : Kd.C k47 _ A0 l0.length l0 := HR0.out
 have q012 : (0 : Int) ≤ (a1 : Int) := of_decide_eq_true (by first | (with_reducible assumption) | assumption)
 have hcut12 := cut_from (P := Try.prog) 28 47 .i64 Try.underlying28 hi012 2 hsz12 A0 l0.length c0 a1 q012 q12
 have hr12 := Kd.C_drop (m := (a1 : Int).toNat) (c := c0) hC12 (by omega) hroom12
 obtain ⟨A12, hA12⟩ : ∃ A1, A1 = (if c0 = (a1 : Int).toNat then A0 else (A0 : Option Addr).map (·.add ((a1 : Int).toNat * 2))) := ⟨_, rfl⟩
 obtain ⟨c12, hc12⟩ : ∃ c1, c1 = c0 - (a1 : Int).toNat := ⟨_, rfl⟩
 have hy12 : y233.length = l0.length - (a1 : Int).toNat := (by rw [Ny233.out, List.length_drop] <;> omega)
 rw [show (l0).drop (a1 : Int).toNat = y233 from Ny233.out.symm] at hr12
 replace hr12 : Kd.C k47 _ A12 y233.length y233 := (by rw [hA12]; exact hr12)
 rw [← hy12, ← hA12, ← hc12] at hcut12
 have HR236 := aM hr12
 have HC236 := aM (show y233.length ≤ c12 from by rw [hy12, hc12]; exact Nat.sub_le_sub_right hroom12 _)
 clear hr12 hC12 hroom12 hi012 hsz12 hc12
 have KY12 := aM hy12
 have KA12 := aM hA12
 clear hy12 hA12
 replace q12 := eq_true q12
 refine start_ (n := 10) (S := fun w' => True) (ds := []) #[N,N,N,N,N,N,N,N,N,N] (by kernel_rfl) rfl rfl trivial (fun hHeld => ?_); refine with_tabW leaf_Entry_48.tab3 leaf_Entry_48.bits3 (fun HT_ HW_ => ?_)
 generalize w.drew = w10 at HB HR229 HR236 hHeld ⊢
 refine pure_ (i := 0) (N := some 9) (v := ?_) (a' := ?_) #[Y,N,N,N,N,N,N,N,N,N] rfl rfl (any_of HT_.out (by kernel_rfl)) (fun _ _ _ h => h) (Or.inl ⟨by rfl, ?_⟩) ?_ ?_
 rotate_left
 ·intro w'
  go_simp
  with_reducible rfl
 rotate_left
 ·simp only [Act.put, List.setIfInBounds_toArray, List.set_cons_zero, List.set_cons_succ, i64_w, i32_w]
  rfl
 refine pure_ (i := 1) (N := some 10) (v := ?_) (a' := ?_) #[Y,Y,N,N,N,N,N,N,N,N] rfl rfl (any_of HT_.out (by kernel_rfl)) (fun _ _ _ h => h) (Or.inl ⟨by rfl, ?_⟩) ?_ ?_
 rotate_left
 ·intro w'
  go_simp
  with_reducible rfl
 rotate_left
 ·simp only [Act.put, List.setIfInBounds_toArray, List.set_cons_zero, List.set_cons_succ, i64_w, i32_w]
  rfl
 refine pure_ (i := 2) (N := some 11) (v := ?_) (a' := ?_) #[Y,Y,Y,N,N,N,N,N,N,N] rfl rfl (any_of HT_.out (by kernel_rfl)) (fun _ _ _ h => h) (Or.inl ⟨by rfl, ?_⟩) ?_ ?_
 rotate_left
 ·intro w'
  go_simp
  with_reducible rfl
 rotate_left
 ·simp only [Act.put, List.setIfInBounds_toArray, List.set_cons_zero, List.set_cons_succ, i64_w, i32_w]
  rfl
 refine pure_ (i := 4) (N := some 13) (v := ?_) (a' := ?_) #[Y,Y,Y,N,Y,N,N,N,N,N] rfl rfl (any_of HT_.out (by kernel_rfl)) (fun _ _ _ h => h) (Or.inl ⟨by rfl, ?_⟩) ?_ ?_
 rotate_left
 ·intro w'
  go_simp
  with_reducible rfl
 rotate_left
 ·simp only [Act.put, List.setIfInBounds_toArray, List.set_cons_zero, List.set_cons_succ, i64_w, i32_w]
  rfl
 refine pure_ (i := 5) (N := some 14) (v := ?_) (a' := ?_) #[Y,Y,Y,N,Y,Y,N,N,N,N] rfl rfl (any_of HT_.out (by kernel_rfl)) (fun _ _ _ h => h) (Or.inl ⟨by rfl, ?_⟩) ?_ ?_
 rotate_left
 ·intro w'
  go_simp
  with_reducible rfl
 rotate_left
 ·simp only [Act.put, List.setIfInBounds_toArray, List.set_cons_zero, List.set_cons_succ, i64_w, i32_w]
  rfl
 refine pure_ (i := 6) (N := some 15) (v := ?_) (a' := ?_) #[Y,Y,Y,N,Y,Y,Y,N,N,N] rfl rfl (any_of HT_.out (by kernel_rfl)) (fun _ _ _ h => h) (Or.inl ⟨by rfl, ?_⟩) ?_ ?_
 rotate_left
 ·intro w'
  go_simp
  with_reducible rfl
 rotate_left
 ·simp only [Act.put, List.setIfInBounds_toArray, List.set_cons_zero, List.set_cons_succ, i64_w, i32_w]
  rfl
 refine one_ (i := 3) (N := some 12) #[Y,Y,Y,Y,Y,Y,Y,N,N,N] rfl rfl (one_of HT_.out (by kernel_rfl)) (by decide) (fun K hK => ?_)
 refine goes_ Try.func52 (by kernel_rfl) rfl #[.slice A0 y226.length c0] (by rfl) rfl rfl (by (try simp only [List.map_toArray, List.map_cons, List.map_nil]); first | done | rfl | (simp only [List.length_drop, List.length_take]; rfl)) ?_
 with_reducible refine (leaf_Entry_52.calls _ _ y226 t230 _ ?side1 ?side2 A6.out).mono ?_
 (case side1 => exact kc (Kd.C_below HR229.out HB.out))
 (case side2 => exact HC229.out)
 rintro e w13 ⟨v231, rfl, ho0, hb⟩
 refine ⟨_, rfl, ?_⟩
 have HO232 := aM (Kd.R_lower ho0 (below_size (kl HB)))
 replace HB := aM (below_step (kl HB) hb)
 (try clear hb)
 (try clear hb2)
 (try clear hk)
 (try clear hi)
 (try clear ho0)
 refine hK.out _ _ trivial (fun hHeld => ?_)
 clear hK K
 refine norm_ (a' := ?_) ?_ ?_
 rotate_left
 ·show Act.put _ (some 12) _ = _
  simp only [Act.put, List.setIfInBounds_toArray, List.set_cons_zero, List.set_cons_succ, i64_w, i32_w]
  rfl
 refine one_ (i := 7) (N := some 16) #[Y,Y,Y,Y,Y,Y,Y,Y,N,N] rfl rfl (one_of HT_.out (by kernel_rfl)) (by decide) (fun K hK => ?_)
 refine goes_ Try.func52 (by kernel_rfl) rfl #[.slice A12 y233.length c12] (by rfl) rfl rfl (by (try simp only [List.map_toArray, List.map_cons, List.map_nil]); first | done | rfl | (simp only [List.length_drop, List.length_take]; rfl)) ?_
 with_reducible refine (leaf_Entry_52.calls _ _ y233 t237 _ ?side1 ?side2 A9.out).mono ?_
 (case side1 => exact kc (Kd.C_below HR236.out HB.out))
 (case side2 => exact HC236.out)
 rintro e w14 ⟨v238, rfl, ho0, hb⟩
 refine ⟨_, rfl, ?_⟩
 have HO239 := aM (Kd.R_lower (Kd.R_new' ho0 (Kd.R_lt (kr HO232))) (below_size (kl HB)))
 replace HO232 := aM (Kd.R_elder' (kr HO232) (Kd.R_base ho0) hb)
 replace HB := aM (below_step (kl HB) hb)
 (try clear hb)
 (try clear hb2)
 (try clear hk)
 (try clear hi)
 (try clear ho0)
 refine hK.out _ _ trivial (fun hHeld => ?_)
 clear hK K
 refine norm_ (a' := ?_) ?_ ?_
 rotate_left
 ·show Act.put _ (some 16) _ = _
  simp only [Act.put, List.setIfInBounds_toArray, List.set_cons_zero, List.set_cons_succ, i64_w, i32_w]
  rfl
 refine pure_ (i := 8) (N := some 4) (v := ?_) (a' := ?_) #[Y,Y,Y,Y,Y,Y,Y,Y,Y,N] rfl rfl (any_of HT_.out (by kernel_rfl)) (fun _ _ _ h => h) (Or.inl ⟨by rfl, ?_⟩) ?_ ?_
 rotate_left
 ·intro w'
  go_simp
  with_reducible rfl
 rotate_left
 ·simp only [Act.put, List.setIfInBounds_toArray, List.set_cons_zero, List.set_cons_succ, i64_w, i32_w]
  rfl
 refine pure_ (i := 9) (N := some 5) (v := ?_) (a' := ?_) #[Y,Y,Y,Y,Y,Y,Y,Y,Y,Y] rfl rfl (any_of HT_.out (by kernel_rfl)) (fun _ _ _ h => h) (Or.inl ⟨by rfl, ?_⟩) ?_ ?_
 rotate_left
 ·intro w'
  go_simp
  with_reducible rfl
 rotate_left
 ·simp only [Act.put, List.setIfInBounds_toArray, List.set_cons_zero, List.set_cons_succ, i64_w, i32_w]
  rfl
 refine done_ (done_of HT_.out (by kernel_rfl)) ?_
 try go_wp2
 go_ret2
 exact ⟨_, _, by first | rfl | (simp [errW_none, errW_some] <;> rfl) | (simp [*, errW_none, errW_some] <;> rfl), by (with_reducible repeat (first | apply Kd.R_alloc | apply Kd.R_drewN | apply Kd.R_drew)); exact Kd.R_mono HO232.out (fun _ hk => hk.2), by (with_reducible repeat (first | apply Kd.R_alloc | apply Kd.R_drewN | apply Kd.R_drew)); exact Kd.R_mono HO239.out (fun _ hk => hk.2), kl HB⟩
end Go.Proofs.Ytfbaejhjppikpaa.P
namespace Go.Proofs.Ytfbaejhjppikpaa.P
open Go.RowKit Go.Proofs.YtfbaejhjppikpaaW.PrintWords Go.Proofs.YtfbaejhjppikpaaW.PrintLast Go.Proofs.YtfbaejhjppikpaaW.PrintMore
attribute [local go_sem] max2_int min2_int max_two min_two max_three min_three max_four min_four
set_option linter.unusedVariables false
set_option linter.unusedSimpArgs false
end Go.Proofs.Ytfbaejhjppikpaa.P
namespace Go.Proofs.Ytfbaejhjppikpaa.P
open Go.RowKit Go.Proofs.YtfbaejhjppikpaaW.PrintWords Go.Proofs.YtfbaejhjppikpaaW.PrintLast Go.Proofs.YtfbaejhjppikpaaW.PrintMore
attribute [local go_sem] max2_int min2_int max_two min_two max_three min_three max_four min_four
set_option linter.unusedVariables false
set_option linter.unusedSimpArgs false
def leaf_Branch_49.f (l0 : List S36) (a1 : Int) : Option ((List S36) × (List S36)) := if (l0.length : Int) = 0 then (some (([] : List S36), ([] : List S36))) else (if 0 ≤ a1 then (if a1 ≤ (l0.length : Int) then ((leaf_Branch_56.f (l0.take (a1 : Int).toNat)).bind fun t244 => ((leaf_Branch_56.f (l0.drop (a1 : Int).toNat)).bind fun t251 => (some (t244, t251)))) else (none)) else (none))
def leaf_Branch_49.T3 : Bool × List (List Nat × List Nat) := (true, [([], []), ([], []), ([0, 1], [0, 1]), ([2], [2]), ([], []), ([], []), ([4, 5], [4, 5]), ([6, 3], [6]), ([3, 7, 0, 1, 2, 3], [3]), ([7, 8, 0, 1, 2, 3, 4, 5, 6, 7, 8], [7])])
def leaf_Branch_49.B3 : List Nat := [0, 0, 3, 7, 0, 0, 48, 127, 255, 511]
theorem leaf_Branch_49.tab3 : rtab .any (opsOf Try.f49 3) = leaf_Branch_49.T3 := by kernel_rfl
theorem leaf_Branch_49.bits3 : waitsOk leaf_Branch_49.T3.2 leaf_Branch_49.B3 = true := by kernel_rfl
set_option maxHeartbeats 8000000 in
set_option maxRecDepth 100000 in
theorem leaf_Branch_49.calls (A0 : Option Addr) (c0 : Nat) (l0 : List S36) (a1 : Int) (r1 : List S36) (r2 : List S36) (w : World) (hr0 : Kd.C k36 w A0 l0.length l0) (hc0 : l0.length ≤ c0) (h : leaf_Branch_49.f l0 a1 = some (r1, r2)) :
  Calls Try.prog 49 #[.slice A0 l0.length c0, .int .i64 a1] w fun e w' => ∃ v0_ v1_ : Value, e = .returned (.tuple #[v0_, v1_]) ∧ Kd.R k36 36 w' w.heap.size (fun k_ => some k_ ≠ (v1_ : Value).ownBlock) v0_ r1 ∧ Kd.R k36 36 w' w.heap.size (fun k_ => some k_ ≠ (v0_ : Value).ownBlock) v1_ r2 ∧ Below w.heap.size w w' := by
 have HR0 := aM hr0
 have HC0 := aM hc0
 clear hr0 hc0
 have HB := aM (Below.refl w.heap.size w)
 have H : (if (l0.length : Int) = 0 then (some (([] : List S36), ([] : List S36))) else (if 0 ≤ a1 then (if a1 ≤ (l0.length : Int) then ((leaf_Branch_56.f (l0.take (a1 : Int).toNat)).bind fun t244 => ((leaf_Branch_56.f (l0.drop (a1 : Int).toNat)).bind fun t251 => (some (t244, t251)))) else (none)) else (none))) = some (r1, r2) := h
 clear h
 by_cases c3 : (l0.length : Int) = 0
 ·rw [if_pos c3] at H
  have c3b0 : ((l0.length : Int) == 0) = true := beq_iff_eq.mpr c3
  have c3b1 : ((l0.length : Int) != 0) = false := bne_eq_false_iff_eq.mpr c3
  clear c3
  simp only [Option.some.injEq, Prod.mk.injEq] at H
  obtain ⟨rfl, rfl⟩ := H
  go_enter Try.func49, Try.ntmps49
  go_wp2
  go_ret2
  exact ⟨_, _, by first | rfl | (simp [errW_none, errW_some] <;> rfl) | (simp [*, errW_none, errW_some] <;> rfl), by first | exact Kd.R_nil _ _ _ _ _ | exact Kd.N_nil _ _ _ _ _ | exact Kd.V_nil _ _ _ _ _ | exact Kd.Q_nil _ _ _ _ _ | exact Kd.S_nil _ _ _ _ _, by first | exact Kd.R_nil _ _ _ _ _ | exact Kd.N_nil _ _ _ _ _ | exact Kd.V_nil _ _ _ _ _ | exact Kd.Q_nil _ _ _ _ _ | exact Kd.S_nil _ _ _ _ _, kl HB⟩
 rw [if_neg c3] at H
 have c3b0 : ((l0.length : Int) == 0) = false := beq_eq_false_iff_ne.mpr c3
 have c3b1 : ((l0.length : Int) != 0) = true := bne_iff_ne.mpr c3
 have c3b2 : ¬ (l0 = []) := fun h_ => c3 (by rw [h_]; rfl)
 by_cases c4 : 0 ≤ a1
 rotate_left
 ·rw [if_neg c4] at H
  exact absurd H (by simp)
 rw [if_pos c4] at H
 have c4b0 := eq_true c4
 have c4b1 : decide (0 ≤ a1) = true := decide_eq_true c4
 clear c4
 by_cases c5 : a1 ≤ (l0.length : Int)
 rotate_left
 ·rw [if_neg c5] at H
  exact absurd H (by simp)
 rw [if_pos c5] at H
 have c5b0 := eq_true c5
 have c5b1 : decide (a1 ≤ (l0.length : Int)) = true := decide_eq_true c5
 clear c5
 obtain ⟨y240, hy240⟩ : ∃ y_ : List S36, y_ = (l0.take (a1 : Int).toNat) := ⟨_, rfl⟩
 replace H : ((leaf_Branch_56.f y240).bind fun t244 => ((leaf_Branch_56.f (l0.drop (a1 : Int).toNat)).bind fun t251 => (some (t244, t251)))) = some (r1, r2) := by first | (rw [hy240]; with_reducible exact H) | (have H2_ := (Option.bind_some _ _).symm.trans H; rw [hy240]; with_reducible exact H2_) | (have H2_ := (Option.bind_some _ _).symm.trans H; with_reducible exact H2_) | with_reducible exact H | (rw [hy240]; exact H) | exact H
 have Ny240 := aM hy240
 clear hy240
 replace H := Option.bind_eq_some_iff.mp H
 obtain ⟨t244, A60, H⟩ := H
 replace H : ((leaf_Branch_56.f (l0.drop (a1 : Int).toNat)).bind fun t251 => (some (t244, t251))) = some (r1, r2) := H
 have A6 := aM A60
 clear A60
 have c7b0 := eq_true (of_decide_eq_true (by first | (with_reducible assumption) | assumption) : 0 ≤ a1)
 have c8b0 := eq_true (of_decide_eq_true (by first | (with_reducible assumption) | assumption) : a1 ≤ (l0.length : Int))
 obtain ⟨y247, hy247⟩ : ∃ y_ : List S36, y_ = (l0.drop (a1 : Int).toNat) := ⟨_, rfl⟩
 replace H : ((leaf_Branch_56.f y247).bind fun t251 => (some (t244, t251))) = some (r1, r2) := by first | (rw [hy247]; with_reducible exact H) | (have H2_ := (Option.bind_some _ _).symm.trans H; rw [hy247]; with_reducible exact H2_) | (have H2_ := (Option.bind_some _ _).symm.trans H; with_reducible exact H2_) | with_reducible exact H | (rw [hy247]; exact H) | exact H
 have Ny247 := aM hy247
 clear hy247
 replace H := Option.bind_eq_some_iff.mp H
 obtain ⟨t251, A90, H⟩ := H
 replace H : (some (t244, t251)) = some (r1, r2) := H
 have A9 := aM A90
 clear A90
 simp only [Option.some.injEq, Prod.mk.injEq] at H
 obtain ⟨rfl, rfl⟩ := H
 go_enter Try.func49, Try.ntmps49
 try go_wp2
 replace HB := aM (below_drew1 HB.out)
 have q11 : (a1 : Int) ≤ ((l0.length : Int) : Int) := of_decide_eq_true (by first | (with_reducible assumption) | assumption)
 obtain ⟨i011, hi011, _, hsz11, _⟩ := info_parts info36
 have hroom11 : l0.length ≤ c0 := HC0.out
 have hC11 : Kd.C k36 _ A0 l0.length l0 := HR0.out
 have hcut11 := cut_to (P := Try.prog) 29 36 .i64 Try.underlying29 hi011 A0 l0.length c0 a1 (of_decide_eq_true (by first | (with_reducible assumption) | assumption)) q11 hroom11
 have hr11 := Kd.C_take (m := (a1 : Int).toNat) hC11 (by omega)
 have hy11 : y240.length = (a1 : Int).toNat := (by rw [Ny240.out, List.length_take]; omega)
 rw [← Ny240.out] at hr11
 rw [← hy11] at hcut11
 have HR243 := aM hr11
 have HC243 := aM (show y240.length ≤ c0 from by omega)
 clear hr11 hC11 hroom11 hi011 hsz11
 have KY11 := aM hy11
 clear hy11
 replace q11 := eq_true q11
 have q12 : (a1 : Int) ≤ ((l0.length : Int) : Int) := of_decide_eq_true (by first | (with_reducible assumption) | assumption)
 obtain ⟨i012, hi012, _, hsz12, _⟩ := info_parts info36
 have hroom12 : l0.length ≤ c0 := HC0.out
 have hC12 : Kd.C k36 _ A0 l0.length l0 := HR0.out
 have q012 : (0 : Int) ≤ (a1 : Int) := of_decide_eq_true (by first | (with_reducible assumption) | assumption)
 have hcut12 := cut_from (P := Try.prog) 29 36 .i64 Try.underlying29 hi012 2 hsz12 A0 l0.length c0 a1 q012 q12
 have hr12 := Kd.C_drop (m := (a1 : Int).toNat) (c := c0) hC12 (by omega) hroom12
 obtain ⟨A12, hA12⟩ : ∃ A1, A1 = (if c0 = (a1 : Int).toNat then A0 else (A0 : Option Addr).map (·.add ((a1 : Int).toNat * 2))) := ⟨_, rfl⟩
 obtain ⟨c12, hc12⟩ : ∃ c1, c1 = c0 - (a1 : Int).toNat := ⟨_, rfl⟩
 have hy12 : y247.length = l0.length - (a1 : Int).toNat := (by rw [Ny247.out, List.length_drop] <;> omega)
 rw [show (l0).drop (a1 : Int).toNat = y247 from Ny247.out.symm] at hr12
 replace hr12 : Kd.C k36 _ A12 y247.length y247 := (by rw [hA12]; exact hr12)
 rw [← hy12, ← hA12, ← hc12] at hcut12
 have HR250 := aM hr12
 have HC250 := aM (show y247.length ≤ c12 from by rw [hy12, hc12]; exact Nat.sub_le_sub_right hroom12 _)
 clear hr12 hC12 hroom12 hi012 hsz12 hc12
 have KY12 := aM hy12
 have KA12 := aM hA12
 clear hy12 hA12
 replace q12 := eq_true q12
 refine start_ (n := 10) (S := fun w' => True) (ds := []) #[N,N,N,N,N,N,N,N,N,N] (by kernel_rfl) rfl rfl trivial (fun hHeld => ?_); refine with_tabW leaf_Branch_49.tab3 leaf_Branch_49.bits3 (fun HT_ HW_ => ?_)
 generalize w.drew = w10 at HB HR243 HR250 hHeld ⊢
 refine pure_ (i := 0) (N := some 9) (v := ?_) (a' := ?_) #[Y,N,N,N,N,N,N,N,N,N] rfl rfl (any_of HT_.out (by kernel_rfl)) (fun _ _ _ h => h) (Or.inl ⟨by rfl, ?_⟩) ?_ ?_
 rotate_left
 ·intro w'
  go_simp
  with_reducible rfl
 rotate_left
 ·simp only [Act.put, List.setIfInBounds_toArray, List.set_cons_zero, List.set_cons_succ, i64_w, i32_w]
  rfl
 refine pure_ (i := 1) (N := some 10) (v := ?_) (a' := ?_) #[Y,Y,N,N,N,N,N,N,N,N] rfl rfl (any_of HT_.out (by kernel_rfl)) (fun _ _ _ h => h) (Or.inl ⟨by rfl, ?_⟩) ?_ ?_
 rotate_left
 ·intro w'
  go_simp
  with_reducible rfl
 rotate_left
 ·simp only [Act.put, List.setIfInBounds_toArray, List.set_cons_zero, List.set_cons_succ, i64_w, i32_w]
  rfl
 refine pure_ (i := 2) (N := some 11) (v := ?_) (a' := ?_) #[Y,Y,Y,N,N,N,N,N,N,N] rfl rfl (any_of HT_.out (by kernel_rfl)) (fun _ _ _ h => h) (Or.inl ⟨by rfl, ?_⟩) ?_ ?_
 rotate_left
 ·intro w'
  go_simp
  with_reducible rfl
 rotate_left
 ·simp only [Act.put, List.setIfInBounds_toArray, List.set_cons_zero, List.set_cons_succ, i64_w, i32_w]
  rfl
 refine pure_ (i := 4) (N := some 13) (v := ?_) (a' := ?_) #[Y,Y,Y,N,Y,N,N,N,N,N] rfl rfl (any_of HT_.out (by kernel_rfl)) (fun _ _ _ h => h) (Or.inl ⟨by rfl, ?_⟩) ?_ ?_
 rotate_left
 ·intro w'
  go_simp
  with_reducible rfl
 rotate_left
 ·simp only [Act.put, List.setIfInBounds_toArray, List.set_cons_zero, List.set_cons_succ, i64_w, i32_w]
  rfl
 refine pure_ (i := 5) (N := some 14) (v := ?_) (a' := ?_) #[Y,Y,Y,N,Y,Y,N,N,N,N] rfl rfl (any_of HT_.out (by kernel_rfl)) (fun _ _ _ h => h) (Or.inl ⟨by rfl, ?_⟩) ?_ ?_
 rotate_left
 ·intro w'
  go_simp
  with_reducible rfl
 rotate_left
 ·simp only [Act.put, List.setIfInBounds_toArray, List.set_cons_zero, List.set_cons_succ, i64_w, i32_w]
  rfl
 refine pure_ (i := 6) (N := some 15) (v := ?_) (a' := ?_) #[Y,Y,Y,N,Y,Y,Y,N,N,N] rfl rfl (any_of HT_.out (by kernel_rfl)) (fun _ _ _ h => h) (Or.inl ⟨by rfl, ?_⟩) ?_ ?_
 rotate_left
 ·intro w'
  go_simp
  with_reducible rfl
 rotate_left
 ·simp only [Act.put, List.setIfInBounds_toArray, List.set_cons_zero, List.set_cons_succ, i64_w, i32_w]
  rfl
 refine one_ (i := 3) (N := some 12) #[Y,Y,Y,Y,Y,Y,Y,N,N,N] rfl rfl (one_of HT_.out (by kernel_rfl)) (by decide) (fun K hK => ?_)
 refine goes_ Try.func56 (by kernel_rfl) rfl #[.slice A0 y240.length c0] (by rfl) rfl rfl (by (try simp only [List.map_toArray, List.map_cons, List.map_nil]); first | done | rfl | (simp only [List.length_drop, List.length_take]; rfl)) ?_
 with_reducible refine (leaf_Branch_56.calls _ _ y240 t244 _ ?side1 ?side2 A6.out).mono ?_
 (case side1 => exact kc (Kd.C_below HR243.out HB.out))
 (case side2 => exact HC243.out)
 rintro e w13 ⟨v245, rfl, ho0, hb⟩
 refine ⟨_, rfl, ?_⟩
 have HO246 := aM (Kd.R_lower ho0 (below_size (kl HB)))
 replace HB := aM (below_step (kl HB) hb)
 (try clear hb)
 (try clear hb2)
 (try clear hk)
 (try clear hi)
 (try clear ho0)
 refine hK.out _ _ trivial (fun hHeld => ?_)
 clear hK K
 refine norm_ (a' := ?_) ?_ ?_
 rotate_left
 ·show Act.put _ (some 12) _ = _
  simp only [Act.put, List.setIfInBounds_toArray, List.set_cons_zero, List.set_cons_succ, i64_w, i32_w]
  rfl
 refine one_ (i := 7) (N := some 16) #[Y,Y,Y,Y,Y,Y,Y,Y,N,N] rfl rfl (one_of HT_.out (by kernel_rfl)) (by decide) (fun K hK => ?_)
 refine goes_ Try.func56 (by kernel_rfl) rfl #[.slice A12 y247.length c12] (by rfl) rfl rfl (by (try simp only [List.map_toArray, List.map_cons, List.map_nil]); first | done | rfl | (simp only [List.length_drop, List.length_take]; rfl)) ?_
 with_reducible refine (leaf_Branch_56.calls _ _ y247 t251 _ ?side1 ?side2 A9.out).mono ?_
 (case side1 => exact kc (Kd.C_below HR250.out HB.out))
 (case side2 => exact HC250.out)
 rintro e w14 ⟨v252, rfl, ho0, hb⟩
 refine ⟨_, rfl, ?_⟩
 have HO253 := aM (Kd.R_lower (Kd.R_new' ho0 (Kd.R_lt (kr HO246))) (below_size (kl HB)))
 replace HO246 := aM (Kd.R_elder' (kr HO246) (Kd.R_base ho0) hb)
 replace HB := aM (below_step (kl HB) hb)
 (try clear hb)
 (try clear hb2)
 (try clear hk)
 (try clear hi)
 (try clear ho0)
 refine hK.out _ _ trivial (fun hHeld => ?_)
 clear hK K
 refine norm_ (a' := ?_) ?_ ?_
 rotate_left
 ·show Act.put _ (some 16) _ = _
  simp only [Act.put, List.setIfInBounds_toArray, List.set_cons_zero, List.set_cons_succ, i64_w, i32_w]
  rfl
 refine pure_ (i := 8) (N := some 4) (v := ?_) (a' := ?_) #[Y,Y,Y,Y,Y,Y,Y,Y,Y,N] rfl rfl (any_of HT_.out (by kernel_rfl)) (fun _ _ _ h => h) (Or.inl ⟨by rfl, ?_⟩) ?_ ?_
 rotate_left
 ·intro w'
  go_simp
  with_reducible rfl
 rotate_left
 ·simp only [Act.put, List.setIfInBounds_toArray, List.set_cons_zero, List.set_cons_succ, i64_w, i32_w]
  rfl
 refine pure_ (i := 9) (N := some 5) (v := ?_) (a' := ?_) #[Y,Y,Y,Y,Y,Y,Y,Y,Y,Y] rfl rfl (any_of HT_.out (by kernel_rfl)) (fun _ _ _ h => h) (Or.inl ⟨by rfl, ?_⟩) ?_ ?_
 rotate_left
 ·intro w'
  go_simp
  with_reducible rfl
 rotate_left
 ·simp only [Act.put, List.setIfInBounds_toArray, List.set_cons_zero, List.set_cons_succ, i64_w, i32_w]
  rfl
 refine done_ (done_of HT_.out (by kernel_rfl)) ?_
 try go_wp2
 go_ret2
 exact ⟨_, _, by first | rfl | (simp [errW_none, errW_some] <;> rfl) | (simp [*, errW_none, errW_some] <;> rfl), by (with_reducible repeat (first | apply Kd.R_alloc | apply Kd.R_drewN | apply Kd.R_drew)); exact Kd.R_mono HO246.out (fun _ hk => hk.2), by (with_reducible repeat (first | apply Kd.R_alloc | apply Kd.R_drewN | apply Kd.R_drew)); exact Kd.R_mono HO253.out (fun _ hk => hk.2), kl HB⟩
end Go.Proofs.Ytfbaejhjppikpaa.P
namespace Go.Proofs.Ytfbaejhjppikpaa.P
open Go.RowKit Go.Proofs.YtfbaejhjppikpaaW.PrintWords Go.Proofs.YtfbaejhjppikpaaW.PrintLast Go.Proofs.YtfbaejhjppikpaaW.PrintMore
attribute [local go_sem] max2_int min2_int max_two min_two max_three min_three max_four min_four
set_option linter.unusedVariables false
set_option linter.unusedSimpArgs false
mutual
def leaf_Split.j0 : Nat → List Int → Bool → Bool → List S47 → List S36 → Option (Bool × (List S47) × (List S36) × Bool × (List S47) × (List S36) × Int)
 | 0, _, _, _, _, _ => none
 | k + 1, x5, x24, x255000, x255001, x255002 => if x24 = true then (some (false, ([] : List S47), ([] : List S36), false, ([] : List S47), ([] : List S36), 4)) else ((leaf_Size.f k x255000 x255001 x255002).bind fun t261 => (if 0 ≤ (wrap64 ((x5.length : Int) - 1)) then (if (wrap64 ((x5.length : Int) - 1)) ≤ (x5.length : Int) then ((some (x5.take ((wrap64 ((x5.length : Int) - 1)) : Int).toNat : List Int)).bind fun y262 => (leaf_Split.l0 k 0 (wrap64 (t261 - 1)) 0 0 y262 (y262.length : Int) 0 x255000 x255001 x255002)) else (none)) else (none)))
def leaf_Split.l0 : Nat → Int → Int → Int → Int → List Int → Int → Int → Bool → List S47 → List S36 → Option (Bool × (List S47) × (List S36) × Bool × (List S47) × (List S36) × Int)
 | 0, _, _, _, _, _, _, _, _, _, _ => none
 | k + 1, x6, x7, x8, x9, x34, x35, x36, x255000, x255001, x255002 => if x36 < x35 then (if 0 ≤ x36 then (if x36 < (x34.length : Int) then (if x8 = 0 then (leaf_Split.l0 k (wrap64 (x6 + (rd x34 x36))) (wrap64 (x7 - (rd x34 x36))) (wrap64 (x36 + 1)) (mx (wrap64 (x6 + (rd x34 x36))) (wrap64 (x7 - (rd x34 x36)))) x34 x35 (wrap64 (x36 + 1)) x255000 x255001 x255002) else (if (mx (wrap64 (x6 + (rd x34 x36))) (wrap64 (x7 - (rd x34 x36)))) < x9 then (leaf_Split.l0 k (wrap64 (x6 + (rd x34 x36))) (wrap64 (x7 - (rd x34 x36))) (wrap64 (x36 + 1)) (mx (wrap64 (x6 + (rd x34 x36))) (wrap64 (x7 - (rd x34 x36)))) x34 x35 (wrap64 (x36 + 1)) x255000 x255001 x255002) else (leaf_Split.l0 k (wrap64 (x6 + (rd x34 x36))) (wrap64 (x7 - (rd x34 x36))) x8 x9 x34 x35 (wrap64 (x36 + 1)) x255000 x255001 x255002))) else (none)) else (none)) else ((leaf_Entry_48.f x255001 x8).bind fun bt269 => ((leaf_Branch_49.f x255002 x8).bind fun bt275 => (some (x255000, bt269.1, bt275.1, x255000, bt269.2, bt275.2, 0))))
end
def leaf_Split.f (k : Nat) (a0_0 : Bool) (l0_1 : List S47) (l0_2 : List S36) : Option (Bool × (List S47) × (List S36) × Bool × (List S47) × (List S36) × Int) := (leaf_sizes.f k a0_0 l0_1 l0_2).bind fun t257 => ((leaf_May.f k a0_0 l0_1 l0_2).bind fun t260 => (if t260 = true then (leaf_Split.j0 k t257 (decide ((t257.length : Int) < 2)) a0_0 l0_1 l0_2) else (leaf_Split.j0 k t257 true a0_0 l0_1 l0_2)))
def leaf_Split.T14 : Bool × List (List Nat × List Nat) := (true, [([], []), ([0], [0]), ([1], [1]), ([], []), ([3], [3]), ([4], [4]), ([], []), ([], []), ([6, 2, 0, 1, 2, 6, 7], [2, 6]), ([7, 5, 8, 0, 1, 2, 3, 4, 5, 6, 7, 8], [5, 7])])
def leaf_Split.B14 : List Nat := [0, 1, 3, 0, 8, 24, 0, 0, 199, 511]
theorem leaf_Split.tab14 : rtab .any (opsOf Try.f20 14) = leaf_Split.T14 := by kernel_rfl
theorem leaf_Split.bits14 : waitsOk leaf_Split.T14.2 leaf_Split.B14 = true := by kernel_rfl
set_option maxHeartbeats 8000000 in
set_option maxRecDepth 100000 in
theorem leaf_Split.calls (k : Nat) (a0_0 : Bool) (A0_1 : Option Addr) (c0_1 : Nat) (l0_1 : List S47) (A0_2 : Option Addr) (c0_2 : Nat) (l0_2 : List S36) (r1 : Bool) (r2 : List S47) (r3 : List S36) (r4 : Bool) (r5 : List S47) (r6 : List S36) (r7 : Int) (w : World) (hr0_1 : Kd.C k47 w A0_1 l0_1.length l0_1) (hc0_1 : l0_1.length ≤ c0_1) (hr0_2 : Kd.C k36 w A0_2 l0_2.length l0_2) (hc0_2 : l0_2.length ≤ c0_2) (h : leaf_Split.f k a0_0 l0_1 l0_2 = some (r1, r2, r3, r4, r5, r6, r7)) :
  Calls Try.prog 20 #[.agg #[.bool a0_0, .slice A0_1 l0_1.length c0_1, .slice A0_2 l0_2.length c0_2]] w fun e w' => ∃ v1_ v2_ v4_ v5_ : Value, e = .returned (.tuple #[.agg #[.bool r1, v1_, v2_], .agg #[.bool r4, v4_, v5_], .int .i64 r7]) ∧ Kd.R k47 47 w' w.heap.size (fun k_ => some k_ ≠ (v4_ : Value).ownBlock) v1_ r2 ∧ Kd.R k36 36 w' w.heap.size (fun k_ => some k_ ≠ (v5_ : Value).ownBlock) v2_ r3 ∧ Kd.R k47 47 w' w.heap.size (fun k_ => some k_ ≠ (v1_ : Value).ownBlock) v4_ r5 ∧ Kd.R k36 36 w' w.heap.size (fun k_ => some k_ ≠ (v2_ : Value).ownBlock) v5_ r6 ∧ Below w.heap.size w w' := by
 have hu31 := Try.underlying31
 have HR0_1 := aM hr0_1
 have HC0_1 := aM hc0_1
 clear hr0_1 hc0_1
 have HR0_2 := aM hr0_2
 have HC0_2 := aM hc0_2
 clear hr0_2 hc0_2
 have HB := aM (Below.refl w.heap.size w)
 have H : ((leaf_sizes.f k a0_0 l0_1 l0_2).bind fun t257 => ((leaf_May.f k a0_0 l0_1 l0_2).bind fun t260 => (if t260 = true then (leaf_Split.j0 k t257 (decide ((t257.length : Int) < 2)) a0_0 l0_1 l0_2) else (leaf_Split.j0 k t257 true a0_0 l0_1 l0_2)))) = some (r1, r2, r3, r4, r5, r6, r7) := h
 clear h
 replace H := Option.bind_eq_some_iff.mp H
 obtain ⟨t257, A20, H⟩ := H
 replace H : ((leaf_May.f k a0_0 l0_1 l0_2).bind fun t260 => (if t260 = true then (leaf_Split.j0 k t257 (decide ((t257.length : Int) < 2)) a0_0 l0_1 l0_2) else (leaf_Split.j0 k t257 true a0_0 l0_1 l0_2))) = some (r1, r2, r3, r4, r5, r6, r7) := H
 have A2 := aM A20
 clear A20
 have HC3 := aM H
 clear H
 go_enter Try.func20, Try.ntmps20
 go_upto_region 2 with (first | ((with_reducible refine gate_dst (N := 1) rfl ?_); (try (refine gate_guard (by rfl) ?_; dsimp only)); refine box_event ?hg (N := 1) ?hd (cs := #[.bool a0_0, .slice A0_1 l0_1.length c0_1, .slice A0_2 l0_2.length c0_2]) (t := 31) ?hr ?_; (case hd => rfl); (case hg => rfl); (case hr => first | (go_simp; done) | (go_simp; rfl)); intro gb254 hg w4 hbox hb; have BK254 := aM (hbox); have GE254 := gw hg HB; replace HB := aM (below_step (kl HB) hb); clear hb hbox hg) | ((with_reducible refine gate_dst (N := 2) rfl ?_); (try (refine gate_guard (by rfl) ?_; dsimp only)); refine box_event ?hg (N := 2) ?hd (cs := #[.bool false, .slice none 0 0, .slice none 0 0]) (t := 31) ?hr ?_; (case hd => rfl); (case hg => rfl); (case hr => first | (go_simp; done) | (go_simp; rfl)); intro gb255 hg w5 hbox hb; have BK255 := aM (hbox); have GE255 := gw hg HB; replace HB := aM (below_step (kl HB) hb); have NB254_255 := nl hg BK254; have NB255_254 := ng hg BK254; replace BK254 := bb BK254 hb; clear hb hbox hg) | ((with_reducible refine gate_dst (N := 3) rfl ?_); (try (refine gate_guard (by rfl) ?_; dsimp only)); refine box_event ?hg (N := 3) ?hd (cs := #[.bool false, .slice none 0 0, .slice none 0 0]) (t := 31) ?hr ?_; (case hd => rfl); (case hg => rfl); (case hr => first | (go_simp; done) | (go_simp; rfl)); intro gb256 hg w6 hbox hb; have BK256 := aM (hbox); have GE256 := gw hg HB; replace HB := aM (below_step (kl HB) hb); have NB254_256 := nl hg BK254; have NB256_254 := ng hg BK254; replace BK254 := bb BK254 hb; have NB255_256 := nl hg BK255; have NB256_255 := ng hg BK255; replace BK255 := bb BK255 hb; clear hb hbox hg; have hnb7 := NB254_255.out; have hnc7 := NB255_254.out; have hnb8 := NB254_256.out; have hnc8 := NB256_254.out; have hcz9_0 : w6.cell? ⟨gb254, 0, none⟩ = some (.bool a0_0) := bc BK254 0; have hcz9_1 : w6.cell? ⟨gb254, 1, none⟩ = some (.slice A0_1 l0_1.length c0_1) := bc BK254 1; have hcz9_2 : w6.cell? ⟨gb254, 2, none⟩ = some (.slice A0_2 l0_2.length c0_2) := bc BK254 2; have hfz9_0 := blk_frozen BK254.out 0; have hfz9_1 := blk_frozen BK254.out 1; have hfz9_2 := blk_frozen BK254.out 2) | ((with_reducible refine gate_callee (f := 47) rfl ?_); refine goesL_ (some 16) rfl rfl Try.func47 (by kernel_rfl) rfl #[.agg #[.bool a0_0, .slice A0_1 l0_1.length c0_1, .slice A0_2 l0_2.length c0_2]] rfl (by (try simp only [List.map_toArray, List.map_cons, List.map_nil]); first | done | rfl | (simp only [List.length_drop, List.length_take]; rfl)) ?_; (with_reducible refine (leaf_sizes.calls k a0_0 _ _ l0_1 _ _ l0_2 t257 _ ?side1 ?side2 ?side3 ?side4 A2.out).mono ?_); (case side1 => exact kc (Kd.C_below HR0_1.out HB.out)); (case side2 => exact HC0_1.out); (case side3 => exact kc (Kd.C_below HR0_2.out HB.out)); (case side4 => exact HC0_2.out); rintro e w10 ⟨v258, rfl, ho0, hb⟩; refine ⟨_, rfl, ?_⟩; have HO259 := aM (Kd.R_lower ho0 (below_size (kl HB))); replace BK254 := bb BK254 hb; replace BK255 := bb BK255 hb; replace BK256 := bb BK256 hb; replace HB := aM (below_step (kl HB) hb); clear hb ho0))
 (try simp only [Act.put, List.setIfInBounds_toArray, List.set_cons_zero, List.set_cons_succ])
 go_cut [24] (fun v24 wc => ∃ (kq : Nat) (x24_2 : Bool), v24 = .bool x24_2 ∧ Aside0 (leaf_Split.j0 kq t257 x24_2 a0_0 l0_1 l0_2 = some (r1, r2, r3, r4, r5, r6, r7)) ∧ Aside0 (kq ≤ k) ∧ Aside0 (Kd.R (Kd.int .i64) 3 wc w.heap.size (fun _ => True) v258 t257) ∧ Aside0 (wc.heap[gb254]? = some (.cells #[.bool a0_0, (.slice A0_1 l0_1.length c0_1), (.slice A0_2 l0_2.length c0_2)] 31 (0, 0))) ∧ Aside0 (wc.heap[gb255]? = some (.cells #[.bool false, (.slice none 0 0), (.slice none 0 0)] 31 (0, 0))) ∧ Aside0 (wc.heap[gb256]? = some (.cells #[.bool false, (.slice none 0 0), (.slice none 0 0)] 31 (0, 0))) ∧ Aside0 (Below w.heap.size w wc))
 case first =>
  have H := HC3.out
  clear HC3
  replace H := Option.bind_eq_some_iff.mp H
  obtain ⟨t260, A110, H⟩ := H
  replace H : (if t260 = true then (leaf_Split.j0 k t257 (decide ((t257.length : Int) < 2)) a0_0 l0_1 l0_2) else (leaf_Split.j0 k t257 true a0_0 l0_1 l0_2)) = some (r1, r2, r3, r4, r5, r6, r7) := H
  have A11 := aM A110
  clear A110
  by_cases c12 : t260 = true
  ·subst c12
   have H1 : (leaf_Split.j0 k t257 (decide ((t257.length : Int) < 2)) a0_0 l0_1 l0_2) = some (r1, r2, r3, r4, r5, r6, r7) := by rw [if_pos rfl] at H; exact H
   clear H
   have H := H1
   clear H1
   have H' := aM H
   clear H
   have hnb13 := NB254_255.out
   have hnc13 := NB255_254.out
   have hnb14 := NB254_256.out
   have hnc14 := NB256_254.out
   have hcz15_0 : w10.cell? ⟨gb254, 0, none⟩ = some (.bool a0_0) := bc BK254 0
   have hcz15_1 : w10.cell? ⟨gb254, 1, none⟩ = some (.slice A0_1 l0_1.length c0_1) := bc BK254 1
   have hcz15_2 : w10.cell? ⟨gb254, 2, none⟩ = some (.slice A0_2 l0_2.length c0_2) := bc BK254 2
   have hfz15_0 := blk_frozen BK254.out 0
   have hfz15_1 := blk_frozen BK254.out 1
   have hfz15_2 := blk_frozen BK254.out 2
   go_wp2_with (first | ((with_reducible refine gate_callee (f := 13) rfl ?_); refine goesL_ (some 18) rfl rfl Try.func13 (by kernel_rfl) rfl #[.agg #[.bool a0_0, .slice A0_1 l0_1.length c0_1, .slice A0_2 l0_2.length c0_2]] rfl (by (try simp only [List.map_toArray, List.map_cons, List.map_nil]); first | done | rfl | (simp only [List.length_drop, List.length_take]; rfl)) ?_; (with_reducible refine (leaf_May.calls k a0_0 _ _ l0_1 _ _ l0_2 true _ ?side1 ?side2 ?side3 ?side4 A11.out).mono ?_); (case side1 => exact kc (Kd.C_below HR0_1.out HB.out)); (case side2 => exact HC0_1.out); (case side3 => exact kc (Kd.C_below HR0_2.out HB.out)); (case side4 => exact HC0_2.out); rintro e w16 ⟨rfl, hb⟩; refine ⟨_, rfl, ?_⟩; replace HO259 := rb HO259 hb; replace BK254 := bb BK254 hb; replace BK255 := bb BK255 hb; replace BK256 := bb BK256 hb; replace HB := aM (below_step (kl HB) hb); clear hb; obtain ⟨Ao17, co17, eo17⟩ := Kd.R_slice HO259.out; subst eo17))
   go_meet
   case rel => exact ⟨_, (decide ((t257.length : Int) < 2)), (by first | rfl | (simp; done) | (simp [*]; done)), H', ⟨by first | omega | exact Nat.le_refl _⟩, ⟨kr HO259⟩, ⟨kb BK254⟩, ⟨kb BK255⟩, ⟨kb BK256⟩, ⟨kl HB⟩⟩
  replace c12 := Bool.eq_false_iff.mpr c12
  subst c12
  have H1 : (leaf_Split.j0 k t257 true a0_0 l0_1 l0_2) = some (r1, r2, r3, r4, r5, r6, r7) := by rw [if_neg (show ¬ (false = true) by decide)] at H; exact H
  clear H
  have H := H1
  clear H1
  have H' := aM H
  clear H
  have hnb18 := NB254_255.out
  have hnc18 := NB255_254.out
  have hnb19 := NB254_256.out
  have hnc19 := NB256_254.out
  have hcz20_0 : w10.cell? ⟨gb254, 0, none⟩ = some (.bool a0_0) := bc BK254 0
  have hcz20_1 : w10.cell? ⟨gb254, 1, none⟩ = some (.slice A0_1 l0_1.length c0_1) := bc BK254 1
  have hcz20_2 : w10.cell? ⟨gb254, 2, none⟩ = some (.slice A0_2 l0_2.length c0_2) := bc BK254 2
  have hfz20_0 := blk_frozen BK254.out 0
  have hfz20_1 := blk_frozen BK254.out 1
  have hfz20_2 := blk_frozen BK254.out 2
  go_wp2_with (first | ((with_reducible refine gate_callee (f := 13) rfl ?_); refine goesL_ (some 18) rfl rfl Try.func13 (by kernel_rfl) rfl #[.agg #[.bool a0_0, .slice A0_1 l0_1.length c0_1, .slice A0_2 l0_2.length c0_2]] rfl (by (try simp only [List.map_toArray, List.map_cons, List.map_nil]); first | done | rfl | (simp only [List.length_drop, List.length_take]; rfl)) ?_; (with_reducible refine (leaf_May.calls k a0_0 _ _ l0_1 _ _ l0_2 false _ ?side1 ?side2 ?side3 ?side4 A11.out).mono ?_); (case side1 => exact kc (Kd.C_below HR0_1.out HB.out)); (case side2 => exact HC0_1.out); (case side3 => exact kc (Kd.C_below HR0_2.out HB.out)); (case side4 => exact HC0_2.out); rintro e w21 ⟨rfl, hb⟩; refine ⟨_, rfl, ?_⟩; replace HO259 := rb HO259 hb; replace BK254 := bb BK254 hb; replace BK255 := bb BK255 hb; replace BK256 := bb BK256 hb; replace HB := aM (below_step (kl HB) hb); clear hb))
  go_meet
  case rel => exact ⟨_, (true), (by first | rfl | (simp; done) | (simp [*]; done)), H', ⟨by first | omega | exact Nat.le_refl _⟩, ⟨kr HO259⟩, ⟨kb BK254⟩, ⟨kb BK255⟩, ⟨kb BK256⟩, ⟨kl HB⟩⟩
 case rest =>
  clear HC3
  try clear c1
  try clear c2
  try clear p2
  try clear c4
  try clear c7
  try clear c8
  try clear c12
  try clear c13
  try clear c14
  try clear c18
  try clear c19
  try clear c20
  try clear hcz15_0
  try clear hcz15_1
  try clear hcz15_2
  try clear hcz20_0
  try clear hcz20_1
  try clear hcz20_2
  try clear hcz9_0
  try clear hcz9_1
  try clear hcz9_2
  try clear hfz15_0
  try clear hfz15_1
  try clear hfz15_2
  try clear hfz20_0
  try clear hfz20_1
  try clear hfz20_2
  try clear hfz9_0
  try clear hfz9_1
  try clear hfz9_2
  obtain ⟨kq, x24_2, rfl, HA, HJ2, HO_5, BK254, BK255, BK256, HB⟩ := hcut
  cases kq with
  | zero => exact absurd HA.out (by simp [leaf_Split.j0])
  | succ kj2 =>
   have H := HA.out
   clear HA
   simp only [leaf_Split.j0] at H
   by_cases c22 : x24_2 = true
   ·subst c22
    have H1 : (some (false, ([] : List S47), ([] : List S36), false, ([] : List S47), ([] : List S36), 4)) = some (r1, r2, r3, r4, r5, r6, r7) := by rw [if_pos rfl] at H; exact H
    clear H
    have H := H1
    clear H1
    simp only [Option.some.injEq, Prod.mk.injEq] at H
    obtain ⟨rfl, rfl, rfl, rfl, rfl, rfl, rfl⟩ := H
    have hnb23 := NB255_254.out
    have hnc23 := NB254_255.out
    have hnb24 := NB255_256.out
    have hnc24 := NB256_255.out
    have hcz25_0 : wc.cell? ⟨gb255, 0, none⟩ = some (.bool false) := bc BK255 0
    have hcz25_1 : wc.cell? ⟨gb255, 1, none⟩ = some (.slice none 0 0) := bc BK255 1
    have hcz25_2 : wc.cell? ⟨gb255, 2, none⟩ = some (.slice none 0 0) := bc BK255 2
    have hfz25_0 := blk_frozen BK255.out 0
    have hfz25_1 := blk_frozen BK255.out 1
    have hfz25_2 := blk_frozen BK255.out 2
    have hnb26 := NB256_254.out
    have hnc26 := NB254_256.out
    have hcz27_0 : wc.cell? ⟨gb256, 0, none⟩ = some (.bool false) := bc BK256 0
    have hcz27_1 : wc.cell? ⟨gb256, 1, none⟩ = some (.slice none 0 0) := bc BK256 1
    have hcz27_2 : wc.cell? ⟨gb256, 2, none⟩ = some (.slice none 0 0) := bc BK256 2
    have hfz27_0 := blk_frozen BK256.out 0
    have hfz27_1 := blk_frozen BK256.out 1
    have hfz27_2 := blk_frozen BK256.out 2
    go_wp2
    refine bodyPost_ret (results_list (rs := [.cell 2 31, .cell 3 31, .tmp 4]) rfl (by simp) (.cell gb255 31 #[.bool false, .slice none 0 0, .slice none 0 0] (0, 0) _ rfl (by (with_reducible repeat (first | refine blk_drewN ?_ _ | refine blk_drew ?_ | refine blk_alloc ?_ _)); refine blk_far ?_ NB255_256.out _; (with_reducible repeat (first | refine blk_drewN ?_ _ | refine blk_drew ?_ | refine blk_alloc ?_ _)); refine blk_far ?_ NB255_256.out _; (with_reducible repeat (first | refine blk_drewN ?_ _ | refine blk_drew ?_ | refine blk_alloc ?_ _)); refine blk_far ?_ NB255_256.out _; (with_reducible repeat (first | refine blk_drewN ?_ _ | refine blk_drew ?_ | refine blk_alloc ?_ _)); refine blk_put (cs := #[.bool false, .slice none 0 0, .slice none 0 0]) ?_ 2 _ rfl; (with_reducible repeat (first | refine blk_drewN ?_ _ | refine blk_drew ?_ | refine blk_alloc ?_ _)); refine blk_put (cs := #[.bool false, .slice none 0 0, .slice none 0 0]) ?_ 1 _ rfl; (with_reducible repeat (first | refine blk_drewN ?_ _ | refine blk_drew ?_ | refine blk_alloc ?_ _)); refine blk_put (cs := #[.bool false, .slice none 0 0, .slice none 0 0]) ?_ 0 _ rfl; exact kb BK255) Try.underlying31 rfl (by kernel_rfl) (.cell gb256 31 #[.bool false, .slice none 0 0, .slice none 0 0] (0, 0) _ rfl (by (with_reducible repeat (first | refine blk_drewN ?_ _ | refine blk_drew ?_ | refine blk_alloc ?_ _)); refine blk_put (cs := #[.bool false, .slice none 0 0, .slice none 0 0]) ?_ 2 _ rfl; (with_reducible repeat (first | refine blk_drewN ?_ _ | refine blk_drew ?_ | refine blk_alloc ?_ _)); refine blk_put (cs := #[.bool false, .slice none 0 0, .slice none 0 0]) ?_ 1 _ rfl; (with_reducible repeat (first | refine blk_drewN ?_ _ | refine blk_drew ?_ | refine blk_alloc ?_ _)); refine blk_put (cs := #[.bool false, .slice none 0 0, .slice none 0 0]) ?_ 0 _ rfl; exact kf NB256_255 BK256) Try.underlying31 rfl (by kernel_rfl) (.tmp .nil)))) rfl ?_
    exact ⟨_, _, _, _, by first | rfl | (simp [errW_none, errW_some] <;> rfl) | (simp [*, errW_none, errW_some] <;> rfl), by first | exact Kd.R_nil _ _ _ _ _ | exact Kd.N_nil _ _ _ _ _ | exact Kd.V_nil _ _ _ _ _ | exact Kd.Q_nil _ _ _ _ _ | exact Kd.S_nil _ _ _ _ _, by first | exact Kd.R_nil _ _ _ _ _ | exact Kd.N_nil _ _ _ _ _ | exact Kd.V_nil _ _ _ _ _ | exact Kd.Q_nil _ _ _ _ _ | exact Kd.S_nil _ _ _ _ _, by first | exact Kd.R_nil _ _ _ _ _ | exact Kd.N_nil _ _ _ _ _ | exact Kd.V_nil _ _ _ _ _ | exact Kd.Q_nil _ _ _ _ _ | exact Kd.S_nil _ _ _ _ _, by first | exact Kd.R_nil _ _ _ _ _ | exact Kd.N_nil _ _ _ _ _ | exact Kd.V_nil _ _ _ _ _ | exact Kd.Q_nil _ _ _ _ _ | exact Kd.S_nil _ _ _ _ _, kl HB⟩
   replace c22 := Bool.eq_false_iff.mpr c22
   subst c22
   have H1 : ((leaf_Size.f kj2 a0_0 l0_1 l0_2).bind fun t261 => (if 0 ≤ (wrap64 ((t257.length : Int) - 1)) then (if (wrap64 ((t257.length : Int) - 1)) ≤ (t257.length : Int) then ((some (t257.take ((wrap64 ((t257.length : Int) - 1)) : Int).toNat : List Int)).bind fun y262 => (leaf_Split.l0 kj2 0 (wrap64 (t261 - 1)) 0 0 y262 (y262.length : Int) 0 a0_0 l0_1 l0_2)) else (none)) else (none))) = some (r1, r2, r3, r4, r5, r6, r7) := by rw [if_neg (show ¬ (false = true) by decide)] at H; exact H
   clear H
   have H := H1
   clear H1
   replace H := Option.bind_eq_some_iff.mp H
   obtain ⟨t261, A280, H⟩ := H
   replace H : (if 0 ≤ (wrap64 ((t257.length : Int) - 1)) then (if (wrap64 ((t257.length : Int) - 1)) ≤ (t257.length : Int) then ((some (t257.take ((wrap64 ((t257.length : Int) - 1)) : Int).toNat : List Int)).bind fun y262 => (leaf_Split.l0 kj2 0 (wrap64 (t261 - 1)) 0 0 y262 (y262.length : Int) 0 a0_0 l0_1 l0_2)) else (none)) else (none)) = some (r1, r2, r3, r4, r5, r6, r7) := H
   have A28 := aM A280
   clear A280
   obtain ⟨ji29, hji29⟩ : ∃ j_ : Int, (wrap64 ((t257.length : Int) - 1)) = j_ := ⟨_, rfl⟩
   replace H : (if 0 ≤ (ji29) then (if (ji29) ≤ (t257.length : Int) then ((some (t257.take ((ji29) : Int).toNat : List Int)).bind fun y262 => (leaf_Split.l0 kj2 0 (wrap64 (t261 - 1)) 0 0 y262 (y262.length : Int) 0 a0_0 l0_1 l0_2)) else (none)) else (none)) = some (r1, r2, r3, r4, r5, r6, r7) := by first | (rw [hji29] at H; exact H) | (simp only [hji29] at H ⊢; exact H)
   (try rw [hji29] at A28)
   have hji29w : (IntKind.i64.wrap ((t257.length : Int) - 1)) = ji29 := (i64_w _).trans hji29
   by_cases c30 : 0 ≤ (ji29)
   rotate_left
   ·rw [if_neg c30] at H
    exact absurd H (by simp)
   rw [if_pos c30] at H
   have c30b0 := eq_true c30
   have c30b1 : decide (0 ≤ (ji29)) = true := decide_eq_true c30
   clear c30
   by_cases c31 : (ji29) ≤ (t257.length : Int)
   rotate_left
   ·rw [if_neg c31] at H
    exact absurd H (by simp)
   rw [if_pos c31] at H
   have c31b0 := eq_true c31
   have c31b1 : decide ((ji29) ≤ (t257.length : Int)) = true := decide_eq_true c31
   clear c31
   obtain ⟨y262, hy262⟩ : ∃ y_ : List Int, y_ = (t257.take ((ji29) : Int).toNat) := ⟨_, rfl⟩
   replace H : (leaf_Split.l0 kj2 0 (wrap64 (t261 - 1)) 0 0 y262 (y262.length : Int) 0 a0_0 l0_1 l0_2) = some (r1, r2, r3, r4, r5, r6, r7) := by first | (rw [hy262]; with_reducible exact H) | (have H2_ := (Option.bind_some _ _).symm.trans H; rw [hy262]; with_reducible exact H2_) | (have H2_ := (Option.bind_some _ _).symm.trans H; with_reducible exact H2_) | with_reducible exact H | (rw [hy262]; exact H) | exact H
   have Ny262 := aM hy262
   clear hy262
   have H' := aM H
   clear H
   have hnb32 := NB254_255.out
   have hnc32 := NB255_254.out
   have hnb33 := NB254_256.out
   have hnc33 := NB256_254.out
   have hcz34_0 : wc.cell? ⟨gb254, 0, none⟩ = some (.bool a0_0) := bc BK254 0
   have hcz34_1 : wc.cell? ⟨gb254, 1, none⟩ = some (.slice A0_1 l0_1.length c0_1) := bc BK254 1
   have hcz34_2 : wc.cell? ⟨gb254, 2, none⟩ = some (.slice A0_2 l0_2.length c0_2) := bc BK254 2
   have hfz34_0 := blk_frozen BK254.out 0
   have hfz34_1 := blk_frozen BK254.out 1
   have hfz34_2 := blk_frozen BK254.out 2
   go_wp2_with (first | ((with_reducible refine gate_callee (f := 18) rfl ?_); refine goesL_ (some 28) rfl rfl Try.func18 (by kernel_rfl) rfl #[.agg #[.bool a0_0, .slice A0_1 l0_1.length c0_1, .slice A0_2 l0_2.length c0_2]] rfl (by (try simp only [List.map_toArray, List.map_cons, List.map_nil]); first | done | rfl | (simp only [List.length_drop, List.length_take]; rfl)) ?_; (with_reducible refine (leaf_Size.calls kj2 a0_0 _ _ l0_1 _ _ l0_2 t261 _ ?side1 ?side2 ?side3 ?side4 A28.out).mono ?_); (case side1 => exact kc (Kd.C_below HR0_1.out HB.out)); (case side2 => exact HC0_1.out); (case side3 => exact kc (Kd.C_below HR0_2.out HB.out)); (case side4 => exact HC0_2.out); rintro e w35 ⟨rfl, hb⟩; refine ⟨_, rfl, ?_⟩; replace HO_5 := rb HO_5 hb; replace BK254 := bb BK254 hb; replace BK255 := bb BK255 hb; replace BK256 := bb BK256 hb; replace HB := aM (below_step (kl HB) hb); clear hb; obtain ⟨Ao36, co36, eo36⟩ := Kd.R_slice HO_5.out; subst eo36; have q37 : ((ji29) : Int) ≤ ((t257.length : Int) : Int) := of_decide_eq_true (by first | (with_reducible assumption) | assumption); obtain ⟨i037, hi037, _, hsz37, _⟩ := info_parts info3; have hroom37 : t257.length ≤ co36 := (Kd.R_reads' HO_5.out).2.1; have hC37 : Kd.C (Kd.int .i64) _ Ao36 t257.length t257 := (Kd.R_reads' HO_5.out).2.2; have hcut37 := cut_to (P := Try.prog) 89 3 .i64 Try.underlying89 hi037 Ao36 t257.length co36 (ji29) (of_decide_eq_true (by first | (with_reducible assumption) | assumption)) q37 hroom37; have hr37 := Kd.C_take (m := ((ji29) : Int).toNat) hC37 (by omega); have hy37 : y262.length = ((ji29) : Int).toNat := (by rw [Ny262.out, List.length_take]; omega); rw [← Ny262.out] at hr37; rw [← hy37] at hcut37; have HR265 := aM hr37; have HC265 := aM (show y262.length ≤ co36 from by omega); clear hr37 hC37 hroom37 hi037 hsz37; have KY37 := aM hy37; clear hy37; have KL37 := aM (show ((ji29) : Int).toNat ≤ t257.length from by omega); replace q37 := eq_true q37))
   go_loopg [6, 7, 8, 9, 36] kj2 (fun kq v6 v7 v8 v9 v36 w' => ∃ (x6_2 : Int) (x7_2 : Int) (x8_2 : Int) (x9_2 : Int) (x36_2 : Int), v6 = .int .i64 x6_2 ∧ v7 = .int .i64 x7_2 ∧ v8 = .int .i64 x8_2 ∧ v9 = .int .i64 x9_2 ∧ v36 = .int .i64 x36_2 ∧ Aside0 (leaf_Split.l0 kq x6_2 x7_2 x8_2 x9_2 y262 (y262.length : Int) x36_2 a0_0 l0_1 l0_2 = some (r1, r2, r3, r4, r5, r6, r7)) ∧ Aside0 (kq ≤ kj2) ∧ Aside0 (w'.heap[gb254]? = some (.cells #[.bool a0_0, (.slice A0_1 l0_1.length c0_1), (.slice A0_2 l0_2.length c0_2)] 31 (0, 0))) ∧ Aside0 (w'.heap[gb255]? = some (.cells #[.bool false, (.slice none 0 0), (.slice none 0 0)] 31 (0, 0))) ∧ Aside0 (w'.heap[gb256]? = some (.cells #[.bool false, (.slice none 0 0), (.slice none 0 0)] 31 (0, 0))) ∧ Aside0 (Kd.C (Kd.int .i64) w' Ao36 y262.length y262) ∧ Aside0 (Below w.heap.size w w'))
   case atStart => exact ⟨(0), (wrap64 (t261 - 1)), (0), (0), (0), (by first | rfl | (simp; done) | (simp [*]; done)), (by first | rfl | (simp; done) | (simp [*]; done)), (by first | rfl | (simp; done) | (simp [*]; done)), (by first | rfl | (simp; done) | (simp [*]; done)), (by first | rfl | (simp; done) | (simp [*]; done)), H', ⟨Nat.le_refl _⟩, ⟨kb BK254⟩, ⟨kb BK255⟩, ⟨kb BK256⟩, ⟨by repeat (first | (with_reducible exact HR265.out) | (with_reducible refine Kd.C_alloc ?_ _) | (with_reducible refine Kd.C_drewN ?_ _) | (with_reducible refine Kd.C_drew ?_) | exact HR265.out)⟩, ⟨kl HB⟩⟩
   case round =>
    clear H'
    try clear c1
    try clear c2
    try clear p2
    try clear c3
    try clear q3
    try clear c4
    try clear p6
    try clear c7
    try clear c8
    try clear c12
    try clear c13
    try clear c14
    try clear c18
    try clear c19
    try clear c20
    try clear c22
    try clear c23
    try clear c24
    try clear c26
    try clear c30
    try clear c30b0
    try clear c30b1
    try clear c31
    try clear c31b0
    try clear c31b1
    try clear c32
    try clear c33
    try clear q37
    try clear hcz15_0
    try clear hcz15_1
    try clear hcz15_2
    try clear hcz20_0
    try clear hcz20_1
    try clear hcz20_2
    try clear hcz25_0
    try clear hcz25_1
    try clear hcz25_2
    try clear hcz27_0
    try clear hcz27_1
    try clear hcz27_2
    try clear hcz34_0
    try clear hcz34_1
    try clear hcz34_2
    try clear hcz9_0
    try clear hcz9_1
    try clear hcz9_2
    try clear hfz15_0
    try clear hfz15_1
    try clear hfz15_2
    try clear hfz20_0
    try clear hfz20_1
    try clear hfz20_2
    try clear hfz25_0
    try clear hfz25_1
    try clear hfz25_2
    try clear hfz27_0
    try clear hfz27_1
    try clear hfz27_2
    try clear hfz34_0
    try clear hfz34_1
    try clear hfz34_2
    try clear hfz9_0
    try clear hfz9_1
    try clear hfz9_2
    try clear p2
    try clear q37
    obtain ⟨x6_2, x7_2, x8_2, x9_2, x36_2, rfl, rfl, rfl, rfl, rfl, HA, HK2, BK254, BK255, BK256, HR265, HB⟩ := hrel
    cases gk with
    | zero => exact absurd HA.out (by simp [leaf_Split.l0])
    | succ k2 =>
     have H := HA.out
     clear HA
     simp only [leaf_Split.l0] at H
     by_cases c38 : x36_2 < (y262.length : Int)
     ·rw [if_pos c38] at H
      have c38b0 : decide (x36_2 < (y262.length : Int)) = true := decide_eq_true c38
      clear c38
      by_cases c39 : 0 ≤ x36_2
      rotate_left
      ·rw [if_neg c39] at H
       exact absurd H (by simp)
      rw [if_pos c39] at H
      have c39b0 : decide (0 ≤ x36_2) = true := decide_eq_true c39
      clear c39
      by_cases c40 : x36_2 < (y262.length : Int)
      rotate_left
      ·rw [if_neg c40] at H
       exact absurd H (by simp)
      rw [if_pos c40] at H
      have c40b0 : decide (x36_2 < (y262.length : Int)) = true := decide_eq_true c40
      clear c40
      obtain ⟨ji41, hji41⟩ : ∃ j_ : Int, (mx (wrap64 (x6_2 + (rd y262 x36_2))) (wrap64 (x7_2 - (rd y262 x36_2)))) = j_ := ⟨_, rfl⟩
      replace H : (if x8_2 = 0 then (leaf_Split.l0 k2 (wrap64 (x6_2 + (rd y262 x36_2))) (wrap64 (x7_2 - (rd y262 x36_2))) (wrap64 (x36_2 + 1)) ji41 y262 (y262.length : Int) (wrap64 (x36_2 + 1)) a0_0 l0_1 l0_2) else (if (ji41) < x9_2 then (leaf_Split.l0 k2 (wrap64 (x6_2 + (rd y262 x36_2))) (wrap64 (x7_2 - (rd y262 x36_2))) (wrap64 (x36_2 + 1)) ji41 y262 (y262.length : Int) (wrap64 (x36_2 + 1)) a0_0 l0_1 l0_2) else (leaf_Split.l0 k2 (wrap64 (x6_2 + (rd y262 x36_2))) (wrap64 (x7_2 - (rd y262 x36_2))) x8_2 x9_2 y262 (y262.length : Int) (wrap64 (x36_2 + 1)) a0_0 l0_1 l0_2))) = some (r1, r2, r3, r4, r5, r6, r7) := by first | (rw [hji41] at H; exact H) | (simp only [hji41] at H ⊢; exact H)
      have hji41_ : (if (wrap64 (x6_2 + (rd y262 x36_2))) < (wrap64 (x7_2 - (rd y262 x36_2))) then (wrap64 (x7_2 - (rd y262 x36_2))) else (wrap64 (x6_2 + (rd y262 x36_2)))) = ji41 := hji41
      by_cases c42 : x8_2 = 0
      ·rw [if_pos c42] at H
       have c42b0 : (x8_2 == 0) = true := beq_iff_eq.mpr c42
       have c42b1 : (x8_2 != 0) = false := bne_eq_false_iff_eq.mpr c42
       clear c42
       have H' := aM H
       clear H
       have p266 : 0 ≤ (x36_2 : Int) := of_decide_eq_true (by first | (with_reducible assumption) | assumption)
       have q266 : x36_2 < (y262.length : Int) := of_decide_eq_true (by first | (with_reducible assumption) | assumption)
       obtain ⟨ad266, e266, hx266_0⟩ := Kd.at_int HR265.out x36_2 p266 q266
       cases e266
       try (replace hx266_0 := (HB.out.cell (World.block_lt_of_cell? w _ hx266_0)).trans hx266_0)
       replace p266 := eq_true p266
       replace q266 := eq_true q266
       go_wp2
       go_roundg k2
       case measure => have := HJ2.out; have := HK2.out; omega
       case rel => exact ⟨(wrap64 (x6_2 + (rd y262 x36_2))), (wrap64 (x7_2 - (rd y262 x36_2))), (wrap64 (x36_2 + 1)), (ji41), (wrap64 (x36_2 + 1)), (by first | rfl | (simp; done) | (simp [*]; done)), (by first | rfl | (simp; done) | (simp [*]; done)), (by first | rfl | (simp; done) | (simp [*]; done)), (by first | rfl | (simp; done) | (simp only [← hji41] <;> (first | rfl | simp)) | (simp [*]; done)), (by first | rfl | (simp; done) | (simp [*]; done)), H', ⟨by have := HJ2.out; have := HK2.out; omega⟩, ⟨kb BK254⟩, ⟨kb BK255⟩, ⟨kb BK256⟩, ⟨by repeat (first | (with_reducible exact HR265.out) | (with_reducible refine Kd.C_alloc ?_ _) | (with_reducible refine Kd.C_drewN ?_ _) | (with_reducible refine Kd.C_drew ?_) | exact HR265.out)⟩, ⟨kl HB⟩⟩
      rw [if_neg c42] at H
      have c42b0 : (x8_2 == 0) = false := beq_eq_false_iff_ne.mpr c42
      have c42b1 : (x8_2 != 0) = true := bne_iff_ne.mpr c42
      by_cases c43 : (ji41) < x9_2
      ·rw [if_pos c43] at H
       have c43b0 : decide ((ji41) < x9_2) = true := decide_eq_true c43
       clear c43
       have H' := aM H
       clear H
       have p266 : 0 ≤ (x36_2 : Int) := of_decide_eq_true (by first | (with_reducible assumption) | assumption)
       have q266 : x36_2 < (y262.length : Int) := of_decide_eq_true (by first | (with_reducible assumption) | assumption)
       obtain ⟨ad266, e266, hx266_0⟩ := Kd.at_int HR265.out x36_2 p266 q266
       cases e266
       try (replace hx266_0 := (HB.out.cell (World.block_lt_of_cell? w _ hx266_0)).trans hx266_0)
       replace p266 := eq_true p266
       replace q266 := eq_true q266
       go_wp2
       go_roundg k2
       case measure => have := HJ2.out; have := HK2.out; omega
       case rel => exact ⟨(wrap64 (x6_2 + (rd y262 x36_2))), (wrap64 (x7_2 - (rd y262 x36_2))), (wrap64 (x36_2 + 1)), (ji41), (wrap64 (x36_2 + 1)), (by first | rfl | (simp; done) | (simp [*]; done)), (by first | rfl | (simp; done) | (simp [*]; done)), (by first | rfl | (simp; done) | (simp [*]; done)), (by first | rfl | (simp; done) | (simp only [← hji41] <;> (first | rfl | simp)) | (simp [*]; done)), (by first | rfl | (simp; done) | (simp [*]; done)), H', ⟨by have := HJ2.out; have := HK2.out; omega⟩, ⟨kb BK254⟩, ⟨kb BK255⟩, ⟨kb BK256⟩, ⟨by repeat (first | (with_reducible exact HR265.out) | (with_reducible refine Kd.C_alloc ?_ _) | (with_reducible refine Kd.C_drewN ?_ _) | (with_reducible refine Kd.C_drew ?_) | exact HR265.out)⟩, ⟨kl HB⟩⟩
      rw [if_neg c43] at H
      have c43b0 : decide ((ji41) < x9_2) = false := decide_eq_false c43
      clear c43
      have H' := aM H
      clear H
      have p266 : 0 ≤ (x36_2 : Int) := of_decide_eq_true (by first | (with_reducible assumption) | assumption)
      have q266 : x36_2 < (y262.length : Int) := of_decide_eq_true (by first | (with_reducible assumption) | assumption)
      obtain ⟨ad266, e266, hx266_0⟩ := Kd.at_int HR265.out x36_2 p266 q266
      cases e266
      try (replace hx266_0 := (HB.out.cell (World.block_lt_of_cell? w _ hx266_0)).trans hx266_0)
      replace p266 := eq_true p266
      replace q266 := eq_true q266
      go_wp2
      go_roundg k2
      case measure => have := HJ2.out; have := HK2.out; omega
      case rel => exact ⟨(wrap64 (x6_2 + (rd y262 x36_2))), (wrap64 (x7_2 - (rd y262 x36_2))), (x8_2), (x9_2), (wrap64 (x36_2 + 1)), (by first | rfl | (simp; done) | (simp [*]; done)), (by first | rfl | (simp; done) | (simp [*]; done)), (by first | rfl | (simp; done) | (simp [*]; done)), (by first | rfl | (simp; done) | (simp [*]; done)), (by first | rfl | (simp; done) | (simp [*]; done)), H', ⟨by have := HJ2.out; have := HK2.out; omega⟩, ⟨kb BK254⟩, ⟨kb BK255⟩, ⟨kb BK256⟩, ⟨by repeat (first | (with_reducible exact HR265.out) | (with_reducible refine Kd.C_alloc ?_ _) | (with_reducible refine Kd.C_drewN ?_ _) | (with_reducible refine Kd.C_drew ?_) | exact HR265.out)⟩, ⟨kl HB⟩⟩
     rw [if_neg c38] at H
     have c38b0 : decide (x36_2 < (y262.length : Int)) = false := decide_eq_false c38
     clear c38
     replace H := Option.bind_eq_some_iff.mp H
     obtain ⟨⟨t269, t270⟩, A440, H⟩ := H
     replace H : ((leaf_Branch_49.f l0_2 x8_2).bind fun bt275 => (some (a0_0, t269, bt275.1, a0_0, t270, bt275.2, 0))) = some (r1, r2, r3, r4, r5, r6, r7) := H
     have A44 := aM A440
     clear A440
     replace H := Option.bind_eq_some_iff.mp H
     obtain ⟨⟨t275, t276⟩, A450, H⟩ := H
     replace H : (some (a0_0, t269, t275, a0_0, t270, t276, 0)) = some (r1, r2, r3, r4, r5, r6, r7) := H
     have A45 := aM A450
     clear A450
     simp only [Option.some.injEq, Prod.mk.injEq] at H
     obtain ⟨rfl, rfl, rfl, rfl, rfl, rfl, rfl⟩ := H
     try go_wp2
     replace BK254 := aM (blk_drew BK254.out)
     replace BK255 := aM (blk_drew BK255.out)
     replace BK256 := aM (blk_drew BK256.out)
     replace HR265 := aM (Kd.C_drew HR265.out)
     replace HB := aM (below_drew1 HB.out)
     refine start_ (n := 10) (S := fun w' => w'.cell? ⟨gb254, 0, none⟩ = some (.bool a0_0) ∧ w'.cell? ⟨gb254, 1, none⟩ = some (.slice A0_1 l0_1.length c0_1) ∧ w'.cell? ⟨gb254, 2, none⟩ = some (.slice A0_2 l0_2.length c0_2)) (ds := []) #[N,N,N,N,N,N,N,N,N,N] (by kernel_rfl) rfl rfl ⟨bc BK254 0, bc BK254 1, bc BK254 2⟩ (fun hHeld => ?_); refine with_tabW leaf_Split.tab14 leaf_Split.bits14 (fun HT_ HW_ => ?_)
     generalize wr.drew = w46 at BK254 BK255 BK256 HR265 HB hHeld ⊢
     refine pure_ (i := 0) (N := some 61) (v := ?_) (a' := ?_) #[Y,N,N,N,N,N,N,N,N,N] rfl rfl (any_of HT_.out (by kernel_rfl)) (fun _ _ _ h => h) (Or.inl ⟨by rfl, ?_⟩) ?_ ?_
     rotate_left
     ·intro w'
      go_simp
      with_reducible rfl
     rotate_left
     ·simp only [Act.put, List.setIfInBounds_toArray, List.set_cons_zero, List.set_cons_succ, i64_w, i32_w]
      rfl
     refine pure_ (i := 3) (N := some 64) (v := ?_) (a' := ?_) #[Y,N,N,Y,N,N,N,N,N,N] rfl rfl (any_of HT_.out (by kernel_rfl)) (fun _ _ _ h => h) (Or.inl ⟨by rfl, ?_⟩) ?_ ?_
     rotate_left
     ·intro w'
      go_simp
      with_reducible rfl
     rotate_left
     ·simp only [Act.put, List.setIfInBounds_toArray, List.set_cons_zero, List.set_cons_succ, i64_w, i32_w]
      rfl
     refine take_ (i := 1) (N := some 62) (v := ?_) (a' := ?_) #[Y,Y,N,Y,N,N,N,N,N,N] rfl rfl (take_ofW HT_.out HW_.out (by kernel_rfl)) (fun _ _ _ h => h) (Or.inl ⟨by rfl, ?_⟩) hHeld ?_ ?_
     rotate_left
     ·rintro w' ⟨s0, s1, s2⟩
      go_simp
      with_reducible rfl
     rotate_left
     ·simp only [Act.put, List.setIfInBounds_toArray, List.set_cons_zero, List.set_cons_succ, i64_w, i32_w]
      rfl
     refine pure_ (i := 2) (N := some 63) (v := ?_) (a' := ?_) #[Y,Y,Y,Y,N,N,N,N,N,N] rfl rfl (any_of HT_.out (by kernel_rfl)) (fun _ _ _ h => h) (Or.inl ⟨by rfl, ?_⟩) ?_ ?_
     rotate_left
     ·intro w'
      go_simp
      with_reducible rfl
     rotate_left
     ·simp only [Act.put, List.setIfInBounds_toArray, List.set_cons_zero, List.set_cons_succ, i64_w, i32_w]
      rfl
     refine take_ (i := 4) (N := some 65) (v := ?_) (a' := ?_) #[Y,Y,Y,Y,Y,N,N,N,N,N] rfl rfl (take_ofW HT_.out HW_.out (by kernel_rfl)) (fun _ _ _ h => h) (Or.inl ⟨by rfl, ?_⟩) hHeld ?_ ?_
     rotate_left
     ·rintro w' ⟨s0, s1, s2⟩
      go_simp
      with_reducible rfl
     rotate_left
     ·simp only [Act.put, List.setIfInBounds_toArray, List.set_cons_zero, List.set_cons_succ, i64_w, i32_w]
      rfl
     refine pure_ (i := 5) (N := some 66) (v := ?_) (a' := ?_) #[Y,Y,Y,Y,Y,Y,N,N,N,N] rfl rfl (any_of HT_.out (by kernel_rfl)) (fun _ _ _ h => h) (Or.inl ⟨by rfl, ?_⟩) ?_ ?_
     rotate_left
     ·intro w'
      go_simp
      with_reducible rfl
     rotate_left
     ·simp only [Act.put, List.setIfInBounds_toArray, List.set_cons_zero, List.set_cons_succ, i64_w, i32_w]
      rfl
     refine join_ (σ := Nat × Nat) 2 #[Y,Y,Y,Y,Y,Y,Y,Y,N,N] (fun s_ => [(13, .pointer (some ⟨s_.1, 0, none⟩)), (14, .pointer (some ⟨s_.2, 0, none⟩))]) (fun s_ w' => (w'.cell? ⟨gb254, 0, none⟩ = some (.bool a0_0) ∧ w'.cell? ⟨gb254, 1, none⟩ = some (.slice A0_1 l0_1.length c0_1) ∧ w'.cell? ⟨gb254, 2, none⟩ = some (.slice A0_2 l0_2.length c0_2)) ∧ (w'.heap[gb254]? = some (.cells #[.bool a0_0, .slice A0_1 l0_1.length c0_1, .slice A0_2 l0_2.length c0_2] 31 (0, 0))) ∧ (w'.heap[gb255]? = some (.cells #[.bool false, .slice none 0 0, .slice none 0 0] 31 (0, 0))) ∧ (w'.heap[gb256]? = some (.cells #[.bool false, .slice none 0 0, .slice none 0 0] 31 (0, 0))) ∧ (w'.heap[s_.1]? = some (.cells #[.bool false, .slice none 0 0, .slice none 0 0] 31 (0, 0))) ∧ (w'.heap[s_.2]? = some (.cells #[.bool false, .slice none 0 0, .slice none 0 0] 31 (0, 0))) ∧ (w.heap.size ≤ s_.1) ∧ (w.heap.size ≤ s_.1) ∧ (gb254 ≠ s_.1) ∧ (s_.1 ≠ gb254) ∧ (gb255 ≠ s_.1) ∧ (s_.1 ≠ gb255) ∧ (gb256 ≠ s_.1) ∧ (s_.1 ≠ gb256) ∧ (s_.2 ≠ s_.1) ∧ (s_.1 ≠ s_.2) ∧ (w.heap.size ≤ s_.2) ∧ (w.heap.size ≤ s_.2) ∧ (gb254 ≠ s_.2) ∧ (s_.2 ≠ gb254) ∧ (gb255 ≠ s_.2) ∧ (s_.2 ≠ gb255) ∧ (gb256 ≠ s_.2) ∧ (s_.2 ≠ gb256) ∧ (Below w.heap.size w w')) ?_ ?_
     rotate_left
     ·intro hCont
      refine two_ (i := 6) (j := 7) (Ni := some 13) (Nj := some 14) #[Y,Y,Y,Y,Y,Y,Y,N,N,N] #[Y,Y,Y,Y,Y,Y,N,Y,N,N] rfl rfl rfl rfl (two_of HT_.out (by kernel_rfl)) (by decide) (by decide) (fun K hK => ?_) (fun K hK => ?_)
      ·skip
       refine box_step ?hg (N := 13) ?hd (cs := #[.bool false, .slice none 0 0, .slice none 0 0]) (t := 31) ?hr ?_; (case hd => rfl); (case hg => rfl); (case hr => first | (go_simp; done) | (go_simp; rfl))
       intro gb267 hg w47 hbox hb
       replace HR265 := aM (Kd.C_below (by repeat (first | (with_reducible exact HR265.out) | (with_reducible refine Kd.C_alloc ?_ _) | (with_reducible refine Kd.C_drewN ?_ _) | (with_reducible refine Kd.C_drew ?_) | exact HR265.out)) hb)
       have BK267 := aM (hbox)
       have GW267 := gw hg HB
       have GE267 := gw hg HB
       replace HB := aM (below_step (kl HB) hb)
       have NB254_267 := nl hg BK254
       have NB267_254 := ng hg BK254
       replace BK254 := bb BK254 hb
       have NB255_267 := nl hg BK255
       have NB267_255 := ng hg BK255
       replace BK255 := bb BK255 hb
       have NB256_267 := nl hg BK256
       have NB267_256 := ng hg BK256
       replace BK256 := bb BK256 hb
       clear hb hbox hg
       refine hK.out _ _ ⟨bc BK254 0, bc BK254 1, bc BK254 2⟩ (fun hHeld => ?_)
       clear hK K
       refine norm_ (a' := ?_) ?_ ?_
       rotate_left
       ·show Act.put _ (some 13) _ = _
        simp only [Act.put, List.setIfInBounds_toArray, List.set_cons_zero, List.set_cons_succ, i64_w, i32_w]
        rfl
       refine one_ (i := 7) (N := some 14) #[Y,Y,Y,Y,Y,Y,Y,Y,N,N] rfl rfl (one_of HT_.out (by kernel_rfl)) (by decide) (fun K hK => ?_)
       refine box_step ?hg (N := 14) ?hd (cs := #[.bool false, .slice none 0 0, .slice none 0 0]) (t := 31) ?hr ?_; (case hd => rfl); (case hg => rfl); (case hr => first | (go_simp; done) | (go_simp; rfl))
       intro gb268 hg w48 hbox hb
       replace HR265 := aM (Kd.C_below (by repeat (first | (with_reducible exact HR265.out) | (with_reducible refine Kd.C_alloc ?_ _) | (with_reducible refine Kd.C_drewN ?_ _) | (with_reducible refine Kd.C_drew ?_) | exact HR265.out)) hb)
       have BK268 := aM (hbox)
       have GW268 := gw hg HB
       have GE268 := gw hg HB
       replace HB := aM (below_step (kl HB) hb)
       have NB254_268 := nl hg BK254
       have NB268_254 := ng hg BK254
       replace BK254 := bb BK254 hb
       have NB255_268 := nl hg BK255
       have NB268_255 := ng hg BK255
       replace BK255 := bb BK255 hb
       have NB256_268 := nl hg BK256
       have NB268_256 := ng hg BK256
       replace BK256 := bb BK256 hb
       have NB267_268 := nl hg BK267
       have NB268_267 := ng hg BK267
       replace BK267 := bb BK267 hb
       clear hb hbox hg
       refine hK.out _ _ ⟨bc BK254 0, bc BK254 1, bc BK254 2⟩ (fun hHeld => ?_)
       clear hK K
       refine norm_ (a' := ?_) ?_ ?_
       rotate_left
       ·show Act.put _ (some 14) _ = _
        simp only [Act.put, List.setIfInBounds_toArray, List.set_cons_zero, List.set_cons_succ, i64_w, i32_w]
        rfl
       exact norm_ (by simp only [putAll, Act.put, List.setIfInBounds_toArray, List.set_cons_zero, List.set_cons_succ]) (hCont (gb267, gb268) _ ⟨hHeld, (kb BK254), (kb BK255), (kb BK256), (kb BK267), (kb BK268), GW267.out, GE267.out, NB254_267.out, NB267_254.out, NB255_267.out, NB267_255.out, NB256_267.out, NB267_256.out, NB268_267.out, NB267_268.out, GW268.out, GE268.out, NB254_268.out, NB268_254.out, NB255_268.out, NB268_255.out, NB256_268.out, NB268_256.out, (kl HB)⟩)
      ·skip
       refine box_step ?hg (N := 14) ?hd (cs := #[.bool false, .slice none 0 0, .slice none 0 0]) (t := 31) ?hr ?_; (case hd => rfl); (case hg => rfl); (case hr => first | (go_simp; done) | (go_simp; rfl))
       intro gb268 hg w47 hbox hb
       replace HR265 := aM (Kd.C_below (by repeat (first | (with_reducible exact HR265.out) | (with_reducible refine Kd.C_alloc ?_ _) | (with_reducible refine Kd.C_drewN ?_ _) | (with_reducible refine Kd.C_drew ?_) | exact HR265.out)) hb)
       have BK268 := aM (hbox)
       have GW268 := gw hg HB
       have GE268 := gw hg HB
       replace HB := aM (below_step (kl HB) hb)
       have NB254_268 := nl hg BK254
       have NB268_254 := ng hg BK254
       replace BK254 := bb BK254 hb
       have NB255_268 := nl hg BK255
       have NB268_255 := ng hg BK255
       replace BK255 := bb BK255 hb
       have NB256_268 := nl hg BK256
       have NB268_256 := ng hg BK256
       replace BK256 := bb BK256 hb
       clear hb hbox hg
       refine hK.out _ _ ⟨bc BK254 0, bc BK254 1, bc BK254 2⟩ (fun hHeld => ?_)
       clear hK K
       refine norm_ (a' := ?_) ?_ ?_
       rotate_left
       ·show Act.put _ (some 14) _ = _
        simp only [Act.put, List.setIfInBounds_toArray, List.set_cons_zero, List.set_cons_succ, i64_w, i32_w]
        rfl
       refine one_ (i := 6) (N := some 13) #[Y,Y,Y,Y,Y,Y,Y,Y,N,N] rfl rfl (one_of HT_.out (by kernel_rfl)) (by decide) (fun K hK => ?_)
       refine box_step ?hg (N := 13) ?hd (cs := #[.bool false, .slice none 0 0, .slice none 0 0]) (t := 31) ?hr ?_; (case hd => rfl); (case hg => rfl); (case hr => first | (go_simp; done) | (go_simp; rfl))
       intro gb267 hg w48 hbox hb
       replace HR265 := aM (Kd.C_below (by repeat (first | (with_reducible exact HR265.out) | (with_reducible refine Kd.C_alloc ?_ _) | (with_reducible refine Kd.C_drewN ?_ _) | (with_reducible refine Kd.C_drew ?_) | exact HR265.out)) hb)
       have BK267 := aM (hbox)
       have GW267 := gw hg HB
       have GE267 := gw hg HB
       replace HB := aM (below_step (kl HB) hb)
       have NB254_267 := nl hg BK254
       have NB267_254 := ng hg BK254
       replace BK254 := bb BK254 hb
       have NB255_267 := nl hg BK255
       have NB267_255 := ng hg BK255
       replace BK255 := bb BK255 hb
       have NB256_267 := nl hg BK256
       have NB267_256 := ng hg BK256
       replace BK256 := bb BK256 hb
       have NB268_267 := nl hg BK268
       have NB267_268 := ng hg BK268
       replace BK268 := bb BK268 hb
       clear hb hbox hg
       refine hK.out _ _ ⟨bc BK254 0, bc BK254 1, bc BK254 2⟩ (fun hHeld => ?_)
       clear hK K
       refine norm_ (a' := ?_) ?_ ?_
       rotate_left
       ·show Act.put _ (some 13) _ = _
        simp only [Act.put, List.setIfInBounds_toArray, List.set_cons_zero, List.set_cons_succ, i64_w, i32_w]
        rfl
       exact norm_ (by simp only [putAll, Act.put, List.setIfInBounds_toArray, List.set_cons_zero, List.set_cons_succ]) (hCont (gb267, gb268) _ ⟨hHeld, (kb BK254), (kb BK255), (kb BK256), (kb BK267), (kb BK268), GW267.out, GE267.out, NB254_267.out, NB267_254.out, NB255_267.out, NB267_255.out, NB256_267.out, NB267_256.out, NB268_267.out, NB267_268.out, GW268.out, GE268.out, NB254_268.out, NB268_254.out, NB255_268.out, NB268_255.out, NB256_268.out, NB268_256.out, (kl HB)⟩)
     rintro ⟨gb267, gb268⟩ w49 ⟨hS_, h0_, h1_, h2_, h3_, h4_, h5_, h6_, h7_, h8_, h9_, h10_, h11_, h12_, h13_, h14_, h15_, h16_, h17_, h18_, h19_, h20_, h21_, h22_, h23_⟩
     have n0_ : Aside0 (w49.heap[gb254]? = some (.cells #[.bool a0_0, .slice A0_1 l0_1.length c0_1, .slice A0_2 l0_2.length c0_2] 31 (0, 0))) := ⟨h0_⟩
     have n1_ : Aside0 (w49.heap[gb255]? = some (.cells #[.bool false, .slice none 0 0, .slice none 0 0] 31 (0, 0))) := ⟨h1_⟩
     have n2_ : Aside0 (w49.heap[gb256]? = some (.cells #[.bool false, .slice none 0 0, .slice none 0 0] 31 (0, 0))) := ⟨h2_⟩
     have n3_ : Aside0 (w49.heap[gb267]? = some (.cells #[.bool false, .slice none 0 0, .slice none 0 0] 31 (0, 0))) := ⟨h3_⟩
     have n4_ : Aside0 (w49.heap[gb268]? = some (.cells #[.bool false, .slice none 0 0, .slice none 0 0] 31 (0, 0))) := ⟨h4_⟩
     have n5_ : Aside0 (w.heap.size ≤ gb267) := ⟨h5_⟩
     have n6_ : Aside0 (w.heap.size ≤ gb267) := ⟨h6_⟩
     have n7_ : Aside0 (gb254 ≠ gb267) := ⟨h7_⟩
     have n8_ : Aside0 (gb267 ≠ gb254) := ⟨h8_⟩
     have n9_ : Aside0 (gb255 ≠ gb267) := ⟨h9_⟩
     have n10_ : Aside0 (gb267 ≠ gb255) := ⟨h10_⟩
     have n11_ : Aside0 (gb256 ≠ gb267) := ⟨h11_⟩
     have n12_ : Aside0 (gb267 ≠ gb256) := ⟨h12_⟩
     have n13_ : Aside0 (gb268 ≠ gb267) := ⟨h13_⟩
     have n14_ : Aside0 (gb267 ≠ gb268) := ⟨h14_⟩
     have n15_ : Aside0 (w.heap.size ≤ gb268) := ⟨h15_⟩
     have n16_ : Aside0 (w.heap.size ≤ gb268) := ⟨h16_⟩
     have n17_ : Aside0 (gb254 ≠ gb268) := ⟨h17_⟩
     have n18_ : Aside0 (gb268 ≠ gb254) := ⟨h18_⟩
     have n19_ : Aside0 (gb255 ≠ gb268) := ⟨h19_⟩
     have n20_ : Aside0 (gb268 ≠ gb255) := ⟨h20_⟩
     have n21_ : Aside0 (gb256 ≠ gb268) := ⟨h21_⟩
     have n22_ : Aside0 (gb268 ≠ gb256) := ⟨h22_⟩
     have n23_ : Aside0 (Below w.heap.size w w49) := ⟨h23_⟩
     clear BK254
     clear BK255
     clear BK256
     clear HR265
     clear HB
     clear h0_ h1_ h2_ h3_ h4_ h5_ h6_ h7_ h8_ h9_ h10_ h11_ h12_ h13_ h14_ h15_ h16_ h17_ h18_ h19_ h20_ h21_ h22_ h23_
     have BK254 := n0_
     have BK255 := n1_
     have BK256 := n2_
     have BK267 := n3_
     have BK268 := n4_
     have GW267 := n5_
     have GE267 := n6_
     have NB254_267 := n7_
     have NB267_254 := n8_
     have NB255_267 := n9_
     have NB267_255 := n10_
     have NB256_267 := n11_
     have NB267_256 := n12_
     have NB268_267 := n13_
     have NB267_268 := n14_
     have GW268 := n15_
     have GE268 := n16_
     have NB254_268 := n17_
     have NB268_254 := n18_
     have NB255_268 := n19_
     have NB268_255 := n20_
     have NB256_268 := n21_
     have NB268_256 := n22_
     have HB := n23_
     clear n0_ n1_ n2_ n3_ n4_ n5_ n6_ n7_ n8_ n9_ n10_ n11_ n12_ n13_ n14_ n15_ n16_ n17_ n18_ n19_ n20_ n21_ n22_ n23_
     have hHeld : w49.cell? ⟨gb254, 0, none⟩ = some (.bool a0_0) ∧ w49.cell? ⟨gb254, 1, none⟩ = some (.slice A0_1 l0_1.length c0_1) ∧ w49.cell? ⟨gb254, 2, none⟩ = some (.slice A0_2 l0_2.length c0_2) := hS_
     refine norm_ (a' := ?_) ?_ ?_
     rotate_left
     ·simp only [putAll, Act.put, List.setIfInBounds_toArray, List.set_cons_zero, List.set_cons_succ]
      rfl
     refine one_ (i := 8) (N := none) #[Y,Y,Y,Y,Y,Y,Y,Y,Y,N] rfl rfl (one_of HT_.out (by kernel_rfl)) (by decide) (fun K hK => ?_)
     have hs50 : w49.cell? ⟨gb267, 0, none⟩ = some (.bool false) := bc BK267 0
     have hfs50 := blk_frozen BK267.out 0
     have hns50_0 := NB254_267.out
     have hns50_1 := NB255_267.out
     have hns50_2 := NB256_267.out
     have hns50_4 := NB268_267.out
     have hms50_0 := NB267_254.out
     have hms50_1 := NB267_255.out
     have hms50_2 := NB267_256.out
     have hms50_4 := NB267_268.out
     have hs51 : w49.cell? ⟨gb267, 1, none⟩ = some (.slice none 0 0) := bc BK267 1
     have hfs51 := blk_frozen BK267.out 1
     have hns51_0 := NB254_267.out
     have hns51_1 := NB255_267.out
     have hns51_2 := NB256_267.out
     have hns51_4 := NB268_267.out
     have hms51_0 := NB267_254.out
     have hms51_1 := NB267_255.out
     have hms51_2 := NB267_256.out
     have hms51_4 := NB267_268.out
     have hs52 : w49.cell? ⟨gb267, 2, none⟩ = some (.slice none 0 0) := bc BK267 2
     have hfs52 := blk_frozen BK267.out 2
     have hns52_0 := NB254_267.out
     have hns52_1 := NB255_267.out
     have hns52_2 := NB256_267.out
     have hns52_4 := NB268_267.out
     have hms52_0 := NB267_254.out
     have hms52_1 := NB267_255.out
     have hms52_2 := NB267_256.out
     have hms52_4 := NB267_268.out
     refine skip_ (w1 := ?_) (by rfl) rfl ?_ ?_
     rotate_left
     ·go_simp
      rfl
     refine hK.out _ _ ⟨((cell_far (p := ⟨gb267, _, none⟩) NB254_267.out _).trans (((cell_far (p := ⟨gb267, _, none⟩) NB254_267.out _).trans (((cell_far (p := ⟨gb267, _, none⟩) NB254_267.out _).trans (hHeld.1)))))), ((cell_far (p := ⟨gb267, _, none⟩) NB254_267.out _).trans (((cell_far (p := ⟨gb267, _, none⟩) NB254_267.out _).trans (((cell_far (p := ⟨gb267, _, none⟩) NB254_267.out _).trans (hHeld.2.1)))))), ((cell_far (p := ⟨gb267, _, none⟩) NB254_267.out _).trans (((cell_far (p := ⟨gb267, _, none⟩) NB254_267.out _).trans (((cell_far (p := ⟨gb267, _, none⟩) NB254_267.out _).trans (hHeld.2.2))))))⟩ (fun hHeld => ?_)
     clear hK K
     refine one_ (i := 9) (N := none) #[Y,Y,Y,Y,Y,Y,Y,Y,Y,Y] rfl rfl (one_of HT_.out (by kernel_rfl)) (by decide) (fun K hK => ?_)
     have hs53 : w49.cell? ⟨gb268, 0, none⟩ = some (.bool false) := bc BK268 0
     have hfs53 := blk_frozen BK268.out 0
     have hns53_0 := NB254_268.out
     have hns53_1 := NB255_268.out
     have hns53_2 := NB256_268.out
     have hns53_3 := NB267_268.out
     have hms53_0 := NB268_254.out
     have hms53_1 := NB268_255.out
     have hms53_2 := NB268_256.out
     have hms53_3 := NB268_267.out
     have hs54 : w49.cell? ⟨gb268, 1, none⟩ = some (.slice none 0 0) := bc BK268 1
     have hfs54 := blk_frozen BK268.out 1
     have hns54_0 := NB254_268.out
     have hns54_1 := NB255_268.out
     have hns54_2 := NB256_268.out
     have hns54_3 := NB267_268.out
     have hms54_0 := NB268_254.out
     have hms54_1 := NB268_255.out
     have hms54_2 := NB268_256.out
     have hms54_3 := NB268_267.out
     have hs55 : w49.cell? ⟨gb268, 2, none⟩ = some (.slice none 0 0) := bc BK268 2
     have hfs55 := blk_frozen BK268.out 2
     have hns55_0 := NB254_268.out
     have hns55_1 := NB255_268.out
     have hns55_2 := NB256_268.out
     have hns55_3 := NB267_268.out
     have hms55_0 := NB268_254.out
     have hms55_1 := NB268_255.out
     have hms55_2 := NB268_256.out
     have hms55_3 := NB268_267.out
     refine skip_ (w1 := ?_) (by rfl) rfl ?_ ?_
     rotate_left
     ·go_simp
      rfl
     refine hK.out _ _ ⟨((cell_far (p := ⟨gb268, _, none⟩) NB254_268.out _).trans (((cell_far (p := ⟨gb268, _, none⟩) NB254_268.out _).trans (((cell_far (p := ⟨gb268, _, none⟩) NB254_268.out _).trans (hHeld.1)))))), ((cell_far (p := ⟨gb268, _, none⟩) NB254_268.out _).trans (((cell_far (p := ⟨gb268, _, none⟩) NB254_268.out _).trans (((cell_far (p := ⟨gb268, _, none⟩) NB254_268.out _).trans (hHeld.2.1)))))), ((cell_far (p := ⟨gb268, _, none⟩) NB254_268.out _).trans (((cell_far (p := ⟨gb268, _, none⟩) NB254_268.out _).trans (((cell_far (p := ⟨gb268, _, none⟩) NB254_268.out _).trans (hHeld.2.2))))))⟩ (fun hHeld => ?_)
     clear hK K
     refine done_ (done_of HT_.out (by kernel_rfl)) ?_
     have hnb56 := NB254_255.out
     have hnc56 := NB255_254.out
     have hnb57 := NB254_256.out
     have hnc57 := NB256_254.out
     have hnb58 := NB254_267.out
     have hnc58 := NB267_254.out
     have hnb59 := NB254_268.out
     have hnc59 := NB268_254.out
     have hcz60_0 : w49.cell? ⟨gb254, 0, none⟩ = some (.bool a0_0) := bc BK254 0
     have hcz60_1 : w49.cell? ⟨gb254, 1, none⟩ = some (.slice A0_1 l0_1.length c0_1) := bc BK254 1
     have hcz60_2 : w49.cell? ⟨gb254, 2, none⟩ = some (.slice A0_2 l0_2.length c0_2) := bc BK254 2
     have hfz60_0 := blk_frozen BK254.out 0
     have hfz60_1 := blk_frozen BK254.out 1
     have hfz60_2 := blk_frozen BK254.out 2
     try go_wp2_with (first | ((with_reducible refine gate_callee (f := 48) rfl ?_); refine goesL_ (some 71) rfl rfl Try.func48 (by kernel_rfl) rfl #[.slice A0_1 l0_1.length c0_1, .int .i64 x8_2] rfl (by (try simp only [List.map_toArray, List.map_cons, List.map_nil]); first | done | rfl | (simp only [List.length_drop, List.length_take]; rfl)) ?_; (with_reducible refine (leaf_Entry_48.calls _ _ l0_1 x8_2 t269 t270 _ ?side1 ?side2 A44.out).mono ?_); (case side1 => exact Kd.C_below HR0_1.out (kl HB)); (case side2 => exact HC0_1.out); rintro e w61 ⟨v271, v273, rfl, ho0, ho1, hb⟩; refine ⟨_, rfl, ?_⟩; have HO272 := aM (Kd.R_lower ho0 (below_size (kl HB))); have HO274 := aM (Kd.R_lower ho1 (below_size (kl HB))); replace BK254 := aM (blk_below (g := gb254) (o := .cells #[.bool a0_0, .slice A0_1 l0_1.length c0_1, .slice A0_2 l0_2.length c0_2] 31 (0, 0)) (kg2 NB254_268 NB254_267 BK254) hb); replace BK255 := aM (blk_below (g := gb255) (o := .cells #[.bool false, .slice none 0 0, .slice none 0 0] 31 (0, 0)) (kg2 NB255_268 NB255_267 BK255) hb); replace BK256 := aM (blk_below (g := gb256) (o := .cells #[.bool false, .slice none 0 0, .slice none 0 0] 31 (0, 0)) (kg2 NB256_268 NB256_267 BK256) hb); replace BK267 := aM (blk_below (g := gb267) (o := .cells #[.bool a0_0, .slice none 0 0, .slice none 0 0] 31 (0, 0)) (by (with_reducible repeat (first | refine blk_drewN ?_ _ | refine blk_drew ?_ | refine blk_alloc ?_ _)); refine blk_far ?_ NB267_268.out _; (with_reducible repeat (first | refine blk_drewN ?_ _ | refine blk_drew ?_ | refine blk_alloc ?_ _)); refine blk_far ?_ NB267_268.out _; (with_reducible repeat (first | refine blk_drewN ?_ _ | refine blk_drew ?_ | refine blk_alloc ?_ _)); refine blk_far ?_ NB267_268.out _; (with_reducible repeat (first | refine blk_drewN ?_ _ | refine blk_drew ?_ | refine blk_alloc ?_ _)); refine blk_put (cs := #[.bool a0_0, .slice none 0 0, .slice none 0 0]) ?_ 2 _ rfl; (with_reducible repeat (first | refine blk_drewN ?_ _ | refine blk_drew ?_ | refine blk_alloc ?_ _)); refine blk_put (cs := #[.bool a0_0, .slice none 0 0, .slice none 0 0]) ?_ 1 _ rfl; (with_reducible repeat (first | refine blk_drewN ?_ _ | refine blk_drew ?_ | refine blk_alloc ?_ _)); refine blk_put (cs := #[.bool false, .slice none 0 0, .slice none 0 0]) ?_ 0 _ rfl; exact kb BK267) hb); replace BK268 := aM (blk_below (g := gb268) (o := .cells #[.bool a0_0, .slice none 0 0, .slice none 0 0] 31 (0, 0)) (by (with_reducible repeat (first | refine blk_drewN ?_ _ | refine blk_drew ?_ | refine blk_alloc ?_ _)); refine blk_put (cs := #[.bool a0_0, .slice none 0 0, .slice none 0 0]) ?_ 2 _ rfl; (with_reducible repeat (first | refine blk_drewN ?_ _ | refine blk_drew ?_ | refine blk_alloc ?_ _)); refine blk_put (cs := #[.bool a0_0, .slice none 0 0, .slice none 0 0]) ?_ 1 _ rfl; (with_reducible repeat (first | refine blk_drewN ?_ _ | refine blk_drew ?_ | refine blk_alloc ?_ _)); refine blk_put (cs := #[.bool false, .slice none 0 0, .slice none 0 0]) ?_ 0 _ rfl; exact kf NB268_267 BK268) hb); replace HB := aM (below_step (kl HB) hb); clear hb ho0 ho1; obtain ⟨Ao62, co62, eo62⟩ := Kd.R_slice HO272.out; subst eo62; have hnb63 := NB267_255.out; have hnc63 := NB255_267.out; have hnb64 := NB267_256.out; have hnc64 := NB256_267.out; have hnb65 := NB267_268.out; have hnc65 := NB268_267.out; have hcz66_0 : w61.cell? ⟨gb267, 0, none⟩ = some (.bool a0_0) := bc BK267 0; have hcz66_1 : w61.cell? ⟨gb267, 1, none⟩ = some (.slice none 0 0) := bc BK267 1; have hcz66_2 : w61.cell? ⟨gb267, 2, none⟩ = some (.slice none 0 0) := bc BK267 2; have hfz66_0 := blk_frozen BK267.out 0; have hfz66_1 := blk_frozen BK267.out 1; have hfz66_2 := blk_frozen BK267.out 2; obtain ⟨Ao67, co67, eo67⟩ := Kd.R_slice HO274.out; subst eo67; have hnb68 := NB268_255.out; have hnc68 := NB255_268.out; have hnb69 := NB268_256.out; have hnc69 := NB256_268.out; have hcz70_0 : w61.cell? ⟨gb268, 0, none⟩ = some (.bool a0_0) := bc BK268 0; have hcz70_1 : w61.cell? ⟨gb268, 1, none⟩ = some (.slice none 0 0) := bc BK268 1; have hcz70_2 : w61.cell? ⟨gb268, 2, none⟩ = some (.slice none 0 0) := bc BK268 2; have hfz70_0 := blk_frozen BK268.out 0; have hfz70_1 := blk_frozen BK268.out 1; have hfz70_2 := blk_frozen BK268.out 2; have hcz71_0 : w61.cell? ⟨gb254, 0, none⟩ = some (.bool a0_0) := bc BK254 0; have hcz71_1 : w61.cell? ⟨gb254, 1, none⟩ = some (.slice A0_1 l0_1.length c0_1) := bc BK254 1; have hcz71_2 : w61.cell? ⟨gb254, 2, none⟩ = some (.slice A0_2 l0_2.length c0_2) := bc BK254 2; have hfz71_0 := blk_frozen BK254.out 0; have hfz71_1 := blk_frozen BK254.out 1; have hfz71_2 := blk_frozen BK254.out 2) | ((with_reducible refine gate_callee (f := 49) rfl ?_); refine goesL_ (some 80) rfl rfl Try.func49 (by kernel_rfl) rfl #[.slice A0_2 l0_2.length c0_2, .int .i64 x8_2] rfl (by (try simp only [List.map_toArray, List.map_cons, List.map_nil]); first | done | rfl | (simp only [List.length_drop, List.length_take]; rfl)) ?_; (with_reducible refine (leaf_Branch_49.calls _ _ l0_2 x8_2 t275 t276 _ ?side1 ?side2 A45.out).mono ?_); (case side1 => exact Kd.C_below HR0_2.out (kl HB)); (case side2 => exact HC0_2.out); rintro e w72 ⟨v277, v279, rfl, ho0, ho1, hb⟩; refine ⟨_, rfl, ?_⟩; replace HO272 := aM (Kd.R_below (by exact (Kd.R_mono (Kd.R_mono (Kd.R_far (Kd.R_far (Kd.R_types (Kd.R_types HO272.out BK267.out (by decide)) BK268.out (by decide)) (fun _ hk => hk.1.2) _) (fun _ hk => hk.2) _) (fun _ h_ => h_.1)) (fun _ h_ => h_.1))) hb); replace HO274 := aM (Kd.R_below (by exact (Kd.R_mono (Kd.R_mono (Kd.R_far (Kd.R_far (Kd.R_types (Kd.R_types HO274.out BK267.out (by decide)) BK268.out (by decide)) (fun _ hk => hk.1.2) _) (fun _ hk => hk.2) _) (fun _ h_ => h_.1)) (fun _ h_ => h_.1))) hb); have HO278 := aM (Kd.R_lower ho0 (below_size (kl HB))); have HO280 := aM (Kd.R_lower ho1 (below_size (kl HB))); replace BK254 := aM (blk_below (g := gb254) (o := .cells #[.bool a0_0, .slice A0_1 l0_1.length c0_1, .slice A0_2 l0_2.length c0_2] 31 (0, 0)) (kg2 NB254_268 NB254_267 BK254) hb); replace BK255 := aM (blk_below (g := gb255) (o := .cells #[.bool false, .slice none 0 0, .slice none 0 0] 31 (0, 0)) (kg2 NB255_268 NB255_267 BK255) hb); replace BK256 := aM (blk_below (g := gb256) (o := .cells #[.bool false, .slice none 0 0, .slice none 0 0] 31 (0, 0)) (kg2 NB256_268 NB256_267 BK256) hb); replace BK267 := aM (blk_below (g := gb267) (o := .cells #[.bool a0_0, .slice Ao62 t269.length co62, .slice none 0 0] 31 (0, 0)) (by (with_reducible repeat (first | refine blk_drewN ?_ _ | refine blk_drew ?_ | refine blk_alloc ?_ _)); refine blk_far ?_ NB267_268.out _; (with_reducible repeat (first | refine blk_drewN ?_ _ | refine blk_drew ?_ | refine blk_alloc ?_ _)); refine blk_put (cs := #[.bool a0_0, .slice none 0 0, .slice none 0 0]) ?_ 1 _ rfl; exact kb BK267) hb); replace BK268 := aM (blk_below (g := gb268) (o := .cells #[.bool a0_0, .slice Ao67 t270.length co67, .slice none 0 0] 31 (0, 0)) (by (with_reducible repeat (first | refine blk_drewN ?_ _ | refine blk_drew ?_ | refine blk_alloc ?_ _)); refine blk_put (cs := #[.bool a0_0, .slice none 0 0, .slice none 0 0]) ?_ 1 _ rfl; exact kf NB268_267 BK268) hb); replace HB := aM (below_step (kl HB) hb); clear hb ho0 ho1; obtain ⟨Ao73, co73, eo73⟩ := Kd.R_slice HO278.out; subst eo73; have hcz74_0 : w72.cell? ⟨gb267, 0, none⟩ = some (.bool a0_0) := bc BK267 0; have hcz74_1 : w72.cell? ⟨gb267, 1, none⟩ = some (.slice Ao62 t269.length co62) := bc BK267 1; have hcz74_2 : w72.cell? ⟨gb267, 2, none⟩ = some (.slice none 0 0) := bc BK267 2; have hfz74_0 := blk_frozen BK267.out 0; have hfz74_1 := blk_frozen BK267.out 1; have hfz74_2 := blk_frozen BK267.out 2; obtain ⟨Ao75, co75, eo75⟩ := Kd.R_slice HO280.out; subst eo75; have hcz76_0 : w72.cell? ⟨gb268, 0, none⟩ = some (.bool a0_0) := bc BK268 0; have hcz76_1 : w72.cell? ⟨gb268, 1, none⟩ = some (.slice Ao67 t270.length co67) := bc BK268 1; have hcz76_2 : w72.cell? ⟨gb268, 2, none⟩ = some (.slice none 0 0) := bc BK268 2; have hfz76_0 := blk_frozen BK268.out 0; have hfz76_1 := blk_frozen BK268.out 1; have hfz76_2 := blk_frozen BK268.out 2))
     have n0_ : Aside0 (Kd.R k47 47 ((w72.setCell ⟨gb267, 2, none⟩ (.slice Ao73 t275.length co73)).setCell ⟨gb268, 2, none⟩ (.slice Ao75 t276.length co75)) w.heap.size (fun k_ => some k_ ≠ (.slice Ao67 t270.length co67 : Value).ownBlock) (.slice Ao62 t269.length co62) t269) := ⟨by exact Kd.R_mono (Kd.R_far (Kd.R_far (Kd.R_types (Kd.R_types HO272.out BK267.out (by decide)) BK268.out (by decide)) (fun _ hk => hk.1.2) _) (fun _ hk => hk.2) _) (fun _ hk => hk.1.1)⟩
     have n1_ : Aside0 (Kd.R k47 47 ((w72.setCell ⟨gb267, 2, none⟩ (.slice Ao73 t275.length co73)).setCell ⟨gb268, 2, none⟩ (.slice Ao75 t276.length co75)) w.heap.size (fun k_ => some k_ ≠ (.slice Ao62 t269.length co62 : Value).ownBlock) (.slice Ao67 t270.length co67) t270) := ⟨by exact Kd.R_mono (Kd.R_far (Kd.R_far (Kd.R_types (Kd.R_types HO274.out BK267.out (by decide)) BK268.out (by decide)) (fun _ hk => hk.1.2) _) (fun _ hk => hk.2) _) (fun _ hk => hk.1.1)⟩
     have n2_ : Aside0 (Kd.R k36 36 ((w72.setCell ⟨gb267, 2, none⟩ (.slice Ao73 t275.length co73)).setCell ⟨gb268, 2, none⟩ (.slice Ao75 t276.length co75)) w.heap.size (fun k_ => some k_ ≠ (.slice Ao75 t276.length co75 : Value).ownBlock) (.slice Ao73 t275.length co73) t275) := ⟨by exact Kd.R_mono (Kd.R_far (Kd.R_far (Kd.R_types (Kd.R_types HO278.out BK267.out (by decide)) BK268.out (by decide)) (fun _ hk => hk.1.2) _) (fun _ hk => hk.2) _) (fun _ hk => hk.1.1)⟩
     have n3_ : Aside0 (Kd.R k36 36 ((w72.setCell ⟨gb267, 2, none⟩ (.slice Ao73 t275.length co73)).setCell ⟨gb268, 2, none⟩ (.slice Ao75 t276.length co75)) w.heap.size (fun k_ => some k_ ≠ (.slice Ao73 t275.length co73 : Value).ownBlock) (.slice Ao75 t276.length co75) t276) := ⟨by exact Kd.R_mono (Kd.R_far (Kd.R_far (Kd.R_types (Kd.R_types HO280.out BK267.out (by decide)) BK268.out (by decide)) (fun _ hk => hk.1.2) _) (fun _ hk => hk.2) _) (fun _ hk => hk.1.1)⟩
     have n4_ : Aside0 (((w72.setCell ⟨gb267, 2, none⟩ (.slice Ao73 t275.length co73)).setCell ⟨gb268, 2, none⟩ (.slice Ao75 t276.length co75)).heap[gb254]? = some (.cells #[.bool a0_0, .slice A0_1 l0_1.length c0_1, .slice A0_2 l0_2.length c0_2] 31 (0, 0))) := ⟨kg2 NB254_268 NB254_267 BK254⟩
     have n5_ : Aside0 (((w72.setCell ⟨gb267, 2, none⟩ (.slice Ao73 t275.length co73)).setCell ⟨gb268, 2, none⟩ (.slice Ao75 t276.length co75)).heap[gb255]? = some (.cells #[.bool false, .slice none 0 0, .slice none 0 0] 31 (0, 0))) := ⟨kg2 NB255_268 NB255_267 BK255⟩
     have n6_ : Aside0 (((w72.setCell ⟨gb267, 2, none⟩ (.slice Ao73 t275.length co73)).setCell ⟨gb268, 2, none⟩ (.slice Ao75 t276.length co75)).heap[gb256]? = some (.cells #[.bool false, .slice none 0 0, .slice none 0 0] 31 (0, 0))) := ⟨kg2 NB256_268 NB256_267 BK256⟩
     have n7_ : Aside0 (((w72.setCell ⟨gb267, 2, none⟩ (.slice Ao73 t275.length co73)).setCell ⟨gb268, 2, none⟩ (.slice Ao75 t276.length co75)).heap[gb267]? = some (.cells #[.bool a0_0, .slice Ao62 t269.length co62, .slice Ao73 t275.length co73] 31 (0, 0))) := ⟨by (with_reducible repeat (first | refine blk_drewN ?_ _ | refine blk_drew ?_ | refine blk_alloc ?_ _)); refine blk_far ?_ NB267_268.out _; (with_reducible repeat (first | refine blk_drewN ?_ _ | refine blk_drew ?_ | refine blk_alloc ?_ _)); refine blk_put (cs := #[.bool a0_0, .slice Ao62 t269.length co62, .slice none 0 0]) ?_ 2 _ rfl; exact kb BK267⟩
     have n8_ : Aside0 (((w72.setCell ⟨gb267, 2, none⟩ (.slice Ao73 t275.length co73)).setCell ⟨gb268, 2, none⟩ (.slice Ao75 t276.length co75)).heap[gb268]? = some (.cells #[.bool a0_0, .slice Ao67 t270.length co67, .slice Ao75 t276.length co75] 31 (0, 0))) := ⟨by (with_reducible repeat (first | refine blk_drewN ?_ _ | refine blk_drew ?_ | refine blk_alloc ?_ _)); refine blk_put (cs := #[.bool a0_0, .slice Ao67 t270.length co67, .slice none 0 0]) ?_ 2 _ rfl; exact kf NB268_267 BK268⟩
     have n9_ : Aside0 (Below w.heap.size w ((w72.setCell ⟨gb267, 2, none⟩ (.slice Ao73 t275.length co73)).setCell ⟨gb268, 2, none⟩ (.slice Ao75 t276.length co75))) := ⟨kl HB⟩
     (try clear HO272)
     (try clear HO274)
     (try clear HO278)
     (try clear HO280)
     (try clear BK254)
     (try clear BK255)
     (try clear BK256)
     (try clear BK267)
     (try clear BK268)
     (try clear HB)
     generalize ((w72.setCell ⟨gb267, 2, none⟩ (.slice Ao73 t275.length co73)).setCell ⟨gb268, 2, none⟩ (.slice Ao75 t276.length co75)) = w77 at n0_ n1_ n2_ n3_ n4_ n5_ n6_ n7_ n8_ n9_ ⊢
     have HO272 := n0_
     have HO274 := n1_
     have HO278 := n2_
     have HO280 := n3_
     have BK254 := n4_
     have BK255 := n5_
     have BK256 := n6_
     have BK267 := n7_
     have BK268 := n8_
     have HB := n9_
     clear n0_ n1_ n2_ n3_ n4_ n5_ n6_ n7_ n8_ n9_
     replace HO272 := aM (Kd.R_drew HO272.out)
     replace HO274 := aM (Kd.R_drew HO274.out)
     replace HO278 := aM (Kd.R_drew HO278.out)
     replace HO280 := aM (Kd.R_drew HO280.out)
     replace BK254 := aM (blk_drew BK254.out)
     replace BK255 := aM (blk_drew BK255.out)
     replace BK256 := aM (blk_drew BK256.out)
     replace BK267 := aM (blk_drew BK267.out)
     replace BK268 := aM (blk_drew BK268.out)
     replace HB := aM (below_drew1 HB.out)
     refine start_ (n := 5) (S := fun w' => w'.cell? ⟨gb267, 0, none⟩ = some (.bool a0_0) ∧ w'.cell? ⟨gb267, 1, none⟩ = some (.slice Ao62 t269.length co62) ∧ w'.cell? ⟨gb267, 2, none⟩ = some (.slice Ao73 t275.length co73) ∧ w'.cell? ⟨gb268, 0, none⟩ = some (.bool a0_0) ∧ w'.cell? ⟨gb268, 1, none⟩ = some (.slice Ao67 t270.length co67) ∧ w'.cell? ⟨gb268, 2, none⟩ = some (.slice Ao75 t276.length co75)) (ds := []) #[false, false, false, false, false] (by kernel_rfl) rfl rfl ⟨bc BK267 0, bc BK267 1, bc BK267 2, bc BK268 0, bc BK268 1, bc BK268 2⟩ (fun hHeld => ?_)
     generalize w77.drew = w78 at HO272 HO274 HO278 HO280 BK254 BK255 BK256 BK267 BK268 HB hHeld ⊢
     refine take_ (i := 0) (N := some 85) (v := ?_) (a' := ?_) #[true, false, false, false, false] rfl rfl (by kernel_rfl) (fun _ _ _ h => h) (Or.inl ⟨by rfl, ?_⟩) hHeld ?_ ?_
     rotate_left
     ·rintro w' ⟨s0, s1, s2, s3, s4, s5⟩
      go_simp
      with_reducible rfl
     rotate_left
     ·simp only [Act.put, List.setIfInBounds_toArray, List.set_cons_zero, List.set_cons_succ, i64_w, i32_w]
      rfl
     refine take_ (i := 1) (N := some 86) (v := ?_) (a' := ?_) #[true, true, false, false, false] rfl rfl (by kernel_rfl) (fun _ _ _ h => h) (Or.inl ⟨by rfl, ?_⟩) hHeld ?_ ?_
     rotate_left
     ·rintro w' ⟨s0, s1, s2, s3, s4, s5⟩
      go_simp
      with_reducible rfl
     rotate_left
     ·simp only [Act.put, List.setIfInBounds_toArray, List.set_cons_zero, List.set_cons_succ, i64_w, i32_w]
      rfl
     refine one_ (i := 2) (N := none) #[true, true, true, false, false] rfl rfl (by kernel_rfl) (by decide) (fun K hK => ?_)
     have hs79 : w78.cell? ⟨gb255, 0, none⟩ = some (.bool false) := bc BK255 0
     have hfs79 := blk_frozen BK255.out 0
     have hns79_0 := NB254_255.out
     have hns79_2 := NB256_255.out
     have hns79_3 := NB267_255.out
     have hns79_4 := NB268_255.out
     have hms79_0 := NB255_254.out
     have hms79_2 := NB255_256.out
     have hms79_3 := NB255_267.out
     have hms79_4 := NB255_268.out
     have hs80 : w78.cell? ⟨gb255, 1, none⟩ = some (.slice none 0 0) := bc BK255 1
     have hfs80 := blk_frozen BK255.out 1
     have hns80_0 := NB254_255.out
     have hns80_2 := NB256_255.out
     have hns80_3 := NB267_255.out
     have hns80_4 := NB268_255.out
     have hms80_0 := NB255_254.out
     have hms80_2 := NB255_256.out
     have hms80_3 := NB255_267.out
     have hms80_4 := NB255_268.out
     have hs81 : w78.cell? ⟨gb255, 2, none⟩ = some (.slice none 0 0) := bc BK255 2
     have hfs81 := blk_frozen BK255.out 2
     have hns81_0 := NB254_255.out
     have hns81_2 := NB256_255.out
     have hns81_3 := NB267_255.out
     have hns81_4 := NB268_255.out
     have hms81_0 := NB255_254.out
     have hms81_2 := NB255_256.out
     have hms81_3 := NB255_267.out
     have hms81_4 := NB255_268.out
     refine skip_ (w1 := ?_) (by rfl) rfl ?_ ?_
     rotate_left
     ·go_simp
      rfl
     refine hK.out _ _ ⟨((cell_far (p := ⟨gb255, _, none⟩) NB267_255.out _).trans (((cell_far (p := ⟨gb255, _, none⟩) NB267_255.out _).trans (((cell_far (p := ⟨gb255, _, none⟩) NB267_255.out _).trans (hHeld.1)))))), ((cell_far (p := ⟨gb255, _, none⟩) NB267_255.out _).trans (((cell_far (p := ⟨gb255, _, none⟩) NB267_255.out _).trans (((cell_far (p := ⟨gb255, _, none⟩) NB267_255.out _).trans (hHeld.2.1)))))), ((cell_far (p := ⟨gb255, _, none⟩) NB267_255.out _).trans (((cell_far (p := ⟨gb255, _, none⟩) NB267_255.out _).trans (((cell_far (p := ⟨gb255, _, none⟩) NB267_255.out _).trans (hHeld.2.2.1)))))), ((cell_far (p := ⟨gb255, _, none⟩) NB268_255.out _).trans (((cell_far (p := ⟨gb255, _, none⟩) NB268_255.out _).trans (((cell_far (p := ⟨gb255, _, none⟩) NB268_255.out _).trans (hHeld.2.2.2.1)))))), ((cell_far (p := ⟨gb255, _, none⟩) NB268_255.out _).trans (((cell_far (p := ⟨gb255, _, none⟩) NB268_255.out _).trans (((cell_far (p := ⟨gb255, _, none⟩) NB268_255.out _).trans (hHeld.2.2.2.2.1)))))), ((cell_far (p := ⟨gb255, _, none⟩) NB268_255.out _).trans (((cell_far (p := ⟨gb255, _, none⟩) NB268_255.out _).trans (((cell_far (p := ⟨gb255, _, none⟩) NB268_255.out _).trans (hHeld.2.2.2.2.2))))))⟩ (fun hHeld => ?_)
     clear hK K
     refine one_ (i := 3) (N := none) #[true, true, true, true, false] rfl rfl (by kernel_rfl) (by decide) (fun K hK => ?_)
     have hs82 : w78.cell? ⟨gb256, 0, none⟩ = some (.bool false) := bc BK256 0
     have hfs82 := blk_frozen BK256.out 0
     have hns82_0 := NB254_256.out
     have hns82_1 := NB255_256.out
     have hns82_3 := NB267_256.out
     have hns82_4 := NB268_256.out
     have hms82_0 := NB256_254.out
     have hms82_1 := NB256_255.out
     have hms82_3 := NB256_267.out
     have hms82_4 := NB256_268.out
     have hs83 : w78.cell? ⟨gb256, 1, none⟩ = some (.slice none 0 0) := bc BK256 1
     have hfs83 := blk_frozen BK256.out 1
     have hns83_0 := NB254_256.out
     have hns83_1 := NB255_256.out
     have hns83_3 := NB267_256.out
     have hns83_4 := NB268_256.out
     have hms83_0 := NB256_254.out
     have hms83_1 := NB256_255.out
     have hms83_3 := NB256_267.out
     have hms83_4 := NB256_268.out
     have hs84 : w78.cell? ⟨gb256, 2, none⟩ = some (.slice none 0 0) := bc BK256 2
     have hfs84 := blk_frozen BK256.out 2
     have hns84_0 := NB254_256.out
     have hns84_1 := NB255_256.out
     have hns84_3 := NB267_256.out
     have hns84_4 := NB268_256.out
     have hms84_0 := NB256_254.out
     have hms84_1 := NB256_255.out
     have hms84_3 := NB256_267.out
     have hms84_4 := NB256_268.out
     refine skip_ (w1 := ?_) (by rfl) rfl ?_ ?_
     rotate_left
     ·go_simp
      rfl
     refine hK.out _ _ ⟨((cell_far (p := ⟨gb256, _, none⟩) NB267_256.out _).trans (((cell_far (p := ⟨gb256, _, none⟩) NB267_256.out _).trans (((cell_far (p := ⟨gb256, _, none⟩) NB267_256.out _).trans (hHeld.1)))))), ((cell_far (p := ⟨gb256, _, none⟩) NB267_256.out _).trans (((cell_far (p := ⟨gb256, _, none⟩) NB267_256.out _).trans (((cell_far (p := ⟨gb256, _, none⟩) NB267_256.out _).trans (hHeld.2.1)))))), ((cell_far (p := ⟨gb256, _, none⟩) NB267_256.out _).trans (((cell_far (p := ⟨gb256, _, none⟩) NB267_256.out _).trans (((cell_far (p := ⟨gb256, _, none⟩) NB267_256.out _).trans (hHeld.2.2.1)))))), ((cell_far (p := ⟨gb256, _, none⟩) NB268_256.out _).trans (((cell_far (p := ⟨gb256, _, none⟩) NB268_256.out _).trans (((cell_far (p := ⟨gb256, _, none⟩) NB268_256.out _).trans (hHeld.2.2.2.1)))))), ((cell_far (p := ⟨gb256, _, none⟩) NB268_256.out _).trans (((cell_far (p := ⟨gb256, _, none⟩) NB268_256.out _).trans (((cell_far (p := ⟨gb256, _, none⟩) NB268_256.out _).trans (hHeld.2.2.2.2.1)))))), ((cell_far (p := ⟨gb256, _, none⟩) NB268_256.out _).trans (((cell_far (p := ⟨gb256, _, none⟩) NB268_256.out _).trans (((cell_far (p := ⟨gb256, _, none⟩) NB268_256.out _).trans (hHeld.2.2.2.2.2))))))⟩ (fun hHeld => ?_)
     clear hK K
     refine pure_ (i := 4) (N := some 4) (v := ?_) (a' := ?_) #[true, true, true, true, true] rfl rfl (by kernel_rfl) (fun _ _ _ h => h) (Or.inl ⟨by rfl, ?_⟩) ?_ ?_
     rotate_left
     ·intro w'
      go_simp
      with_reducible rfl
     rotate_left
     ·simp only [Act.put, List.setIfInBounds_toArray, List.set_cons_zero, List.set_cons_succ, i64_w, i32_w]
      rfl
     refine done_ (by kernel_rfl) ?_
     try go_wp2
     refine bodyPost_ret (results_list (rs := [.cell 2 31, .cell 3 31, .tmp 4]) rfl (by simp) (.cell gb255 31 #[.bool a0_0, .slice Ao62 t269.length co62, .slice Ao73 t275.length co73] (0, 0) _ rfl (by (with_reducible repeat (first | refine blk_drewN ?_ _ | refine blk_drew ?_ | refine blk_alloc ?_ _)); refine blk_far ?_ NB255_256.out _; (with_reducible repeat (first | refine blk_drewN ?_ _ | refine blk_drew ?_ | refine blk_alloc ?_ _)); refine blk_far ?_ NB255_256.out _; (with_reducible repeat (first | refine blk_drewN ?_ _ | refine blk_drew ?_ | refine blk_alloc ?_ _)); refine blk_far ?_ NB255_256.out _; (with_reducible repeat (first | refine blk_drewN ?_ _ | refine blk_drew ?_ | refine blk_alloc ?_ _)); refine blk_put (cs := #[.bool a0_0, .slice Ao62 t269.length co62, .slice none 0 0]) ?_ 2 _ rfl; (with_reducible repeat (first | refine blk_drewN ?_ _ | refine blk_drew ?_ | refine blk_alloc ?_ _)); refine blk_put (cs := #[.bool a0_0, .slice none 0 0, .slice none 0 0]) ?_ 1 _ rfl; (with_reducible repeat (first | refine blk_drewN ?_ _ | refine blk_drew ?_ | refine blk_alloc ?_ _)); refine blk_put (cs := #[.bool false, .slice none 0 0, .slice none 0 0]) ?_ 0 _ rfl; exact kb BK255) Try.underlying31 rfl (by kernel_rfl) (.cell gb256 31 #[.bool a0_0, .slice Ao67 t270.length co67, .slice Ao75 t276.length co75] (0, 0) _ rfl (by (with_reducible repeat (first | refine blk_drewN ?_ _ | refine blk_drew ?_ | refine blk_alloc ?_ _)); refine blk_put (cs := #[.bool a0_0, .slice Ao67 t270.length co67, .slice none 0 0]) ?_ 2 _ rfl; (with_reducible repeat (first | refine blk_drewN ?_ _ | refine blk_drew ?_ | refine blk_alloc ?_ _)); refine blk_put (cs := #[.bool a0_0, .slice none 0 0, .slice none 0 0]) ?_ 1 _ rfl; (with_reducible repeat (first | refine blk_drewN ?_ _ | refine blk_drew ?_ | refine blk_alloc ?_ _)); refine blk_put (cs := #[.bool false, .slice none 0 0, .slice none 0 0]) ?_ 0 _ rfl; exact kf NB256_255 BK256) Try.underlying31 rfl (by kernel_rfl) (.tmp .nil)))) rfl ?_
     exact ⟨_, _, _, _, by first | rfl | (simp [errW_none, errW_some] <;> rfl) | (simp only [← hji29]; first | rfl | (simp [errW_none, errW_some] <;> rfl)) | (simp [*, errW_none, errW_some] <;> rfl), by exact Kd.R_mono (Kd.R_far (Kd.R_far (Kd.R_far (Kd.R_far (Kd.R_far (Kd.R_far (Kd.R_types (Kd.R_types HO272.out BK255.out (by decide)) BK256.out (by decide)) (fun _ hk => hk.1.2) _) (fun _ hk => hk.1.2) _) (fun _ hk => hk.1.2) _) (fun _ hk => hk.2) _) (fun _ hk => hk.2) _) (fun _ hk => hk.2) _) (fun _ hk => hk.1.1), by exact Kd.R_mono (Kd.R_far (Kd.R_far (Kd.R_far (Kd.R_far (Kd.R_far (Kd.R_far (Kd.R_types (Kd.R_types HO278.out BK255.out (by decide)) BK256.out (by decide)) (fun _ hk => hk.1.2) _) (fun _ hk => hk.1.2) _) (fun _ hk => hk.1.2) _) (fun _ hk => hk.2) _) (fun _ hk => hk.2) _) (fun _ hk => hk.2) _) (fun _ hk => hk.1.1), by exact Kd.R_mono (Kd.R_far (Kd.R_far (Kd.R_far (Kd.R_far (Kd.R_far (Kd.R_far (Kd.R_types (Kd.R_types HO274.out BK255.out (by decide)) BK256.out (by decide)) (fun _ hk => hk.1.2) _) (fun _ hk => hk.1.2) _) (fun _ hk => hk.1.2) _) (fun _ hk => hk.2) _) (fun _ hk => hk.2) _) (fun _ hk => hk.2) _) (fun _ hk => hk.1.1), by exact Kd.R_mono (Kd.R_far (Kd.R_far (Kd.R_far (Kd.R_far (Kd.R_far (Kd.R_far (Kd.R_types (Kd.R_types HO280.out BK255.out (by decide)) BK256.out (by decide)) (fun _ hk => hk.1.2) _) (fun _ hk => hk.1.2) _) (fun _ hk => hk.1.2) _) (fun _ hk => hk.2) _) (fun _ hk => hk.2) _) (fun _ hk => hk.2) _) (fun _ hk => hk.1.1), kl HB⟩
end Go.Proofs.Ytfbaejhjppikpaa.P
namespace Go.Proofs.Ytfbaejhjppikpaa.P
open Go.RowKit Go.Proofs.YtfbaejhjppikpaaW.PrintWords Go.Proofs.YtfbaejhjppikpaaW.PrintLast Go.Proofs.YtfbaejhjppikpaaW.PrintMore
theorem ok_sizes (l : List S47) (h : allFrom (okE l) 0 l.length = true) : ∀ x ∈ l, x.f0.size ≤ 24 ∧ x.f1.size ≤ 100 := by
  intro x hx
  obtain ⟨i, hi⟩ := List.getElem?_of_mem hx
  obtain ⟨hlt, hi⟩ := List.getElem?_eq_some_iff.1 hi
  have := (allFrom_iff _ _ _).1 h i (Nat.zero_le _) (by omega)
  unfold okE at this
  rw [rdE l i hlt, hi] at this
  simp at this
  exact ⟨this.1.1.2, this.1.2⟩
theorem ok_sizesB (l : List S36) (h : allFrom (okB l) 0 l.length = true) : ∀ x ∈ l, x.f0.size ≤ 24 ∧ 2 ≤ x.f1 ∧ x.f1 < 1024 := by
  intro x hx
  obtain ⟨i, hi⟩ := List.getElem?_of_mem hx
  obtain ⟨hlt, hi⟩ := List.getElem?_eq_some_iff.1 hi
  have := (allFrom_iff _ _ _).1 h i (Nat.zero_le _) (by omega)
  unfold okB at this
  rw [rdB l i hlt, hi] at this
  simp at this
  exact ⟨this.1.1.1, this.1.1.2, this.1.2⟩
theorem may_parts {a : Bool} {l : List S47} {m : List S36} (h : mayB a l m = true) : (if a then m = [] else l = []) ∧ allFrom (okE l) 0 l.length = true ∧ allFrom (okB m) 0 m.length = true := by
  unfold mayB at h
  simp only [Bool.and_eq_true] at h
  refine ⟨?_, h.2⟩
  cases a
  · simpa using h.1
  · simpa using h.1
end Go.Proofs.Ytfbaejhjppikpaa.P
namespace Go.Proofs.Ytfbaejhjppikpaa.P
open Go.RowKit Go.Proofs.YtfbaejhjppikpaaW.PrintWords Go.Proofs.YtfbaejhjppikpaaW.PrintLast Go.Proofs.YtfbaejhjppikpaaW.PrintMore
open Go.Proofs.YtfbaejhjppikpaaB
def sumTo (L : List Int) (c : Nat) : Int := (L.take c).sum
def costAt (L : List Int) (c : Nat) : Int := mx (sumTo L c) (L.sum - sumTo L c)
structure IsBest (L : List Int) (b : Nat) : Prop where
  lo : 1 ≤ b
  hi : b < L.length
  ahead : ∀ c, 1 ≤ c → c < b → costAt L b < costAt L c
  behind : ∀ c, b ≤ c → c < L.length → costAt L b ≤ costAt L c
theorem IsBest.one {L : List Int} {b c : Nat} (h : IsBest L b) (h' : IsBest L c) : b = c := by
  rcases Nat.lt_trichotomy b c with e | e | e
  · have h1 := h'.ahead b h.lo e
    have h2 := h.behind c (by omega) h'.hi
    omega
  · exact e
  · have h1 := h.ahead c h'.lo e
    have h2 := h'.behind b (by omega) h.hi
    omega
theorem sum_bd (L : List Int) (B : Int) (h : ∀ x ∈ L, 0 ≤ x ∧ x ≤ B) : 0 ≤ L.sum ∧ L.sum ≤ B * L.length := by
  induction L with
  | nil => simp
  | cons x L ih =>
    have h1 := h x (List.mem_cons_self ..)
    have h2 := ih (fun y hy => h y (List.mem_cons_of_mem _ hy))
    rw [List.sum_cons, List.length_cons]
    push_cast
    rw [Int.mul_add, Int.mul_one]
    omega
theorem sumTo_succ (L : List Int) (i : Nat) (h : i < L.length) : sumTo L (i + 1) = sumTo L i + L[i] := by
  unfold sumTo
  rw [List.take_succ_eq_append_getElem h, List.sum_append]; simp
theorem sum_split (L : List Int) (c : Nat) : L.sum = sumTo L c + (L.drop c).sum := by
  unfold sumTo
  rw [← List.sum_append, List.take_append_drop]
theorem sumTo_bd (L : List Int) (hL : ∀ x ∈ L, 0 ≤ x ∧ x ≤ 1000000) (hn : L.length ≤ 3000) (c : Nat) : 0 ≤ sumTo L c ∧ sumTo L c ≤ L.sum ∧ L.sum ≤ 3000000000 := by
  have h1 := sum_bd (L.take c) 1000000 (fun x hx => hL x (List.mem_of_mem_take hx))
  have h2 := sum_bd (L.drop c) 1000000 (fun x hx => hL x (List.mem_of_mem_drop hx))
  have h3 := sum_bd L 1000000 hL
  have h4 := sum_split L c
  unfold sumTo at h4 ⊢
  omega
def SplitInv (L : List Int) (i best : Nat) (least : Int) : Prop :=
  (i = 0 ∧ best = 0) ∨ (1 ≤ best ∧ best ≤ i ∧ least = costAt L best ∧ (∀ c, 1 ≤ c → c < best → costAt L best < costAt L c) ∧ (∀ c, best ≤ c → c ≤ i → costAt L best ≤ costAt L c))
theorem split_l0 (a : Bool) (E : List S47) (M : List S36) (L : List Int) (hL : ∀ x ∈ L, 0 ≤ x ∧ x ≤ 1000000) (hn : L.length ≤ 3000) (n : Nat) (hln : n + 1 = L.length) (h1 : 1 ≤ n) : ∀ (d i k best : Nat) (least : Int), i + d = n → SplitInv L i best least →
    ∃ b, IsBest L b ∧ leaf_Split.l0 (d + (k + 1)) (sumTo L i) (L.sum - sumTo L i) (best : Int) least (L.take n) (n : Int) (i : Int) a E M = ((leaf_Entry_48.f E (b : Int)).bind fun bt269 => ((leaf_Branch_49.f M (b : Int)).bind fun bt275 => (some (a, bt269.1, bt275.1, a, bt269.2, bt275.2, (0 : Int))))) := by
  intro d
  induction d with
  | zero =>
    intro i k best least h hI
    refine ⟨best, ?_, ?_⟩
    · rcases hI with hI | ⟨g1, g2, g3, g4, g5⟩
      · omega
      · exact ⟨g1, by omega, g4, fun c hc hc' => g5 c hc (by omega)⟩
    · rw [show 0 + (k + 1) = k + 1 from by omega]
      simp only [leaf_Split.l0]
      rw [if_neg (by omega)]
  | succ d ih =>
    intro i k best least h hI
    obtain ⟨q, hq⟩ : ∃ q, q = d + (k + 1) := ⟨_, rfl⟩
    rw [show d + 1 + (k + 1) = q + 1 from by omega]
    have hi : i < L.length := by omega
    have hs := sumTo_succ L i hi
    have b0 := sumTo_bd L hL hn i
    have b1 := sumTo_bd L hL hn (i + 1)
    have hx := hL L[i] (List.getElem_mem hi)
    have hr : rd (L.take n) (i : Int) = L[i] := by rw [rd_at _ i (by rw [List.length_take]; omega), List.getElem_take]
    have w1 : wrap64 (sumTo L i + L[i]) = sumTo L (i + 1) := by rw [hs]; unfold wrap64; omega
    have w2 : wrap64 (L.sum - sumTo L i - L[i]) = L.sum - sumTo L (i + 1) := by rw [hs]; unfold wrap64; omega
    have hc : costAt L (i + 1) = mx (sumTo L (i + 1)) (L.sum - sumTo L (i + 1)) := rfl
    simp only [leaf_Split.l0]
    rw [if_pos (by omega), if_pos (by omega), if_pos (by rw [List.length_take]; omega), hr, w1, w2, wrap_nat i (by omega), ← hc, hq]
    rcases hI with ⟨g1, g2⟩ | ⟨g1, g2, g3, g4, g5⟩
    · rw [if_pos (by omega)]
      exact ih (i + 1) k (i + 1) (costAt L (i + 1)) (by omega) (.inr ⟨by omega, Nat.le_refl _, rfl, fun c hc hc' => by omega, fun c hc hc' => by rw [show c = i + 1 from by omega]; exact Int.le_refl _⟩)
    · rw [if_neg (by omega)]
      by_cases e : costAt L (i + 1) < least
      · rw [if_pos e]
        refine ih (i + 1) k (i + 1) (costAt L (i + 1)) (by omega) (.inr ⟨by omega, Nat.le_refl _, rfl, fun c hc hc' => ?_, fun c hc hc' => by rw [show c = i + 1 from by omega]; exact Int.le_refl _⟩)
        by_cases f : c < best
        · have := g4 c hc f; omega
        · have := g5 c (by omega) (by omega); omega
      · rw [if_neg e]
        refine ih (i + 1) k best least (by omega) (.inr ⟨g1, by omega, g3, g4, fun c hc hc' => ?_⟩)
        by_cases f : c ≤ i
        · exact g5 c hc f
        · rw [show c = i + 1 from by omega]; omega
theorem cutE (l : List S47) (b : Nat) (hb : b ≤ l.length ∨ l = []) (hl : l.length ≤ 1000000) : leaf_Entry_48.f l (b : Int) = some (l.take b, l.drop b) := by
  unfold leaf_Entry_48.f
  by_cases h : l = []
  · subst h; simp
  · have h0 : 0 < l.length := List.length_pos_iff.2 h
    have hb' : b ≤ l.length := by rcases hb with hb | hb; exact hb; exact absurd hb h
    rw [if_neg (by omega), if_pos (by omega), if_pos (by omega)]
    simp only [Int.toNat_natCast]
    unfold leaf_Entry_52.f
    rw [if_pos (by rw [List.length_take]; omega), if_pos (by rw [List.length_drop]; omega)]; rfl
theorem cutB (l : List S36) (b : Nat) (hb : b ≤ l.length ∨ l = []) (hl : l.length ≤ 1000000) : leaf_Branch_49.f l (b : Int) = some (l.take b, l.drop b) := by
  unfold leaf_Branch_49.f
  by_cases h : l = []
  · subst h; simp
  · have h0 : 0 < l.length := List.length_pos_iff.2 h
    have hb' : b ≤ l.length := by rcases hb with hb | hb; exact hb; exact absurd hb h
    rw [if_neg (by omega), if_pos (by omega), if_pos (by omega)]
    simp only [Int.toNat_natCast]
    unfold leaf_Branch_56.f
    rw [if_pos (by rw [List.length_take]; omega), if_pos (by rw [List.length_drop]; omega)]; rfl
def canSplit (a : Bool) (E : List S47) (M : List S36) : Bool := mayB a E M && decide (2 ≤ E.length + M.length)
theorem sizesN_len (E : List S47) (M : List S36) : (sizesN E M).length = E.length + M.length := by unfold sizesN; simp
theorem split_not (a : Bool) (E : List S47) (M : List S36) (h : Small E M) (hc : canSplit a E M = false) (k : Nat) (hk : 6000 ≤ k) : leaf_Split.f k a E M = some (false, [], [], false, [], [], 4) := by
  obtain ⟨k, rfl⟩ : ∃ q, k = q + 1 := ⟨k - 1, by omega⟩
  have hl := h.l_len
  have hm := h.m_len
  unfold leaf_Split.f
  rw [sizes_tells a E M h (k + 1) (by omega), may_tells' a E M h (k + 1) (by omega)]
  simp only [Option.bind_some]
  unfold canSplit at hc
  cases e : mayB a E M with
  | false => rw [if_neg (by decide)]; simp only [leaf_Split.j0, if_true]
  | true =>
    rw [e, Bool.true_and, decide_eq_false_iff_not] at hc
    rw [if_pos rfl, sizesN_len, decide_eq_true (by omega)]
    simp only [leaf_Split.j0, if_true]
theorem split_tells (a : Bool) (E : List S47) (M : List S36) (h : Small E M) (hc : canSplit a E M = true) (k : Nat) (hk : 6000 ≤ k) : ∃ b, IsBest (sizesN E M) b ∧ leaf_Split.f k a E M = some (a, E.take b, M.take b, a, E.drop b, M.drop b, 0) := by
  unfold canSplit at hc
  simp only [Bool.and_eq_true, decide_eq_true_eq] at hc
  obtain ⟨hM, h2⟩ := hc
  obtain ⟨k, rfl⟩ : ∃ q, k = q + 1 := ⟨k - 1, by omega⟩
  have hl := h.l_len
  have hm := h.m_len
  have hsl := sizesN_len E M
  have hall : ∀ x ∈ sizesN E M, 0 ≤ x ∧ x ≤ 1000000 := fun x hx => by have := sizesN_all E M h x hx; omega
  have hsum : sizeN E M = 1 + (sizesN E M).sum := rfl
  have hbd := sumTo_bd (sizesN E M) hall (by omega) 0
  obtain ⟨q, hq⟩ : ∃ q, k = (sizesN E M).length - 1 + (q + 1) := ⟨k - (sizesN E M).length, by omega⟩
  obtain ⟨b, hb, hl0⟩ := split_l0 a E M (sizesN E M) hall (by omega) ((sizesN E M).length - 1) (by omega) (by omega) ((sizesN E M).length - 1) 0 q 0 0 (by omega) (.inl ⟨rfl, rfl⟩)
  refine ⟨b, hb, ?_⟩
  have hle : (b ≤ E.length ∨ E = []) ∧ (b ≤ M.length ∨ M = []) := by
    have hbb := hb.hi
    obtain ⟨hp, _, _⟩ := may_parts hM
    cases a with
    | true => simp only [if_true] at hp; subst hp; exact ⟨.inl (by simp at hsl hbb; omega), .inr rfl⟩
    | false => simp only [Bool.false_eq_true, if_false] at hp; subst hp; exact ⟨.inr rfl, .inl (by simp at hsl hbb; omega)⟩
  unfold leaf_Split.f
  rw [sizes_tells a E M h (k + 1) (by omega), may_tells' a E M h (k + 1) (by omega), hM]
  simp only [Option.bind_some, if_true]
  rw [decide_eq_false (by omega)]
  simp only [leaf_Split.j0, Bool.false_eq_true, if_false]
  rw [size_tells a E M h k (by omega)]
  simp only [Option.bind_some]
  have w1 : wrap64 (((sizesN E M).length : Int) - 1) = (((sizesN E M).length - 1 : Nat) : Int) := by unfold wrap64; omega
  rw [w1, if_pos (by omega), if_pos (by omega), Int.toNat_natCast]
  have w2 : wrap64 (sizeN E M - 1) = (sizesN E M).sum - sumTo (sizesN E M) 0 := by
    have : sumTo (sizesN E M) 0 = 0 := by simp [sumTo]
    rw [this, hsum]; unfold wrap64; omega
  have w3 : (((sizesN E M).take ((sizesN E M).length - 1)).length : Int) = (((sizesN E M).length - 1 : Nat) : Int) := by rw [List.length_take]; omega
  rw [w2, w3, hq]
  rw [show sumTo (sizesN E M) 0 = 0 from by simp [sumTo]] at hl0 ⊢
  simp only [Int.natCast_zero] at hl0
  rw [hl0, cutE E b hle.1 (by omega), cutB M b hle.2 (by omega)]; rfl
theorem sizes_take {a : Bool} {E : List S47} {M : List S36} (h : if a then M = [] else E = []) (b : Nat) : sizesN (E.take b) (M.take b) = (sizesN E M).take b ∧ sizesN (E.drop b) (M.drop b) = (sizesN E M).drop b := by
  unfold sizesN
  cases a with
  | true => simp only [if_true] at h; subst h; simp [List.map_take, List.map_drop]
  | false => simp only [Bool.false_eq_true, if_false] at h; subst h; simp [List.map_take, List.map_drop]
theorem small_take {E : List S47} {M : List S36} (h : Small E M) (b : Nat) : Small (E.take b) (M.take b) ∧ Small (E.drop b) (M.drop b) := by
  have h1 := h.l_len
  have h2 := h.m_len
  refine ⟨⟨by rw [List.length_take]; omega, by rw [List.length_take]; omega, fun x hx => h.l_all x (List.mem_of_mem_take hx), fun x hx => h.m_all x (List.mem_of_mem_take hx)⟩, ⟨by rw [List.length_drop]; omega, by rw [List.length_drop]; omega, fun x hx => h.l_all x (List.mem_of_mem_drop hx), fun x hx => h.m_all x (List.mem_of_mem_drop hx)⟩⟩
end Go.Proofs.Ytfbaejhjppikpaa.P
namespace Go.Proofs.Ytfbaejhjppikpaa.P
open Go.RowKit Go.Proofs.YtfbaejhjppikpaaW.PrintWords Go.Proofs.YtfbaejhjppikpaaW.PrintLast Go.Proofs.YtfbaejhjppikpaaW.PrintMore
attribute [local go_sem] max2_int min2_int max_two min_two max_three min_three max_four min_four
set_option linter.unusedVariables false
set_option linter.unusedSimpArgs false
mutual
def rf_Size.l0 : Nat → Int → Int → Bool → List S75 → List S76 → Option (Int)
 | 0, _, _, _, _, _ => none
 | k + 1, x3, x4, x416000, x416001, x416002 => if x4 < (x416001.length : Int) then (if 0 ≤ x4 then (rf_Size.l0 k (wrap64 ((wrap64 ((wrap64 (x3 + 2)) + (((rd_T75 x416001 x4).f0).size : Int))) + (((rd_T75 x416001 x4).f1).size : Int))) (wrap64 (x4 + 1)) x416000 x416001 x416002) else (none)) else (rf_Size.l1 k x3 0 x416000 x416001 x416002)
def rf_Size.l1 : Nat → Int → Int → Bool → List S75 → List S76 → Option (Int)
 | 0, _, _, _, _, _ => none
 | k + 1, x3, x5, x416000, x416001, x416002 => if x5 < (x416002.length : Int) then (if 0 ≤ x5 then (rf_Size.l1 k (wrap64 ((wrap64 (x3 + 3)) + (((rd_T76 x416002 x5).f0).size : Int))) (wrap64 (x5 + 1)) x416000 x416001 x416002) else (none)) else (some x3)
end
def rf_Size.f (k : Nat) (a0_0 : Bool) (l0_1 : List S75) (l0_2 : List S76) : Option (Int) := rf_Size.l0 k 1 0 a0_0 l0_1 l0_2
set_option maxHeartbeats 8000000 in
set_option maxRecDepth 100000 in
theorem rf_Size.calls (k : Nat) (a0_0 : Bool) (A0_1 : Option Addr) (c0_1 : Nat) (l0_1 : List S75) (A0_2 : Option Addr) (c0_2 : Nat) (l0_2 : List S76) (r : Int) (w : World) (hr0_1 : Kd.C k75 w A0_1 l0_1.length l0_1) (hc0_1 : l0_1.length ≤ c0_1) (hr0_2 : Kd.C k76 w A0_2 l0_2.length l0_2) (hc0_2 : l0_2.length ≤ c0_2) (h : rf_Size.f k a0_0 l0_1 l0_2 = some r) :
  Calls Try.prog 22 #[.agg #[.bool a0_0, .slice A0_1 l0_1.length c0_1, .slice A0_2 l0_2.length c0_2]] w fun e w' => e = .returned (.int .i64 r) ∧ Below w.heap.size w w' := by
 have hu25 := Try.underlying25
 have HR0_1 := aM hr0_1
 have HC0_1 := aM hc0_1
 clear hr0_1 hc0_1
 have HR0_2 := aM hr0_2
 have HC0_2 := aM hc0_2
 clear hr0_2 hc0_2
 have HB := aM (Below.refl w.heap.size w)
 have H : (rf_Size.l0 k 1 0 a0_0 l0_1 l0_2) = some r := h
 clear h
 have H' := aM H
 clear H
 go_enter Try.func22, Try.ntmps22
 go_wp2_with (first | ((with_reducible refine gate_dst (N := 1) rfl ?_); refine box_event ?hg (N := 1) ?hd (cs := #[.bool a0_0, .slice A0_1 l0_1.length c0_1, .slice A0_2 l0_2.length c0_2]) (t := 25) ?hr ?_; (case hd => rfl); (case hg => rfl); (case hr => first | (go_simp; done) | (go_simp; rfl)); intro gb415 hg w2 hbox hb; have BK415 := aM (hbox); have GW415 := gw hg HB; have GE415 := gw hg HB; replace HB := aM (below_step (kl HB) hb); clear hb hbox hg))
 repeat (go_quiet (first | ((with_reducible refine gate_dst (N := 1) rfl ?_); refine box_event ?hg (N := 1) ?hd (cs := #[.bool a0_0, .slice A0_1 l0_1.length c0_1, .slice A0_2 l0_2.length c0_2]) (t := 25) ?hr ?_; (case hd => rfl); (case hg => rfl); (case hr => first | (go_simp; done) | (go_simp; rfl)); intro gb415 hg w2 hbox hb; have BK415 := aM (hbox); have GW415 := gw hg HB; have GE415 := gw hg HB; replace HB := aM (below_step (kl HB) hb); clear hb hbox hg)); try go_wp2_with (first | ((with_reducible refine gate_dst (N := 1) rfl ?_); refine box_event ?hg (N := 1) ?hd (cs := #[.bool a0_0, .slice A0_1 l0_1.length c0_1, .slice A0_2 l0_2.length c0_2]) (t := 25) ?hr ?_; (case hd => rfl); (case hg => rfl); (case hr => first | (go_simp; done) | (go_simp; rfl)); intro gb415 hg w2 hbox hb; have BK415 := aM (hbox); have GW415 := gw hg HB; have GE415 := gw hg HB; replace HB := aM (below_step (kl HB) hb); clear hb hbox hg)))
 go_loopg [3, 4] k (fun kq v3 v4 w' => ∃ (x3_1 : Int) (x4_1 : Int), v3 = .int .i64 x3_1 ∧ v4 = .int .i64 x4_1 ∧ Aside0 (rf_Size.l0 kq x3_1 x4_1 a0_0 l0_1 l0_2 = some r) ∧ Aside0 (kq ≤ k) ∧ Aside0 (w'.heap[gb415]? = some (.cells #[.bool a0_0, (.slice A0_1 l0_1.length c0_1), (.slice A0_2 l0_2.length c0_2)] 25 (0, 0))) ∧ Aside0 (Below w.heap.size w w'))
 case atStart => exact ⟨(1), (0), (by first | rfl | (simp; done) | (simp [*]; done)), (by first | rfl | (simp; done) | (simp [*]; done)), H', ⟨Nat.le_refl _⟩, ⟨kb BK415⟩, ⟨kl HB⟩⟩
 case round =>
  clear H'
  try clear c2
  try clear p2
  obtain ⟨x3_1, x4_1, rfl, rfl, HA, HK1, BK415, HB⟩ := hrel
  cases gk with
  | zero => exact absurd HA.out (by simp [rf_Size.l0])
  | succ k1 =>
   have H := HA.out
   clear HA
   simp only [rf_Size.l0] at H
   by_cases c3 : x4_1 < (l0_1.length : Int)
   ·rw [if_pos c3] at H
    have c3b0 : decide (x4_1 < (l0_1.length : Int)) = true := decide_eq_true c3
    clear c3
    by_cases c4 : 0 ≤ x4_1
    rotate_left
    ·rw [if_neg c4] at H
     exact absurd H (by simp)
    rw [if_pos c4] at H
    have c4b0 : decide (0 ≤ x4_1) = true := decide_eq_true c4
    clear c4
    have H' := aM H
    clear H
    have hcz5_0 : wr.cell? ⟨gb415, 0, none⟩ = some (.bool a0_0) := bc BK415 0
    have hcz5_1 : wr.cell? ⟨gb415, 1, none⟩ = some (.slice A0_1 l0_1.length c0_1) := bc BK415 1
    have hcz5_2 : wr.cell? ⟨gb415, 2, none⟩ = some (.slice A0_2 l0_2.length c0_2) := bc BK415 2
    have hfz5_0 := blk_frozen BK415.out 0
    have hfz5_1 := blk_frozen BK415.out 1
    have hfz5_2 := blk_frozen BK415.out 2
    have p416 : 0 ≤ (x4_1 : Int) := of_decide_eq_true (by first | (with_reducible assumption) | assumption)
    have q416 : x4_1 < (l0_1.length : Int) := of_decide_eq_true (by first | (with_reducible assumption) | assumption)
    obtain ⟨ad416, e416, hx416_0, hx416_1⟩ := at_T75 HR0_1.out x4_1 p416 q416
    cases e416
    replace hx416_0 := (HB.out.cell (World.block_lt_of_cell? w _ hx416_0)).trans hx416_0
    replace hx416_1 := (HB.out.cell (World.block_lt_of_cell? w _ hx416_1)).trans hx416_1
    replace p416 := eq_true p416
    replace q416 := eq_true q416
    have p417 : 0 ≤ (x4_1 : Int) := of_decide_eq_true (by first | (with_reducible assumption) | assumption)
    have q417 : x4_1 < (l0_1.length : Int) := of_decide_eq_true (by first | (with_reducible assumption) | assumption)
    obtain ⟨ad417, e417, hx417_0, hx417_1⟩ := at_T75 HR0_1.out x4_1 p417 q417
    obtain rfl : ad416 = ad417 := (by injection e417)
    replace hx417_0 := (HB.out.cell (World.block_lt_of_cell? w _ hx417_0)).trans hx417_0
    replace hx417_1 := (HB.out.cell (World.block_lt_of_cell? w _ hx417_1)).trans hx417_1
    replace p417 := eq_true p417
    replace q417 := eq_true q417
    go_wp2
    repeat (go_quiet (fail); try go_wp2)
    go_roundg k1
    case measure => have := HK1.out; omega
    case rel => exact ⟨(wrap64 ((wrap64 ((wrap64 (x3_1 + 2)) + (((rd_T75 l0_1 x4_1).f0).size : Int))) + (((rd_T75 l0_1 x4_1).f1).size : Int))), (wrap64 (x4_1 + 1)), (by first | rfl | (simp; done) | (simp [*]; done)), (by first | rfl | (simp; done) | (simp [*]; done)), H', ⟨by have := HK1.out; omega⟩, ⟨kb BK415⟩, ⟨kl HB⟩⟩
   rw [if_neg c3] at H
   have c3b0 : decide (x4_1 < (l0_1.length : Int)) = false := decide_eq_false c3
   clear c3
   have H' := aM H
   clear H
   have hcz6_0 : wr.cell? ⟨gb415, 0, none⟩ = some (.bool a0_0) := bc BK415 0
   have hcz6_1 : wr.cell? ⟨gb415, 1, none⟩ = some (.slice A0_1 l0_1.length c0_1) := bc BK415 1
   have hcz6_2 : wr.cell? ⟨gb415, 2, none⟩ = some (.slice A0_2 l0_2.length c0_2) := bc BK415 2
   have hfz6_0 := blk_frozen BK415.out 0
   have hfz6_1 := blk_frozen BK415.out 1
   have hfz6_2 := blk_frozen BK415.out 2
   go_wp2
   repeat (go_quiet (fail); try go_wp2)
   go_loopg [3, 5] k1 (fun kq v3 v5 w' => ∃ (x3_2 : Int) (x5_2 : Int), v3 = .int .i64 x3_2 ∧ v5 = .int .i64 x5_2 ∧ Aside0 (rf_Size.l1 kq x3_2 x5_2 a0_0 l0_1 l0_2 = some r) ∧ Aside0 (kq ≤ k1) ∧ Aside0 (w'.heap[gb415]? = some (.cells #[.bool a0_0, (.slice A0_1 l0_1.length c0_1), (.slice A0_2 l0_2.length c0_2)] 25 (0, 0))) ∧ Aside0 (Below w.heap.size w w'))
   case atStart => exact ⟨(x3_1), (0), (by first | rfl | (simp; done) | (simp [*]; done)), (by first | rfl | (simp; done) | (simp [*]; done)), H', ⟨Nat.le_refl _⟩, ⟨kb BK415⟩, ⟨kl HB⟩⟩
   case round =>
    clear H'
    try clear c2
    try clear p2
    try clear c3
    try clear c3b0
    try clear c4
    try clear c4b0
    try clear p4
    try clear q4
    try clear hx4
    try clear p6
    try clear hcz5_0
    try clear hcz5_1
    try clear hcz5_2
    try clear hcz6_0
    try clear hcz6_1
    try clear hcz6_2
    try clear hfz5_0
    try clear hfz5_1
    try clear hfz5_2
    try clear hfz6_0
    try clear hfz6_1
    try clear hfz6_2
    try clear hx416_0
    try clear hx416_1
    try clear hx417_0
    try clear hx417_1
    try clear p2
    try clear p416
    try clear p417
    try clear q416
    try clear q417
    obtain ⟨x3_2, x5_2, rfl, rfl, HA, HK2, BK415, HB⟩ := hrel
    cases gk with
    | zero => exact absurd HA.out (by simp [rf_Size.l1])
    | succ k2 =>
     have H := HA.out
     clear HA
     simp only [rf_Size.l1] at H
     by_cases c7 : x5_2 < (l0_2.length : Int)
     rotate_left
     ·rw [if_neg c7] at H
      have c7b0 : decide (x5_2 < (l0_2.length : Int)) = false := decide_eq_false c7
      clear c7
      obtain rfl := Option.some.inj H
      have hcz10_0 : wr.cell? ⟨gb415, 0, none⟩ = some (.bool a0_0) := bc BK415 0
      have hcz10_1 : wr.cell? ⟨gb415, 1, none⟩ = some (.slice A0_1 l0_1.length c0_1) := bc BK415 1
      have hcz10_2 : wr.cell? ⟨gb415, 2, none⟩ = some (.slice A0_2 l0_2.length c0_2) := bc BK415 2
      have hfz10_0 := blk_frozen BK415.out 0
      have hfz10_1 := blk_frozen BK415.out 1
      have hfz10_2 := blk_frozen BK415.out 2
      go_wp2
      repeat (go_quiet (fail); try go_wp2)
      go_ret
      exact ⟨by first | rfl | (simp [errW_none, errW_some] <;> rfl) | (simp [*, errW_none, errW_some] <;> rfl), kl HB⟩
     rw [if_pos c7] at H
     have c7b0 : decide (x5_2 < (l0_2.length : Int)) = true := decide_eq_true c7
     clear c7
     by_cases c8 : 0 ≤ x5_2
     rotate_left
     ·rw [if_neg c8] at H
      exact absurd H (by simp)
     rw [if_pos c8] at H
     have c8b0 : decide (0 ≤ x5_2) = true := decide_eq_true c8
     clear c8
     have H' := aM H
     clear H
     have hcz9_0 : wr.cell? ⟨gb415, 0, none⟩ = some (.bool a0_0) := bc BK415 0
     have hcz9_1 : wr.cell? ⟨gb415, 1, none⟩ = some (.slice A0_1 l0_1.length c0_1) := bc BK415 1
     have hcz9_2 : wr.cell? ⟨gb415, 2, none⟩ = some (.slice A0_2 l0_2.length c0_2) := bc BK415 2
     have hfz9_0 := blk_frozen BK415.out 0
     have hfz9_1 := blk_frozen BK415.out 1
     have hfz9_2 := blk_frozen BK415.out 2
     have p418 : 0 ≤ (x5_2 : Int) := of_decide_eq_true (by first | (with_reducible assumption) | assumption)
     have q418 : x5_2 < (l0_2.length : Int) := of_decide_eq_true (by first | (with_reducible assumption) | assumption)
     obtain ⟨ad418, e418, hx418_0, hx418_1⟩ := at_T76 HR0_2.out x5_2 p418 q418
     cases e418
     replace hx418_0 := (HB.out.cell (World.block_lt_of_cell? w _ hx418_0)).trans hx418_0
     replace hx418_1 := (HB.out.cell (World.block_lt_of_cell? w _ hx418_1)).trans hx418_1
     replace p418 := eq_true p418
     replace q418 := eq_true q418
     go_wp2
     repeat (go_quiet (fail); try go_wp2)
     go_roundg k2
     case measure => have := HK1.out; have := HK2.out; omega
     case rel => exact ⟨(wrap64 ((wrap64 (x3_2 + 3)) + (((rd_T76 l0_2 x5_2).f0).size : Int))), (wrap64 (x5_2 + 1)), (by first | rfl | (simp; done) | (simp [*]; done)), (by first | rfl | (simp; done) | (simp [*]; done)), H', ⟨by have := HK1.out; have := HK2.out; omega⟩, ⟨kb BK415⟩, ⟨kl HB⟩⟩
end Go.Proofs.Ytfbaejhjppikpaa.P
namespace Go.Proofs.Ytfbaejhjppikpaa.P
open Go.RowKit Go.Proofs.YtfbaejhjppikpaaW.PrintWords Go.Proofs.YtfbaejhjppikpaaW.PrintLast Go.Proofs.YtfbaejhjppikpaaW.PrintMore
attribute [local go_sem] max2_int min2_int max_two min_two max_three min_three max_four min_four
set_option linter.unusedVariables false
set_option linter.unusedSimpArgs false
def rf_Fits.f (k : Nat) (a0_0 : Bool) (l0_1 : List S75) (l0_2 : List S76) : Option (Bool) := (rf_Size.f k a0_0 l0_1 l0_2).bind fun t420 => (some (decide (t420 ≤ 254)))
set_option maxHeartbeats 8000000 in
set_option maxRecDepth 100000 in
theorem rf_Fits.calls (k : Nat) (a0_0 : Bool) (A0_1 : Option Addr) (c0_1 : Nat) (l0_1 : List S75) (A0_2 : Option Addr) (c0_2 : Nat) (l0_2 : List S76) (r : Bool) (w : World) (hr0_1 : Kd.C k75 w A0_1 l0_1.length l0_1) (hc0_1 : l0_1.length ≤ c0_1) (hr0_2 : Kd.C k76 w A0_2 l0_2.length l0_2) (hc0_2 : l0_2.length ≤ c0_2) (h : rf_Fits.f k a0_0 l0_1 l0_2 = some r) :
  Calls Try.prog 23 #[.agg #[.bool a0_0, .slice A0_1 l0_1.length c0_1, .slice A0_2 l0_2.length c0_2]] w fun e w' => e = .returned (.bool r) ∧ Below w.heap.size w w' := by
 have hu25 := Try.underlying25
 have HR0_1 := Aside0.mk hr0_1
 have HC0_1 := Aside0.mk hc0_1
 clear hr0_1 hc0_1
 have HR0_2 := Aside0.mk hr0_2
 have HC0_2 := Aside0.mk hc0_2
 clear hr0_2 hc0_2
 have HB := Aside0.mk (Below.refl w.heap.size w)
 have H : ((rf_Size.f k a0_0 l0_1 l0_2).bind fun t420 => (some (decide (t420 ≤ 254)))) = some r := h
 clear h
 replace H := Option.bind_eq_some_iff.mp H
 obtain ⟨t420, A20, H⟩ := H
 replace H : (some (decide (t420 ≤ 254))) = some r := H
 have A2 := Aside0.mk A20
 clear A20
 obtain rfl := Option.some.inj H
 go_enter Try.func23, Try.ntmps23
 go_wp2_with (first | ((with_reducible refine gate_dst (N := 1) rfl ?_); refine box_event ?hg (N := 1) ?hd (cs := #[.bool a0_0, .slice A0_1 l0_1.length c0_1, .slice A0_2 l0_2.length c0_2]) (t := 25) ?hr ?_; (case hd => rfl); (case hg => rfl); (case hr => first | (go_simp; done) | (go_simp; rfl)); intro gb419 hg w3 hbox hb; have BK419 := Aside0.mk (hbox); have GW419 := Aside0.mk ((by rw [hg]; exact (below_size (kl HB)) : w.heap.size ≤ gb419)); have GE419 := Aside0.mk ((by rw [hg]; exact (below_size (kl HB)) : w.heap.size ≤ gb419)); replace HB := Aside0.mk (below_step (kl HB) hb); clear hb hbox hg; have hcz4_0 : w3.cell? ⟨gb419, 0, none⟩ = some (.bool a0_0) := bc BK419 0; have hcz4_1 : w3.cell? ⟨gb419, 1, none⟩ = some (.slice A0_1 l0_1.length c0_1) := bc BK419 1; have hcz4_2 : w3.cell? ⟨gb419, 2, none⟩ = some (.slice A0_2 l0_2.length c0_2) := bc BK419 2; have hfz4_0 := blk_frozen BK419.out 0; have hfz4_1 := blk_frozen BK419.out 1; have hfz4_2 := blk_frozen BK419.out 2) | ((with_reducible refine gate_callee (f := 22) rfl ?_); refine goesL_ (some 4) rfl rfl Try.func22 (by kernel_rfl) rfl #[.agg #[.bool a0_0, .slice A0_1 l0_1.length c0_1, .slice A0_2 l0_2.length c0_2]] rfl (by (try simp only [List.map_toArray, List.map_cons, List.map_nil]); first | done | rfl | (simp only [List.length_drop, List.length_take]; rfl)) ?_; (with_reducible refine (rf_Size.calls k a0_0 _ _ l0_1 _ _ l0_2 t420 _ ?side1 ?side2 ?side3 ?side4 A2.out).mono ?_); (case side1 => exact kc (Kd.C_below HR0_1.out HB.out)); (case side2 => exact HC0_1.out); (case side3 => exact kc (Kd.C_below HR0_2.out HB.out)); (case side4 => exact HC0_2.out); rintro e w5 ⟨rfl, hb⟩; refine ⟨_, rfl, ?_⟩; replace BK419 := bb BK419 hb; replace HB := Aside0.mk (below_step (kl HB) hb); (try clear hb); (try clear hb2); (try clear hk); (try clear hi)))
 go_ret
 exact ⟨by first | rfl | (simp [errW_none, errW_some] <;> rfl) | (simp [*, errW_none, errW_some] <;> rfl), kl HB⟩
end Go.Proofs.Ytfbaejhjppikpaa.P
namespace Go.Proofs.Ytfbaejhjppikpaa.P
open Go.RowKit Go.Proofs.YtfbaejhjppikpaaW.PrintWords Go.Proofs.YtfbaejhjppikpaaW.PrintLast Go.Proofs.YtfbaejhjppikpaaW.PrintMore
open Go.Proofs.YtfbaejhjppikpaaB
theorem refSize_l1 (a : Bool) (l : List S75) (m : List S76) (hm : m.length ≤ 1000) (hs : ∀ x ∈ m, x.f0.size ≤ 1000) : ∀ (d i k : Nat) (acc : Int), i + d = m.length → 0 ≤ acc → acc ≤ 3000000000 + 2000 * i →
    rf_Size.l1 (d + (k + 1)) acc (i : Int) a l m = some (acc + (((m.drop i).map toB).map sizeB).sum) := by
  intro d
  induction d with
  | zero =>
    intro i k acc h h0 h1
    rw [show 0 + (k + 1) = k + 1 from by omega]
    simp only [rf_Size.l1]
    rw [if_neg (by omega), List.drop_of_length_le (by omega)]; simp
  | succ d ih =>
    intro i k acc h h0 h1
    obtain ⟨q, hq⟩ : ∃ q, q = d + (k + 1) := ⟨_, rfl⟩
    rw [show d + 1 + (k + 1) = q + 1 from by omega]
    have hi : i < m.length := by omega
    have hx := hs m[i] (List.getElem_mem hi)
    simp only [rf_Size.l1]
    rw [if_pos (by omega), if_pos (by omega), rdB6 m i hi, wrap_nat i (by omega)]
    have w1 : wrap64 (wrap64 (acc + 3) + (m[i].f0.size : Int)) = acc + (3 + m[i].f0.size) := by unfold wrap64; omega
    rw [w1, hq, ih (i + 1) k _ (by omega) (by omega) (by omega), List.drop_eq_getElem_cons hi]
    simp only [List.map_cons, List.sum_cons, toB, sizeB]; congr 1; omega
theorem refSize_l0 (a : Bool) (l : List S75) (m : List S76) (hl : l.length ≤ 1000) (hs : ∀ x ∈ l, x.f0.size ≤ 1000 ∧ x.f1.size ≤ 1000) : ∀ (d i k : Nat) (acc : Int), i + d = l.length → 0 ≤ acc → acc ≤ 1 + 3000 * i → ∃ acc', acc' = acc + (((l.drop i).map toE).map sizeE).sum ∧ 0 ≤ acc' ∧ acc' ≤ 1 + 3000 * l.length ∧
    rf_Size.l0 (d + (k + 1)) acc (i : Int) a l m = rf_Size.l1 k acc' 0 a l m := by
  intro d
  induction d with
  | zero =>
    intro i k acc h h0 h1
    refine ⟨acc, ?_, h0, by omega, ?_⟩
    · rw [List.drop_of_length_le (by omega)]; simp
    · rw [show 0 + (k + 1) = k + 1 from by omega]
      simp only [rf_Size.l0]
      rw [if_neg (by omega)]
  | succ d ih =>
    intro i k acc h h0 h1
    obtain ⟨q, hq⟩ : ∃ q, q = d + (k + 1) := ⟨_, rfl⟩
    have hi : i < l.length := by omega
    have hx := hs l[i] (List.getElem_mem hi)
    have w1 : wrap64 (wrap64 (wrap64 (acc + 2) + (l[i].f0.size : Int)) + (l[i].f1.size : Int)) = acc + (2 + l[i].f0.size + l[i].f1.size) := by unfold wrap64; omega
    obtain ⟨acc', e1, e2, e3, e4⟩ := ih (i + 1) k (acc + (2 + l[i].f0.size + l[i].f1.size)) (by omega) (by omega) (by omega)
    refine ⟨acc', ?_, e2, e3, ?_⟩
    · rw [e1, List.drop_eq_getElem_cons hi]
      simp only [List.map_cons, List.sum_cons, toE, sizeE]; omega
    · rw [show d + 1 + (k + 1) = q + 1 from by omega]
      simp only [rf_Size.l0]
      rw [if_pos (by omega), if_pos (by omega), rdE5 l i hi, wrap_nat i (by omega), w1, hq, e4]
theorem small_back {l : List S75} {m : List S76} (h : Small (l.map toE) (m.map toB)) : l.length ≤ 1000 ∧ m.length ≤ 1000 ∧ (∀ x ∈ l, x.f0.size ≤ 1000 ∧ x.f1.size ≤ 1000) ∧ (∀ x ∈ m, x.f0.size ≤ 1000) := by
  have h1 := h.l_len
  have h2 := h.m_len
  rw [List.length_map] at h1 h2
  exact ⟨h1, h2, fun x hx => h.l_all (toE x) (List.mem_map_of_mem hx), fun x hx => h.m_all (toB x) (List.mem_map_of_mem hx)⟩
theorem refSize_tells (a : Bool) (l : List S75) (m : List S76) (h : Small (l.map toE) (m.map toB)) (k : Nat) (hk : 4000 ≤ k) : rf_Size.f k a l m = some (sizeN (l.map toE) (m.map toB)) := by
  obtain ⟨h1, h2, h3, h4⟩ := small_back h
  obtain ⟨q, hq⟩ : ∃ q, k = l.length + (m.length + (q + 1) + 1) := ⟨k - (l.length + m.length + 2), by omega⟩
  unfold rf_Size.f
  obtain ⟨acc', e1, e2, e3, e4⟩ := refSize_l0 a l m h1 h3 l.length 0 (m.length + (q + 1)) 1 (by omega) (by omega) (by omega)
  rw [hq, show ((0 : Int)) = ((0 : Nat) : Int) from rfl, e4, show ((0 : Int)) = ((0 : Nat) : Int) from rfl, refSize_l1 a l m h2 h4 m.length 0 q acc' (by omega) e2 (by omega), e1]
  simp only [List.drop_zero]
  unfold sizeN sizesN
  rw [List.sum_append]
  congr 1; omega
theorem refFits_tells (a : Bool) (l : List S75) (m : List S76) (h : Small (l.map toE) (m.map toB)) (k : Nat) (hk : 4000 ≤ k) : rf_Fits.f k a l m = some (decide (sizeN (l.map toE) (m.map toB) ≤ 254)) := by
  unfold rf_Fits.f
  rw [refSize_tells a l m h k hk]; rfl
end Go.Proofs.Ytfbaejhjppikpaa.P
namespace Go.Proofs.Ytfbaejhjppikpaa.P
open Go.RowKit Go.Proofs.YtfbaejhjppikpaaW.PrintWords Go.Proofs.YtfbaejhjppikpaaW.PrintLast Go.Proofs.YtfbaejhjppikpaaW.PrintMore
set_option linter.unusedVariables false
set_option linter.unusedSimpArgs false
set_option maxHeartbeats 2000000 in
set_option maxRecDepth 100000 in
theorem take_no (S k : Nat) (s : ByteArray) (w : World) (hS : w.heap[S]? = some (.cells #[.string s] 9 (0, 0))) (hk : k ≤ 255) (hs : s.size ≤ 1000000) (h : ¬ k ≤ s.size) :
    Calls Try.prog 43 #[.int .i64 k, .pointer (some ⟨S, 0, none⟩)] w fun e w' => e = .returned (.tuple #[.string ⟨#[]⟩, .bool false]) ∧ w = w' := by
  have hc : w.cell? ⟨S, 0, none⟩ = some (.string s) := blk_cell hS 0
  have hd : decide ((s.size : Int) < (k : Int)) = true := decide_eq_true (by omega)
  clear hS
  go_enter Try.func43, Try.ntmps43
  go_wp2
  go_ret2
  exact ⟨rfl, rfl⟩
set_option maxHeartbeats 2000000 in
set_option maxRecDepth 100000 in
theorem take_yes (S k : Nat) (s : ByteArray) (w : World) (hS : w.heap[S]? = some (.cells #[.string s] 9 (0, 0))) (hk : k ≤ 255) (hs : s.size ≤ 1000000) (h : k ≤ s.size) :
    Calls Try.prog 43 #[.int .i64 k, .pointer (some ⟨S, 0, none⟩)] w fun e w' => e = .returned (.tuple #[.string (s.extract 0 k), .bool true]) ∧ w'.heap[S]? = some (.cells #[.string (s.extract k s.size)] 9 (0, 0)) ∧ w.grownBy w' (some S) := by
  have hc : w.cell? ⟨S, 0, none⟩ = some (.string s) := blk_cell hS 0
  have hf : w.frozen? ⟨S, 0, none⟩ = false := blk_frozen hS 0
  have hd : decide ((s.size : Int) < (k : Int)) = false := decide_eq_false (by omega)
  have HS := Aside0.mk hS
  have h0 : (0 : Int) ≤ (k : Int) := by omega
  have h1 : (k : Int) ≤ (s.size : Int) := by omega
  clear hS
  go_enter Try.func43, Try.ntmps43
  go_wp2
  go_region
  go_wp2
  go_ret2
  exact ⟨rfl, blk_drew (blk_put HS.out 0 _ rfl), rfl, rfl, rfl, by simp [World.setCell, World.drew], fun j hj hne => Below.heap_setCell w ⟨S, 0, none⟩ _ j (fun e => hne (by rw [e]))⟩
def lenOf (s : ByteArray) : Nat := (bt s 0).toNat
theorem lenOf_le (s : ByteArray) : lenOf s ≤ 255 := by unfold lenOf; have := bt_range s 0; omega
theorem len_at (s : ByteArray) (hs : 0 < s.size) : ∃ (kk : ByteArray) (n : Nat), s.extract 0 1 = kk ∧ lenOf s = n ∧ 0 < kk.size ∧ ∀ h : 0 < kk.size, ((kk[0]'h).toNat : Int) = (n : Int) := by
  refine ⟨_, _, rfl, rfl, by rw [ByteArray.size_extract]; omega, fun h => ?_⟩
  have h1 := bt_at s 0 hs
  unfold lenOf
  rw [← h1]
  have : (s.extract 0 1)[0]'h = s[0]'hs := by simp [ByteArray.getElem_extract]
  rw [this]; simp
set_option maxHeartbeats 2000000 in
set_option maxRecDepth 100000 in
theorem text_none (S T : Nat) (s : ByteArray) (w : World) (hS : w.heap[S]? = some (.cells #[.string s] 9 (0, 0))) (hT : w.heap[T]? = some (.cells #[.func (.func 43) #[] #[.pointer (some ⟨S, 0, none⟩)]] 85 (0, 0))) (hs : s.size = 0) :
    Calls Try.prog 44 #[.pointer (some ⟨T, 0, none⟩)] w fun e w' => e = .returned (.tuple #[.string ⟨#[]⟩, .bool false]) ∧ w = w' := by
  have hc : w.cell? ⟨T, 0, none⟩ = some (.func (.func 43) #[] #[.pointer (some ⟨S, 0, none⟩)]) := blk_cell hT 0
  have HS := Aside0.mk hS
  have HZ := Aside0.mk hs
  clear hS hT hs
  go_enter Try.func44, Try.ntmps44
  go_wp2_with (go_at_call 43; go_must (refine (take_no S 1 s _ HS.out (by omega) (by have := HZ.out; omega) (by have := HZ.out; omega)).mono ?_; rintro e w1 ⟨rfl, rfl⟩))
  go_ret2
  exact ⟨rfl, rfl⟩
set_option maxHeartbeats 2000000 in
set_option maxRecDepth 100000 in
theorem text_short (S T : Nat) (s : ByteArray) (w : World) (hS : w.heap[S]? = some (.cells #[.string s] 9 (0, 0))) (hT : w.heap[T]? = some (.cells #[.func (.func 43) #[] #[.pointer (some ⟨S, 0, none⟩)]] 85 (0, 0))) (hs : 0 < s.size) (hm : s.size ≤ 1000000) (hk : ¬ lenOf s ≤ s.size - 1) :
    Calls Try.prog 44 #[.pointer (some ⟨T, 0, none⟩)] w fun e w' => e = .returned (.tuple #[.string ⟨#[]⟩, .bool false]) ∧ w'.heap[S]? = some (.cells #[.string (s.extract 1 s.size)] 9 (0, 0)) ∧ w.grownBy w' (some S) := by
  have hc : w.cell? ⟨T, 0, none⟩ = some (.func (.func 43) #[] #[.pointer (some ⟨S, 0, none⟩)]) := blk_cell hT 0
  have HS := Aside0.mk hS
  have HT := Aside0.mk hT
  clear hS hT
  have hST : S ≠ T := by
    rintro rfl
    have := HS.out.symm.trans HT.out
    simp at this
  go_enter Try.func44, Try.ntmps44
  go_wp2_with (go_at_call 43; go_must (refine (take_yes S 1 s _ HS.out (by omega) hm (by omega)).mono ?_; rintro e w1 ⟨rfl, hb, hg⟩; have HS1 := Aside0.mk hb; have HG := Aside0.mk hg; have hc1 : w1.cell? ⟨T, 0, none⟩ = some (.func (.func 43) #[] #[.pointer (some ⟨S, 0, none⟩)]) := blk_cell ((hg.block T (blk_lt HT.out) (fun e => hST (by injection e with e; exact e.symm))).trans HT.out) 0; clear hb hg))
  obtain ⟨kk, n, hkk, hn, hkk1, hbt⟩ := len_at s hs
  have hn2 : n ≤ 255 := by have := lenOf_le s; omega
  have hn3 : ¬ n ≤ (s.extract 1 s.size).size := by rw [← hn, ByteArray.size_extract]; omega
  rw [hkk]
  clear hkk hn hk
  have hw : IntKind.i64.wrap (n : Int) = (n : Int) := IntWalk.i64_in _ (by omega)
  go_quiet ((go_at_call 43; refine Calls.quiet_of_same ((take_no S n (s.extract 1 s.size) (w1.drewN _) (blk_drewN HS1.out _) hn2 (by rw [ByteArray.size_extract]; omega) hn3).mono (fun _ _ h => ⟨h.1, h.2.symm⟩))))
  go_wp2
  go_ret2
  exact ⟨rfl, blk_drewN HS1.out _, HG.out.os, HG.out.tape, HG.out.output, HG.out.size, HG.out.block⟩
theorem take_one (S : Nat) (s kk t : ByteArray) (w : World) (hS : w.heap[S]? = some (.cells #[.string s] 9 (0, 0))) (hs : s.size ≤ 1000000) (h : 0 < s.size) (hkk : s.extract 0 1 = kk) (ht : s.extract 1 s.size = t) :
    Calls Try.prog 43 #[.int .i64 1, .pointer (some ⟨S, 0, none⟩)] w fun e w' => e = .returned (.tuple #[.string kk, .bool true]) ∧ w'.heap[S]? = some (.cells #[.string t] 9 (0, 0)) ∧ w.grownBy w' (some S) := by
  subst hkk
  subst ht
  exact take_yes S 1 s w hS (by omega) hs h
theorem grown_then {w w1 w2 : World} {row : Option Nat} (h : w.grownBy w1 row) (h' : w1.grownBy w2 row) : w.grownBy w2 row :=
  ⟨h'.os.trans h.os, h'.tape.trans h.tape, h'.output.trans h.output, Nat.le_trans h.size h'.size, fun k hk hr => (h'.block k (Nat.lt_of_lt_of_le hk h.size) hr).trans (h.block k hk hr)⟩
set_option maxHeartbeats 2000000 in
set_option maxRecDepth 100000 in
theorem text_yes0 (S T n : Nat) (s kk t : ByteArray) (w : World) (hS : w.heap[S]? = some (.cells #[.string s] 9 (0, 0))) (hT : w.heap[T]? = some (.cells #[.func (.func 43) #[] #[.pointer (some ⟨S, 0, none⟩)]] 85 (0, 0))) (hs : 0 < s.size) (hm : s.size ≤ 1000000) (HKK : Aside0 (s.extract 0 1 = kk)) (HTT : Aside0 (s.extract 1 s.size = t)) (hkk1 : 0 < kk.size) (hbt : ∀ h : 0 < kk.size, ((kk[0]'h).toNat : Int) = (n : Int)) (hn2 : n ≤ 255) (hn3 : n ≤ t.size) (hn4 : t.size ≤ 1000000) :
    Calls Try.prog 44 #[.pointer (some ⟨T, 0, none⟩)] w fun e w' => e = .returned (.tuple #[.string (t.extract 0 n), .bool true]) ∧ w'.heap[S]? = some (.cells #[.string (t.extract n t.size)] 9 (0, 0)) ∧ w.grownBy w' (some S) := by
  have hc : w.cell? ⟨T, 0, none⟩ = some (.func (.func 43) #[] #[.pointer (some ⟨S, 0, none⟩)]) := blk_cell hT 0
  have HS := Aside0.mk hS
  have HT := Aside0.mk hT
  clear hS hT
  have hST : S ≠ T := by
    rintro rfl
    have := HS.out.symm.trans HT.out
    simp at this
  go_enter Try.func44, Try.ntmps44
  go_wp2_with (go_at_call 43; go_must (refine (take_one S s kk t _ HS.out hm hs HKK.out HTT.out).mono ?_; rintro e w1 ⟨rfl, hb, hg⟩; have HS1 := Aside0.mk hb; have HG := Aside0.mk hg; have hc1 : w1.cell? ⟨T, 0, none⟩ = some (.func (.func 43) #[] #[.pointer (some ⟨S, 0, none⟩)]) := blk_cell ((hg.block T (blk_lt HT.out) (fun e => hST (by injection e with e; exact e.symm))).trans HT.out) 0; clear hb hg))
  have hw : IntKind.i64.wrap (n : Int) = (n : Int) := IntWalk.i64_in _ (by omega)
  go_region_with ((go_at_call 43; go_must (refine (take_yes S n t _ (blk_drew HS1.out) hn2 hn4 hn3).mono ?_; rintro e w2 ⟨rfl, hb2, hg2⟩; have HS2 := Aside0.mk hb2; have HG2 := Aside0.mk hg2; clear hb2 hg2)))
  all_goals
    go_wp2
    go_ret2
    exact ⟨rfl, HS2.out, grown_then HG.out ⟨HG2.out.os, HG2.out.tape, HG2.out.output, HG2.out.size, HG2.out.block⟩⟩
theorem text_yes (S T : Nat) (s : ByteArray) (w : World) (hS : w.heap[S]? = some (.cells #[.string s] 9 (0, 0))) (hT : w.heap[T]? = some (.cells #[.func (.func 43) #[] #[.pointer (some ⟨S, 0, none⟩)]] 85 (0, 0))) (hs : 0 < s.size) (hm : s.size ≤ 1000000) (hk : lenOf s ≤ s.size - 1) :
    Calls Try.prog 44 #[.pointer (some ⟨T, 0, none⟩)] w fun e w' => e = .returned (.tuple #[.string ((s.extract 1 s.size).extract 0 (lenOf s)), .bool true]) ∧ w'.heap[S]? = some (.cells #[.string ((s.extract 1 s.size).extract (lenOf s) (s.extract 1 s.size).size)] 9 (0, 0)) ∧ w.grownBy w' (some S) := by
  obtain ⟨kk, n, hkk, hn, hkk1, hbt⟩ := len_at s hs
  have hn2 : n ≤ 255 := by have := lenOf_le s; omega
  have hn3 : n ≤ (s.extract 1 s.size).size := by rw [← hn, ByteArray.size_extract]; omega
  have hn4 : (s.extract 1 s.size).size ≤ 1000000 := by rw [ByteArray.size_extract]; omega
  rw [hn]
  exact text_yes0 S T n s kk _ w hS hT hs hm ⟨hkk⟩ ⟨rfl⟩ hkk1 hbt hn2 hn3 hn4
end Go.Proofs.Ytfbaejhjppikpaa.P
namespace Go.Proofs.Ytfbaejhjppikpaa.P
open Go.RowKit Go.Proofs.YtfbaejhjppikpaaW.PrintWords Go.Proofs.YtfbaejhjppikpaaW.PrintLast Go.Proofs.YtfbaejhjppikpaaW.PrintMore
set_option linter.unusedVariables false
set_option linter.unusedSimpArgs false
def headOf (s : ByteArray) : ByteArray := (s.extract 1 s.size).extract 0 (lenOf s)
def restOf (s : ByteArray) : ByteArray := (s.extract 1 s.size).extract (lenOf s) (s.extract 1 s.size).size
def hasText (s : ByteArray) : Bool := decide (0 < s.size) && decide (lenOf s ≤ s.size - 1)
def page2 (s : ByteArray) : Int := bt s 0 * 256 + bt s 1
def decL : Nat → Bool → ByteArray → List S47 → List S36 → Option (List S47 × List S36)
  | 0, _, _, _, _ => none
  | d + 1, a, s, E, B => if s.size = 0 then some (E, B) else
    if hasText s then
      (if a then (if hasText (restOf s) then decL d a (restOf (restOf s)) (E ++ [⟨headOf s, headOf (restOf s)⟩]) B else none)
       else (if 2 ≤ (restOf s).size then decL d a ((restOf s).extract 2 (restOf s).size) E (B ++ [⟨headOf s, page2 (restOf s)⟩]) else none))
    else none
theorem rest_size (s : ByteArray) (h : hasText s = true) : (restOf s).size + 1 ≤ s.size := by
  unfold hasText at h
  simp only [Bool.and_eq_true, decide_eq_true_eq] at h
  unfold restOf
  rw [ByteArray.size_extract, ByteArray.size_extract]; omega
theorem decL_end (d : Nat) (a : Bool) (s : ByteArray) (E : List S47) (B : List S36) (h : s.size = 0) (hd : s.size < d) : decL d a s E B = some (E, B) := by
  obtain ⟨d, rfl⟩ : ∃ q, d = q + 1 := ⟨d - 1, by omega⟩
  simp only [decL, if_pos h]
theorem not_empty (s : ByteArray) (h : 0 < s.size) : s.toList.isEmpty = false := by
  rw [ByteArray.toList_eq, Bool.eq_false_iff]
  intro h2
  have h3 : s.data.toList.length = 0 := by rw [List.isEmpty_iff.1 h2]; rfl
  rw [data_length] at h3
  omega
theorem is_empty (s : ByteArray) (h : s.size = 0) : s.toList.isEmpty = true := by
  rw [ByteArray.toList_eq, List.isEmpty_iff]
  exact List.eq_nil_of_length_eq_zero (by rw [data_length]; exact h)
def DecRel (a : Bool) (w : World) (R : Option (List S47 × List S36)) (kq : Nat) (wr : World) : Prop :=
  ∃ (s : ByteArray) (E : List S47) (B : List S36) (vE vB : Value), Aside0 (decL kq a s E B = R) ∧ Aside0 (s.size < kq) ∧ Aside0 (s.size ≤ 254) ∧ Aside0 (E.length + B.length + s.size ≤ 254) ∧
    Aside0 (wr.heap[w.heap.size]? = some (.cells #[.string s] 9 (0, 0))) ∧ Aside0 (wr.heap[w.heap.size + 1]? = some (.cells #[.bool false, .slice none 0 0, .slice none 0 0] 31 (0, 0))) ∧ Aside0 (wr.heap[w.heap.size + 1 + 1]? = some (.cells #[.bool a, vE, vB] 31 (0, 0))) ∧
    Aside0 (wr.heap[w.heap.size + 1 + 1 + 1]? = some (.cells #[.func (.func 43) #[] #[.pointer (some ⟨w.heap.size, 0, none⟩)]] 85 (0, 0))) ∧
    Aside0 (Kd.R k47 47 wr w.heap.size (fun _ => True) vE E) ∧ Aside0 (Kd.R k36 36 wr w.heap.size (fun _ => True) vB B) ∧ Aside0 (Below w.heap.size w wr)
theorem blks4 (w : World) (o0 o1 o2 o3 : Obj) : ((((w.alloc o0).alloc o1).alloc o2).alloc o3).heap[w.heap.size]? = some o0 ∧ ((((w.alloc o0).alloc o1).alloc o2).alloc o3).heap[w.heap.size + 1]? = some o1 ∧ ((((w.alloc o0).alloc o1).alloc o2).alloc o3).heap[w.heap.size + 1 + 1]? = some o2 ∧ ((((w.alloc o0).alloc o1).alloc o2).alloc o3).heap[w.heap.size + 1 + 1 + 1]? = some o3 := by
  have e1 : (w.alloc o0).heap.size = w.heap.size + 1 := World.size_alloc _ _
  have e2 : ((w.alloc o0).alloc o1).heap.size = w.heap.size + 1 + 1 := by rw [World.size_alloc, e1]
  have e3 : (((w.alloc o0).alloc o1).alloc o2).heap.size = w.heap.size + 1 + 1 + 1 := by rw [World.size_alloc, e2]
  refine ⟨blk_alloc (blk_alloc (blk_alloc (blk_new w o0) o1) o2) o3, ?_, ?_, ?_⟩
  · rw [← e1]; exact blk_alloc (blk_alloc (blk_new (w.alloc o0) o1) o2) o3
  · rw [← e2]; exact blk_alloc (blk_new ((w.alloc o0).alloc o1) o2) o3
  · rw [← e3]; exact blk_new (((w.alloc o0).alloc o1).alloc o2) o3
theorem grown_S {w w1 : World} {S g t : Nat} {c : Array Value} (hg : w.grownBy w1 (some S)) (hb : w.heap[g]? = some (.cells c t (0, 0))) (hne : g ≠ S) : w1.heap[g]? = some (.cells c t (0, 0)) :=
  (hg.block g (blk_lt hb) (fun e => hne (by injection e))).trans hb
theorem rowS {α : Type} {d : Kd α} {e S base : Nat} {w w1 : World} {ok : Nat → Prop} {v : Value} {xs : List α} {c : Array Value} {t : Nat} (h : d.R e w base ok v xs) (hb : w.heap[S]? = some (.cells c t (0, 0))) (ht : ∀ q, q ∈ e :: d.E → q ≠ t) (hg : w.grownBy w1 (some S)) : d.R e w1 base ok v xs :=
  Kd.R_mono (Kd.R_grown (Kd.R_types h hb ht) hg (fun k hk e => hk.2 (by injection e))) (fun _ hk => hk.1)
theorem belowS {w w1 w0 : World} {S : Nat} (h : Below w0.heap.size w0 w) (hg : w.grownBy w1 (some S)) (hS : w0.heap.size ≤ S) : Below w0.heap.size w0 w1 := h.grown hg h.size (fun k e => by injection e with e; omega)
theorem put3 {w : World} {g t : Nat} {a b c : Value} (hb : w.heap[g]? = some (.cells #[a, b, c] t (0, 0))) (x y z : Value) : (((w.setCell ⟨g, 0, none⟩ x).setCell ⟨g, 1, none⟩ y).setCell ⟨g, 2, none⟩ z).heap[g]? = some (.cells #[x, y, z] t (0, 0)) :=
  blk_put (blk_put (blk_put hb 0 x rfl) 1 y rfl) 2 z rfl
theorem put3R {α : Type} {d : Kd α} {e base : Nat} {w : World} {ok : Nat → Prop} {v : Value} {xs : List α} {g t : Nat} {a b c : Value} (h : d.R e w base ok v xs) (hb : w.heap[g]? = some (.cells #[a, b, c] t (0, 0))) (ht : ∀ q, q ∈ e :: d.E → q ≠ t) (x y z : Value) : d.R e (((w.setCell ⟨g, 0, none⟩ x).setCell ⟨g, 1, none⟩ y).setCell ⟨g, 2, none⟩ z) base ok v xs :=
  Kd.R_set (Kd.R_set (Kd.R_set h hb ht 0 x) (blk_put hb 0 x rfl) ht 1 y) (blk_put (blk_put hb 0 x rfl) 1 y rfl) ht 2 z
theorem put3B {w0 w : World} {g : Nat} (h : Below w0.heap.size w0 w) (hg : w0.heap.size ≤ g) (x y z : Value) : Below w0.heap.size w0 (((w.setCell ⟨g, 0, none⟩ x).setCell ⟨g, 1, none⟩ y).setCell ⟨g, 2, none⟩ z) :=
  below_set (below_set (below_set h hg) hg) hg
structure DecBl (w wr : World) (a : Bool) (s : ByteArray) (vE vB : Value) : Prop where
  S : wr.heap[w.heap.size]? = some (.cells #[.string s] 9 (0, 0))
  N0 : wr.heap[w.heap.size + 1]? = some (.cells #[.bool false, .slice none 0 0, .slice none 0 0] 31 (0, 0))
  N : wr.heap[w.heap.size + 1 + 1]? = some (.cells #[.bool a, vE, vB] 31 (0, 0))
  T : wr.heap[w.heap.size + 1 + 1 + 1]? = some (.cells #[.func (.func 43) #[] #[.pointer (some ⟨w.heap.size, 0, none⟩)]] 85 (0, 0))
  B : Below w.heap.size w wr
theorem DecBl.text {w wr w1 : World} {a : Bool} {s s' : ByteArray} {vE vB : Value} (h : DecBl w wr a s vE vB) (hg : wr.grownBy w1 (some w.heap.size)) (hS : w1.heap[w.heap.size]? = some (.cells #[.string s'] 9 (0, 0))) : DecBl w w1 a s' vE vB :=
  ⟨hS, grown_S hg h.N0 (by omega), grown_S hg h.N (by omega), grown_S hg h.T (by omega), belowS h.B hg (Nat.le_refl _)⟩
theorem DecBl.drew {w wr : World} {a : Bool} {s : ByteArray} {vE vB : Value} (h : DecBl w wr a s vE vB) : DecBl w wr.drew a s vE vB :=
  ⟨h.S, h.N0, h.N, h.T, h.B.drew⟩
theorem DecBl.row {α : Type} {d : Kd α} {e base : Nat} {w wr w1 : World} {a : Bool} {s : ByteArray} {vE vB v : Value} {ok : Nat → Prop} {xs : List α} (h : DecBl w wr a s vE vB) (hr : d.R e wr base ok v xs) (hg : wr.grownBy w1 v.ownBlock) (hb : Below w.heap.size w w1) (h1 : e ≠ 9) (h2 : e ≠ 31) (h3 : e ≠ 85) : DecBl w w1 a s vE vB :=
  ⟨(hg.block _ (blk_lt h.S) (Kd.R_ne hr h.S h1)).trans h.S, (hg.block _ (blk_lt h.N0) (Kd.R_ne hr h.N0 h2)).trans h.N0, (hg.block _ (blk_lt h.N) (Kd.R_ne hr h.N h2)).trans h.N, (hg.block _ (blk_lt h.T) (Kd.R_ne hr h.T h3)).trans h.T, hb⟩
theorem DecBl.putE {w wr : World} {a : Bool} {s : ByteArray} {vE vB : Value} (h : DecBl w wr a s vE vB) (v : Value) : DecBl w (wr.setCell ⟨w.heap.size + 1 + 1, 1, none⟩ v) a s v vB :=
  ⟨blk_far h.S (by simp; omega) _, blk_far h.N0 (by simp) _, blk_put h.N 1 _ rfl, blk_far h.T (by simp) _, below_set h.B (by omega)⟩
theorem DecBl.putB {w wr : World} {a : Bool} {s : ByteArray} {vE vB : Value} (h : DecBl w wr a s vE vB) (v : Value) : DecBl w (wr.setCell ⟨w.heap.size + 1 + 1, 2, none⟩ v) a s vE v :=
  ⟨blk_far h.S (by simp; omega) _, blk_far h.N0 (by simp) _, blk_put h.N 2 _ rfl, blk_far h.T (by simp) _, below_set h.B (by omega)⟩
theorem hasText_true {s : ByteArray} (h : hasText s = true) : 0 < s.size ∧ lenOf s ≤ s.size - 1 := by
  unfold hasText at h; simpa using h
theorem hasText_false {s : ByteArray} (h : hasText s = false) (h0 : 0 < s.size) : ¬ lenOf s ≤ s.size - 1 := by
  unfold hasText at h; simp at h; have := h h0; omega
theorem text_yes' (S T : Nat) (s : ByteArray) (w : World) (hS : w.heap[S]? = some (.cells #[.string s] 9 (0, 0))) (hT : w.heap[T]? = some (.cells #[.func (.func 43) #[] #[.pointer (some ⟨S, 0, none⟩)]] 85 (0, 0))) (hs : 0 < s.size) (hm : s.size ≤ 1000000) (hk : lenOf s ≤ s.size - 1) :
    Calls Try.prog 44 #[.pointer (some ⟨T, 0, none⟩)] w fun e w' => e = .returned (.tuple #[.string (headOf s), .bool true]) ∧ w'.heap[S]? = some (.cells #[.string (restOf s)] 9 (0, 0)) ∧ w.grownBy w' (some S) := text_yes S T s w hS hT hs hm hk
theorem text_fails (S T : Nat) (s : ByteArray) (w : World) (hS : w.heap[S]? = some (.cells #[.string s] 9 (0, 0))) (hT : w.heap[T]? = some (.cells #[.func (.func 43) #[] #[.pointer (some ⟨S, 0, none⟩)]] 85 (0, 0))) (hm : s.size ≤ 1000000) (hk : hasText s = false) :
    Calls Try.prog 44 #[.pointer (some ⟨T, 0, none⟩)] w fun e w' => ∃ s', e = .returned (.tuple #[.string ⟨#[]⟩, .bool false]) ∧ w'.heap[S]? = some (.cells #[.string s'] 9 (0, 0)) ∧ w.grownBy w' (some S) := by
  by_cases h : s.size = 0
  · exact (text_none S T s w hS hT h).mono (fun e w' ⟨he, hw⟩ => ⟨s, he, hw ▸ hS, hw ▸ ⟨rfl, rfl, rfl, Nat.le_refl _, fun _ _ _ => rfl⟩⟩)
  · exact (text_short S T s w hS hT (by omega) hm (hasText_false hk (by omega))).mono (fun e w' ⟨he, hs', hw⟩ => ⟨_, he, hs', hw⟩)
theorem form_of {α : Type} {d : Kd α} {e base : Nat} {w : World} {ok : Nat → Prop} {v : Value} {xs : List α} (h : d.R e w base ok v xs) : ∃ A n c, v = .slice A n c := by
  obtain ⟨A, c, e⟩ := Kd.R_slice h
  exact ⟨A, _, c, e⟩
theorem two_at (t : ByteArray) (h : 2 ≤ t.size) : ∃ (pp : ByteArray) (x y : Int), t.extract 0 2 = pp ∧ bt t 0 = x ∧ bt t 1 = y ∧ 1 < pp.size ∧ (∀ h : 0 < pp.size, ((pp[0]'h).toNat : Int) = x) ∧ (∀ h : 1 < pp.size, ((pp[1]'h).toNat : Int) = y) ∧ 0 ≤ x ∧ x ≤ 255 ∧ 0 ≤ y ∧ y ≤ 255 := by
  have h0 := bt_at t 0 (by show 0 < t.size; omega)
  have h1 := bt_at t 1 (by show 1 < t.size; omega)
  have r0 := bt_range t 0
  have r1 := bt_range t 1
  refine ⟨_, _, _, rfl, rfl, rfl, by rw [ByteArray.size_extract]; omega, fun h => ?_, fun h => ?_, r0.1, r0.2, r1.1, r1.2⟩
  · rw [← h0]
    have : (t.extract 0 2)[0]'h = t[0]'(by omega) := by simp only [ByteArray.getElem_extract]
    rw [this]; rfl
  · rw [← h1]
    have : (t.extract 0 2)[1]'h = t[1]'(by omega) := by simp only [ByteArray.getElem_extract]
    rw [this]; rfl
theorem take_two (S : Nat) (t pp : ByteArray) (w : World) (hS : w.heap[S]? = some (.cells #[.string t] 9 (0, 0))) (hs : t.size ≤ 1000000) (h : 2 ≤ t.size) (hkk : t.extract 0 2 = pp) :
    Calls Try.prog 43 #[.int .i64 2, .pointer (some ⟨S, 0, none⟩)] w fun e w' => e = .returned (.tuple #[.string pp, .bool true]) ∧ w'.heap[S]? = some (.cells #[.string (t.extract 2 t.size)] 9 (0, 0)) ∧ w.grownBy w' (some S) := by
  subst hkk
  exact take_yes S 2 t w hS (by omega) hs h
theorem or_page (x y : Int) (h0 : 0 ≤ x) (h1 : x ≤ 255) (h2 : 0 ≤ y) (h3 : y ≤ 255) : bits BinOp.or IntKind.i64 (x * 256) y = x * 256 + y :=
  bits_join .i64 62 (by decide) (fun n h h' => IntWalk.i64_in _ (by omega)) 8 (x * 256) y (by omega) (by omega) (by omega) h2 (by omega) (by omega)
def DecPost (a : Bool) (R : Option (List S47 × List S36)) (w : World) (e : Ending) (w' : World) : Prop :=
  (R = none ∧ e = .returned (.tuple #[.agg #[.bool false, .slice none 0 0, .slice none 0 0], .int .i64 8]) ∨
    ∃ E B, R = some (E, B) ∧ (mayB a E B = false ∧ e = .returned (.tuple #[.agg #[.bool false, .slice none 0 0, .slice none 0 0], .int .i64 4]) ∨
      mayB a E B = true ∧ ∃ v1 v2, e = .returned (.tuple #[.agg #[.bool a, v1, v2], .int .i64 0]) ∧ Kd.R k47 47 w' w.heap.size (fun _ => True) v1 E ∧ Kd.R k36 36 w' w.heap.size (fun _ => True) v2 B)) ∧ Below w.heap.size w w'
set_option maxHeartbeats 4000000 in
set_option maxRecDepth 100000 in
theorem decode_go_true (s : ByteArray) (w : World) (h0 : 0 < s.size) (h1 : s.size ≤ 254) (hc : ∀ h : 0 < s.size, ((s[0]'h).toNat : Int) = 1) (R : Option (List S47 × List S36)) (hR : decL 300 true (s.extract 1 s.size) [] [] = R) :
    Calls Try.prog 16 #[.string s] w fun e w' => DecPost true R w e w' := by
  have hu31 := Try.underlying31
  have hu47 := Try.underlying47
  have hu36 := Try.underlying36
  have HR := Aside0.mk hR
  clear hR
  have d1 : decide (254 < (s.size : Int)) = false := decide_eq_false (by omega)
  have d1' : decide (254 < s.size) = false := decide_eq_false (by omega)
  have d2 := not_empty s h0
  go_enter Try.func16, Try.ntmps16
  go_wp2
  go_loopg [7] 300 (fun kq v7 wr => DecRel true w R kq wr)
  case atStart =>
    have hb4 := blks4 w (.cells #[.string (s.extract 1 s.size)] 9) (.cells #[.bool false, .slice none 0 0, .slice none 0 0] 31) (.cells #[.bool true, .slice none 0 0, .slice none 0 0] 31) (.cells #[.func (.func 43) #[] #[.pointer (some ⟨w.heap.size, 0, none⟩)]] 85)
    unfold DecRel
    exact ⟨_, [], [], _, _, HR, ⟨by rw [ByteArray.size_extract]; omega⟩, ⟨by rw [ByteArray.size_extract]; omega⟩, ⟨by rw [ByteArray.size_extract]; simp; omega⟩, ⟨hb4.1⟩, ⟨hb4.2.1⟩, ⟨hb4.2.2.1⟩, ⟨hb4.2.2.2⟩, ⟨Kd.R_nil _ _ _ _ _⟩, ⟨Kd.R_nil _ _ _ _ _⟩, ⟨below_alloc (below_alloc (below_alloc (below_alloc (Below.refl _ _) _) _) _) _⟩⟩
  case round =>
    clear HR d1 d1' d2 hc h0 h1
    unfold DecRel at hrel
    obtain ⟨s, E, B, vE, vB, HD, HQ, H254, HSUM, HS, HN0, HN, HT, HE, HBr, HB⟩ := hrel
    have hcS : wr.cell? ⟨w.heap.size, 0, none⟩ = some (.string s) := blk_cell HS.out 0
    obtain ⟨hn0, hn1, hn2⟩ := box3 HN.out
    obtain ⟨hz0, hz1, hz2⟩ := box3 HN0.out
    by_cases he : s.size = 0
    · have d2 := is_empty s he
      have hR : R = some (E, B) := HD.out.symm.trans (decL_end _ _ _ _ _ he HQ.out)
      obtain ⟨AE, cE, rfl, hlE, hCE⟩ := Kd.R_reads HE.out
      obtain ⟨AB, cB, rfl, hlB, hCB⟩ := Kd.R_reads HBr.out
      have hEl : E.length ≤ 254 := by have := HSUM.out; omega
      have hBl : B.length ≤ 254 := by have := HSUM.out; omega
      have hM := may_tells true E B (by omega) (by omega) 600 (by omega)
      cases hm : mayB true E B with
      | true =>
        rw [hm] at hM
        have HM := Aside0.mk hM
        have HMM := Aside0.mk hm
        have HRR := Aside0.mk hR
        have HCE := Aside0.mk hCE
        have HCB := Aside0.mk hCB
        clear hM hm hR hCE hCB he
        go_wp2_with (go_at_call 13; go_must (refine (leaf_May.calls 600 true AE cE E AB cB B true _ HCE.out hlE HCB.out hlB HM.out).mono ?_; rintro e w2 ⟨rfl, hb2⟩; have HB2 := Aside0.mk (below_step HB.out hb2); have HN2 := Aside0.mk (blk_below HN.out hb2); have HN02 := Aside0.mk (blk_below HN0.out hb2); have HE2 := Aside0.mk (Kd.R_below HE.out hb2); have HBr2 := Aside0.mk (Kd.R_below HBr.out hb2); clear hb2; clear hn0 hn1 hn2 hz0 hz1 hz2; obtain ⟨hn0, hn1, hn2⟩ := box3 HN2.out; obtain ⟨hz0, hz1, hz2⟩ := box3 HN02.out; have hf0 := blk_frozen HN02.out 0; have hf1 := blk_frozen HN02.out 1; have hf2 := blk_frozen HN02.out 2))
        refine bodyPost_ret (results_ct rfl _ _ (w.heap.size + 1) 31 #[.bool true, .slice AE E.length cE, .slice AB B.length cB] (0, 0) _ rfl (put3 HN02.out _ _ _) Try.underlying31 rfl (by kernel_rfl)) rfl ?_
        unfold DecPost
        exact ⟨.inr ⟨E, B, HRR.out, .inr ⟨HMM.out, _, _, rfl, put3R HE2.out HN02.out (by decide) _ _ _, put3R HBr2.out HN02.out (by decide) _ _ _⟩⟩, put3B HB2.out (by omega) _ _ _⟩
      | false =>
        rw [hm] at hM
        have HM := Aside0.mk hM
        have HMM := Aside0.mk hm
        have HRR := Aside0.mk hR
        have HCE := Aside0.mk hCE
        have HCB := Aside0.mk hCB
        clear hM hm hR hCE hCB he
        go_wp2_with (go_at_call 13; go_must (refine (leaf_May.calls 600 true AE cE E AB cB B false _ HCE.out hlE HCB.out hlB HM.out).mono ?_; rintro e w2 ⟨rfl, hb2⟩; have HB2 := Aside0.mk (below_step HB.out hb2); have HN2 := Aside0.mk (blk_below HN.out hb2); have HN02 := Aside0.mk (blk_below HN0.out hb2); have HE2 := Aside0.mk (Kd.R_below HE.out hb2); have HBr2 := Aside0.mk (Kd.R_below HBr.out hb2); clear hb2; clear hn0 hn1 hn2 hz0 hz1 hz2; obtain ⟨hn0, hn1, hn2⟩ := box3 HN2.out; obtain ⟨hz0, hz1, hz2⟩ := box3 HN02.out; have hf0 := blk_frozen HN02.out 0; have hf1 := blk_frozen HN02.out 1; have hf2 := blk_frozen HN02.out 2))
        refine bodyPost_ret (results_ct rfl _ _ (w.heap.size + 1) 31 #[.bool false, .slice none 0 0, .slice none 0 0] (0, 0) _ rfl (put3 HN02.out _ _ _) Try.underlying31 rfl (by kernel_rfl)) rfl ?_
        unfold DecPost
        exact ⟨.inr ⟨E, B, HRR.out, .inl ⟨HMM.out, rfl⟩⟩, put3B HB2.out (by omega) _ _ _⟩
    · cases gk with
      | zero => exact absurd HQ.out (by omega)
      | succ k1 =>
      have hpos : 0 < s.size := by omega
      have h254 := H254.out
      have d2 := not_empty s hpos
      have HBL := Aside0.mk (show DecBl w wr true s vE vB from ⟨HS.out, HN0.out, HN.out, HT.out, HB.out⟩)
      have hD := HD.out
      simp only [decL, if_neg he] at hD
      clear HD HS HN0 HN HT HB he
      cases ht : hasText s with
      | false =>
        rw [ht, if_neg (by decide)] at hD
        have hns := hasText_false ht hpos
        have HRR := Aside0.mk hD.symm
        clear hD ht
        go_wp2_with (go_at_call 44; go_must (refine (text_short w.heap.size (w.heap.size + 1 + 1 + 1) s _ HBL.out.S HBL.out.T hpos (by omega) hns).mono ?_; rintro e w1 ⟨rfl, _, hg⟩; clear hz0 hz1 hz2 hn0 hn1 hn2 hcS; have hN01 := grown_S hg HBL.out.N0 (by omega); have hN1 := grown_S hg HBL.out.N (by omega); have HN01 := Aside0.mk hN01; obtain ⟨hz0, hz1, hz2⟩ := box3 hN01; have hf0 := blk_frozen hN01 0; have hf1 := blk_frozen hN01 1; have hf2 := blk_frozen hN01 2; obtain ⟨hn0, hn1, hn2⟩ := box3 hN1; have HB1 := Aside0.mk (belowS HBL.out.B hg (Nat.le_refl _)); clear hg hN01 hN1))
        refine bodyPost_ret (results_ct rfl _ _ (w.heap.size + 1) 31 #[.bool false, .slice none 0 0, .slice none 0 0] (0, 0) _ rfl (put3 HN01.out _ _ _) Try.underlying31 rfl (by kernel_rfl)) rfl ?_
        unfold DecPost
        exact ⟨.inl ⟨HRR.out, rfl⟩, put3B HB1.out (by omega) _ _ _⟩
      | true =>
        rw [ht, if_pos rfl] at hD
        obtain ⟨_, hle⟩ := hasText_true ht
        have hrs := rest_size s ht
        clear ht
        simp only [if_true] at hD
        have tok1 : True := trivial
        have tok2 : True := trivial
        have hr254 : (restOf s).size ≤ 1000000 := by omega
        cases ht2 : hasText (restOf s) with
        | false =>
          rw [ht2, if_neg (by decide)] at hD
          have HRR := Aside0.mk hD.symm
          have HT2 := Aside0.mk ht2
          clear hD ht2
          go_wp2_with (first | (go_at_call 44; have _t := tok1; go_must (refine (text_yes' w.heap.size (w.heap.size + 1 + 1 + 1) s _ HBL.out.S HBL.out.T hpos (by omega) hle).mono ?_; rintro e w1 ⟨rfl, hS1, hg⟩; have HBL1 := Aside0.mk (HBL.out.text hg hS1); have HE1 := Aside0.mk (rowS HE.out HBL.out.S (by decide) hg); have HBr1 := Aside0.mk (rowS HBr.out HBL.out.S (by decide) hg); clear hg hS1 tok1 hcS; clear hz0 hz1 hz2 hn0 hn1 hn2; obtain ⟨hz0, hz1, hz2⟩ := box3 HBL1.out.N0; have hf0 := blk_frozen HBL1.out.N0 0; have hf1 := blk_frozen HBL1.out.N0 1; have hf2 := blk_frozen HBL1.out.N0 2; obtain ⟨hn0, hn1, hn2⟩ := box3 HBL1.out.N; have hg0 := blk_frozen HBL1.out.N 0; have hg1 := blk_frozen HBL1.out.N 1; have hg2 := blk_frozen HBL1.out.N 2; have hcS : w1.cell? ⟨w.heap.size, 0, none⟩ = some (.string (restOf s)) := blk_cell HBL1.out.S 0)) | (go_at_call 44; have _t := tok2; go_must (refine (text_fails w.heap.size (w.heap.size + 1 + 1 + 1) (restOf s) _ HBL1.out.S HBL1.out.T hr254 HT2.out).mono ?_; rintro e w2 ⟨s', rfl, hS1, hg⟩; have HBL2 := Aside0.mk (HBL1.out.text hg hS1); have HE2 := Aside0.mk (rowS HE1.out HBL1.out.S (by decide) hg); have HBr2 := Aside0.mk (rowS HBr1.out HBL1.out.S (by decide) hg); clear hg hS1 tok2 hcS; clear hz0 hz1 hz2 hn0 hn1 hn2 hf0 hf1 hf2 hg0 hg1 hg2; obtain ⟨hz0, hz1, hz2⟩ := box3 HBL2.out.N0; have hf0 := blk_frozen HBL2.out.N0 0; have hf1 := blk_frozen HBL2.out.N0 1; have hf2 := blk_frozen HBL2.out.N0 2; obtain ⟨hn0, hn1, hn2⟩ := box3 HBL2.out.N; have hg0 := blk_frozen HBL2.out.N 0; have hg1 := blk_frozen HBL2.out.N 1; have hg2 := blk_frozen HBL2.out.N 2)) | ((with_reducible refine gate_builtin (b := .append) (xs := #[.tmp 56, .tmp 60]) rfl ?_); go_must (at_builtin; refine Kd.R_append k47 (w0 := w) w.heap.size rfl (.tmp 56) (.tmp 60) 28 47 (.agg #[(.string ⟨#[]⟩), (.string ⟨#[]⟩)]) 32 rfl Try.underlying28 info47 rfl (by decide) (by omega) vE E (⟨headOf s, (⟨#[]⟩ : ByteArray)⟩ : S47) [.string (headOf s), .string (⟨#[]⟩ : ByteArray)] (fun _ => True) (fun _ => False) rfl rfl ?aP (fun _ hk => hk.elim) ?aF ?aO ?aB ?aS ?aL ?_; (case aP => exact k47_mkM _ _ _ (⟨headOf s, (⟨#[]⟩ : ByteArray)⟩ : S47)); (case aF => exact fun _ _ => trivial); (case aO => exact HE2.out); (case aB => exact HBL2.out.B); (case aS => exact HBL2.out.B.size); (case aL => have := HSUM.out; omega); intro v3 w3 ho3 hb3 hg3 hat3; obtain ⟨A3, n3, c3, rfl⟩ := form_of ho3; have HBL3 := Aside0.mk (HBL2.out.row HE2.out hg3 hb3 (by decide) (by decide) (by decide)); have HBr3 := Aside0.mk (Kd.R_over' HBr2.out (Kd.R_typed HE2.out) (by decide) hg3); have HE3 := Aside0.mk ho3; clear ho3 hb3 hg3 hat3; clear hz0 hz1 hz2 hn0 hn1 hn2 hf0 hf1 hf2 hg0 hg1 hg2; obtain ⟨hz0, hz1, hz2⟩ := box3 HBL3.out.N0; have hf0 := blk_frozen HBL3.out.N0 0; have hf1 := blk_frozen HBL3.out.N0 1; have hf2 := blk_frozen HBL3.out.N0 2; obtain ⟨hn0, hn1, hn2⟩ := box3 HBL3.out.N; have hg0 := blk_frozen HBL3.out.N 0; have hg1 := blk_frozen HBL3.out.N 1; have hg2 := blk_frozen HBL3.out.N 2)))
          refine bodyPost_ret (results_ct rfl _ _ (w.heap.size + 1) 31 #[.bool false, .slice none 0 0, .slice none 0 0] (0, 0) _ rfl (put3 (HBL3.out.putE _).N0 _ _ _) Try.underlying31 rfl (by kernel_rfl)) rfl ?_
          unfold DecPost
          exact ⟨.inl ⟨HRR.out, rfl⟩, put3B (HBL3.out.putE _).B (by omega) _ _ _⟩
        | true =>
          rw [ht2, if_pos rfl] at hD
          obtain ⟨hpos2, hle2⟩ := hasText_true ht2
          have hrs2 := rest_size (restOf s) ht2
          have HRR := Aside0.mk hD
          clear hD ht2
          go_wp2_with (first | (go_at_call 44; have _t := tok1; go_must (refine (text_yes' w.heap.size (w.heap.size + 1 + 1 + 1) s _ HBL.out.S HBL.out.T hpos (by omega) hle).mono ?_; rintro e w1 ⟨rfl, hS1, hg⟩; have HBL1 := Aside0.mk (HBL.out.text hg hS1); have HE1 := Aside0.mk (rowS HE.out HBL.out.S (by decide) hg); have HBr1 := Aside0.mk (rowS HBr.out HBL.out.S (by decide) hg); clear hg hS1 tok1 hcS; clear hz0 hz1 hz2 hn0 hn1 hn2; obtain ⟨hz0, hz1, hz2⟩ := box3 HBL1.out.N0; have hf0 := blk_frozen HBL1.out.N0 0; have hf1 := blk_frozen HBL1.out.N0 1; have hf2 := blk_frozen HBL1.out.N0 2; obtain ⟨hn0, hn1, hn2⟩ := box3 HBL1.out.N; have hg0 := blk_frozen HBL1.out.N 0; have hg1 := blk_frozen HBL1.out.N 1; have hg2 := blk_frozen HBL1.out.N 2; have hcS : w1.cell? ⟨w.heap.size, 0, none⟩ = some (.string (restOf s)) := blk_cell HBL1.out.S 0)) | (go_at_call 44; have _t := tok2; go_must (refine (text_yes' w.heap.size (w.heap.size + 1 + 1 + 1) (restOf s) _ HBL1.out.S HBL1.out.T hpos2 hr254 hle2).mono ?_; rintro e w2 ⟨rfl, hS1, hg⟩; have HBL2 := Aside0.mk (HBL1.out.text hg hS1); have HE2 := Aside0.mk (rowS HE1.out HBL1.out.S (by decide) hg); have HBr2 := Aside0.mk (rowS HBr1.out HBL1.out.S (by decide) hg); clear hg hS1 tok2 hcS; clear hz0 hz1 hz2 hn0 hn1 hn2 hf0 hf1 hf2 hg0 hg1 hg2; obtain ⟨hz0, hz1, hz2⟩ := box3 HBL2.out.N0; have hf0 := blk_frozen HBL2.out.N0 0; have hf1 := blk_frozen HBL2.out.N0 1; have hf2 := blk_frozen HBL2.out.N0 2; obtain ⟨hn0, hn1, hn2⟩ := box3 HBL2.out.N; have hg0 := blk_frozen HBL2.out.N 0; have hg1 := blk_frozen HBL2.out.N 1; have hg2 := blk_frozen HBL2.out.N 2)) | ((with_reducible refine gate_builtin (b := .append) (xs := #[.tmp 56, .tmp 60]) rfl ?_); go_must (at_builtin; refine Kd.R_append k47 (w0 := w) w.heap.size rfl (.tmp 56) (.tmp 60) 28 47 (.agg #[(.string ⟨#[]⟩), (.string ⟨#[]⟩)]) 32 rfl Try.underlying28 info47 rfl (by decide) (by omega) vE E (⟨headOf s, (headOf (restOf s))⟩ : S47) [.string (headOf s), .string (headOf (restOf s))] (fun _ => True) (fun _ => False) rfl rfl ?aP (fun _ hk => hk.elim) ?aF ?aO ?aB ?aS ?aL ?_; (case aP => exact k47_mkM _ _ _ (⟨headOf s, (headOf (restOf s))⟩ : S47)); (case aF => exact fun _ _ => trivial); (case aO => exact HE2.out); (case aB => exact HBL2.out.B); (case aS => exact HBL2.out.B.size); (case aL => have := HSUM.out; omega); intro v3 w3 ho3 hb3 hg3 hat3; obtain ⟨A3, n3, c3, rfl⟩ := form_of ho3; have HBL3 := Aside0.mk (HBL2.out.row HE2.out hg3 hb3 (by decide) (by decide) (by decide)); have HBr3 := Aside0.mk (Kd.R_over' HBr2.out (Kd.R_typed HE2.out) (by decide) hg3); have HE3 := Aside0.mk ho3; clear ho3 hb3 hg3 hat3; clear hz0 hz1 hz2 hn0 hn1 hn2 hf0 hf1 hf2 hg0 hg1 hg2; obtain ⟨hz0, hz1, hz2⟩ := box3 HBL3.out.N0; have hf0 := blk_frozen HBL3.out.N0 0; have hf1 := blk_frozen HBL3.out.N0 1; have hf2 := blk_frozen HBL3.out.N0 2; obtain ⟨hn0, hn1, hn2⟩ := box3 HBL3.out.N; have hg0 := blk_frozen HBL3.out.N 0; have hg1 := blk_frozen HBL3.out.N 1; have hg2 := blk_frozen HBL3.out.N 2)))
          go_roundg k1
          case measure => omega
          case rel =>
            unfold DecRel
            have hq := HQ.out
            have hsum := HSUM.out
            exact ⟨restOf (restOf s), E ++ [⟨headOf s, headOf (restOf s)⟩], B, _, _, ⟨HRR.out⟩, ⟨by omega⟩, ⟨by omega⟩, ⟨by simp; omega⟩, ⟨(HBL3.out.putE _).S⟩, ⟨(HBL3.out.putE _).N0⟩, ⟨(HBL3.out.putE _).N⟩, ⟨(HBL3.out.putE _).T⟩, ⟨Kd.R_set HE3.out HBL3.out.N (by decide) 1 _⟩, ⟨Kd.R_set HBr3.out HBL3.out.N (by decide) 1 _⟩, ⟨(HBL3.out.putE _).B⟩⟩
set_option maxHeartbeats 4000000 in
set_option maxRecDepth 100000 in
theorem decode_go_false (s : ByteArray) (w : World) (h0 : 0 < s.size) (h1 : s.size ≤ 254) (hc : ∀ h : 0 < s.size, ((s[0]'h).toNat : Int) = 2) (R : Option (List S47 × List S36)) (hR : decL 300 false (s.extract 1 s.size) [] [] = R) :
    Calls Try.prog 16 #[.string s] w fun e w' => DecPost false R w e w' := by
  have hu31 := Try.underlying31
  have hu47 := Try.underlying47
  have hu36 := Try.underlying36
  have HR := Aside0.mk hR
  clear hR
  have d1 : decide (254 < (s.size : Int)) = false := decide_eq_false (by omega)
  have d1' : decide (254 < s.size) = false := decide_eq_false (by omega)
  have d2 := not_empty s h0
  go_enter Try.func16, Try.ntmps16
  go_wp2
  go_loopg [7] 300 (fun kq v7 wr => DecRel false w R kq wr)
  case atStart =>
    have hb4 := blks4 w (.cells #[.string (s.extract 1 s.size)] 9) (.cells #[.bool false, .slice none 0 0, .slice none 0 0] 31) (.cells #[.bool false, .slice none 0 0, .slice none 0 0] 31) (.cells #[.func (.func 43) #[] #[.pointer (some ⟨w.heap.size, 0, none⟩)]] 85)
    unfold DecRel
    exact ⟨_, [], [], _, _, HR, ⟨by rw [ByteArray.size_extract]; omega⟩, ⟨by rw [ByteArray.size_extract]; omega⟩, ⟨by rw [ByteArray.size_extract]; simp; omega⟩, ⟨hb4.1⟩, ⟨hb4.2.1⟩, ⟨hb4.2.2.1⟩, ⟨hb4.2.2.2⟩, ⟨Kd.R_nil _ _ _ _ _⟩, ⟨Kd.R_nil _ _ _ _ _⟩, ⟨below_alloc (below_alloc (below_alloc (below_alloc (Below.refl _ _) _) _) _) _⟩⟩
  case round =>
    clear HR d1 d1' d2 hc h0 h1
    unfold DecRel at hrel
    obtain ⟨s, E, B, vE, vB, HD, HQ, H254, HSUM, HS, HN0, HN, HT, HE, HBr, HB⟩ := hrel
    have hcS : wr.cell? ⟨w.heap.size, 0, none⟩ = some (.string s) := blk_cell HS.out 0
    obtain ⟨hn0, hn1, hn2⟩ := box3 HN.out
    obtain ⟨hz0, hz1, hz2⟩ := box3 HN0.out
    by_cases he : s.size = 0
    · have d2 := is_empty s he
      have hR : R = some (E, B) := HD.out.symm.trans (decL_end _ _ _ _ _ he HQ.out)
      obtain ⟨AE, cE, rfl, hlE, hCE⟩ := Kd.R_reads HE.out
      obtain ⟨AB, cB, rfl, hlB, hCB⟩ := Kd.R_reads HBr.out
      have hEl : E.length ≤ 254 := by have := HSUM.out; omega
      have hBl : B.length ≤ 254 := by have := HSUM.out; omega
      have hM := may_tells false E B (by omega) (by omega) 600 (by omega)
      cases hm : mayB false E B with
      | true =>
        rw [hm] at hM
        have HM := Aside0.mk hM
        have HMM := Aside0.mk hm
        have HRR := Aside0.mk hR
        have HCE := Aside0.mk hCE
        have HCB := Aside0.mk hCB
        clear hM hm hR hCE hCB he
        go_wp2_with (go_at_call 13; go_must (refine (leaf_May.calls 600 false AE cE E AB cB B true _ HCE.out hlE HCB.out hlB HM.out).mono ?_; rintro e w2 ⟨rfl, hb2⟩; have HB2 := Aside0.mk (below_step HB.out hb2); have HN2 := Aside0.mk (blk_below HN.out hb2); have HN02 := Aside0.mk (blk_below HN0.out hb2); have HE2 := Aside0.mk (Kd.R_below HE.out hb2); have HBr2 := Aside0.mk (Kd.R_below HBr.out hb2); clear hb2; clear hn0 hn1 hn2 hz0 hz1 hz2; obtain ⟨hn0, hn1, hn2⟩ := box3 HN2.out; obtain ⟨hz0, hz1, hz2⟩ := box3 HN02.out; have hf0 := blk_frozen HN02.out 0; have hf1 := blk_frozen HN02.out 1; have hf2 := blk_frozen HN02.out 2))
        refine bodyPost_ret (results_ct rfl _ _ (w.heap.size + 1) 31 #[.bool false, .slice AE E.length cE, .slice AB B.length cB] (0, 0) _ rfl (put3 HN02.out _ _ _) Try.underlying31 rfl (by kernel_rfl)) rfl ?_
        unfold DecPost
        exact ⟨.inr ⟨E, B, HRR.out, .inr ⟨HMM.out, _, _, rfl, put3R HE2.out HN02.out (by decide) _ _ _, put3R HBr2.out HN02.out (by decide) _ _ _⟩⟩, put3B HB2.out (by omega) _ _ _⟩
      | false =>
        rw [hm] at hM
        have HM := Aside0.mk hM
        have HMM := Aside0.mk hm
        have HRR := Aside0.mk hR
        have HCE := Aside0.mk hCE
        have HCB := Aside0.mk hCB
        clear hM hm hR hCE hCB he
        go_wp2_with (go_at_call 13; go_must (refine (leaf_May.calls 600 false AE cE E AB cB B false _ HCE.out hlE HCB.out hlB HM.out).mono ?_; rintro e w2 ⟨rfl, hb2⟩; have HB2 := Aside0.mk (below_step HB.out hb2); have HN2 := Aside0.mk (blk_below HN.out hb2); have HN02 := Aside0.mk (blk_below HN0.out hb2); have HE2 := Aside0.mk (Kd.R_below HE.out hb2); have HBr2 := Aside0.mk (Kd.R_below HBr.out hb2); clear hb2; clear hn0 hn1 hn2 hz0 hz1 hz2; obtain ⟨hn0, hn1, hn2⟩ := box3 HN2.out; obtain ⟨hz0, hz1, hz2⟩ := box3 HN02.out; have hf0 := blk_frozen HN02.out 0; have hf1 := blk_frozen HN02.out 1; have hf2 := blk_frozen HN02.out 2))
        refine bodyPost_ret (results_ct rfl _ _ (w.heap.size + 1) 31 #[.bool false, .slice none 0 0, .slice none 0 0] (0, 0) _ rfl (put3 HN02.out _ _ _) Try.underlying31 rfl (by kernel_rfl)) rfl ?_
        unfold DecPost
        exact ⟨.inr ⟨E, B, HRR.out, .inl ⟨HMM.out, rfl⟩⟩, put3B HB2.out (by omega) _ _ _⟩
    · cases gk with
      | zero => exact absurd HQ.out (by omega)
      | succ k1 =>
      have hpos : 0 < s.size := by omega
      have h254 := H254.out
      have d2 := not_empty s hpos
      have HBL := Aside0.mk (show DecBl w wr false s vE vB from ⟨HS.out, HN0.out, HN.out, HT.out, HB.out⟩)
      have hD := HD.out
      simp only [decL, if_neg he] at hD
      clear HD HS HN0 HN HT HB he
      cases ht : hasText s with
      | false =>
        rw [ht, if_neg (by decide)] at hD
        have hns := hasText_false ht hpos
        have HRR := Aside0.mk hD.symm
        clear hD ht
        go_wp2_with (go_at_call 44; go_must (refine (text_short w.heap.size (w.heap.size + 1 + 1 + 1) s _ HBL.out.S HBL.out.T hpos (by omega) hns).mono ?_; rintro e w1 ⟨rfl, _, hg⟩; clear hz0 hz1 hz2 hn0 hn1 hn2 hcS; have hN01 := grown_S hg HBL.out.N0 (by omega); have hN1 := grown_S hg HBL.out.N (by omega); have HN01 := Aside0.mk hN01; obtain ⟨hz0, hz1, hz2⟩ := box3 hN01; have hf0 := blk_frozen hN01 0; have hf1 := blk_frozen hN01 1; have hf2 := blk_frozen hN01 2; obtain ⟨hn0, hn1, hn2⟩ := box3 hN1; have HB1 := Aside0.mk (belowS HBL.out.B hg (Nat.le_refl _)); clear hg hN01 hN1))
        refine bodyPost_ret (results_ct rfl _ _ (w.heap.size + 1) 31 #[.bool false, .slice none 0 0, .slice none 0 0] (0, 0) _ rfl (put3 HN01.out _ _ _) Try.underlying31 rfl (by kernel_rfl)) rfl ?_
        unfold DecPost
        exact ⟨.inl ⟨HRR.out, rfl⟩, put3B HB1.out (by omega) _ _ _⟩
      | true =>
        rw [ht, if_pos rfl] at hD
        obtain ⟨_, hle⟩ := hasText_true ht
        have hrs := rest_size s ht
        clear ht
        simp only [Bool.false_eq_true, if_false] at hD
        have tok1 : True := trivial
        have tok2 : True := trivial
        have hr254 : (restOf s).size ≤ 1000000 := by omega
        by_cases h2 : 2 ≤ (restOf s).size
        · rw [if_pos h2] at hD
          obtain ⟨pp, x, y, hpp, hx, hy, hp1, hb0, hb1, hx0, hx1, hy0, hy1⟩ := two_at (restOf s) h2
          have HRR := Aside0.mk (show decL k1 false ((restOf s).extract 2 (restOf s).size) E (B ++ [⟨headOf s, x * 256 + y⟩]) = R from by rw [← hD]; unfold page2; rw [hx, hy])
          have HPP := Aside0.mk hpp
          clear hD hpp hx hy
          go_wp2_with (first | (go_at_call 44; have _t := tok1; go_must (refine (text_yes' w.heap.size (w.heap.size + 1 + 1 + 1) s _ HBL.out.S HBL.out.T hpos (by omega) hle).mono ?_; rintro e w1 ⟨rfl, hS1, hg⟩; have HBL1 := Aside0.mk (HBL.out.text hg hS1); have HE1 := Aside0.mk (rowS HE.out HBL.out.S (by decide) hg); have HBr1 := Aside0.mk (rowS HBr.out HBL.out.S (by decide) hg); clear hg hS1 tok1 hcS; clear hz0 hz1 hz2 hn0 hn1 hn2; obtain ⟨hz0, hz1, hz2⟩ := box3 HBL1.out.N0; have hf0 := blk_frozen HBL1.out.N0 0; have hf1 := blk_frozen HBL1.out.N0 1; have hf2 := blk_frozen HBL1.out.N0 2; obtain ⟨hn0, hn1, hn2⟩ := box3 HBL1.out.N; have hg0 := blk_frozen HBL1.out.N 0; have hg1 := blk_frozen HBL1.out.N 1; have hg2 := blk_frozen HBL1.out.N 2; have hcT : w1.cell? ⟨w.heap.size + 1 + 1 + 1, 0, none⟩ = some (.func (.func 43) #[] #[.pointer (some ⟨w.heap.size, 0, none⟩)]) := blk_cell HBL1.out.T 0; have hcS : w1.cell? ⟨w.heap.size, 0, none⟩ = some (.string (restOf s)) := blk_cell HBL1.out.S 0)) | (go_at_call 43; have _t := tok2; go_must (refine (take_two w.heap.size (restOf s) pp _ HBL1.out.S hr254 h2 HPP.out).mono ?_; rintro e w2 ⟨rfl, hS1, hg⟩; clear hcT; have HBL2 := Aside0.mk (HBL1.out.text hg hS1); have HE2 := Aside0.mk (rowS HE1.out HBL1.out.S (by decide) hg); have HBr2 := Aside0.mk (rowS HBr1.out HBL1.out.S (by decide) hg); clear hg hS1 tok2 hcS; clear hz0 hz1 hz2 hn0 hn1 hn2 hf0 hf1 hf2 hg0 hg1 hg2; obtain ⟨hz0, hz1, hz2⟩ := box3 HBL2.out.N0; have hf0 := blk_frozen HBL2.out.N0 0; have hf1 := blk_frozen HBL2.out.N0 1; have hf2 := blk_frozen HBL2.out.N0 2; obtain ⟨hn0, hn1, hn2⟩ := box3 HBL2.out.N; have hg0 := blk_frozen HBL2.out.N 0; have hg1 := blk_frozen HBL2.out.N 1; have hg2 := blk_frozen HBL2.out.N 2)))
          have hp0 : 0 < pp.size := by omega
          have i0 : (0 : Int) < (pp.size : Int) := by omega
          have i1 : (1 : Int) < (pp.size : Int) := by omega
          have hlt2 : w.heap.size + 1 + 1 < w2.heap.size := blk_lt HBL2.out.N
          have hwx : IntKind.i64.wrap x = x := IntWalk.i64_in _ (by omega)
          have hwy : IntKind.i64.wrap y = y := IntWalk.i64_in _ (by omega)
          have hwm : IntKind.i64.wrap (x * 256) = x * 256 := IntWalk.i64_in _ (by omega)
          have hor : bits BinOp.or IntKind.i64 (x * 256) y = x * 256 + y := or_page x y hx0 hx1 hy0 hy1
          go_region_law ((refine Kd.R_append_step k36 (w0 := w) (W := w2.drew) w.heap.size (by rfl) (.tmp 71) (.tmp 82) 29 36 (.agg #[(.string ⟨#[]⟩), (.int .i64 0)]) 24 rfl Try.underlying29 info36 rfl (by decide) (by omega) vB B (⟨headOf s, x * 256 + y⟩ : S36) [.string (headOf s), .int .i64 (x * 256 + y)] (fun _ => True) (fun _ => False) rfl rfl ?aP (fun _ hk => hk.elim) ?aF ?aO ?aB ?aS ?aL ?_; (case aP => exact k36_mkM _ _ _ (⟨headOf s, x * 256 + y⟩ : S36)); (case aF => exact fun _ _ => trivial); (case aO => exact Kd.R_drew HBr2.out); (case aB => exact HBL2.out.B.drew); (case aS => exact HBL2.out.B.size); (case aL => have := HSUM.out; omega); intro v3 w3 ho3 hb3 hg3 hat3; obtain ⟨A3, n3, c3, rfl⟩ := form_of ho3; have HBL3 := Aside0.mk (HBL2.out.drew.row (Kd.R_drew HBr2.out) hg3 hb3 (by decide) (by decide) (by decide)); have HE3 := Aside0.mk (Kd.R_over' (Kd.R_drew HE2.out) (Kd.R_typed (Kd.R_drew HBr2.out)) (by decide) hg3); have HBr3 := Aside0.mk ho3; clear ho3 hb3 hg3 hat3; clear hz0 hz1 hz2 hn0 hn1 hn2 hf0 hf1 hf2 hg0 hg1 hg2; obtain ⟨hz0, hz1, hz2⟩ := box3 HBL3.out.N0; have hf0 := blk_frozen HBL3.out.N0 0; have hf1 := blk_frozen HBL3.out.N0 1; have hf2 := blk_frozen HBL3.out.N0 2; obtain ⟨hn0, hn1, hn2⟩ := box3 HBL3.out.N; have hg0 := blk_frozen HBL3.out.N 0; have hg1 := blk_frozen HBL3.out.N 1; have hg2 := blk_frozen HBL3.out.N 2))
          all_goals
            go_wp2
            go_roundg k1
            case measure => omega
            case rel =>
              unfold DecRel
              have hq := HQ.out
              have hsum := HSUM.out
              have hes : ((restOf s).extract 2 (restOf s).size).size = (restOf s).size - 2 := by rw [ByteArray.size_extract]; omega
              exact ⟨(restOf s).extract 2 (restOf s).size, E, B ++ [⟨headOf s, x * 256 + y⟩], _, _, ⟨HRR.out⟩, ⟨by omega⟩, ⟨by omega⟩, ⟨by simp; omega⟩, ⟨(HBL3.out.putB _).S⟩, ⟨(HBL3.out.putB _).N0⟩, ⟨(HBL3.out.putB _).N⟩, ⟨(HBL3.out.putB _).T⟩, ⟨Kd.R_set HE3.out HBL3.out.N (by decide) 2 _⟩, ⟨Kd.R_set HBr3.out HBL3.out.N (by decide) 2 _⟩, ⟨(HBL3.out.putB _).B⟩⟩
        · rw [if_neg h2] at hD
          have HRR := Aside0.mk hD.symm
          clear hD
          go_wp2_with (first | (go_at_call 44; have _t := tok1; go_must (refine (text_yes' w.heap.size (w.heap.size + 1 + 1 + 1) s _ HBL.out.S HBL.out.T hpos (by omega) hle).mono ?_; rintro e w1 ⟨rfl, hS1, hg⟩; have HBL1 := Aside0.mk (HBL.out.text hg hS1); have HE1 := Aside0.mk (rowS HE.out HBL.out.S (by decide) hg); have HBr1 := Aside0.mk (rowS HBr.out HBL.out.S (by decide) hg); clear hg hS1 tok1 hcS; clear hz0 hz1 hz2 hn0 hn1 hn2; obtain ⟨hz0, hz1, hz2⟩ := box3 HBL1.out.N0; have hf0 := blk_frozen HBL1.out.N0 0; have hf1 := blk_frozen HBL1.out.N0 1; have hf2 := blk_frozen HBL1.out.N0 2; obtain ⟨hn0, hn1, hn2⟩ := box3 HBL1.out.N; have hg0 := blk_frozen HBL1.out.N 0; have hg1 := blk_frozen HBL1.out.N 1; have hg2 := blk_frozen HBL1.out.N 2; have hcT : w1.cell? ⟨w.heap.size + 1 + 1 + 1, 0, none⟩ = some (.func (.func 43) #[] #[.pointer (some ⟨w.heap.size, 0, none⟩)]) := blk_cell HBL1.out.T 0; have hcS : w1.cell? ⟨w.heap.size, 0, none⟩ = some (.string (restOf s)) := blk_cell HBL1.out.S 0)) | (go_at_call 43; have _t := tok2; go_must (refine (take_no w.heap.size 2 (restOf s) _ HBL1.out.S (by omega) hr254 h2).mono ?_; rintro e w2 ⟨rfl, rfl⟩; clear tok2)))
          refine bodyPost_ret (results_ct rfl _ _ (w.heap.size + 1) 31 #[.bool false, .slice none 0 0, .slice none 0 0] (0, 0) _ rfl (put3 HBL1.out.N0 _ _ _) Try.underlying31 rfl (by kernel_rfl)) rfl ?_
          unfold DecPost
          exact ⟨.inl ⟨HRR.out, rfl⟩, put3B HBL1.out.B (by omega) _ _ _⟩
set_option maxHeartbeats 4000000 in
set_option maxRecDepth 100000 in
theorem decode_long (s : ByteArray) (w : World) (h0 : 254 < s.size) (hm : s.size ≤ 9223372036854775807) :
    Calls Try.prog 16 #[.string s] w fun e w' => e = .returned (.tuple #[.agg #[.bool false, .slice none 0 0, .slice none 0 0], .int .i64 40]) ∧ Below w.heap.size w w' := by
  have hu31 := Try.underlying31
  have d1 : decide (254 < (s.size : Int)) = true := decide_eq_true (by omega)
  have d1' : decide (254 < s.size) = true := decide_eq_true (by omega)
  go_enter Try.func16, Try.ntmps16
  go_wp2
  refine bodyPost_ret (results_ct rfl _ _ (w.heap.size + 1) 31 #[.bool false, .slice none 0 0, .slice none 0 0] (0, 0) _ rfl (by rw [← World.size_alloc w (.cells #[.string s] 9)]; exact blk_new _ _) Try.underlying31 rfl (by kernel_rfl)) rfl ?_
  exact ⟨rfl, below_alloc (below_alloc (Below.refl _ _) _) _⟩
set_option maxHeartbeats 4000000 in
set_option maxRecDepth 100000 in
theorem decode_none (s : ByteArray) (w : World) (h0 : s.size = 0) :
    Calls Try.prog 16 #[.string s] w fun e w' => e = .returned (.tuple #[.agg #[.bool false, .slice none 0 0, .slice none 0 0], .int .i64 8]) ∧ Below w.heap.size w w' := by
  have hu31 := Try.underlying31
  have d1 : decide (254 < (s.size : Int)) = false := decide_eq_false (by omega)
  have d1' : decide (254 < s.size) = false := decide_eq_false (by omega)
  have d2 := is_empty s h0
  have HZ := Aside0.mk h0
  clear h0
  go_enter Try.func16, Try.ntmps16
  go_wp2
  refine bodyPost_ret (results_ct rfl _ _ (w.heap.size + 1) 31 #[.bool false, .slice none 0 0, .slice none 0 0] (0, 0) _ rfl (by rw [← World.size_alloc w (.cells #[.string s] 9)]; exact blk_new _ _) Try.underlying31 rfl (by kernel_rfl)) rfl ?_
  exact ⟨rfl, below_alloc (below_alloc (Below.refl _ _) _) _⟩
set_option maxHeartbeats 4000000 in
set_option maxRecDepth 100000 in
theorem decode_other (s : ByteArray) (w : World) (h0 : 0 < s.size) (h1 : s.size ≤ 254) (c : Int) (hc : ∀ h : 0 < s.size, ((s[0]'h).toNat : Int) = c) (h2 : c ≠ 1) (h3 : c ≠ 2) :
    Calls Try.prog 16 #[.string s] w fun e w' => e = .returned (.tuple #[.agg #[.bool false, .slice none 0 0, .slice none 0 0], .int .i64 4]) ∧ Below w.heap.size w w' := by
  have hu31 := Try.underlying31
  have d1 : decide (254 < (s.size : Int)) = false := decide_eq_false (by omega)
  have d1' : decide (254 < s.size) = false := decide_eq_false (by omega)
  have d2 := not_empty s h0
  have e2 : (c != 1) = true := by simpa using h2
  have e3 : (c != 2) = true := by simpa using h3
  have e4 : (c == 1) = false := by simpa using h2
  have e5 : (c == 2) = false := by simpa using h3
  go_enter Try.func16, Try.ntmps16
  go_wp2
  refine bodyPost_ret (results_ct rfl _ _ (w.heap.size + 1) 31 #[.bool false, .slice none 0 0, .slice none 0 0] (0, 0) _ rfl (by rw [← World.size_alloc w (.cells #[.string s] 9)]; exact blk_new _ _) Try.underlying31 rfl (by kernel_rfl)) rfl ?_
  exact ⟨rfl, below_alloc (below_alloc (Below.refl _ _) _) _⟩
def decodeN (s : ByteArray) : Bool × List S47 × List S36 × Int :=
  if 254 < s.size then (false, [], [], 40) else
  if s.size = 0 then (false, [], [], 8) else
  if bt s 0 ≠ 1 ∧ bt s 0 ≠ 2 then (false, [], [], 4) else
  match decL 300 (bt s 0 == 1) (s.extract 1 s.size) [] [] with
  | none => (false, [], [], 8)
  | some (E, B) => if mayB (bt s 0 == 1) E B then (bt s 0 == 1, E, B, 0) else (false, [], [], 4)
def leaf_Decode.f (a0 : ByteArray) : Option (Bool × (List S47) × (List S36) × Int) := if a0.size ≤ 9223372036854775807 then some (decodeN a0) else none
theorem decode_of (s : ByteArray) (w : World) (e : Ending) (w' : World) (a : Bool) (R : Option (List S47 × List S36)) (x : Bool × List S47 × List S36 × Int) (hx : x = match R with | none => (false, [], [], 8) | some (E, B) => if mayB a E B then (a, E, B, 0) else (false, [], [], 4))
    (h : DecPost a R w e w') : ∃ v1_ v2_ : Value, e = .returned (.tuple #[.agg #[.bool x.1, v1_, v2_], .int .i64 x.2.2.2]) ∧ Kd.R k47 47 w' w.heap.size (fun _ => True) v1_ x.2.1 ∧ Kd.R k36 36 w' w.heap.size (fun _ => True) v2_ x.2.2.1 ∧ Below w.heap.size w w' := by
  obtain ⟨h, hb⟩ := h
  subst hx
  rcases h with ⟨rfl, rfl⟩ | ⟨E, B, rfl, ⟨hm, rfl⟩ | ⟨hm, v1, v2, rfl, h1, h2⟩⟩
  · exact ⟨_, _, rfl, Kd.R_nil _ _ _ _ _, Kd.R_nil _ _ _ _ _, hb⟩
  · simp only [hm, Bool.false_eq_true, if_false]
    exact ⟨_, _, rfl, Kd.R_nil _ _ _ _ _, Kd.R_nil _ _ _ _ _, hb⟩
  · simp only [hm, if_true]
    exact ⟨v1, v2, rfl, h1, h2, hb⟩
theorem leaf_Decode.calls (a0 : ByteArray) (r1 : Bool) (r2 : List S47) (r3 : List S36) (r4 : Int) (w : World) (h : leaf_Decode.f a0 = some (r1, r2, r3, r4)) :
    Calls Try.prog 16 #[.string a0] w fun e w' => ∃ v1_ v2_ : Value, e = .returned (.tuple #[.agg #[.bool r1, v1_, v2_], .int .i64 r4]) ∧ Kd.R k47 47 w' w.heap.size (fun _ => True) v1_ r2 ∧ Kd.R k36 36 w' w.heap.size (fun _ => True) v2_ r3 ∧ Below w.heap.size w w' := by
  unfold leaf_Decode.f at h
  by_cases hm : a0.size ≤ 9223372036854775807
  · rw [if_pos hm] at h
    have h' := Option.some.inj h
    clear h
    have bad : ∀ c : Int, decodeN a0 = (false, [], [], c) → (Calls Try.prog 16 #[.string a0] w fun e w' => e = .returned (.tuple #[.agg #[.bool false, .slice none 0 0, .slice none 0 0], .int .i64 c]) ∧ Below w.heap.size w w') → Calls Try.prog 16 #[.string a0] w fun e w' => ∃ v1_ v2_ : Value, e = .returned (.tuple #[.agg #[.bool r1, v1_, v2_], .int .i64 r4]) ∧ Kd.R k47 47 w' w.heap.size (fun _ => True) v1_ r2 ∧ Kd.R k36 36 w' w.heap.size (fun _ => True) v2_ r3 ∧ Below w.heap.size w w' := by
      intro c hc hcall
      rw [hc] at h'
      simp only [Prod.mk.injEq] at h'
      obtain ⟨rfl, rfl, rfl, rfl⟩ := h'
      exact hcall.mono (fun e w' ⟨he, hb⟩ => ⟨_, _, he, Kd.R_nil _ _ _ _ _, Kd.R_nil _ _ _ _ _, hb⟩)
    by_cases h1 : 254 < a0.size
    · exact bad 40 (by unfold decodeN; rw [if_pos h1]) (decode_long a0 w h1 hm)
    by_cases h2 : a0.size = 0
    · exact bad 8 (by unfold decodeN; rw [if_neg h1, if_pos h2]) (decode_none a0 w h2)
    have hb0 := bt_at a0 0 (by show 0 < a0.size; omega)
    by_cases h3 : bt a0 0 ≠ 1 ∧ bt a0 0 ≠ 2
    · exact bad 4 (by unfold decodeN; rw [if_neg h1, if_neg h2, if_pos h3]) (decode_other a0 w (by omega) (by omega) (bt a0 0) (fun h => hb0) h3.1 h3.2)
    have hd : ∀ a, (bt a0 0 == 1) = a → ∀ R, decL 300 a (a0.extract 1 a0.size) [] [] = R → (r1, r2, r3, r4) = match R with | none => (false, [], [], 8) | some (E, B) => if mayB a E B then (a, E, B, 0) else (false, [], [], 4) := by
      intro a ha R hR
      rw [← h']
      unfold decodeN
      rw [if_neg h1, if_neg h2, if_neg h3, ha, hR]
    by_cases h4 : bt a0 0 = 1
    · exact (decode_go_true a0 w (by omega) (by omega) (fun h => hb0.trans h4) _ rfl).mono (fun e w' hp => decode_of a0 w e w' true _ (r1, r2, r3, r4) (hd true (by simpa using h4) _ rfl) hp)
    · have h5 : bt a0 0 = 2 := by
        rcases Classical.em (bt a0 0 = 2) with h | h
        · exact h
        · exact absurd ⟨h4, h⟩ h3
      exact (decode_go_false a0 w (by omega) (by omega) (fun h => hb0.trans h5) _ rfl).mono (fun e w' hp => decode_of a0 w e w' false _ (r1, r2, r3, r4) (hd false (by simpa using h4) _ rfl) hp)
  · rw [if_neg hm] at h
    cases h
end Go.Proofs.Ytfbaejhjppikpaa.P
namespace Go.Proofs.Ytfbaejhjppikpaa.P
open Go.RowKit Go.Proofs.YtfbaejhjppikpaaW.PrintWords Go.Proofs.YtfbaejhjppikpaaW.PrintLast Go.Proofs.YtfbaejhjppikpaaW.PrintMore
theorem bytesOf_range (s : ByteArray) : ∀ x ∈ bytesOf s, 0 ≤ x ∧ x ≤ 255 := by
  intro x hx
  unfold bytesOf at hx
  obtain ⟨b, _, rfl⟩ := List.mem_map.1 hx
  have := b.toNat_lt
  omega
theorem bytesOf_inj {s t : ByteArray} (h : bytesOf s = bytesOf t) : s = t := by
  unfold bytesOf at h
  have h2 : s.data.toList = t.data.toList := by
    refine (List.map_inj_right (f := fun b : UInt8 => (b.toNat : Int)) (fun a b hab => ?_)).1 h
    exact UInt8.toNat_inj.1 (Int.ofNat.inj hab)
  exact ByteArray.ext (Array.toList_inj.1 h2)
theorem bytesOf_strOf (xs : List Int) (h : ∀ x ∈ xs, 0 ≤ x ∧ x ≤ 255) : bytesOf (strOfNums xs) = xs := by
  unfold bytesOf strOfNums
  simp only [List.map_map]
  conv => rhs; rw [← List.map_id xs]
  refine List.map_congr_left (fun x hx => ?_)
  have := h x hx
  simp [Function.comp]
  omega
theorem strOf_bytesOf (s : ByteArray) : strOfNums (bytesOf s) = s := bytesOf_inj (bytesOf_strOf _ (bytesOf_range s))
theorem bytesOf_extract (s : ByteArray) (a b : Nat) : bytesOf (s.extract a b) = ((bytesOf s).take b).drop a := by
  unfold bytesOf
  rw [ByteArray.data_extract, Array.toList_extract, List.extract_eq_take_drop, List.map_take, List.map_drop, List.drop_take]
theorem bt_bytesOf (s : ByteArray) (i : Nat) : bt s (i : Int) = (bytesOf s).getD i 0 := by
  unfold bt bytesOf
  simp only [Int.toNat_natCast]
  by_cases h : i < s.size
  · rw [dif_pos h, List.getD_eq_getElem?_getD, List.getElem?_map]
    have : s.data.toList[i]? = some s[i] := by rw [Array.getElem?_toList]; exact Array.getElem?_eq_getElem h
    rw [this]; rfl
  · rw [dif_neg h, List.getD_eq_getElem?_getD, List.getElem?_eq_none (by simpa [data_length] using h)]; rfl
end Go.Proofs.Ytfbaejhjppikpaa.P
namespace Go.Proofs.Ytfbaejhjppikpaa.P
open Go.RowKit Go.Proofs.YtfbaejhjppikpaaW.PrintWords Go.Proofs.YtfbaejhjppikpaaW.PrintLast Go.Proofs.YtfbaejhjppikpaaW.PrintMore
theorem u8_wrap (n : Int) : IntKind.u8.wrap n = n % 256 := IntKind.wrap_u8 n
theorem len_bytes (s : ByteArray) : s.size = (bytesOf s).length := (bytesOf_length s).symm
theorem bytes_head (s : ByteArray) (c : Int) (r : List Int) (h : bytesOf s = c :: r) : bt s 0 = c ∧ bytesOf (s.extract 1 s.size) = r ∧ s.size = r.length + 1 := by
  have h1 := bt_bytesOf s 0
  have h2 := bytesOf_extract s 1 s.size
  have h3 := len_bytes s
  rw [h] at h1 h2 h3
  refine ⟨by simpa using h1, ?_, by simpa using h3⟩
  rw [h2, List.take_of_length_le (by simp at h3; simp; omega)]; rfl
theorem text_back (s : ByteArray) (h : hasText s = true) : bytesOf s = textL (headOf s) ++ bytesOf (restOf s) ∧ (headOf s).size ≤ 255 := by
  obtain ⟨h0, h1⟩ := hasText_true h
  obtain ⟨c, r, hcr⟩ : ∃ c r, bytesOf s = c :: r := by
    cases e : bytesOf s with
    | nil => have hh := len_bytes s; rw [e] at hh; simp only [List.length_nil] at hh; omega
    | cons c r => exact ⟨c, r, rfl⟩
  obtain ⟨h2, h3, h4⟩ := bytes_head s c r hcr
  have hc := bytesOf_range s c (by rw [hcr]; exact List.mem_cons_self ..)
  have hl : (lenOf s : Int) = c := by unfold lenOf; rw [h2]; omega
  have e1 : bytesOf (headOf s) = r.take (lenOf s) := by unfold headOf; rw [bytesOf_extract, h3, List.drop_zero]
  have e2 : bytesOf (restOf s) = r.drop (lenOf s) := by unfold restOf; rw [bytesOf_extract, h3, List.take_of_length_le (by rw [ByteArray.size_extract]; omega)]
  have e3 : (headOf s).size = lenOf s := by rw [len_bytes, e1, List.length_take]; omega
  have hle := lenOf_le s
  refine ⟨?_, by omega⟩
  unfold textL
  rw [e1, e2, e3, u8_wrap, hcr, show ((lenOf s : Int) % 256) = c from by omega, List.cons_append, List.take_append_drop]
theorem page_back (s : ByteArray) (h : 2 ≤ s.size) : bytesOf s = IntKind.u8.wrap (page2 s / 256) :: IntKind.u8.wrap (page2 s) :: bytesOf (s.extract 2 s.size) ∧ 0 ≤ page2 s ∧ page2 s < 65536 := by
  obtain ⟨c, d, r, hcr⟩ : ∃ c d r, bytesOf s = c :: d :: r := by
    have hl := len_bytes s
    match e : bytesOf s with
    | [] => rw [e] at hl; simp only [List.length_nil] at hl; omega
    | [c] => have hl := len_bytes s; rw [e] at hl; simp only [List.length_cons, List.length_nil] at hl; omega
    | c :: d :: r => exact ⟨c, d, r, rfl⟩
  have hc := bytesOf_range s c (by rw [hcr]; simp)
  have hd := bytesOf_range s d (by rw [hcr]; simp)
  have b0 := bt_bytesOf s 0
  have b1 := bt_bytesOf s 1
  have e0 : bt s 0 = c := by rw [hcr] at b0; simpa using b0
  have e1 : bt s 1 = d := by rw [hcr] at b1; simpa using b1
  have ep : page2 s = c * 256 + d := by unfold page2; rw [e0, e1]
  refine ⟨?_, by omega, by omega⟩
  rw [bytesOf_extract, len_bytes s, List.take_length, hcr, ep, u8_wrap, u8_wrap, show (c * 256 + d) / 256 % 256 = c from by omega, show (c * 256 + d) % 256 = d from by omega]; rfl
theorem back_entries : ∀ (d : Nat) (s : ByteArray) (E : List S47) (B : List S36) (E' : List S47) (B' : List S36), decL d true s E B = some (E', B') → ∃ l, E' = E ++ l ∧ B' = B ∧ bytesOf s = l.flatMap encE ∧ ∀ x ∈ l, x.f0.size ≤ 255 ∧ x.f1.size ≤ 255 := by
  intro d
  induction d with
  | zero => intro s E B E' B' h; simp [decL] at h
  | succ d ih =>
    intro s E B E' B' h
    simp only [decL] at h
    by_cases h0 : s.size = 0
    · rw [if_pos h0] at h
      simp only [Option.some.injEq, Prod.mk.injEq] at h
      obtain ⟨rfl, rfl⟩ := h
      refine ⟨[], by simp, rfl, ?_, fun x hx => by simp at hx⟩
      exact List.eq_nil_of_length_eq_zero (by rw [← len_bytes]; exact h0)
    · rw [if_neg h0] at h
      by_cases h1 : hasText s = true
      · rw [if_pos h1, if_pos trivial] at h
        by_cases h2 : hasText (restOf s) = true
        · rw [if_pos h2] at h
          obtain ⟨l, e1, e2, e3, e4⟩ := ih _ _ _ _ _ h
          obtain ⟨a1, a2⟩ := text_back s h1
          obtain ⟨b1, b2⟩ := text_back (restOf s) h2
          refine ⟨⟨headOf s, headOf (restOf s)⟩ :: l, by rw [e1, List.append_assoc]; rfl, e2, ?_, fun x hx => ?_⟩
          · rw [a1, b1, e3, List.flatMap_cons, ← List.append_assoc]; rfl
          · rcases List.mem_cons.1 hx with rfl | hx
            · exact ⟨a2, b2⟩
            · exact e4 x hx
        · rw [if_neg h2] at h; cases h
      · rw [if_neg h1] at h; cases h
theorem back_branches : ∀ (d : Nat) (s : ByteArray) (E : List S47) (B : List S36) (E' : List S47) (B' : List S36), decL d false s E B = some (E', B') → ∃ l, E' = E ∧ B' = B ++ l ∧ bytesOf s = l.flatMap encB ∧ ∀ x ∈ l, x.f0.size ≤ 255 := by
  intro d
  induction d with
  | zero => intro s E B E' B' h; simp [decL] at h
  | succ d ih =>
    intro s E B E' B' h
    simp only [decL] at h
    by_cases h0 : s.size = 0
    · rw [if_pos h0] at h
      simp only [Option.some.injEq, Prod.mk.injEq] at h
      obtain ⟨rfl, rfl⟩ := h
      refine ⟨[], rfl, by simp, ?_, fun x hx => by simp at hx⟩
      exact List.eq_nil_of_length_eq_zero (by rw [← len_bytes]; exact h0)
    · rw [if_neg h0] at h
      by_cases h1 : hasText s = true
      · rw [if_pos h1, if_neg (by decide)] at h
        by_cases h2 : 2 ≤ (restOf s).size
        · rw [if_pos h2] at h
          obtain ⟨l, e1, e2, e3, e4⟩ := ih _ _ _ _ _ h
          obtain ⟨a1, a2⟩ := text_back s h1
          obtain ⟨b1, _, _⟩ := page_back (restOf s) h2
          refine ⟨⟨headOf s, page2 (restOf s)⟩ :: l, e1, by rw [e2, List.append_assoc]; rfl, ?_, fun x hx => ?_⟩
          · rw [a1, b1, e3, List.flatMap_cons]; simp [encB]
          · rcases List.mem_cons.1 hx with rfl | hx
            · exact a2
            · exact e4 x hx
        · rw [if_neg h2] at h; cases h
      · rw [if_neg h1] at h; cases h
theorem encE_len (l : List S47) : ((l.flatMap encE).length : Int) = (l.map sizeE).sum := by
  induction l with
  | nil => rfl
  | cons x l ih => rw [List.flatMap_cons, List.length_append, List.map_cons, List.sum_cons, ← ih]; simp only [encE, List.length_append, textL_len, sizeE]; omega
theorem encB_len (l : List S36) : ((l.flatMap encB).length : Int) = (l.map sizeB).sum := by
  induction l with
  | nil => rfl
  | cons x l ih => rw [List.flatMap_cons, List.length_append, List.map_cons, List.sum_cons, ← ih]; simp only [encB, List.length_append, textL_len, sizeB, List.length_cons, List.length_nil]; omega
theorem encN_len (a : Bool) (l : List S47) (m : List S36) : ((encN a l m).length : Int) = sizeN l m := by
  unfold encN sizeN sizesN
  rw [List.length_cons, List.length_append, List.sum_append, ← encE_len, ← encB_len]; omega
theorem encode_decode (s : ByteArray) (a : Bool) (E : List S47) (B : List S36) (h : decodeN s = (a, E, B, 0)) : mayB a E B = true ∧ sizeN E B ≤ 254 ∧ Small E B ∧ strOfNums (encN a E B) = s := by
  unfold decodeN at h
  by_cases h1 : 254 < s.size
  · rw [if_pos h1] at h; simp at h
  rw [if_neg h1] at h
  by_cases h2 : s.size = 0
  · rw [if_pos h2] at h; simp at h
  rw [if_neg h2] at h
  by_cases h3 : bt s 0 ≠ 1 ∧ bt s 0 ≠ 2
  · rw [if_pos h3] at h; simp at h
  rw [if_neg h3] at h
  obtain ⟨c, r, hcr⟩ : ∃ c r, bytesOf s = c :: r := by
    cases e : bytesOf s with
    | nil => have hh := len_bytes s; rw [e] at hh; simp only [List.length_nil] at hh; omega
    | cons c r => exact ⟨c, r, rfl⟩
  obtain ⟨c1, c2, c3⟩ := bytes_head s c r hcr
  cases hd : decL 300 (bt s 0 == 1) (s.extract 1 s.size) [] [] with
  | none => rw [hd] at h; simp at h
  | some z =>
    obtain ⟨E1, B1⟩ := z
    rw [hd] at h
    simp only at h
    by_cases hm : mayB (bt s 0 == 1) E1 B1 = true
    · rw [if_pos hm] at h
      simp only [Prod.mk.injEq] at h
      obtain ⟨rfl, rfl, rfl, _⟩ := h
      obtain ⟨g1, g2, g3⟩ := may_parts hm
      have e3 := ok_sizes E1 g2
      have e4 := ok_sizesB B1 g3
      have key : encN (bt s 0 == 1) E1 B1 = bytesOf s := by
        unfold encN
        rw [hcr]
        by_cases hb : bt s 0 = 1
        · rw [show (bt s 0 == 1) = true from by simpa using hb] at hd g1 ⊢
          obtain ⟨l, q1, q2, q3, _⟩ := back_entries _ _ _ _ _ _ hd
          have hB : B1 = [] := by simpa using g1
          subst hB
          rw [q1, List.nil_append] at *
          rw [← c2, q3, ← c1, hb]; simp
        · have hb2 : bt s 0 = 2 := by
            rcases Classical.em (bt s 0 = 2) with h | h
            · exact h
            · exact absurd ⟨hb, h⟩ h3
          rw [show (bt s 0 == 1) = false from by simpa using hb] at hd g1 ⊢
          obtain ⟨l, q1, q2, q3, _⟩ := back_branches _ _ _ _ _ _ hd
          have hE : E1 = [] := by simpa using g1
          subst hE
          rw [q2, List.nil_append] at *
          rw [← c2, q3, ← c1, hb2]; simp
      have hlen := encN_len (bt s 0 == 1) E1 B1
      rw [key, ← len_bytes] at hlen
      have hl1 : ∀ l : List S47, l.length ≤ (l.flatMap encE).length := by
        intro l
        induction l with
        | nil => simp
        | cons x l ih => rw [List.flatMap_cons, List.length_append, List.length_cons]; simp only [encE, List.length_append, textL_len]; omega
      have hl2 : ∀ l : List S36, l.length ≤ (l.flatMap encB).length := by
        intro l
        induction l with
        | nil => simp
        | cons x l ih => rw [List.flatMap_cons, List.length_append, List.length_cons]; simp only [encB, List.length_append, textL_len]; omega
      have k1 := hl1 E1
      have k2 := hl2 B1
      have k3 : (encN (bt s 0 == 1) E1 B1).length = 1 + ((E1.flatMap encE).length + (B1.flatMap encB).length) := by unfold encN; rw [List.length_cons, List.length_append]; omega
      rw [key, ← len_bytes] at k3
      refine ⟨hm, by omega, ⟨by omega, by omega, fun x hx => by have := e3 x hx; omega, fun x hx => by have := e4 x hx; omega⟩, ?_⟩
      rw [key]; exact strOf_bytesOf s
    · rw [if_neg hm] at h; simp at h
theorem decode_refused (s : ByteArray) (h : (decodeN s).2.2.2 ≠ 0) : (decodeN s).1 = false ∧ (decodeN s).2.1 = [] ∧ (decodeN s).2.2.1 = [] := by
  unfold decodeN at h ⊢
  split at h
  · rename_i h1; rw [if_pos h1]; exact ⟨rfl, rfl, rfl⟩
  rename_i h1
  rw [if_neg h1]
  split at h
  · rename_i h2; rw [if_pos h2]; exact ⟨rfl, rfl, rfl⟩
  rename_i h2
  rw [if_neg h2]
  split at h
  · rename_i h3; rw [if_pos h3]; exact ⟨rfl, rfl, rfl⟩
  rename_i h3
  rw [if_neg h3]
  cases hd : decL 300 (bt s 0 == 1) (s.extract 1 s.size) [] [] with
  | none => exact ⟨rfl, rfl, rfl⟩
  | some z =>
    obtain ⟨E1, B1⟩ := z
    rw [hd] at h
    simp only at h ⊢
    by_cases hm : mayB (bt s 0 == 1) E1 B1 = true
    · rw [if_pos hm] at h; exact absurd rfl h
    · rw [if_neg hm]; exact ⟨rfl, rfl, rfl⟩
end Go.Proofs.Ytfbaejhjppikpaa.P
