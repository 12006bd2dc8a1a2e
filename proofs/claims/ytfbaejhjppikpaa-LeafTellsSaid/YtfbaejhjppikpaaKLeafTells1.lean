import Derived.Test.YtfbaejhjppikpaaKLeafTells0
import Derived.IntWalk
import Derived.Outline
namespace Go.Proofs.Ytfbaejhjppikpaa.P
open Go.RowKit Go.Proofs.YtfbaejhjppikpaaW.PrintWords Go.Proofs.YtfbaejhjppikpaaW.PrintLast Go.Proofs.YtfbaejhjppikpaaW.PrintMore
attribute [local go_sem] max2_int min2_int max_two min_two max_three min_three max_four min_four
set_option linter.unusedVariables false
set_option linter.unusedSimpArgs false
mutual
def leaf_May.j0 : Nat → Bool → Bool → List S47 → List S36 → Option (Bool)
 | 0, _, _, _, _ => none
 | k + 1, x25, x106000, x106001, x106002 => if x25 = true then (some false) else (leaf_May.l0 k x106001 (x106001.length : Int) 0 x106000 x106001 x106002)
def leaf_May.l0 : Nat → List S47 → Int → Int → Bool → List S47 → List S36 → Option (Bool)
 | 0, _, _, _, _, _, _ => none
 | k + 1, x27, x28, x29, x106000, x106001, x106002 => if x29 < x28 then (if 0 ≤ x29 then (if x29 < (x27.length : Int) then (if ((rd_T47 x27 x29).f0).toList = ([] : List UInt8) then (some false) else (if (((rd_T47 x27 x29).f0).size : Int) > 24 then (some false) else (if (((rd_T47 x27 x29).f1).size : Int) > 100 then (some false) else (if x29 > 0 then (if 0 ≤ (wrap64 (x29 - 1)) then (if (wrap64 (x29 - 1)) < (x106001.length : Int) then (if ((Op.bytesLess (((rd_T47 x106001 (wrap64 (x29 - 1))).f0).toList) (((rd_T47 x27 x29).f0).toList)) = true) then (leaf_May.l0 k x27 x28 (wrap64 (x29 + 1)) x106000 x106001 x106002) else (some false)) else (none)) else (none)) else (leaf_May.l0 k x27 x28 (wrap64 (x29 + 1)) x106000 x106001 x106002))))) else (none)) else (none)) else (leaf_May.l1 k x106002 (x106002.length : Int) 0 x106000 x106001 x106002)
def leaf_May.l1 : Nat → List S36 → Int → Int → Bool → List S47 → List S36 → Option (Bool)
 | 0, _, _, _, _, _, _ => none
 | k + 1, x67, x68, x69, x106000, x106001, x106002 => if x69 < x68 then (if 0 ≤ x69 then (if x69 < (x67.length : Int) then (if (((rd_T36 x67 x69).f0).size : Int) > 24 then (some false) else (if ((rd_T36 x67 x69).f1) < 2 then (some false) else (if ((rd_T36 x67 x69).f1) ≥ 1024 then (some false) else (if x69 > 0 then (if 0 ≤ (wrap64 (x69 - 1)) then (if (wrap64 (x69 - 1)) < (x106002.length : Int) then (if ((Op.bytesLess (((rd_T36 x106002 (wrap64 (x69 - 1))).f0).toList) (((rd_T36 x67 x69).f0).toList)) = true) then (leaf_May.l1 k x67 x68 (wrap64 (x69 + 1)) x106000 x106001 x106002) else (some false)) else (none)) else (none)) else (leaf_May.l1 k x67 x68 (wrap64 (x69 + 1)) x106000 x106001 x106002))))) else (none)) else (none)) else (some true)
end
def leaf_May.f (k : Nat) (a0_0 : Bool) (l0_1 : List S47) (l0_2 : List S36) : Option (Bool) := if a0_0 = true then (if (l0_2.length : Int) > 0 then (leaf_May.j0 k true a0_0 l0_1 l0_2) else (leaf_May.j0 k false a0_0 l0_1 l0_2)) else (leaf_May.j0 k (decide ((l0_1.length : Int) > 0)) a0_0 l0_1 l0_2)
set_option maxHeartbeats 8000000 in
set_option maxRecDepth 100000 in
theorem leaf_May.calls (k : Nat) (a0_0 : Bool) (A0_1 : Option Addr) (c0_1 : Nat) (l0_1 : List S47) (A0_2 : Option Addr) (c0_2 : Nat) (l0_2 : List S36) (r : Bool) (w : World) (hr0_1 : Kd.C k47 w A0_1 l0_1.length l0_1) (hc0_1 : l0_1.length ≤ c0_1) (hr0_2 : Kd.C k36 w A0_2 l0_2.length l0_2) (hc0_2 : l0_2.length ≤ c0_2) (h : leaf_May.f k a0_0 l0_1 l0_2 = some r) :
  Calls Try.prog 13 #[.agg #[.bool a0_0, .slice A0_1 l0_1.length c0_1, .slice A0_2 l0_2.length c0_2]] w fun e w' => e = .returned (.bool r) ∧ Below w.heap.size w w' := by
 have hu31 := Try.underlying31
 have hu47 := Try.underlying47
 have hu36 := Try.underlying36
 have HR0_1 := aM hr0_1
 have HC0_1 := aM hc0_1
 clear hr0_1 hc0_1
 have HR0_2 := aM hr0_2
 have HC0_2 := aM hc0_2
 clear hr0_2 hc0_2
 have HB := aM (Below.refl w.heap.size w)
 have H : (if a0_0 = true then (if (l0_2.length : Int) > 0 then (leaf_May.j0 k true a0_0 l0_1 l0_2) else (leaf_May.j0 k false a0_0 l0_1 l0_2)) else (leaf_May.j0 k (decide ((l0_1.length : Int) > 0)) a0_0 l0_1 l0_2)) = some r := h
 clear h
 have HC2 := aM H
 clear H
 go_enter Try.func13, Try.ntmps13
 go_upto_region 1 with (first | ((with_reducible refine gate_dst (N := 1) rfl ?_); (try (refine gate_guard (by rfl) ?_; dsimp only)); refine box_event ?hg (N := 1) ?hd (cs := #[.bool a0_0, .slice A0_1 l0_1.length c0_1, .slice A0_2 l0_2.length c0_2]) (t := 31) ?hr ?_; (case hd => rfl); (case hg => rfl); (case hr => first | (go_simp; done) | (go_simp; rfl)); intro gb105 hg w3 hbox hb; have BK105 := aM (hbox); have GW105 := gw hg HB; have GE105 := gw hg HB; replace HB := aM (below_step (kl HB) hb); clear hb hbox hg))
 repeat (go_quiet (fail); go_upto_region 1 with (first | ((with_reducible refine gate_dst (N := 1) rfl ?_); (try (refine gate_guard (by rfl) ?_; dsimp only)); refine box_event ?hg (N := 1) ?hd (cs := #[.bool a0_0, .slice A0_1 l0_1.length c0_1, .slice A0_2 l0_2.length c0_2]) (t := 31) ?hr ?_; (case hd => rfl); (case hg => rfl); (case hr => first | (go_simp; done) | (go_simp; rfl)); intro gb105 hg w3 hbox hb; have BK105 := aM (hbox); have GW105 := gw hg HB; have GE105 := gw hg HB; replace HB := aM (below_step (kl HB) hb); clear hb hbox hg)))
 (try simp only [Act.put, List.setIfInBounds_toArray, List.set_cons_zero, List.set_cons_succ])
 go_cut [25] (fun v25 wc => ∃ (kq : Nat) (x25_1 : Bool), v25 = .bool x25_1 ∧ Aside0 (leaf_May.j0 kq x25_1 a0_0 l0_1 l0_2 = some r) ∧ Aside0 (kq ≤ k) ∧ Aside0 (wc.heap[gb105]? = some (.cells #[.bool a0_0, (.slice A0_1 l0_1.length c0_1), (.slice A0_2 l0_2.length c0_2)] 31 (0, 0))) ∧ Aside0 (Below w.heap.size w wc))
 case first =>
  have H := HC2.out
  clear HC2
  by_cases c4 : a0_0 = true
  rotate_left
  ·replace c4 := Bool.eq_false_iff.mpr c4
   subst c4
   have H1 : (leaf_May.j0 k (decide ((l0_1.length : Int) > 0)) false l0_1 l0_2) = some r := by rw [if_neg (show ¬ (false = true) by decide)] at H; exact H
   clear H
   have H := H1
   clear H1
   have H' := aM H
   clear H
   have hcz8_0 : w3.cell? ⟨gb105, 0, none⟩ = some (.bool false) := bc BK105 0
   have hcz8_1 : w3.cell? ⟨gb105, 1, none⟩ = some (.slice A0_1 l0_1.length c0_1) := bc BK105 1
   have hcz8_2 : w3.cell? ⟨gb105, 2, none⟩ = some (.slice A0_2 l0_2.length c0_2) := bc BK105 2
   have hfz8_0 := blk_frozen BK105.out 0
   have hfz8_1 := blk_frozen BK105.out 1
   have hfz8_2 := blk_frozen BK105.out 2
   go_wp2
   repeat (go_quiet (fail); try go_wp2)
   go_meet
   case rel => exact ⟨_, (decide ((l0_1.length : Int) > 0)), (by first | rfl | (simp; done) | (simp [*]; done)), H', ⟨by first | omega | exact Nat.le_refl _⟩, ⟨kb BK105⟩, ⟨kl HB⟩⟩
  subst c4
  have H1 : (if (l0_2.length : Int) > 0 then (leaf_May.j0 k true true l0_1 l0_2) else (leaf_May.j0 k false true l0_1 l0_2)) = some r := by rw [if_pos rfl] at H; exact H
  clear H
  have H := H1
  clear H1
  by_cases c5 : (l0_2.length : Int) > 0
  ·rw [if_pos c5] at H
   have c5b0 : decide (0 < (l0_2.length : Int)) = true := decide_eq_true c5
   have c5b1 : decide (0 < l0_2.length) = true := decide_eq_true (by omega)
   clear c5
   (first | rw [c5b0] | (simp only [i64_w, i32_w]; rw [c5b0]) | skip)
   have H' := aM H
   clear H
   have hcz6_0 : w3.cell? ⟨gb105, 0, none⟩ = some (.bool true) := bc BK105 0
   have hcz6_1 : w3.cell? ⟨gb105, 1, none⟩ = some (.slice A0_1 l0_1.length c0_1) := bc BK105 1
   have hcz6_2 : w3.cell? ⟨gb105, 2, none⟩ = some (.slice A0_2 l0_2.length c0_2) := bc BK105 2
   have hfz6_0 := blk_frozen BK105.out 0
   have hfz6_1 := blk_frozen BK105.out 1
   have hfz6_2 := blk_frozen BK105.out 2
   go_wp2
   repeat (go_quiet (fail); try go_wp2)
   go_meet
   case rel => exact ⟨_, (true), (by first | rfl | (simp; done) | (simp [*]; done)), H', ⟨by first | omega | exact Nat.le_refl _⟩, ⟨kb BK105⟩, ⟨kl HB⟩⟩
  rw [if_neg c5] at H
  have c5b0 : decide (0 < (l0_2.length : Int)) = false := decide_eq_false c5
  have c5b1 : decide (0 < l0_2.length) = false := decide_eq_false (by omega)
  clear c5
  (first | rw [c5b0] | (simp only [i64_w, i32_w]; rw [c5b0]) | skip)
  have H' := aM H
  clear H
  have hcz7_0 : w3.cell? ⟨gb105, 0, none⟩ = some (.bool true) := bc BK105 0
  have hcz7_1 : w3.cell? ⟨gb105, 1, none⟩ = some (.slice A0_1 l0_1.length c0_1) := bc BK105 1
  have hcz7_2 : w3.cell? ⟨gb105, 2, none⟩ = some (.slice A0_2 l0_2.length c0_2) := bc BK105 2
  have hfz7_0 := blk_frozen BK105.out 0
  have hfz7_1 := blk_frozen BK105.out 1
  have hfz7_2 := blk_frozen BK105.out 2
  go_wp2
  repeat (go_quiet (fail); try go_wp2)
  go_meet
  case rel => exact ⟨_, (false), (by first | rfl | (simp; done) | (simp [*]; done)), H', ⟨by first | omega | exact Nat.le_refl _⟩, ⟨kb BK105⟩, ⟨kl HB⟩⟩
 case rest =>
  clear HC2
  try clear c1
  try clear p2
  try clear c4
  try clear c5
  try clear c5b0
  try clear c5b1
  try clear hcz6_0
  try clear hcz6_1
  try clear hcz6_2
  try clear hcz7_0
  try clear hcz7_1
  try clear hcz7_2
  try clear hcz8_0
  try clear hcz8_1
  try clear hcz8_2
  try clear hfz6_0
  try clear hfz6_1
  try clear hfz6_2
  try clear hfz7_0
  try clear hfz7_1
  try clear hfz7_2
  try clear hfz8_0
  try clear hfz8_1
  try clear hfz8_2
  obtain ⟨kq, x25_1, rfl, HA, HJ1, BK105, HB⟩ := hcut
  cases kq with
  | zero => exact absurd HA.out (by simp [leaf_May.j0])
  | succ kj1 =>
   have H := HA.out
   clear HA
   simp only [leaf_May.j0] at H
   by_cases c9 : x25_1 = true
   ·subst c9
    have H1 : (some false) = some r := by rw [if_pos rfl] at H; exact H
    clear H
    have H := H1
    clear H1
    obtain rfl := Option.some.inj H
    go_wp2
    repeat (go_quiet (fail); try go_wp2)
    go_ret
    exact ⟨by first | rfl | (simp [errW_none, errW_some] <;> rfl) | (simp [*, errW_none, errW_some] <;> rfl), kl HB⟩
   replace c9 := Bool.eq_false_iff.mpr c9
   subst c9
   have H1 : (leaf_May.l0 kj1 l0_1 (l0_1.length : Int) 0 a0_0 l0_1 l0_2) = some r := by rw [if_neg (show ¬ (false = true) by decide)] at H; exact H
   clear H
   have H := H1
   clear H1
   have H' := aM H
   clear H
   have hcz10_0 : wc.cell? ⟨gb105, 0, none⟩ = some (.bool a0_0) := bc BK105 0
   have hcz10_1 : wc.cell? ⟨gb105, 1, none⟩ = some (.slice A0_1 l0_1.length c0_1) := bc BK105 1
   have hcz10_2 : wc.cell? ⟨gb105, 2, none⟩ = some (.slice A0_2 l0_2.length c0_2) := bc BK105 2
   have hfz10_0 := blk_frozen BK105.out 0
   have hfz10_1 := blk_frozen BK105.out 1
   have hfz10_2 := blk_frozen BK105.out 2
   go_wp2
   repeat (go_quiet (fail); try go_wp2)
   go_loopg [29] kj1 (fun kq v29 w' => ∃ (x29_2 : Int), v29 = .int .i64 x29_2 ∧ Aside0 (leaf_May.l0 kq l0_1 (l0_1.length : Int) x29_2 a0_0 l0_1 l0_2 = some r) ∧ Aside0 (kq ≤ kj1) ∧ Aside0 (w'.heap[gb105]? = some (.cells #[.bool a0_0, (.slice A0_1 l0_1.length c0_1), (.slice A0_2 l0_2.length c0_2)] 31 (0, 0))) ∧ Aside0 (Below w.heap.size w w'))
   case atStart => exact ⟨(0), (by first | rfl | (simp; done) | (simp [*]; done)), H', ⟨Nat.le_refl _⟩, ⟨kb BK105⟩, ⟨kl HB⟩⟩
   case round =>
    clear H'
    try clear c1
    try clear p2
    try clear c4
    try clear c5
    try clear c5b0
    try clear c5b1
    try clear c9
    try clear hcz10_0
    try clear hcz10_1
    try clear hcz10_2
    try clear hcz6_0
    try clear hcz6_1
    try clear hcz6_2
    try clear hcz7_0
    try clear hcz7_1
    try clear hcz7_2
    try clear hcz8_0
    try clear hcz8_1
    try clear hcz8_2
    try clear hfz10_0
    try clear hfz10_1
    try clear hfz10_2
    try clear hfz6_0
    try clear hfz6_1
    try clear hfz6_2
    try clear hfz7_0
    try clear hfz7_1
    try clear hfz7_2
    try clear hfz8_0
    try clear hfz8_1
    try clear hfz8_2
    try clear p2
    obtain ⟨x29_2, rfl, HA, HK2, BK105, HB⟩ := hrel
    cases gk with
    | zero => exact absurd HA.out (by simp [leaf_May.l0])
    | succ k2 =>
     have H := HA.out
     clear HA
     simp only [leaf_May.l0] at H
     by_cases c11 : x29_2 < (l0_1.length : Int)
     ·rw [if_pos c11] at H
      have c11b0 : decide (x29_2 < (l0_1.length : Int)) = true := decide_eq_true c11
      clear c11
      by_cases c12 : 0 ≤ x29_2
      rotate_left
      ·rw [if_neg c12] at H
       exact absurd H (by simp)
      rw [if_pos c12] at H
      have c12b0 : decide (0 ≤ x29_2) = true := decide_eq_true c12
      clear c12
      by_cases c13 : x29_2 < (l0_1.length : Int)
      rotate_left
      ·rw [if_neg c13] at H
       exact absurd H (by simp)
      rw [if_pos c13] at H
      have c13b0 : decide (x29_2 < (l0_1.length : Int)) = true := decide_eq_true c13
      clear c13
      by_cases c14 : ((rd_T47 l0_1 x29_2).f0).toList = ([] : List UInt8)
      ·rw [if_pos c14] at H
       have c14b0 : (((rd_T47 l0_1 x29_2).f0).toList == ([] : List UInt8)) = true := by first | exact beq_iff_eq.mpr c14 | exact beq_eq_false_iff_ne.mpr c14
       have c14b1 : (((rd_T47 l0_1 x29_2).f0).toList != ([] : List UInt8)) = false := by first | exact bne_eq_false_iff_eq.mpr c14 | exact bne_iff_ne.mpr c14
       have c14b2 : ((rd_T47 l0_1 x29_2).f0).toList.isEmpty = true := by first | exact List.isEmpty_iff.mpr c14 | (rw [Bool.eq_false_iff]; exact fun h_ => c14 (List.isEmpty_iff.mp h_))
       clear c14
       obtain rfl := Option.some.inj H
       have p106 : 0 ≤ (x29_2 : Int) := of_decide_eq_true (by first | (with_reducible assumption) | assumption)
       have q106 : x29_2 < (l0_1.length : Int) := of_decide_eq_true (by first | (with_reducible assumption) | assumption)
       obtain ⟨ad106, e106, hx106_0, hx106_1⟩ := at_T47 HR0_1.out x29_2 p106 q106
       cases e106
       replace hx106_0 := (HB.out.cell (World.block_lt_of_cell? w _ hx106_0)).trans hx106_0
       replace hx106_1 := (HB.out.cell (World.block_lt_of_cell? w _ hx106_1)).trans hx106_1
       replace p106 := eq_true p106
       replace q106 := eq_true q106
       go_wp2_with (first | ((with_reducible refine gate_dst (N := 4) rfl ?_); (try (refine gate_guard (by rfl) ?_; dsimp only)); refine box_event ?hg (N := 4) ?hd (cs := #[.string (⟨#[]⟩ : ByteArray), .string (⟨#[]⟩ : ByteArray)]) (t := 47) ?hr ?_; (case hd => rfl); (case hg => rfl); (case hr => first | (go_simp; done) | (go_simp; rfl)); intro gb107 hg w15 hbox hb; have BK107 := aM (hbox); have GW107 := gw hg HB; have GE107 := gw hg HB; replace HB := aM (below_step (kl HB) hb); have NB105_107 := nl hg BK105; have NB107_105 := ng hg BK105; replace BK105 := bb BK105 hb; clear hb hbox hg; have hnb16 := NB107_105.out; have hnc16 := NB105_107.out; have hcz17_0 : w15.cell? ⟨gb107, 0, none⟩ = some (.string (⟨#[]⟩ : ByteArray)) := bc BK107 0; have hcz17_1 : w15.cell? ⟨gb107, 1, none⟩ = some (.string (⟨#[]⟩ : ByteArray)) := bc BK107 1; have hfz17_0 := blk_frozen BK107.out 0; have hfz17_1 := blk_frozen BK107.out 1))
       repeat (go_quiet (fail); try go_wp2_with (first | ((with_reducible refine gate_dst (N := 4) rfl ?_); (try (refine gate_guard (by rfl) ?_; dsimp only)); refine box_event ?hg (N := 4) ?hd (cs := #[.string (⟨#[]⟩ : ByteArray), .string (⟨#[]⟩ : ByteArray)]) (t := 47) ?hr ?_; (case hd => rfl); (case hg => rfl); (case hr => first | (go_simp; done) | (go_simp; rfl)); intro gb107 hg w15 hbox hb; have BK107 := aM (hbox); have GW107 := gw hg HB; have GE107 := gw hg HB; replace HB := aM (below_step (kl HB) hb); have NB105_107 := nl hg BK105; have NB107_105 := ng hg BK105; replace BK105 := bb BK105 hb; clear hb hbox hg; have hnb16 := NB107_105.out; have hnc16 := NB105_107.out; have hcz17_0 : w15.cell? ⟨gb107, 0, none⟩ = some (.string (⟨#[]⟩ : ByteArray)) := bc BK107 0; have hcz17_1 : w15.cell? ⟨gb107, 1, none⟩ = some (.string (⟨#[]⟩ : ByteArray)) := bc BK107 1; have hfz17_0 := blk_frozen BK107.out 0; have hfz17_1 := blk_frozen BK107.out 1)))
       go_ret
       exact ⟨by first | rfl | (simp [errW_none, errW_some] <;> rfl) | (simp [*, errW_none, errW_some] <;> rfl), kl HB⟩
      rw [if_neg c14] at H
      have c14b0 : (((rd_T47 l0_1 x29_2).f0).toList == ([] : List UInt8)) = false := by first | exact beq_iff_eq.mpr c14 | exact beq_eq_false_iff_ne.mpr c14
      have c14b1 : (((rd_T47 l0_1 x29_2).f0).toList != ([] : List UInt8)) = true := by first | exact bne_eq_false_iff_eq.mpr c14 | exact bne_iff_ne.mpr c14
      have c14b2 : ((rd_T47 l0_1 x29_2).f0).toList.isEmpty = false := by first | exact List.isEmpty_iff.mpr c14 | (rw [Bool.eq_false_iff]; exact fun h_ => c14 (List.isEmpty_iff.mp h_))
      by_cases c18 : (((rd_T47 l0_1 x29_2).f0).size : Int) > 24
      ·rw [if_pos c18] at H
       have c18b0 : decide (24 < (((rd_T47 l0_1 x29_2).f0).size : Int)) = true := decide_eq_true c18
       have c18b1 : decide (24 < ((rd_T47 l0_1 x29_2).f0).size) = true := decide_eq_true (by omega)
       clear c18
       obtain rfl := Option.some.inj H
       have p106 : 0 ≤ (x29_2 : Int) := of_decide_eq_true (by first | (with_reducible assumption) | assumption)
       have q106 : x29_2 < (l0_1.length : Int) := of_decide_eq_true (by first | (with_reducible assumption) | assumption)
       obtain ⟨ad106, e106, hx106_0, hx106_1⟩ := at_T47 HR0_1.out x29_2 p106 q106
       cases e106
       replace hx106_0 := (HB.out.cell (World.block_lt_of_cell? w _ hx106_0)).trans hx106_0
       replace hx106_1 := (HB.out.cell (World.block_lt_of_cell? w _ hx106_1)).trans hx106_1
       replace p106 := eq_true p106
       replace q106 := eq_true q106
       go_wp2_with (first | ((with_reducible refine gate_dst (N := 4) rfl ?_); (try (refine gate_guard (by rfl) ?_; dsimp only)); refine box_event ?hg (N := 4) ?hd (cs := #[.string (⟨#[]⟩ : ByteArray), .string (⟨#[]⟩ : ByteArray)]) (t := 47) ?hr ?_; (case hd => rfl); (case hg => rfl); (case hr => first | (go_simp; done) | (go_simp; rfl)); intro gb107 hg w19 hbox hb; have BK107 := aM (hbox); have GW107 := gw hg HB; have GE107 := gw hg HB; replace HB := aM (below_step (kl HB) hb); have NB105_107 := nl hg BK105; have NB107_105 := ng hg BK105; replace BK105 := bb BK105 hb; clear hb hbox hg; have hnb20 := NB107_105.out; have hnc20 := NB105_107.out; have hcz21_0 : w19.cell? ⟨gb107, 0, none⟩ = some (.string (⟨#[]⟩ : ByteArray)) := bc BK107 0; have hcz21_1 : w19.cell? ⟨gb107, 1, none⟩ = some (.string (⟨#[]⟩ : ByteArray)) := bc BK107 1; have hfz21_0 := blk_frozen BK107.out 0; have hfz21_1 := blk_frozen BK107.out 1))
       repeat (go_quiet (fail); try go_wp2_with (first | ((with_reducible refine gate_dst (N := 4) rfl ?_); (try (refine gate_guard (by rfl) ?_; dsimp only)); refine box_event ?hg (N := 4) ?hd (cs := #[.string (⟨#[]⟩ : ByteArray), .string (⟨#[]⟩ : ByteArray)]) (t := 47) ?hr ?_; (case hd => rfl); (case hg => rfl); (case hr => first | (go_simp; done) | (go_simp; rfl)); intro gb107 hg w19 hbox hb; have BK107 := aM (hbox); have GW107 := gw hg HB; have GE107 := gw hg HB; replace HB := aM (below_step (kl HB) hb); have NB105_107 := nl hg BK105; have NB107_105 := ng hg BK105; replace BK105 := bb BK105 hb; clear hb hbox hg; have hnb20 := NB107_105.out; have hnc20 := NB105_107.out; have hcz21_0 : w19.cell? ⟨gb107, 0, none⟩ = some (.string (⟨#[]⟩ : ByteArray)) := bc BK107 0; have hcz21_1 : w19.cell? ⟨gb107, 1, none⟩ = some (.string (⟨#[]⟩ : ByteArray)) := bc BK107 1; have hfz21_0 := blk_frozen BK107.out 0; have hfz21_1 := blk_frozen BK107.out 1)))
       go_ret
       exact ⟨by first | rfl | (simp [errW_none, errW_some] <;> rfl) | (simp [*, errW_none, errW_some] <;> rfl), kl HB⟩
      rw [if_neg c18] at H
      have c18b0 : decide (24 < (((rd_T47 l0_1 x29_2).f0).size : Int)) = false := decide_eq_false c18
      have c18b1 : decide (24 < ((rd_T47 l0_1 x29_2).f0).size) = false := decide_eq_false (by omega)
      clear c18
      by_cases c22 : (((rd_T47 l0_1 x29_2).f1).size : Int) > 100
      ·rw [if_pos c22] at H
       have c22b0 : decide (100 < (((rd_T47 l0_1 x29_2).f1).size : Int)) = true := decide_eq_true c22
       have c22b1 : decide (100 < ((rd_T47 l0_1 x29_2).f1).size) = true := decide_eq_true (by omega)
       clear c22
       obtain rfl := Option.some.inj H
       have p106 : 0 ≤ (x29_2 : Int) := of_decide_eq_true (by first | (with_reducible assumption) | assumption)
       have q106 : x29_2 < (l0_1.length : Int) := of_decide_eq_true (by first | (with_reducible assumption) | assumption)
       obtain ⟨ad106, e106, hx106_0, hx106_1⟩ := at_T47 HR0_1.out x29_2 p106 q106
       cases e106
       replace hx106_0 := (HB.out.cell (World.block_lt_of_cell? w _ hx106_0)).trans hx106_0
       replace hx106_1 := (HB.out.cell (World.block_lt_of_cell? w _ hx106_1)).trans hx106_1
       replace p106 := eq_true p106
       replace q106 := eq_true q106
       go_wp2_with (first | ((with_reducible refine gate_dst (N := 4) rfl ?_); (try (refine gate_guard (by rfl) ?_; dsimp only)); refine box_event ?hg (N := 4) ?hd (cs := #[.string (⟨#[]⟩ : ByteArray), .string (⟨#[]⟩ : ByteArray)]) (t := 47) ?hr ?_; (case hd => rfl); (case hg => rfl); (case hr => first | (go_simp; done) | (go_simp; rfl)); intro gb107 hg w23 hbox hb; have BK107 := aM (hbox); have GW107 := gw hg HB; have GE107 := gw hg HB; replace HB := aM (below_step (kl HB) hb); have NB105_107 := nl hg BK105; have NB107_105 := ng hg BK105; replace BK105 := bb BK105 hb; clear hb hbox hg; have hnb24 := NB107_105.out; have hnc24 := NB105_107.out; have hcz25_0 : w23.cell? ⟨gb107, 0, none⟩ = some (.string (⟨#[]⟩ : ByteArray)) := bc BK107 0; have hcz25_1 : w23.cell? ⟨gb107, 1, none⟩ = some (.string (⟨#[]⟩ : ByteArray)) := bc BK107 1; have hfz25_0 := blk_frozen BK107.out 0; have hfz25_1 := blk_frozen BK107.out 1))
       repeat (go_quiet (fail); try go_wp2_with (first | ((with_reducible refine gate_dst (N := 4) rfl ?_); (try (refine gate_guard (by rfl) ?_; dsimp only)); refine box_event ?hg (N := 4) ?hd (cs := #[.string (⟨#[]⟩ : ByteArray), .string (⟨#[]⟩ : ByteArray)]) (t := 47) ?hr ?_; (case hd => rfl); (case hg => rfl); (case hr => first | (go_simp; done) | (go_simp; rfl)); intro gb107 hg w23 hbox hb; have BK107 := aM (hbox); have GW107 := gw hg HB; have GE107 := gw hg HB; replace HB := aM (below_step (kl HB) hb); have NB105_107 := nl hg BK105; have NB107_105 := ng hg BK105; replace BK105 := bb BK105 hb; clear hb hbox hg; have hnb24 := NB107_105.out; have hnc24 := NB105_107.out; have hcz25_0 : w23.cell? ⟨gb107, 0, none⟩ = some (.string (⟨#[]⟩ : ByteArray)) := bc BK107 0; have hcz25_1 : w23.cell? ⟨gb107, 1, none⟩ = some (.string (⟨#[]⟩ : ByteArray)) := bc BK107 1; have hfz25_0 := blk_frozen BK107.out 0; have hfz25_1 := blk_frozen BK107.out 1)))
       go_ret
       exact ⟨by first | rfl | (simp [errW_none, errW_some] <;> rfl) | (simp [*, errW_none, errW_some] <;> rfl), kl HB⟩
      rw [if_neg c22] at H
      have c22b0 : decide (100 < (((rd_T47 l0_1 x29_2).f1).size : Int)) = false := decide_eq_false c22
      have c22b1 : decide (100 < ((rd_T47 l0_1 x29_2).f1).size) = false := decide_eq_false (by omega)
      clear c22
      by_cases c26 : x29_2 > 0
      rotate_left
      ·rw [if_neg c26] at H
       have c26b0 : decide (0 < x29_2) = false := decide_eq_false c26
       clear c26
       have H' := aM H
       clear H
       have p106 : 0 ≤ (x29_2 : Int) := of_decide_eq_true (by first | (with_reducible assumption) | assumption)
       have q106 : x29_2 < (l0_1.length : Int) := of_decide_eq_true (by first | (with_reducible assumption) | assumption)
       obtain ⟨ad106, e106, hx106_0, hx106_1⟩ := at_T47 HR0_1.out x29_2 p106 q106
       cases e106
       replace hx106_0 := (HB.out.cell (World.block_lt_of_cell? w _ hx106_0)).trans hx106_0
       replace hx106_1 := (HB.out.cell (World.block_lt_of_cell? w _ hx106_1)).trans hx106_1
       replace p106 := eq_true p106
       replace q106 := eq_true q106
       go_wp2_with (first | ((with_reducible refine gate_dst (N := 4) rfl ?_); (try (refine gate_guard (by rfl) ?_; dsimp only)); refine box_event ?hg (N := 4) ?hd (cs := #[.string (⟨#[]⟩ : ByteArray), .string (⟨#[]⟩ : ByteArray)]) (t := 47) ?hr ?_; (case hd => rfl); (case hg => rfl); (case hr => first | (go_simp; done) | (go_simp; rfl)); intro gb107 hg w39 hbox hb; have BK107 := aM (hbox); have GW107 := gw hg HB; have GE107 := gw hg HB; replace HB := aM (below_step (kl HB) hb); have NB105_107 := nl hg BK105; have NB107_105 := ng hg BK105; replace BK105 := bb BK105 hb; clear hb hbox hg; have hnb40 := NB107_105.out; have hnc40 := NB105_107.out; have hcz41_0 : w39.cell? ⟨gb107, 0, none⟩ = some (.string (⟨#[]⟩ : ByteArray)) := bc BK107 0; have hcz41_1 : w39.cell? ⟨gb107, 1, none⟩ = some (.string (⟨#[]⟩ : ByteArray)) := bc BK107 1; have hfz41_0 := blk_frozen BK107.out 0; have hfz41_1 := blk_frozen BK107.out 1))
       repeat (go_quiet (fail); try go_wp2_with (first | ((with_reducible refine gate_dst (N := 4) rfl ?_); (try (refine gate_guard (by rfl) ?_; dsimp only)); refine box_event ?hg (N := 4) ?hd (cs := #[.string (⟨#[]⟩ : ByteArray), .string (⟨#[]⟩ : ByteArray)]) (t := 47) ?hr ?_; (case hd => rfl); (case hg => rfl); (case hr => first | (go_simp; done) | (go_simp; rfl)); intro gb107 hg w39 hbox hb; have BK107 := aM (hbox); have GW107 := gw hg HB; have GE107 := gw hg HB; replace HB := aM (below_step (kl HB) hb); have NB105_107 := nl hg BK105; have NB107_105 := ng hg BK105; replace BK105 := bb BK105 hb; clear hb hbox hg; have hnb40 := NB107_105.out; have hnc40 := NB105_107.out; have hcz41_0 : w39.cell? ⟨gb107, 0, none⟩ = some (.string (⟨#[]⟩ : ByteArray)) := bc BK107 0; have hcz41_1 : w39.cell? ⟨gb107, 1, none⟩ = some (.string (⟨#[]⟩ : ByteArray)) := bc BK107 1; have hfz41_0 := blk_frozen BK107.out 0; have hfz41_1 := blk_frozen BK107.out 1)))
       go_roundg k2
       case measure => have := HJ1.out; have := HK2.out; omega
       case rel => exact ⟨(wrap64 (x29_2 + 1)), (by first | rfl | (simp; done) | (simp [*]; done)), H', ⟨by have := HJ1.out; have := HK2.out; omega⟩, ⟨kf NB105_107 BK105⟩, ⟨kl HB⟩⟩
      rw [if_pos c26] at H
      have c26b0 : decide (0 < x29_2) = true := decide_eq_true c26
      clear c26
      obtain ⟨ji27, hji27⟩ : ∃ j_ : Int, (wrap64 (x29_2 - 1)) = j_ := ⟨_, rfl⟩
      replace H : (if 0 ≤ (ji27) then (if (ji27) < (l0_1.length : Int) then (if ((Op.bytesLess (((rd_T47 l0_1 (ji27)).f0).toList) (((rd_T47 l0_1 x29_2).f0).toList)) = true) then (leaf_May.l0 k2 l0_1 (l0_1.length : Int) (wrap64 (x29_2 + 1)) a0_0 l0_1 l0_2) else (some false)) else (none)) else (none)) = some r := by first | (rw [hji27] at H; exact H) | (simp only [hji27] at H ⊢; exact H)
      have hji27w : (IntKind.i64.wrap (x29_2 - 1)) = ji27 := (i64_w _).trans hji27
      by_cases c28 : 0 ≤ (ji27)
      rotate_left
      ·rw [if_neg c28] at H
       exact absurd H (by simp)
      rw [if_pos c28] at H
      have c28b0 : decide (0 ≤ (ji27)) = true := decide_eq_true c28
      clear c28
      by_cases c29 : (ji27) < (l0_1.length : Int)
      rotate_left
      ·rw [if_neg c29] at H
       exact absurd H (by simp)
      rw [if_pos c29] at H
      have c29b0 : decide ((ji27) < (l0_1.length : Int)) = true := decide_eq_true c29
      clear c29
      by_cases c30 : ((Op.bytesLess (((rd_T47 l0_1 (ji27)).f0).toList) (((rd_T47 l0_1 x29_2).f0).toList)) = true)
      ·rw [if_pos c30] at H
       have c30b0 : (Op.bytesLess (((rd_T47 l0_1 (ji27)).f0).toList) (((rd_T47 l0_1 x29_2).f0).toList)) = true := c30
       clear c30
       have H' := aM H
       clear H
       have p106 : 0 ≤ (x29_2 : Int) := of_decide_eq_true (by first | (with_reducible assumption) | assumption)
       have q106 : x29_2 < (l0_1.length : Int) := of_decide_eq_true (by first | (with_reducible assumption) | assumption)
       obtain ⟨ad106, e106, hx106_0, hx106_1⟩ := at_T47 HR0_1.out x29_2 p106 q106
       cases e106
       replace hx106_0 := (HB.out.cell (World.block_lt_of_cell? w _ hx106_0)).trans hx106_0
       replace hx106_1 := (HB.out.cell (World.block_lt_of_cell? w _ hx106_1)).trans hx106_1
       replace p106 := eq_true p106
       replace q106 := eq_true q106
       go_wp2_with (first | ((with_reducible refine gate_dst (N := 4) rfl ?_); (try (refine gate_guard (by rfl) ?_; dsimp only)); refine box_event ?hg (N := 4) ?hd (cs := #[.string (⟨#[]⟩ : ByteArray), .string (⟨#[]⟩ : ByteArray)]) (t := 47) ?hr ?_; (case hd => rfl); (case hg => rfl); (case hr => first | (go_simp; done) | (go_simp; rfl)); intro gb107 hg w31 hbox hb; have BK107 := aM (hbox); have GW107 := gw hg HB; have GE107 := gw hg HB; replace HB := aM (below_step (kl HB) hb); have NB105_107 := nl hg BK105; have NB107_105 := ng hg BK105; replace BK105 := bb BK105 hb; clear hb hbox hg; have hnb32 := NB107_105.out; have hnc32 := NB105_107.out; have hcz33_0 : w31.cell? ⟨gb107, 0, none⟩ = some (.string (⟨#[]⟩ : ByteArray)) := bc BK107 0; have hcz33_1 : w31.cell? ⟨gb107, 1, none⟩ = some (.string (⟨#[]⟩ : ByteArray)) := bc BK107 1; have hfz33_0 := blk_frozen BK107.out 0; have hfz33_1 := blk_frozen BK107.out 1; have hcz34_0 : w31.cell? ⟨gb105, 0, none⟩ = some (.bool a0_0) := bc BK105 0; have hcz34_1 : w31.cell? ⟨gb105, 1, none⟩ = some (.slice (some ad106) l0_1.length c0_1) := bc BK105 1; have hcz34_2 : w31.cell? ⟨gb105, 2, none⟩ = some (.slice A0_2 l0_2.length c0_2) := bc BK105 2; have hfz34_0 := blk_frozen BK105.out 0; have hfz34_1 := blk_frozen BK105.out 1; have hfz34_2 := blk_frozen BK105.out 2; have p108 : 0 ≤ ((ji27) : Int) := of_decide_eq_true (by first | (with_reducible assumption) | assumption); have q108 : (ji27) < (l0_1.length : Int) := of_decide_eq_true (by first | (with_reducible assumption) | assumption); obtain ⟨ad108, e108, hx108_0, hx108_1⟩ := at_T47 HR0_1.out (ji27) p108 q108; obtain rfl : ad106 = ad108 := (by injection e108); have hn108_0 : ad106.block ≠ gb107 := Nat.ne_of_lt (Nat.lt_of_lt_of_le (by have := World.block_lt_of_cell? _ _ hx108_0; first | rwa [add_block] at this | exact this) GW107.out); have hn108_1 : ad106.block ≠ gb107 := Nat.ne_of_lt (Nat.lt_of_lt_of_le (by have := World.block_lt_of_cell? _ _ hx108_0; first | rwa [add_block] at this | exact this) GW107.out); replace hx108_0 := (HB.out.cell (World.block_lt_of_cell? w _ hx108_0)).trans hx108_0; replace hx108_1 := (HB.out.cell (World.block_lt_of_cell? w _ hx108_1)).trans hx108_1; replace hx108_0 := (cell_far (p := ⟨gb107, 0, none⟩) (by first | (rw [add_block]; exact hn108_0) | (show (Addr.add _ _).block ≠ _; rw [add_block]; exact hn108_0) | exact hn108_0) (.string ((rd_T47 l0_1 x29_2).f0))).trans hx108_0; replace hx108_1 := (cell_far (p := ⟨gb107, 0, none⟩) (by first | (rw [add_block]; exact hn108_0) | (show (Addr.add _ _).block ≠ _; rw [add_block]; exact hn108_0) | exact hn108_0) (.string ((rd_T47 l0_1 x29_2).f0))).trans hx108_1; replace hx108_0 := (cell_far (p := ⟨gb107, 1, none⟩) (by first | (rw [add_block]; exact hn108_1) | (show (Addr.add _ _).block ≠ _; rw [add_block]; exact hn108_1) | exact hn108_1) (.string ((rd_T47 l0_1 x29_2).f1))).trans hx108_0; replace hx108_1 := (cell_far (p := ⟨gb107, 1, none⟩) (by first | (rw [add_block]; exact hn108_1) | (show (Addr.add _ _).block ≠ _; rw [add_block]; exact hn108_1) | exact hn108_1) (.string ((rd_T47 l0_1 x29_2).f1))).trans hx108_1; (try have hy108_0 := fun (n_ : Nat) => (show ((((w31.drewN n_).setCell ⟨gb107, 0, none⟩ (.string ((rd_T47 l0_1 x29_2).f0))).setCell ⟨gb107, 1, none⟩ (.string ((rd_T47 l0_1 x29_2).f1)))).cell? _ = some _ from hx108_0)); (try have hy108_1 := fun (n_ : Nat) => (show ((((w31.drewN n_).setCell ⟨gb107, 0, none⟩ (.string ((rd_T47 l0_1 x29_2).f0))).setCell ⟨gb107, 1, none⟩ (.string ((rd_T47 l0_1 x29_2).f1)))).cell? _ = some _ from hx108_1)); clear hn108_0; clear hn108_1; replace p108 := eq_true p108; replace q108 := eq_true q108))
       repeat (go_quiet (fail); try go_wp2_with (first | ((with_reducible refine gate_dst (N := 4) rfl ?_); (try (refine gate_guard (by rfl) ?_; dsimp only)); refine box_event ?hg (N := 4) ?hd (cs := #[.string (⟨#[]⟩ : ByteArray), .string (⟨#[]⟩ : ByteArray)]) (t := 47) ?hr ?_; (case hd => rfl); (case hg => rfl); (case hr => first | (go_simp; done) | (go_simp; rfl)); intro gb107 hg w31 hbox hb; have BK107 := aM (hbox); have GW107 := gw hg HB; have GE107 := gw hg HB; replace HB := aM (below_step (kl HB) hb); have NB105_107 := nl hg BK105; have NB107_105 := ng hg BK105; replace BK105 := bb BK105 hb; clear hb hbox hg; have hnb32 := NB107_105.out; have hnc32 := NB105_107.out; have hcz33_0 : w31.cell? ⟨gb107, 0, none⟩ = some (.string (⟨#[]⟩ : ByteArray)) := bc BK107 0; have hcz33_1 : w31.cell? ⟨gb107, 1, none⟩ = some (.string (⟨#[]⟩ : ByteArray)) := bc BK107 1; have hfz33_0 := blk_frozen BK107.out 0; have hfz33_1 := blk_frozen BK107.out 1; have hcz34_0 : w31.cell? ⟨gb105, 0, none⟩ = some (.bool a0_0) := bc BK105 0; have hcz34_1 : w31.cell? ⟨gb105, 1, none⟩ = some (.slice (some ad106) l0_1.length c0_1) := bc BK105 1; have hcz34_2 : w31.cell? ⟨gb105, 2, none⟩ = some (.slice A0_2 l0_2.length c0_2) := bc BK105 2; have hfz34_0 := blk_frozen BK105.out 0; have hfz34_1 := blk_frozen BK105.out 1; have hfz34_2 := blk_frozen BK105.out 2; have p108 : 0 ≤ ((ji27) : Int) := of_decide_eq_true (by first | (with_reducible assumption) | assumption); have q108 : (ji27) < (l0_1.length : Int) := of_decide_eq_true (by first | (with_reducible assumption) | assumption); obtain ⟨ad108, e108, hx108_0, hx108_1⟩ := at_T47 HR0_1.out (ji27) p108 q108; obtain rfl : ad106 = ad108 := (by injection e108); have hn108_0 : ad106.block ≠ gb107 := Nat.ne_of_lt (Nat.lt_of_lt_of_le (by have := World.block_lt_of_cell? _ _ hx108_0; first | rwa [add_block] at this | exact this) GW107.out); have hn108_1 : ad106.block ≠ gb107 := Nat.ne_of_lt (Nat.lt_of_lt_of_le (by have := World.block_lt_of_cell? _ _ hx108_0; first | rwa [add_block] at this | exact this) GW107.out); replace hx108_0 := (HB.out.cell (World.block_lt_of_cell? w _ hx108_0)).trans hx108_0; replace hx108_1 := (HB.out.cell (World.block_lt_of_cell? w _ hx108_1)).trans hx108_1; replace hx108_0 := (cell_far (p := ⟨gb107, 0, none⟩) (by first | (rw [add_block]; exact hn108_0) | (show (Addr.add _ _).block ≠ _; rw [add_block]; exact hn108_0) | exact hn108_0) (.string ((rd_T47 l0_1 x29_2).f0))).trans hx108_0; replace hx108_1 := (cell_far (p := ⟨gb107, 0, none⟩) (by first | (rw [add_block]; exact hn108_0) | (show (Addr.add _ _).block ≠ _; rw [add_block]; exact hn108_0) | exact hn108_0) (.string ((rd_T47 l0_1 x29_2).f0))).trans hx108_1; replace hx108_0 := (cell_far (p := ⟨gb107, 1, none⟩) (by first | (rw [add_block]; exact hn108_1) | (show (Addr.add _ _).block ≠ _; rw [add_block]; exact hn108_1) | exact hn108_1) (.string ((rd_T47 l0_1 x29_2).f1))).trans hx108_0; replace hx108_1 := (cell_far (p := ⟨gb107, 1, none⟩) (by first | (rw [add_block]; exact hn108_1) | (show (Addr.add _ _).block ≠ _; rw [add_block]; exact hn108_1) | exact hn108_1) (.string ((rd_T47 l0_1 x29_2).f1))).trans hx108_1; (try have hy108_0 := fun (n_ : Nat) => (show ((((w31.drewN n_).setCell ⟨gb107, 0, none⟩ (.string ((rd_T47 l0_1 x29_2).f0))).setCell ⟨gb107, 1, none⟩ (.string ((rd_T47 l0_1 x29_2).f1)))).cell? _ = some _ from hx108_0)); (try have hy108_1 := fun (n_ : Nat) => (show ((((w31.drewN n_).setCell ⟨gb107, 0, none⟩ (.string ((rd_T47 l0_1 x29_2).f0))).setCell ⟨gb107, 1, none⟩ (.string ((rd_T47 l0_1 x29_2).f1)))).cell? _ = some _ from hx108_1)); clear hn108_0; clear hn108_1; replace p108 := eq_true p108; replace q108 := eq_true q108)))
       go_roundg k2
       case measure => have := HJ1.out; have := HK2.out; omega
       case rel => exact ⟨(wrap64 (x29_2 + 1)), (by first | rfl | (simp; done) | (simp [*]; done)), H', ⟨by have := HJ1.out; have := HK2.out; omega⟩, ⟨kf NB105_107 BK105⟩, ⟨kl HB⟩⟩
      rw [if_neg c30] at H
      have c30b0 : (Op.bytesLess (((rd_T47 l0_1 (ji27)).f0).toList) (((rd_T47 l0_1 x29_2).f0).toList)) = false := by simpa using c30
      clear c30
      obtain rfl := Option.some.inj H
      have p106 : 0 ≤ (x29_2 : Int) := of_decide_eq_true (by first | (with_reducible assumption) | assumption)
      have q106 : x29_2 < (l0_1.length : Int) := of_decide_eq_true (by first | (with_reducible assumption) | assumption)
      obtain ⟨ad106, e106, hx106_0, hx106_1⟩ := at_T47 HR0_1.out x29_2 p106 q106
      cases e106
      replace hx106_0 := (HB.out.cell (World.block_lt_of_cell? w _ hx106_0)).trans hx106_0
      replace hx106_1 := (HB.out.cell (World.block_lt_of_cell? w _ hx106_1)).trans hx106_1
      replace p106 := eq_true p106
      replace q106 := eq_true q106
      go_wp2_with (first | ((with_reducible refine gate_dst (N := 4) rfl ?_); (try (refine gate_guard (by rfl) ?_; dsimp only)); refine box_event ?hg (N := 4) ?hd (cs := #[.string (⟨#[]⟩ : ByteArray), .string (⟨#[]⟩ : ByteArray)]) (t := 47) ?hr ?_; (case hd => rfl); (case hg => rfl); (case hr => first | (go_simp; done) | (go_simp; rfl)); intro gb107 hg w35 hbox hb; have BK107 := aM (hbox); have GW107 := gw hg HB; have GE107 := gw hg HB; replace HB := aM (below_step (kl HB) hb); have NB105_107 := nl hg BK105; have NB107_105 := ng hg BK105; replace BK105 := bb BK105 hb; clear hb hbox hg; have hnb36 := NB107_105.out; have hnc36 := NB105_107.out; have hcz37_0 : w35.cell? ⟨gb107, 0, none⟩ = some (.string (⟨#[]⟩ : ByteArray)) := bc BK107 0; have hcz37_1 : w35.cell? ⟨gb107, 1, none⟩ = some (.string (⟨#[]⟩ : ByteArray)) := bc BK107 1; have hfz37_0 := blk_frozen BK107.out 0; have hfz37_1 := blk_frozen BK107.out 1; have hcz38_0 : w35.cell? ⟨gb105, 0, none⟩ = some (.bool a0_0) := bc BK105 0; have hcz38_1 : w35.cell? ⟨gb105, 1, none⟩ = some (.slice (some ad106) l0_1.length c0_1) := bc BK105 1; have hcz38_2 : w35.cell? ⟨gb105, 2, none⟩ = some (.slice A0_2 l0_2.length c0_2) := bc BK105 2; have hfz38_0 := blk_frozen BK105.out 0; have hfz38_1 := blk_frozen BK105.out 1; have hfz38_2 := blk_frozen BK105.out 2; have p108 : 0 ≤ ((ji27) : Int) := of_decide_eq_true (by first | (with_reducible assumption) | assumption); have q108 : (ji27) < (l0_1.length : Int) := of_decide_eq_true (by first | (with_reducible assumption) | assumption); obtain ⟨ad108, e108, hx108_0, hx108_1⟩ := at_T47 HR0_1.out (ji27) p108 q108; obtain rfl : ad106 = ad108 := (by injection e108); have hn108_0 : ad106.block ≠ gb107 := Nat.ne_of_lt (Nat.lt_of_lt_of_le (by have := World.block_lt_of_cell? _ _ hx108_0; first | rwa [add_block] at this | exact this) GW107.out); have hn108_1 : ad106.block ≠ gb107 := Nat.ne_of_lt (Nat.lt_of_lt_of_le (by have := World.block_lt_of_cell? _ _ hx108_0; first | rwa [add_block] at this | exact this) GW107.out); replace hx108_0 := (HB.out.cell (World.block_lt_of_cell? w _ hx108_0)).trans hx108_0; replace hx108_1 := (HB.out.cell (World.block_lt_of_cell? w _ hx108_1)).trans hx108_1; replace hx108_0 := (cell_far (p := ⟨gb107, 0, none⟩) (by first | (rw [add_block]; exact hn108_0) | (show (Addr.add _ _).block ≠ _; rw [add_block]; exact hn108_0) | exact hn108_0) (.string ((rd_T47 l0_1 x29_2).f0))).trans hx108_0; replace hx108_1 := (cell_far (p := ⟨gb107, 0, none⟩) (by first | (rw [add_block]; exact hn108_0) | (show (Addr.add _ _).block ≠ _; rw [add_block]; exact hn108_0) | exact hn108_0) (.string ((rd_T47 l0_1 x29_2).f0))).trans hx108_1; replace hx108_0 := (cell_far (p := ⟨gb107, 1, none⟩) (by first | (rw [add_block]; exact hn108_1) | (show (Addr.add _ _).block ≠ _; rw [add_block]; exact hn108_1) | exact hn108_1) (.string ((rd_T47 l0_1 x29_2).f1))).trans hx108_0; replace hx108_1 := (cell_far (p := ⟨gb107, 1, none⟩) (by first | (rw [add_block]; exact hn108_1) | (show (Addr.add _ _).block ≠ _; rw [add_block]; exact hn108_1) | exact hn108_1) (.string ((rd_T47 l0_1 x29_2).f1))).trans hx108_1; (try have hy108_0 := fun (n_ : Nat) => (show ((((w35.drewN n_).setCell ⟨gb107, 0, none⟩ (.string ((rd_T47 l0_1 x29_2).f0))).setCell ⟨gb107, 1, none⟩ (.string ((rd_T47 l0_1 x29_2).f1)))).cell? _ = some _ from hx108_0)); (try have hy108_1 := fun (n_ : Nat) => (show ((((w35.drewN n_).setCell ⟨gb107, 0, none⟩ (.string ((rd_T47 l0_1 x29_2).f0))).setCell ⟨gb107, 1, none⟩ (.string ((rd_T47 l0_1 x29_2).f1)))).cell? _ = some _ from hx108_1)); clear hn108_0; clear hn108_1; replace p108 := eq_true p108; replace q108 := eq_true q108))
      repeat (go_quiet (fail); try go_wp2_with (first | ((with_reducible refine gate_dst (N := 4) rfl ?_); (try (refine gate_guard (by rfl) ?_; dsimp only)); refine box_event ?hg (N := 4) ?hd (cs := #[.string (⟨#[]⟩ : ByteArray), .string (⟨#[]⟩ : ByteArray)]) (t := 47) ?hr ?_; (case hd => rfl); (case hg => rfl); (case hr => first | (go_simp; done) | (go_simp; rfl)); intro gb107 hg w35 hbox hb; have BK107 := aM (hbox); have GW107 := gw hg HB; have GE107 := gw hg HB; replace HB := aM (below_step (kl HB) hb); have NB105_107 := nl hg BK105; have NB107_105 := ng hg BK105; replace BK105 := bb BK105 hb; clear hb hbox hg; have hnb36 := NB107_105.out; have hnc36 := NB105_107.out; have hcz37_0 : w35.cell? ⟨gb107, 0, none⟩ = some (.string (⟨#[]⟩ : ByteArray)) := bc BK107 0; have hcz37_1 : w35.cell? ⟨gb107, 1, none⟩ = some (.string (⟨#[]⟩ : ByteArray)) := bc BK107 1; have hfz37_0 := blk_frozen BK107.out 0; have hfz37_1 := blk_frozen BK107.out 1; have hcz38_0 : w35.cell? ⟨gb105, 0, none⟩ = some (.bool a0_0) := bc BK105 0; have hcz38_1 : w35.cell? ⟨gb105, 1, none⟩ = some (.slice (some ad106) l0_1.length c0_1) := bc BK105 1; have hcz38_2 : w35.cell? ⟨gb105, 2, none⟩ = some (.slice A0_2 l0_2.length c0_2) := bc BK105 2; have hfz38_0 := blk_frozen BK105.out 0; have hfz38_1 := blk_frozen BK105.out 1; have hfz38_2 := blk_frozen BK105.out 2; have p108 : 0 ≤ ((ji27) : Int) := of_decide_eq_true (by first | (with_reducible assumption) | assumption); have q108 : (ji27) < (l0_1.length : Int) := of_decide_eq_true (by first | (with_reducible assumption) | assumption); obtain ⟨ad108, e108, hx108_0, hx108_1⟩ := at_T47 HR0_1.out (ji27) p108 q108; obtain rfl : ad106 = ad108 := (by injection e108); have hn108_0 : ad106.block ≠ gb107 := Nat.ne_of_lt (Nat.lt_of_lt_of_le (by have := World.block_lt_of_cell? _ _ hx108_0; first | rwa [add_block] at this | exact this) GW107.out); have hn108_1 : ad106.block ≠ gb107 := Nat.ne_of_lt (Nat.lt_of_lt_of_le (by have := World.block_lt_of_cell? _ _ hx108_0; first | rwa [add_block] at this | exact this) GW107.out); replace hx108_0 := (HB.out.cell (World.block_lt_of_cell? w _ hx108_0)).trans hx108_0; replace hx108_1 := (HB.out.cell (World.block_lt_of_cell? w _ hx108_1)).trans hx108_1; replace hx108_0 := (cell_far (p := ⟨gb107, 0, none⟩) (by first | (rw [add_block]; exact hn108_0) | (show (Addr.add _ _).block ≠ _; rw [add_block]; exact hn108_0) | exact hn108_0) (.string ((rd_T47 l0_1 x29_2).f0))).trans hx108_0; replace hx108_1 := (cell_far (p := ⟨gb107, 0, none⟩) (by first | (rw [add_block]; exact hn108_0) | (show (Addr.add _ _).block ≠ _; rw [add_block]; exact hn108_0) | exact hn108_0) (.string ((rd_T47 l0_1 x29_2).f0))).trans hx108_1; replace hx108_0 := (cell_far (p := ⟨gb107, 1, none⟩) (by first | (rw [add_block]; exact hn108_1) | (show (Addr.add _ _).block ≠ _; rw [add_block]; exact hn108_1) | exact hn108_1) (.string ((rd_T47 l0_1 x29_2).f1))).trans hx108_0; replace hx108_1 := (cell_far (p := ⟨gb107, 1, none⟩) (by first | (rw [add_block]; exact hn108_1) | (show (Addr.add _ _).block ≠ _; rw [add_block]; exact hn108_1) | exact hn108_1) (.string ((rd_T47 l0_1 x29_2).f1))).trans hx108_1; (try have hy108_0 := fun (n_ : Nat) => (show ((((w35.drewN n_).setCell ⟨gb107, 0, none⟩ (.string ((rd_T47 l0_1 x29_2).f0))).setCell ⟨gb107, 1, none⟩ (.string ((rd_T47 l0_1 x29_2).f1)))).cell? _ = some _ from hx108_0)); (try have hy108_1 := fun (n_ : Nat) => (show ((((w35.drewN n_).setCell ⟨gb107, 0, none⟩ (.string ((rd_T47 l0_1 x29_2).f0))).setCell ⟨gb107, 1, none⟩ (.string ((rd_T47 l0_1 x29_2).f1)))).cell? _ = some _ from hx108_1)); clear hn108_0; clear hn108_1; replace p108 := eq_true p108; replace q108 := eq_true q108)))
      go_ret
      exact ⟨by first | rfl | (simp [errW_none, errW_some] <;> rfl) | (simp only [← hji27]; first | rfl | (simp [errW_none, errW_some] <;> rfl)) | (simp [*, errW_none, errW_some] <;> rfl), kl HB⟩
     rw [if_neg c11] at H
     have c11b0 : decide (x29_2 < (l0_1.length : Int)) = false := decide_eq_false c11
     clear c11
     have H' := aM H
     clear H
     have hcz42_0 : wr.cell? ⟨gb105, 0, none⟩ = some (.bool a0_0) := bc BK105 0
     have hcz42_1 : wr.cell? ⟨gb105, 1, none⟩ = some (.slice A0_1 l0_1.length c0_1) := bc BK105 1
     have hcz42_2 : wr.cell? ⟨gb105, 2, none⟩ = some (.slice A0_2 l0_2.length c0_2) := bc BK105 2
     have hfz42_0 := blk_frozen BK105.out 0
     have hfz42_1 := blk_frozen BK105.out 1
     have hfz42_2 := blk_frozen BK105.out 2
     go_wp2
     repeat (go_quiet (fail); try go_wp2)
     go_loopg [69] k2 (fun kq v69 w' => ∃ (x69_3 : Int), v69 = .int .i64 x69_3 ∧ Aside0 (leaf_May.l1 kq l0_2 (l0_2.length : Int) x69_3 a0_0 l0_1 l0_2 = some r) ∧ Aside0 (kq ≤ k2) ∧ Aside0 (w'.heap[gb105]? = some (.cells #[.bool a0_0, (.slice A0_1 l0_1.length c0_1), (.slice A0_2 l0_2.length c0_2)] 31 (0, 0))) ∧ Aside0 (Below w.heap.size w w'))
     case atStart => exact ⟨(0), (by first | rfl | (simp; done) | (simp [*]; done)), H', ⟨Nat.le_refl _⟩, ⟨kb BK105⟩, ⟨kl HB⟩⟩
     case round =>
      clear H'
      try clear c1
      try clear p1
      try clear q1
      try clear hx1
      try clear c2
      try clear p2
      try clear c3
      try clear c4
      try clear c5
      try clear c5b0
      try clear c5b1
      try clear p6
      try clear c9
      try clear p10
      try clear q10
      try clear hx10
      try clear c11
      try clear c11b0
      try clear c12
      try clear c12b0
      try clear c13
      try clear c13b0
      try clear c14
      try clear c14b0
      try clear c14b1
      try clear c14b2
      try clear c16
      try clear c18
      try clear c18b0
      try clear c18b1
      try clear c20
      try clear c22
      try clear c22b0
      try clear c22b1
      try clear c24
      try clear c26
      try clear c26b0
      try clear c28
      try clear c28b0
      try clear c29
      try clear c29b0
      try clear c30
      try clear c30b0
      try clear c32
      try clear c36
      try clear c40
      try clear hcz10_0
      try clear hcz10_1
      try clear hcz10_2
      try clear hcz17_0
      try clear hcz17_1
      try clear hcz21_0
      try clear hcz21_1
      try clear hcz25_0
      try clear hcz25_1
      try clear hcz33_0
      try clear hcz33_1
      try clear hcz34_0
      try clear hcz34_1
      try clear hcz34_2
      try clear hcz37_0
      try clear hcz37_1
      try clear hcz38_0
      try clear hcz38_1
      try clear hcz38_2
      try clear hcz41_0
      try clear hcz41_1
      try clear hcz42_0
      try clear hcz42_1
      try clear hcz42_2
      try clear hcz6_0
      try clear hcz6_1
      try clear hcz6_2
      try clear hcz7_0
      try clear hcz7_1
      try clear hcz7_2
      try clear hcz8_0
      try clear hcz8_1
      try clear hcz8_2
      try clear hfz10_0
      try clear hfz10_1
      try clear hfz10_2
      try clear hfz17_0
      try clear hfz17_1
      try clear hfz21_0
      try clear hfz21_1
      try clear hfz25_0
      try clear hfz25_1
      try clear hfz33_0
      try clear hfz33_1
      try clear hfz34_0
      try clear hfz34_1
      try clear hfz34_2
      try clear hfz37_0
      try clear hfz37_1
      try clear hfz38_0
      try clear hfz38_1
      try clear hfz38_2
      try clear hfz41_0
      try clear hfz41_1
      try clear hfz42_0
      try clear hfz42_1
      try clear hfz42_2
      try clear hfz6_0
      try clear hfz6_1
      try clear hfz6_2
      try clear hfz7_0
      try clear hfz7_1
      try clear hfz7_2
      try clear hfz8_0
      try clear hfz8_1
      try clear hfz8_2
      try clear hx106_0
      try clear hx106_1
      try clear hx108_0
      try clear hx108_1
      try clear p106
      try clear p108
      try clear p2
      try clear q106
      try clear q108
      obtain ⟨x69_3, rfl, HA, HK3, BK105, HB⟩ := hrel
      cases gk with
      | zero => exact absurd HA.out (by simp [leaf_May.l1])
      | succ k3 =>
       have H := HA.out
       clear HA
       simp only [leaf_May.l1] at H
       by_cases c43 : x69_3 < (l0_2.length : Int)
       rotate_left
       ·rw [if_neg c43] at H
        have c43b0 : decide (x69_3 < (l0_2.length : Int)) = false := decide_eq_false c43
        clear c43
        obtain rfl := Option.some.inj H
        go_wp2
        repeat (go_quiet (fail); try go_wp2)
        go_ret
        exact ⟨by first | rfl | (simp [errW_none, errW_some] <;> rfl) | (simp [*, errW_none, errW_some] <;> rfl), kl HB⟩
       rw [if_pos c43] at H
       have c43b0 : decide (x69_3 < (l0_2.length : Int)) = true := decide_eq_true c43
       clear c43
       by_cases c44 : 0 ≤ x69_3
       rotate_left
       ·rw [if_neg c44] at H
        exact absurd H (by simp)
       rw [if_pos c44] at H
       have c44b0 : decide (0 ≤ x69_3) = true := decide_eq_true c44
       clear c44
       by_cases c45 : x69_3 < (l0_2.length : Int)
       rotate_left
       ·rw [if_neg c45] at H
        exact absurd H (by simp)
       rw [if_pos c45] at H
       have c45b0 : decide (x69_3 < (l0_2.length : Int)) = true := decide_eq_true c45
       clear c45
       by_cases c46 : (((rd_T36 l0_2 x69_3).f0).size : Int) > 24
       ·rw [if_pos c46] at H
        have c46b0 : decide (24 < (((rd_T36 l0_2 x69_3).f0).size : Int)) = true := decide_eq_true c46
        have c46b1 : decide (24 < ((rd_T36 l0_2 x69_3).f0).size) = true := decide_eq_true (by omega)
        clear c46
        obtain rfl := Option.some.inj H
        have p109 : 0 ≤ (x69_3 : Int) := of_decide_eq_true (by first | (with_reducible assumption) | assumption)
        have q109 : x69_3 < (l0_2.length : Int) := of_decide_eq_true (by first | (with_reducible assumption) | assumption)
        obtain ⟨ad109, e109, hx109_0, hx109_1⟩ := at_T36 HR0_2.out x69_3 p109 q109
        cases e109
        replace hx109_0 := (HB.out.cell (World.block_lt_of_cell? w _ hx109_0)).trans hx109_0
        replace hx109_1 := (HB.out.cell (World.block_lt_of_cell? w _ hx109_1)).trans hx109_1
        replace p109 := eq_true p109
        replace q109 := eq_true q109
        go_wp2_with (first | ((with_reducible refine gate_dst (N := 6) rfl ?_); (try (refine gate_guard (by rfl) ?_; dsimp only)); refine box_event ?hg (N := 6) ?hd (cs := #[.string (⟨#[]⟩ : ByteArray), .int .i64 0]) (t := 36) ?hr ?_; (case hd => rfl); (case hg => rfl); (case hr => first | (go_simp; done) | (go_simp; rfl)); intro gb110 hg w47 hbox hb; have BK110 := aM (hbox); have GW110 := gw hg HB; have GE110 := gw hg HB; replace HB := aM (below_step (kl HB) hb); have NB105_110 := nl hg BK105; have NB110_105 := ng hg BK105; replace BK105 := bb BK105 hb; clear hb hbox hg; have hnb48 := NB110_105.out; have hnc48 := NB105_110.out; have hcz49_0 : w47.cell? ⟨gb110, 0, none⟩ = some (.string (⟨#[]⟩ : ByteArray)) := bc BK110 0; have hcz49_1 : w47.cell? ⟨gb110, 1, none⟩ = some (.int .i64 0) := bc BK110 1; have hfz49_0 := blk_frozen BK110.out 0; have hfz49_1 := blk_frozen BK110.out 1))
        repeat (go_quiet (fail); try go_wp2_with (first | ((with_reducible refine gate_dst (N := 6) rfl ?_); (try (refine gate_guard (by rfl) ?_; dsimp only)); refine box_event ?hg (N := 6) ?hd (cs := #[.string (⟨#[]⟩ : ByteArray), .int .i64 0]) (t := 36) ?hr ?_; (case hd => rfl); (case hg => rfl); (case hr => first | (go_simp; done) | (go_simp; rfl)); intro gb110 hg w47 hbox hb; have BK110 := aM (hbox); have GW110 := gw hg HB; have GE110 := gw hg HB; replace HB := aM (below_step (kl HB) hb); have NB105_110 := nl hg BK105; have NB110_105 := ng hg BK105; replace BK105 := bb BK105 hb; clear hb hbox hg; have hnb48 := NB110_105.out; have hnc48 := NB105_110.out; have hcz49_0 : w47.cell? ⟨gb110, 0, none⟩ = some (.string (⟨#[]⟩ : ByteArray)) := bc BK110 0; have hcz49_1 : w47.cell? ⟨gb110, 1, none⟩ = some (.int .i64 0) := bc BK110 1; have hfz49_0 := blk_frozen BK110.out 0; have hfz49_1 := blk_frozen BK110.out 1)))
        go_ret
        exact ⟨by first | rfl | (simp [errW_none, errW_some] <;> rfl) | (simp [*, errW_none, errW_some] <;> rfl), kl HB⟩
       rw [if_neg c46] at H
       have c46b0 : decide (24 < (((rd_T36 l0_2 x69_3).f0).size : Int)) = false := decide_eq_false c46
       have c46b1 : decide (24 < ((rd_T36 l0_2 x69_3).f0).size) = false := decide_eq_false (by omega)
       clear c46
       by_cases c50 : ((rd_T36 l0_2 x69_3).f1) < 2
       ·rw [if_pos c50] at H
        have c50b0 : decide (((rd_T36 l0_2 x69_3).f1) < 2) = true := decide_eq_true c50
        clear c50
        obtain rfl := Option.some.inj H
        have p109 : 0 ≤ (x69_3 : Int) := of_decide_eq_true (by first | (with_reducible assumption) | assumption)
        have q109 : x69_3 < (l0_2.length : Int) := of_decide_eq_true (by first | (with_reducible assumption) | assumption)
        obtain ⟨ad109, e109, hx109_0, hx109_1⟩ := at_T36 HR0_2.out x69_3 p109 q109
        cases e109
        replace hx109_0 := (HB.out.cell (World.block_lt_of_cell? w _ hx109_0)).trans hx109_0
        replace hx109_1 := (HB.out.cell (World.block_lt_of_cell? w _ hx109_1)).trans hx109_1
        replace p109 := eq_true p109
        replace q109 := eq_true q109
        go_wp2_with (first | ((with_reducible refine gate_dst (N := 6) rfl ?_); (try (refine gate_guard (by rfl) ?_; dsimp only)); refine box_event ?hg (N := 6) ?hd (cs := #[.string (⟨#[]⟩ : ByteArray), .int .i64 0]) (t := 36) ?hr ?_; (case hd => rfl); (case hg => rfl); (case hr => first | (go_simp; done) | (go_simp; rfl)); intro gb110 hg w51 hbox hb; have BK110 := aM (hbox); have GW110 := gw hg HB; have GE110 := gw hg HB; replace HB := aM (below_step (kl HB) hb); have NB105_110 := nl hg BK105; have NB110_105 := ng hg BK105; replace BK105 := bb BK105 hb; clear hb hbox hg; have hnb52 := NB110_105.out; have hnc52 := NB105_110.out; have hcz53_0 : w51.cell? ⟨gb110, 0, none⟩ = some (.string (⟨#[]⟩ : ByteArray)) := bc BK110 0; have hcz53_1 : w51.cell? ⟨gb110, 1, none⟩ = some (.int .i64 0) := bc BK110 1; have hfz53_0 := blk_frozen BK110.out 0; have hfz53_1 := blk_frozen BK110.out 1))
        repeat (go_quiet (fail); try go_wp2_with (first | ((with_reducible refine gate_dst (N := 6) rfl ?_); (try (refine gate_guard (by rfl) ?_; dsimp only)); refine box_event ?hg (N := 6) ?hd (cs := #[.string (⟨#[]⟩ : ByteArray), .int .i64 0]) (t := 36) ?hr ?_; (case hd => rfl); (case hg => rfl); (case hr => first | (go_simp; done) | (go_simp; rfl)); intro gb110 hg w51 hbox hb; have BK110 := aM (hbox); have GW110 := gw hg HB; have GE110 := gw hg HB; replace HB := aM (below_step (kl HB) hb); have NB105_110 := nl hg BK105; have NB110_105 := ng hg BK105; replace BK105 := bb BK105 hb; clear hb hbox hg; have hnb52 := NB110_105.out; have hnc52 := NB105_110.out; have hcz53_0 : w51.cell? ⟨gb110, 0, none⟩ = some (.string (⟨#[]⟩ : ByteArray)) := bc BK110 0; have hcz53_1 : w51.cell? ⟨gb110, 1, none⟩ = some (.int .i64 0) := bc BK110 1; have hfz53_0 := blk_frozen BK110.out 0; have hfz53_1 := blk_frozen BK110.out 1)))
        go_ret
        exact ⟨by first | rfl | (simp [errW_none, errW_some] <;> rfl) | (simp [*, errW_none, errW_some] <;> rfl), kl HB⟩
       rw [if_neg c50] at H
       have c50b0 : decide (((rd_T36 l0_2 x69_3).f1) < 2) = false := decide_eq_false c50
       clear c50
       by_cases c54 : ((rd_T36 l0_2 x69_3).f1) ≥ 1024
       ·rw [if_pos c54] at H
        have c54b0 : decide (1024 ≤ ((rd_T36 l0_2 x69_3).f1)) = true := decide_eq_true c54
        clear c54
        obtain rfl := Option.some.inj H
        have p109 : 0 ≤ (x69_3 : Int) := of_decide_eq_true (by first | (with_reducible assumption) | assumption)
        have q109 : x69_3 < (l0_2.length : Int) := of_decide_eq_true (by first | (with_reducible assumption) | assumption)
        obtain ⟨ad109, e109, hx109_0, hx109_1⟩ := at_T36 HR0_2.out x69_3 p109 q109
        cases e109
        replace hx109_0 := (HB.out.cell (World.block_lt_of_cell? w _ hx109_0)).trans hx109_0
        replace hx109_1 := (HB.out.cell (World.block_lt_of_cell? w _ hx109_1)).trans hx109_1
        replace p109 := eq_true p109
        replace q109 := eq_true q109
        go_wp2_with (first | ((with_reducible refine gate_dst (N := 6) rfl ?_); (try (refine gate_guard (by rfl) ?_; dsimp only)); refine box_event ?hg (N := 6) ?hd (cs := #[.string (⟨#[]⟩ : ByteArray), .int .i64 0]) (t := 36) ?hr ?_; (case hd => rfl); (case hg => rfl); (case hr => first | (go_simp; done) | (go_simp; rfl)); intro gb110 hg w55 hbox hb; have BK110 := aM (hbox); have GW110 := gw hg HB; have GE110 := gw hg HB; replace HB := aM (below_step (kl HB) hb); have NB105_110 := nl hg BK105; have NB110_105 := ng hg BK105; replace BK105 := bb BK105 hb; clear hb hbox hg; have hnb56 := NB110_105.out; have hnc56 := NB105_110.out; have hcz57_0 : w55.cell? ⟨gb110, 0, none⟩ = some (.string (⟨#[]⟩ : ByteArray)) := bc BK110 0; have hcz57_1 : w55.cell? ⟨gb110, 1, none⟩ = some (.int .i64 0) := bc BK110 1; have hfz57_0 := blk_frozen BK110.out 0; have hfz57_1 := blk_frozen BK110.out 1))
        repeat (go_quiet (fail); try go_wp2_with (first | ((with_reducible refine gate_dst (N := 6) rfl ?_); (try (refine gate_guard (by rfl) ?_; dsimp only)); refine box_event ?hg (N := 6) ?hd (cs := #[.string (⟨#[]⟩ : ByteArray), .int .i64 0]) (t := 36) ?hr ?_; (case hd => rfl); (case hg => rfl); (case hr => first | (go_simp; done) | (go_simp; rfl)); intro gb110 hg w55 hbox hb; have BK110 := aM (hbox); have GW110 := gw hg HB; have GE110 := gw hg HB; replace HB := aM (below_step (kl HB) hb); have NB105_110 := nl hg BK105; have NB110_105 := ng hg BK105; replace BK105 := bb BK105 hb; clear hb hbox hg; have hnb56 := NB110_105.out; have hnc56 := NB105_110.out; have hcz57_0 : w55.cell? ⟨gb110, 0, none⟩ = some (.string (⟨#[]⟩ : ByteArray)) := bc BK110 0; have hcz57_1 : w55.cell? ⟨gb110, 1, none⟩ = some (.int .i64 0) := bc BK110 1; have hfz57_0 := blk_frozen BK110.out 0; have hfz57_1 := blk_frozen BK110.out 1)))
        go_ret
        exact ⟨by first | rfl | (simp [errW_none, errW_some] <;> rfl) | (simp [*, errW_none, errW_some] <;> rfl), kl HB⟩
       rw [if_neg c54] at H
       have c54b0 : decide (1024 ≤ ((rd_T36 l0_2 x69_3).f1)) = false := decide_eq_false c54
       clear c54
       by_cases c58 : x69_3 > 0
       rotate_left
       ·rw [if_neg c58] at H
        have c58b0 : decide (0 < x69_3) = false := decide_eq_false c58
        clear c58
        have H' := aM H
        clear H
        have p109 : 0 ≤ (x69_3 : Int) := of_decide_eq_true (by first | (with_reducible assumption) | assumption)
        have q109 : x69_3 < (l0_2.length : Int) := of_decide_eq_true (by first | (with_reducible assumption) | assumption)
        obtain ⟨ad109, e109, hx109_0, hx109_1⟩ := at_T36 HR0_2.out x69_3 p109 q109
        cases e109
        replace hx109_0 := (HB.out.cell (World.block_lt_of_cell? w _ hx109_0)).trans hx109_0
        replace hx109_1 := (HB.out.cell (World.block_lt_of_cell? w _ hx109_1)).trans hx109_1
        replace p109 := eq_true p109
        replace q109 := eq_true q109
        go_wp2_with (first | ((with_reducible refine gate_dst (N := 6) rfl ?_); (try (refine gate_guard (by rfl) ?_; dsimp only)); refine box_event ?hg (N := 6) ?hd (cs := #[.string (⟨#[]⟩ : ByteArray), .int .i64 0]) (t := 36) ?hr ?_; (case hd => rfl); (case hg => rfl); (case hr => first | (go_simp; done) | (go_simp; rfl)); intro gb110 hg w71 hbox hb; have BK110 := aM (hbox); have GW110 := gw hg HB; have GE110 := gw hg HB; replace HB := aM (below_step (kl HB) hb); have NB105_110 := nl hg BK105; have NB110_105 := ng hg BK105; replace BK105 := bb BK105 hb; clear hb hbox hg; have hnb72 := NB110_105.out; have hnc72 := NB105_110.out; have hcz73_0 : w71.cell? ⟨gb110, 0, none⟩ = some (.string (⟨#[]⟩ : ByteArray)) := bc BK110 0; have hcz73_1 : w71.cell? ⟨gb110, 1, none⟩ = some (.int .i64 0) := bc BK110 1; have hfz73_0 := blk_frozen BK110.out 0; have hfz73_1 := blk_frozen BK110.out 1))
        repeat (go_quiet (fail); try go_wp2_with (first | ((with_reducible refine gate_dst (N := 6) rfl ?_); (try (refine gate_guard (by rfl) ?_; dsimp only)); refine box_event ?hg (N := 6) ?hd (cs := #[.string (⟨#[]⟩ : ByteArray), .int .i64 0]) (t := 36) ?hr ?_; (case hd => rfl); (case hg => rfl); (case hr => first | (go_simp; done) | (go_simp; rfl)); intro gb110 hg w71 hbox hb; have BK110 := aM (hbox); have GW110 := gw hg HB; have GE110 := gw hg HB; replace HB := aM (below_step (kl HB) hb); have NB105_110 := nl hg BK105; have NB110_105 := ng hg BK105; replace BK105 := bb BK105 hb; clear hb hbox hg; have hnb72 := NB110_105.out; have hnc72 := NB105_110.out; have hcz73_0 : w71.cell? ⟨gb110, 0, none⟩ = some (.string (⟨#[]⟩ : ByteArray)) := bc BK110 0; have hcz73_1 : w71.cell? ⟨gb110, 1, none⟩ = some (.int .i64 0) := bc BK110 1; have hfz73_0 := blk_frozen BK110.out 0; have hfz73_1 := blk_frozen BK110.out 1)))
        go_roundg k3
        case measure => have := HJ1.out; have := HK2.out; have := HK3.out; omega
        case rel => exact ⟨(wrap64 (x69_3 + 1)), (by first | rfl | (simp; done) | (simp [*]; done)), H', ⟨by have := HJ1.out; have := HK2.out; have := HK3.out; omega⟩, ⟨kf NB105_110 BK105⟩, ⟨kl HB⟩⟩
       rw [if_pos c58] at H
       have c58b0 : decide (0 < x69_3) = true := decide_eq_true c58
       clear c58
       obtain ⟨ji59, hji59⟩ : ∃ j_ : Int, (wrap64 (x69_3 - 1)) = j_ := ⟨_, rfl⟩
       replace H : (if 0 ≤ (ji59) then (if (ji59) < (l0_2.length : Int) then (if ((Op.bytesLess (((rd_T36 l0_2 (ji59)).f0).toList) (((rd_T36 l0_2 x69_3).f0).toList)) = true) then (leaf_May.l1 k3 l0_2 (l0_2.length : Int) (wrap64 (x69_3 + 1)) a0_0 l0_1 l0_2) else (some false)) else (none)) else (none)) = some r := by first | (rw [hji59] at H; exact H) | (simp only [hji59] at H ⊢; exact H)
       have hji59w : (IntKind.i64.wrap (x69_3 - 1)) = ji59 := (i64_w _).trans hji59
       by_cases c60 : 0 ≤ (ji59)
       rotate_left
       ·rw [if_neg c60] at H
        exact absurd H (by simp)
       rw [if_pos c60] at H
       have c60b0 : decide (0 ≤ (ji59)) = true := decide_eq_true c60
       clear c60
       by_cases c61 : (ji59) < (l0_2.length : Int)
       rotate_left
       ·rw [if_neg c61] at H
        exact absurd H (by simp)
       rw [if_pos c61] at H
       have c61b0 : decide ((ji59) < (l0_2.length : Int)) = true := decide_eq_true c61
       clear c61
       by_cases c62 : ((Op.bytesLess (((rd_T36 l0_2 (ji59)).f0).toList) (((rd_T36 l0_2 x69_3).f0).toList)) = true)
       ·rw [if_pos c62] at H
        have c62b0 : (Op.bytesLess (((rd_T36 l0_2 (ji59)).f0).toList) (((rd_T36 l0_2 x69_3).f0).toList)) = true := c62
        clear c62
        have H' := aM H
        clear H
        have p109 : 0 ≤ (x69_3 : Int) := of_decide_eq_true (by first | (with_reducible assumption) | assumption)
        have q109 : x69_3 < (l0_2.length : Int) := of_decide_eq_true (by first | (with_reducible assumption) | assumption)
        obtain ⟨ad109, e109, hx109_0, hx109_1⟩ := at_T36 HR0_2.out x69_3 p109 q109
        cases e109
        replace hx109_0 := (HB.out.cell (World.block_lt_of_cell? w _ hx109_0)).trans hx109_0
        replace hx109_1 := (HB.out.cell (World.block_lt_of_cell? w _ hx109_1)).trans hx109_1
        replace p109 := eq_true p109
        replace q109 := eq_true q109
        go_wp2_with (first | ((with_reducible refine gate_dst (N := 6) rfl ?_); (try (refine gate_guard (by rfl) ?_; dsimp only)); refine box_event ?hg (N := 6) ?hd (cs := #[.string (⟨#[]⟩ : ByteArray), .int .i64 0]) (t := 36) ?hr ?_; (case hd => rfl); (case hg => rfl); (case hr => first | (go_simp; done) | (go_simp; rfl)); intro gb110 hg w63 hbox hb; have BK110 := aM (hbox); have GW110 := gw hg HB; have GE110 := gw hg HB; replace HB := aM (below_step (kl HB) hb); have NB105_110 := nl hg BK105; have NB110_105 := ng hg BK105; replace BK105 := bb BK105 hb; clear hb hbox hg; have hnb64 := NB110_105.out; have hnc64 := NB105_110.out; have hcz65_0 : w63.cell? ⟨gb110, 0, none⟩ = some (.string (⟨#[]⟩ : ByteArray)) := bc BK110 0; have hcz65_1 : w63.cell? ⟨gb110, 1, none⟩ = some (.int .i64 0) := bc BK110 1; have hfz65_0 := blk_frozen BK110.out 0; have hfz65_1 := blk_frozen BK110.out 1; have hcz66_0 : w63.cell? ⟨gb105, 0, none⟩ = some (.bool a0_0) := bc BK105 0; have hcz66_1 : w63.cell? ⟨gb105, 1, none⟩ = some (.slice A0_1 l0_1.length c0_1) := bc BK105 1; have hcz66_2 : w63.cell? ⟨gb105, 2, none⟩ = some (.slice (some ad109) l0_2.length c0_2) := bc BK105 2; have hfz66_0 := blk_frozen BK105.out 0; have hfz66_1 := blk_frozen BK105.out 1; have hfz66_2 := blk_frozen BK105.out 2; have p111 : 0 ≤ ((ji59) : Int) := of_decide_eq_true (by first | (with_reducible assumption) | assumption); have q111 : (ji59) < (l0_2.length : Int) := of_decide_eq_true (by first | (with_reducible assumption) | assumption); obtain ⟨ad111, e111, hx111_0, hx111_1⟩ := at_T36 HR0_2.out (ji59) p111 q111; obtain rfl : ad109 = ad111 := (by injection e111); have hn111_0 : ad109.block ≠ gb110 := Nat.ne_of_lt (Nat.lt_of_lt_of_le (by have := World.block_lt_of_cell? _ _ hx111_0; first | rwa [add_block] at this | exact this) GW110.out); have hn111_1 : ad109.block ≠ gb110 := Nat.ne_of_lt (Nat.lt_of_lt_of_le (by have := World.block_lt_of_cell? _ _ hx111_0; first | rwa [add_block] at this | exact this) GW110.out); replace hx111_0 := (HB.out.cell (World.block_lt_of_cell? w _ hx111_0)).trans hx111_0; replace hx111_1 := (HB.out.cell (World.block_lt_of_cell? w _ hx111_1)).trans hx111_1; replace hx111_0 := (cell_far (p := ⟨gb110, 0, none⟩) (by first | (rw [add_block]; exact hn111_0) | (show (Addr.add _ _).block ≠ _; rw [add_block]; exact hn111_0) | exact hn111_0) (.string ((rd_T36 l0_2 x69_3).f0))).trans hx111_0; replace hx111_1 := (cell_far (p := ⟨gb110, 0, none⟩) (by first | (rw [add_block]; exact hn111_0) | (show (Addr.add _ _).block ≠ _; rw [add_block]; exact hn111_0) | exact hn111_0) (.string ((rd_T36 l0_2 x69_3).f0))).trans hx111_1; replace hx111_0 := (cell_far (p := ⟨gb110, 1, none⟩) (by first | (rw [add_block]; exact hn111_1) | (show (Addr.add _ _).block ≠ _; rw [add_block]; exact hn111_1) | exact hn111_1) (.int .i64 ((rd_T36 l0_2 x69_3).f1))).trans hx111_0; replace hx111_1 := (cell_far (p := ⟨gb110, 1, none⟩) (by first | (rw [add_block]; exact hn111_1) | (show (Addr.add _ _).block ≠ _; rw [add_block]; exact hn111_1) | exact hn111_1) (.int .i64 ((rd_T36 l0_2 x69_3).f1))).trans hx111_1; (try have hy111_0 := fun (n_ : Nat) => (show ((((w63.drewN n_).setCell ⟨gb110, 0, none⟩ (.string ((rd_T36 l0_2 x69_3).f0))).setCell ⟨gb110, 1, none⟩ (.int .i64 ((rd_T36 l0_2 x69_3).f1)))).cell? _ = some _ from hx111_0)); (try have hy111_1 := fun (n_ : Nat) => (show ((((w63.drewN n_).setCell ⟨gb110, 0, none⟩ (.string ((rd_T36 l0_2 x69_3).f0))).setCell ⟨gb110, 1, none⟩ (.int .i64 ((rd_T36 l0_2 x69_3).f1)))).cell? _ = some _ from hx111_1)); clear hn111_0; clear hn111_1; replace p111 := eq_true p111; replace q111 := eq_true q111))
        repeat (go_quiet (fail); try go_wp2_with (first | ((with_reducible refine gate_dst (N := 6) rfl ?_); (try (refine gate_guard (by rfl) ?_; dsimp only)); refine box_event ?hg (N := 6) ?hd (cs := #[.string (⟨#[]⟩ : ByteArray), .int .i64 0]) (t := 36) ?hr ?_; (case hd => rfl); (case hg => rfl); (case hr => first | (go_simp; done) | (go_simp; rfl)); intro gb110 hg w63 hbox hb; have BK110 := aM (hbox); have GW110 := gw hg HB; have GE110 := gw hg HB; replace HB := aM (below_step (kl HB) hb); have NB105_110 := nl hg BK105; have NB110_105 := ng hg BK105; replace BK105 := bb BK105 hb; clear hb hbox hg; have hnb64 := NB110_105.out; have hnc64 := NB105_110.out; have hcz65_0 : w63.cell? ⟨gb110, 0, none⟩ = some (.string (⟨#[]⟩ : ByteArray)) := bc BK110 0; have hcz65_1 : w63.cell? ⟨gb110, 1, none⟩ = some (.int .i64 0) := bc BK110 1; have hfz65_0 := blk_frozen BK110.out 0; have hfz65_1 := blk_frozen BK110.out 1; have hcz66_0 : w63.cell? ⟨gb105, 0, none⟩ = some (.bool a0_0) := bc BK105 0; have hcz66_1 : w63.cell? ⟨gb105, 1, none⟩ = some (.slice A0_1 l0_1.length c0_1) := bc BK105 1; have hcz66_2 : w63.cell? ⟨gb105, 2, none⟩ = some (.slice (some ad109) l0_2.length c0_2) := bc BK105 2; have hfz66_0 := blk_frozen BK105.out 0; have hfz66_1 := blk_frozen BK105.out 1; have hfz66_2 := blk_frozen BK105.out 2; have p111 : 0 ≤ ((ji59) : Int) := of_decide_eq_true (by first | (with_reducible assumption) | assumption); have q111 : (ji59) < (l0_2.length : Int) := of_decide_eq_true (by first | (with_reducible assumption) | assumption); obtain ⟨ad111, e111, hx111_0, hx111_1⟩ := at_T36 HR0_2.out (ji59) p111 q111; obtain rfl : ad109 = ad111 := (by injection e111); have hn111_0 : ad109.block ≠ gb110 := Nat.ne_of_lt (Nat.lt_of_lt_of_le (by have := World.block_lt_of_cell? _ _ hx111_0; first | rwa [add_block] at this | exact this) GW110.out); have hn111_1 : ad109.block ≠ gb110 := Nat.ne_of_lt (Nat.lt_of_lt_of_le (by have := World.block_lt_of_cell? _ _ hx111_0; first | rwa [add_block] at this | exact this) GW110.out); replace hx111_0 := (HB.out.cell (World.block_lt_of_cell? w _ hx111_0)).trans hx111_0; replace hx111_1 := (HB.out.cell (World.block_lt_of_cell? w _ hx111_1)).trans hx111_1; replace hx111_0 := (cell_far (p := ⟨gb110, 0, none⟩) (by first | (rw [add_block]; exact hn111_0) | (show (Addr.add _ _).block ≠ _; rw [add_block]; exact hn111_0) | exact hn111_0) (.string ((rd_T36 l0_2 x69_3).f0))).trans hx111_0; replace hx111_1 := (cell_far (p := ⟨gb110, 0, none⟩) (by first | (rw [add_block]; exact hn111_0) | (show (Addr.add _ _).block ≠ _; rw [add_block]; exact hn111_0) | exact hn111_0) (.string ((rd_T36 l0_2 x69_3).f0))).trans hx111_1; replace hx111_0 := (cell_far (p := ⟨gb110, 1, none⟩) (by first | (rw [add_block]; exact hn111_1) | (show (Addr.add _ _).block ≠ _; rw [add_block]; exact hn111_1) | exact hn111_1) (.int .i64 ((rd_T36 l0_2 x69_3).f1))).trans hx111_0; replace hx111_1 := (cell_far (p := ⟨gb110, 1, none⟩) (by first | (rw [add_block]; exact hn111_1) | (show (Addr.add _ _).block ≠ _; rw [add_block]; exact hn111_1) | exact hn111_1) (.int .i64 ((rd_T36 l0_2 x69_3).f1))).trans hx111_1; (try have hy111_0 := fun (n_ : Nat) => (show ((((w63.drewN n_).setCell ⟨gb110, 0, none⟩ (.string ((rd_T36 l0_2 x69_3).f0))).setCell ⟨gb110, 1, none⟩ (.int .i64 ((rd_T36 l0_2 x69_3).f1)))).cell? _ = some _ from hx111_0)); (try have hy111_1 := fun (n_ : Nat) => (show ((((w63.drewN n_).setCell ⟨gb110, 0, none⟩ (.string ((rd_T36 l0_2 x69_3).f0))).setCell ⟨gb110, 1, none⟩ (.int .i64 ((rd_T36 l0_2 x69_3).f1)))).cell? _ = some _ from hx111_1)); clear hn111_0; clear hn111_1; replace p111 := eq_true p111; replace q111 := eq_true q111)))
        go_roundg k3
        case measure => have := HJ1.out; have := HK2.out; have := HK3.out; omega
        case rel => exact ⟨(wrap64 (x69_3 + 1)), (by first | rfl | (simp; done) | (simp [*]; done)), H', ⟨by have := HJ1.out; have := HK2.out; have := HK3.out; omega⟩, ⟨kf NB105_110 BK105⟩, ⟨kl HB⟩⟩
       rw [if_neg c62] at H
       have c62b0 : (Op.bytesLess (((rd_T36 l0_2 (ji59)).f0).toList) (((rd_T36 l0_2 x69_3).f0).toList)) = false := by simpa using c62
       clear c62
       obtain rfl := Option.some.inj H
       have p109 : 0 ≤ (x69_3 : Int) := of_decide_eq_true (by first | (with_reducible assumption) | assumption)
       have q109 : x69_3 < (l0_2.length : Int) := of_decide_eq_true (by first | (with_reducible assumption) | assumption)
       obtain ⟨ad109, e109, hx109_0, hx109_1⟩ := at_T36 HR0_2.out x69_3 p109 q109
       cases e109
       replace hx109_0 := (HB.out.cell (World.block_lt_of_cell? w _ hx109_0)).trans hx109_0
       replace hx109_1 := (HB.out.cell (World.block_lt_of_cell? w _ hx109_1)).trans hx109_1
       replace p109 := eq_true p109
       replace q109 := eq_true q109
       go_wp2_with (first | ((with_reducible refine gate_dst (N := 6) rfl ?_); (try (refine gate_guard (by rfl) ?_; dsimp only)); refine box_event ?hg (N := 6) ?hd (cs := #[.string (⟨#[]⟩ : ByteArray), .int .i64 0]) (t := 36) ?hr ?_; (case hd => rfl); (case hg => rfl); (case hr => first | (go_simp; done) | (go_simp; rfl)); intro gb110 hg w67 hbox hb; have BK110 := aM (hbox); have GW110 := gw hg HB; have GE110 := gw hg HB; replace HB := aM (below_step (kl HB) hb); have NB105_110 := nl hg BK105; have NB110_105 := ng hg BK105; replace BK105 := bb BK105 hb; clear hb hbox hg; have hnb68 := NB110_105.out; have hnc68 := NB105_110.out; have hcz69_0 : w67.cell? ⟨gb110, 0, none⟩ = some (.string (⟨#[]⟩ : ByteArray)) := bc BK110 0; have hcz69_1 : w67.cell? ⟨gb110, 1, none⟩ = some (.int .i64 0) := bc BK110 1; have hfz69_0 := blk_frozen BK110.out 0; have hfz69_1 := blk_frozen BK110.out 1; have hcz70_0 : w67.cell? ⟨gb105, 0, none⟩ = some (.bool a0_0) := bc BK105 0; have hcz70_1 : w67.cell? ⟨gb105, 1, none⟩ = some (.slice A0_1 l0_1.length c0_1) := bc BK105 1; have hcz70_2 : w67.cell? ⟨gb105, 2, none⟩ = some (.slice (some ad109) l0_2.length c0_2) := bc BK105 2; have hfz70_0 := blk_frozen BK105.out 0; have hfz70_1 := blk_frozen BK105.out 1; have hfz70_2 := blk_frozen BK105.out 2; have p111 : 0 ≤ ((ji59) : Int) := of_decide_eq_true (by first | (with_reducible assumption) | assumption); have q111 : (ji59) < (l0_2.length : Int) := of_decide_eq_true (by first | (with_reducible assumption) | assumption); obtain ⟨ad111, e111, hx111_0, hx111_1⟩ := at_T36 HR0_2.out (ji59) p111 q111; obtain rfl : ad109 = ad111 := (by injection e111); have hn111_0 : ad109.block ≠ gb110 := Nat.ne_of_lt (Nat.lt_of_lt_of_le (by have := World.block_lt_of_cell? _ _ hx111_0; first | rwa [add_block] at this | exact this) GW110.out); have hn111_1 : ad109.block ≠ gb110 := Nat.ne_of_lt (Nat.lt_of_lt_of_le (by have := World.block_lt_of_cell? _ _ hx111_0; first | rwa [add_block] at this | exact this) GW110.out); replace hx111_0 := (HB.out.cell (World.block_lt_of_cell? w _ hx111_0)).trans hx111_0; replace hx111_1 := (HB.out.cell (World.block_lt_of_cell? w _ hx111_1)).trans hx111_1; replace hx111_0 := (cell_far (p := ⟨gb110, 0, none⟩) (by first | (rw [add_block]; exact hn111_0) | (show (Addr.add _ _).block ≠ _; rw [add_block]; exact hn111_0) | exact hn111_0) (.string ((rd_T36 l0_2 x69_3).f0))).trans hx111_0; replace hx111_1 := (cell_far (p := ⟨gb110, 0, none⟩) (by first | (rw [add_block]; exact hn111_0) | (show (Addr.add _ _).block ≠ _; rw [add_block]; exact hn111_0) | exact hn111_0) (.string ((rd_T36 l0_2 x69_3).f0))).trans hx111_1; replace hx111_0 := (cell_far (p := ⟨gb110, 1, none⟩) (by first | (rw [add_block]; exact hn111_1) | (show (Addr.add _ _).block ≠ _; rw [add_block]; exact hn111_1) | exact hn111_1) (.int .i64 ((rd_T36 l0_2 x69_3).f1))).trans hx111_0; replace hx111_1 := (cell_far (p := ⟨gb110, 1, none⟩) (by first | (rw [add_block]; exact hn111_1) | (show (Addr.add _ _).block ≠ _; rw [add_block]; exact hn111_1) | exact hn111_1) (.int .i64 ((rd_T36 l0_2 x69_3).f1))).trans hx111_1; (try have hy111_0 := fun (n_ : Nat) => (show ((((w67.drewN n_).setCell ⟨gb110, 0, none⟩ (.string ((rd_T36 l0_2 x69_3).f0))).setCell ⟨gb110, 1, none⟩ (.int .i64 ((rd_T36 l0_2 x69_3).f1)))).cell? _ = some _ from hx111_0)); (try have hy111_1 := fun (n_ : Nat) => (show ((((w67.drewN n_).setCell ⟨gb110, 0, none⟩ (.string ((rd_T36 l0_2 x69_3).f0))).setCell ⟨gb110, 1, none⟩ (.int .i64 ((rd_T36 l0_2 x69_3).f1)))).cell? _ = some _ from hx111_1)); clear hn111_0; clear hn111_1; replace p111 := eq_true p111; replace q111 := eq_true q111))
       repeat (go_quiet (fail); try go_wp2_with (first | ((with_reducible refine gate_dst (N := 6) rfl ?_); (try (refine gate_guard (by rfl) ?_; dsimp only)); refine box_event ?hg (N := 6) ?hd (cs := #[.string (⟨#[]⟩ : ByteArray), .int .i64 0]) (t := 36) ?hr ?_; (case hd => rfl); (case hg => rfl); (case hr => first | (go_simp; done) | (go_simp; rfl)); intro gb110 hg w67 hbox hb; have BK110 := aM (hbox); have GW110 := gw hg HB; have GE110 := gw hg HB; replace HB := aM (below_step (kl HB) hb); have NB105_110 := nl hg BK105; have NB110_105 := ng hg BK105; replace BK105 := bb BK105 hb; clear hb hbox hg; have hnb68 := NB110_105.out; have hnc68 := NB105_110.out; have hcz69_0 : w67.cell? ⟨gb110, 0, none⟩ = some (.string (⟨#[]⟩ : ByteArray)) := bc BK110 0; have hcz69_1 : w67.cell? ⟨gb110, 1, none⟩ = some (.int .i64 0) := bc BK110 1; have hfz69_0 := blk_frozen BK110.out 0; have hfz69_1 := blk_frozen BK110.out 1; have hcz70_0 : w67.cell? ⟨gb105, 0, none⟩ = some (.bool a0_0) := bc BK105 0; have hcz70_1 : w67.cell? ⟨gb105, 1, none⟩ = some (.slice A0_1 l0_1.length c0_1) := bc BK105 1; have hcz70_2 : w67.cell? ⟨gb105, 2, none⟩ = some (.slice (some ad109) l0_2.length c0_2) := bc BK105 2; have hfz70_0 := blk_frozen BK105.out 0; have hfz70_1 := blk_frozen BK105.out 1; have hfz70_2 := blk_frozen BK105.out 2; have p111 : 0 ≤ ((ji59) : Int) := of_decide_eq_true (by first | (with_reducible assumption) | assumption); have q111 : (ji59) < (l0_2.length : Int) := of_decide_eq_true (by first | (with_reducible assumption) | assumption); obtain ⟨ad111, e111, hx111_0, hx111_1⟩ := at_T36 HR0_2.out (ji59) p111 q111; obtain rfl : ad109 = ad111 := (by injection e111); have hn111_0 : ad109.block ≠ gb110 := Nat.ne_of_lt (Nat.lt_of_lt_of_le (by have := World.block_lt_of_cell? _ _ hx111_0; first | rwa [add_block] at this | exact this) GW110.out); have hn111_1 : ad109.block ≠ gb110 := Nat.ne_of_lt (Nat.lt_of_lt_of_le (by have := World.block_lt_of_cell? _ _ hx111_0; first | rwa [add_block] at this | exact this) GW110.out); replace hx111_0 := (HB.out.cell (World.block_lt_of_cell? w _ hx111_0)).trans hx111_0; replace hx111_1 := (HB.out.cell (World.block_lt_of_cell? w _ hx111_1)).trans hx111_1; replace hx111_0 := (cell_far (p := ⟨gb110, 0, none⟩) (by first | (rw [add_block]; exact hn111_0) | (show (Addr.add _ _).block ≠ _; rw [add_block]; exact hn111_0) | exact hn111_0) (.string ((rd_T36 l0_2 x69_3).f0))).trans hx111_0; replace hx111_1 := (cell_far (p := ⟨gb110, 0, none⟩) (by first | (rw [add_block]; exact hn111_0) | (show (Addr.add _ _).block ≠ _; rw [add_block]; exact hn111_0) | exact hn111_0) (.string ((rd_T36 l0_2 x69_3).f0))).trans hx111_1; replace hx111_0 := (cell_far (p := ⟨gb110, 1, none⟩) (by first | (rw [add_block]; exact hn111_1) | (show (Addr.add _ _).block ≠ _; rw [add_block]; exact hn111_1) | exact hn111_1) (.int .i64 ((rd_T36 l0_2 x69_3).f1))).trans hx111_0; replace hx111_1 := (cell_far (p := ⟨gb110, 1, none⟩) (by first | (rw [add_block]; exact hn111_1) | (show (Addr.add _ _).block ≠ _; rw [add_block]; exact hn111_1) | exact hn111_1) (.int .i64 ((rd_T36 l0_2 x69_3).f1))).trans hx111_1; (try have hy111_0 := fun (n_ : Nat) => (show ((((w67.drewN n_).setCell ⟨gb110, 0, none⟩ (.string ((rd_T36 l0_2 x69_3).f0))).setCell ⟨gb110, 1, none⟩ (.int .i64 ((rd_T36 l0_2 x69_3).f1)))).cell? _ = some _ from hx111_0)); (try have hy111_1 := fun (n_ : Nat) => (show ((((w67.drewN n_).setCell ⟨gb110, 0, none⟩ (.string ((rd_T36 l0_2 x69_3).f0))).setCell ⟨gb110, 1, none⟩ (.int .i64 ((rd_T36 l0_2 x69_3).f1)))).cell? _ = some _ from hx111_1)); clear hn111_0; clear hn111_1; replace p111 := eq_true p111; replace q111 := eq_true q111)))
       go_ret
       exact ⟨by first | rfl | (simp [errW_none, errW_some] <;> rfl) | (simp only [← hji59]; first | rfl | (simp [errW_none, errW_some] <;> rfl)) | (simp [*, errW_none, errW_some] <;> rfl), kl HB⟩
end Go.Proofs.Ytfbaejhjppikpaa.P
namespace Go.Proofs.Ytfbaejhjppikpaa.P
open Go.RowKit Go.Proofs.YtfbaejhjppikpaaW.PrintWords Go.Proofs.YtfbaejhjppikpaaW.PrintLast Go.Proofs.YtfbaejhjppikpaaW.PrintMore
def keyE (l : List S47) (i : Nat) : List UInt8 := (rd_T47 l (i : Int)).f0.toList
def keyB (l : List S36) (i : Nat) : List UInt8 := (rd_T36 l (i : Int)).f0.toList
def okE (l : List S47) (i : Nat) : Bool :=
  !(keyE l i).isEmpty && decide ((rd_T47 l (i : Int)).f0.size ≤ 24) && decide ((rd_T47 l (i : Int)).f1.size ≤ 100) && (decide (i = 0) || Op.bytesLess (keyE l (i - 1)) (keyE l i))
def okB (l : List S36) (i : Nat) : Bool :=
  decide ((rd_T36 l (i : Int)).f0.size ≤ 24) && decide (2 ≤ (rd_T36 l (i : Int)).f1) && decide ((rd_T36 l (i : Int)).f1 < 1024) && (decide (i = 0) || Op.bytesLess (keyB l (i - 1)) (keyB l i))
def allFrom (p : Nat → Bool) : Nat → Nat → Bool
  | _, 0 => true
  | i, d + 1 => p i && allFrom p (i + 1) d
theorem allFrom_iff (p : Nat → Bool) : ∀ d i, allFrom p i d = true ↔ ∀ j, i ≤ j → j < i + d → p j = true := by
  intro d
  induction d with
  | zero => intro i; simp only [allFrom, true_iff]; intro j h1 h2; omega
  | succ d ih =>
    intro i
    simp only [allFrom, Bool.and_eq_true, ih]
    constructor
    · rintro ⟨h, h'⟩ j h1 h2
      by_cases e : j = i
      · exact e ▸ h
      · exact h' j (by omega) (by omega)
    · intro h
      exact ⟨h i (by omega) (by omega), fun j h1 h2 => h j (by omega) (by omega)⟩
def mayB (a : Bool) (l : List S47) (m : List S36) : Bool := (if a then m.isEmpty else l.isEmpty) && (allFrom (okE l) 0 l.length && allFrom (okB m) 0 m.length)
theorem wrap_nat (i : Nat) (h : i ≤ 1000000000000) : wrap64 ((i : Int) + 1) = ((i + 1 : Nat) : Int) := by unfold wrap64; omega
theorem wrap_pred (i : Nat) (h : i ≤ 1000000000000) (h0 : 0 < i) : wrap64 ((i : Int) - 1) = ((i - 1 : Nat) : Int) := by unfold wrap64; omega
theorem may_one {X : Option Bool} (l : List S47) (i : Nat) (hi : i < l.length) (hl : l.length ≤ 1000000000000) :
    (if ((rd_T47 l (i : Int)).f0).toList = ([] : List UInt8) then (some false) else (if (((rd_T47 l (i : Int)).f0).size : Int) > 24 then (some false) else (if (((rd_T47 l (i : Int)).f1).size : Int) > 100 then (some false) else (if (i : Int) > 0 then (if 0 ≤ (wrap64 ((i : Int) - 1)) then (if (wrap64 ((i : Int) - 1)) < (l.length : Int) then (if ((Op.bytesLess (((rd_T47 l (wrap64 ((i : Int) - 1))).f0).toList) (((rd_T47 l (i : Int)).f0).toList)) = true) then X else (some false)) else (none)) else (none)) else X)))) = if okE l i then X else some false := by
  unfold okE keyE
  by_cases c1 : ((rd_T47 l (i : Int)).f0).toList = ([] : List UInt8)
  · rw [if_pos c1]; simp [c1]
  rw [if_neg c1]
  by_cases c2 : (((rd_T47 l (i : Int)).f0).size : Int) > 24
  · rw [if_pos c2]; have : ¬ ((rd_T47 l (i : Int)).f0).size ≤ 24 := by omega
    simp [this]
  rw [if_neg c2]
  by_cases c3 : (((rd_T47 l (i : Int)).f1).size : Int) > 100
  · rw [if_pos c3]; have : ¬ ((rd_T47 l (i : Int)).f1).size ≤ 100 := by omega
    simp [this]
  rw [if_neg c3]
  have d1 : (((rd_T47 l (i : Int)).f0).toList).isEmpty = false := by rw [Bool.eq_false_iff]; exact fun h => c1 (List.isEmpty_iff.1 h)
  have d2 : decide (((rd_T47 l (i : Int)).f0).size ≤ 24) = true := decide_eq_true (by omega)
  have d3 : decide (((rd_T47 l (i : Int)).f1).size ≤ 100) = true := decide_eq_true (by omega)
  rw [d1, d2, d3]
  by_cases h0 : i = 0
  · subst h0; simp
  · rw [if_pos (by omega), wrap_pred i (by omega) (by omega), if_pos (by omega), if_pos (by omega)]
    simp [h0]
theorem mayB_one {X : Option Bool} (l : List S36) (i : Nat) (hi : i < l.length) (hl : l.length ≤ 1000000000000) :
    (if (((rd_T36 l (i : Int)).f0).size : Int) > 24 then (some false) else (if ((rd_T36 l (i : Int)).f1) < 2 then (some false) else (if ((rd_T36 l (i : Int)).f1) ≥ 1024 then (some false) else (if (i : Int) > 0 then (if 0 ≤ (wrap64 ((i : Int) - 1)) then (if (wrap64 ((i : Int) - 1)) < (l.length : Int) then (if ((Op.bytesLess (((rd_T36 l (wrap64 ((i : Int) - 1))).f0).toList) (((rd_T36 l (i : Int)).f0).toList)) = true) then X else (some false)) else (none)) else (none)) else X)))) = if okB l i then X else some false := by
  unfold okB keyB
  by_cases c2 : (((rd_T36 l (i : Int)).f0).size : Int) > 24
  · rw [if_pos c2]; have : ¬ ((rd_T36 l (i : Int)).f0).size ≤ 24 := by omega
    simp [this]
  rw [if_neg c2]
  by_cases c3 : (rd_T36 l (i : Int)).f1 < 2
  · rw [if_pos c3]; have : ¬ 2 ≤ (rd_T36 l (i : Int)).f1 := by omega
    simp [this]
  rw [if_neg c3]
  by_cases c4 : (rd_T36 l (i : Int)).f1 ≥ 1024
  · rw [if_pos c4]; have : ¬ (rd_T36 l (i : Int)).f1 < 1024 := by omega
    simp [this]
  rw [if_neg c4]
  have d2 : decide (((rd_T36 l (i : Int)).f0).size ≤ 24) = true := decide_eq_true (by omega)
  have d3 : decide (2 ≤ (rd_T36 l (i : Int)).f1) = true := decide_eq_true (by omega)
  have d4 : decide ((rd_T36 l (i : Int)).f1 < 1024) = true := decide_eq_true (by omega)
  rw [d2, d3, d4]
  by_cases h0 : i = 0
  · subst h0; simp
  · rw [if_pos (by omega), wrap_pred i (by omega) (by omega), if_pos (by omega), if_pos (by omega)]
    simp [h0]
theorem may_l1 (a : Bool) (l : List S47) (m : List S36) (hm : m.length ≤ 1000000000000) : ∀ (d i k : Nat), i + d = m.length → leaf_May.l1 (d + (k + 1)) m (m.length : Int) (i : Int) a l m = some (allFrom (okB m) i d) := by
  intro d
  induction d with
  | zero =>
    intro i k h
    rw [show 0 + (k + 1) = k + 1 from by omega]
    simp only [leaf_May.l1, allFrom]
    rw [if_neg (by omega)]
  | succ d ih =>
    intro i k h
    obtain ⟨q, hq⟩ : ∃ q, q = d + (k + 1) := ⟨_, rfl⟩
    rw [show d + 1 + (k + 1) = q + 1 from by omega]
    simp only [leaf_May.l1]
    rw [if_pos (by omega), if_pos (by omega), if_pos (by omega), mayB_one m i (by omega) hm, wrap_nat i (by omega), hq, ih (i + 1) k (by omega)]
    simp only [allFrom]
    cases okB m i <;> simp
theorem may_l0 (a : Bool) (l : List S47) (m : List S36) (hl : l.length ≤ 1000000000000) : ∀ (d i k : Nat), i + d = l.length → leaf_May.l0 (d + (k + 1)) l (l.length : Int) (i : Int) a l m = if allFrom (okE l) i d then leaf_May.l1 k m (m.length : Int) 0 a l m else some false := by
  intro d
  induction d with
  | zero =>
    intro i k h
    rw [show 0 + (k + 1) = k + 1 from by omega]
    simp only [leaf_May.l0, allFrom]
    rw [if_neg (by omega)]; rfl
  | succ d ih =>
    intro i k h
    obtain ⟨q, hq⟩ : ∃ q, q = d + (k + 1) := ⟨_, rfl⟩
    rw [show d + 1 + (k + 1) = q + 1 from by omega]
    simp only [leaf_May.l0]
    rw [if_pos (by omega), if_pos (by omega), if_pos (by omega), may_one l i (by omega) hl, wrap_nat i (by omega), hq, ih (i + 1) k (by omega)]
    simp only [allFrom]
    by_cases ho : okE l i = true <;> simp [ho]
theorem may_tells (a : Bool) (l : List S47) (m : List S36) (hl : l.length ≤ 1000000000000) (hm : m.length ≤ 1000000000000) : ∀ k, l.length + m.length + 3 ≤ k → leaf_May.f k a l m = some (mayB a l m) := by
  intro k hk
  obtain ⟨k, rfl⟩ : ∃ q, k = q + 1 := ⟨k - 1, by omega⟩
  have H : leaf_May.l0 k l (l.length : Int) 0 a l m = some (allFrom (okE l) 0 l.length && allFrom (okB m) 0 m.length) := by
    obtain ⟨q, hq⟩ : ∃ q, k = l.length + ((m.length + (q + 1)) + 1) := ⟨k - l.length - m.length - 2, by omega⟩
    rw [hq]
    have h0 := may_l0 a l m hl l.length 0 (m.length + (q + 1)) (by omega)
    have h1 := may_l1 a l m hm m.length 0 q (by omega)
    simp only [Int.natCast_zero] at h0 h1
    rw [h0, h1]
    by_cases ho : allFrom (okE l) 0 l.length = true <;> simp [ho]
  have hj : ∀ b, leaf_May.j0 (k + 1) b a l m = if b then some false else some (allFrom (okE l) 0 l.length && allFrom (okB m) 0 m.length) := by
    intro b
    simp only [leaf_May.j0]
    rw [H]
  unfold leaf_May.f mayB
  cases a with
  | true =>
    simp only [if_true, hj]
    cases m with
    | nil => simp
    | cons x m => rw [if_pos (by simp)]; simp
  | false =>
    simp only [Bool.false_eq_true, if_false, hj]
    cases l with
    | nil => simp
    | cons x l => simp
end Go.Proofs.Ytfbaejhjppikpaa.P
namespace Go.Proofs.Ytfbaejhjppikpaa.P
open Go.RowKit Go.Proofs.YtfbaejhjppikpaaW.PrintWords Go.Proofs.YtfbaejhjppikpaaW.PrintLast Go.Proofs.YtfbaejhjppikpaaW.PrintMore
def sizeE (e : S47) : Int := 2 + e.f0.size + e.f1.size
def sizeB (e : S36) : Int := 3 + e.f0.size
def sizesN (l : List S47) (m : List S36) : List Int := l.map sizeE ++ m.map sizeB
def sizeN (l : List S47) (m : List S36) : Int := 1 + (sizesN l m).sum
structure Small (l : List S47) (m : List S36) : Prop where
  l_len : l.length ≤ 1000
  m_len : m.length ≤ 1000
  l_all : ∀ x ∈ l, x.f0.size ≤ 1000 ∧ x.f1.size ≤ 1000
  m_all : ∀ x ∈ m, x.f0.size ≤ 1000
theorem rdE (l : List S47) (i : Nat) (h : i < l.length) : rd_T47 l (i : Int) = l[i] := by unfold rd_T47; simp [List.getD_eq_getElem?_getD, h]
theorem rdB (l : List S36) (i : Nat) (h : i < l.length) : rd_T36 l (i : Int) = l[i] := by unfold rd_T36; simp [List.getD_eq_getElem?_getD, h]
theorem rd_at (l : List Int) (i : Nat) (h : i < l.length) : rd l (i : Int) = l[i] := by unfold rd; simp [List.getD_eq_getElem?_getD, h]
theorem sizes_l1 (m : List S36) (hm : m.length ≤ 1000) (hs : ∀ x ∈ m, x.f0.size ≤ 1000) : ∀ (d i k : Nat) (out : List Int), i + d = m.length → out.length ≤ 1000 + i → leaf_sizes.l1 (d + (k + 1)) out m (m.length : Int) (i : Int) = some (out ++ (m.drop i).map sizeB) := by
  intro d
  induction d with
  | zero =>
    intro i k out h ho
    rw [show 0 + (k + 1) = k + 1 from by omega]
    simp only [leaf_sizes.l1]
    rw [if_neg (by omega), List.drop_eq_nil_of_le (by omega)]; simp
  | succ d ih =>
    intro i k out h ho
    obtain ⟨q, hq⟩ : ∃ q, q = d + (k + 1) := ⟨_, rfl⟩
    rw [show d + 1 + (k + 1) = q + 1 from by omega]
    simp only [leaf_sizes.l1]
    have hi : i < m.length := by omega
    have h1 := hs m[i] (List.getElem_mem hi)
    rw [if_pos (by omega), if_pos (by omega), if_pos (by omega), if_pos (by omega), wrap_nat i (by omega), hq, ih (i + 1) k _ (by omega) (by simp; omega), rdB m i hi, List.drop_eq_getElem_cons hi, show wrap64 (3 + (m[i].f0.size : Int)) = sizeB m[i] from by unfold wrap64 sizeB; omega, List.map_cons, List.append_assoc, List.singleton_append]
theorem sizes_l0 (a : Bool) (l : List S47) (m : List S36) (hl : l.length ≤ 1000) (hs : ∀ x ∈ l, x.f0.size ≤ 1000 ∧ x.f1.size ≤ 1000) : ∀ (d i k : Nat) (out : List Int), i + d = l.length → out.length ≤ i → leaf_sizes.l0 (d + (k + 1)) out l (l.length : Int) (i : Int) a l m = leaf_sizes.l1 k (out ++ (l.drop i).map sizeE) m (m.length : Int) 0 := by
  intro d
  induction d with
  | zero =>
    intro i k out h ho
    rw [show 0 + (k + 1) = k + 1 from by omega]
    simp only [leaf_sizes.l0]
    rw [if_neg (by omega), List.drop_eq_nil_of_le (by omega)]; simp
  | succ d ih =>
    intro i k out h ho
    obtain ⟨q, hq⟩ : ∃ q, q = d + (k + 1) := ⟨_, rfl⟩
    rw [show d + 1 + (k + 1) = q + 1 from by omega]
    simp only [leaf_sizes.l0]
    have hi : i < l.length := by omega
    have h1 := hs l[i] (List.getElem_mem hi)
    rw [if_pos (by omega), if_pos (by omega), if_pos (by omega), if_pos (by omega), wrap_nat i (by omega), hq, ih (i + 1) k _ (by omega) (by simp; omega), rdE l i hi, List.drop_eq_getElem_cons hi, show wrap64 (wrap64 (2 + (l[i].f0.size : Int)) + (l[i].f1.size : Int)) = sizeE l[i] from by unfold wrap64 sizeE; omega, List.map_cons, List.append_assoc, List.singleton_append]
theorem sizes_tells (a : Bool) (l : List S47) (m : List S36) (h : Small l m) : ∀ k, l.length + m.length + 2 ≤ k → leaf_sizes.f k a l m = some (sizesN l m) := by
  intro k hk
  unfold leaf_sizes.f sizesN
  obtain ⟨q, hq⟩ : ∃ q, k = l.length + ((m.length + (q + 1)) + 1) := ⟨k - l.length - m.length - 2, by omega⟩
  rw [hq]
  have h0 := sizes_l0 a l m h.l_len h.l_all l.length 0 (m.length + (q + 1)) [] (by omega) (by simp)
  have h1 := sizes_l1 m h.m_len h.m_all m.length 0 q (l.map sizeE) (by omega) (by simp; have := h.l_len; omega)
  simp only [Int.natCast_zero, List.drop_zero, List.nil_append] at h0 h1
  rw [h0, h1]
theorem size_l0 (xs : List Int) (hx : ∀ x ∈ xs, 0 ≤ x ∧ x ≤ 1000000) (hn : xs.length ≤ 1000000) : ∀ (d i k : Nat) (acc : Int), i + d = xs.length → 0 ≤ acc → acc ≤ 1 + 1000000 * i → leaf_Size.l0 (d + (k + 1)) acc xs (xs.length : Int) (i : Int) = some (acc + (xs.drop i).sum) := by
  intro d
  induction d with
  | zero =>
    intro i k acc h h0 h1
    rw [show 0 + (k + 1) = k + 1 from by omega]
    simp only [leaf_Size.l0]
    rw [if_neg (by omega), List.drop_eq_nil_of_le (by omega)]; simp
  | succ d ih =>
    intro i k acc h h0 h1
    obtain ⟨q, hq⟩ : ∃ q, q = d + (k + 1) := ⟨_, rfl⟩
    rw [show d + 1 + (k + 1) = q + 1 from by omega]
    simp only [leaf_Size.l0]
    have hi : i < xs.length := by omega
    have h2 := hx xs[i] (List.getElem_mem hi)
    rw [if_pos (by omega), if_pos (by omega), if_pos (by omega), wrap_nat i (by omega), rd_at xs i hi, show wrap64 (acc + xs[i]) = acc + xs[i] from by unfold wrap64; omega, hq, ih (i + 1) k _ (by omega) (by omega) (by push_cast; omega), List.drop_eq_getElem_cons hi, List.sum_cons]
    congr 1; omega
theorem sizesN_all (l : List S47) (m : List S36) (h : Small l m) : ∀ x ∈ sizesN l m, 2 ≤ x ∧ x ≤ 1000000 := by
  intro x hx
  unfold sizesN at hx
  rcases List.mem_append.1 hx with hx | hx
  · obtain ⟨e, he, rfl⟩ := List.mem_map.1 hx
    have := h.l_all e he
    unfold sizeE; omega
  · obtain ⟨e, he, rfl⟩ := List.mem_map.1 hx
    have := h.m_all e he
    unfold sizeB; omega
theorem size_tells (a : Bool) (l : List S47) (m : List S36) (h : Small l m) : ∀ k, l.length + m.length + 2 ≤ k → leaf_Size.f k a l m = some (sizeN l m) := by
  intro k hk
  unfold leaf_Size.f
  rw [sizes_tells a l m h k hk]
  simp only [Option.bind_some]
  have hl : (sizesN l m).length = l.length + m.length := by simp [sizesN]
  obtain ⟨q, hq⟩ : ∃ q, k = (sizesN l m).length + (q + 1) := ⟨k - l.length - m.length - 1, by omega⟩
  rw [hq]
  have h1 := h.l_len
  have h2 := h.m_len
  have := size_l0 (sizesN l m) (fun x hx => by have := sizesN_all l m h x hx; omega) (by omega) (sizesN l m).length 0 q 1 (by omega) (by omega) (by omega)
  simpa [sizeN] using this
theorem fits_tells (a : Bool) (l : List S47) (m : List S36) (h : Small l m) : ∀ k, l.length + m.length + 2 ≤ k → leaf_Fits.f k a l m = some (decide (sizeN l m ≤ 254)) := by
  intro k hk
  unfold leaf_Fits.f
  rw [size_tells a l m h k hk]
  simp
end Go.Proofs.Ytfbaejhjppikpaa.P
namespace Go.Proofs.Ytfbaejhjppikpaa.P
open Go.RowKit Go.Proofs.YtfbaejhjppikpaaW.PrintWords Go.Proofs.YtfbaejhjppikpaaW.PrintLast Go.Proofs.YtfbaejhjppikpaaW.PrintMore
set_option linter.unusedVariables false
set_option linter.unusedSimpArgs false
def smallB (l : List S47) (m : List S36) : Bool := decide (l.length ≤ 1000) && (decide (m.length ≤ 1000) && ((l.all fun x => decide (x.f0.size ≤ 1000) && decide (x.f1.size ≤ 1000)) && (m.all fun x => decide (x.f0.size ≤ 1000))))
theorem small_of (l : List S47) (m : List S36) (h : smallB l m = true) : Small l m := by
  unfold smallB at h
  simp only [Bool.and_eq_true, decide_eq_true_eq, List.all_eq_true] at h
  exact ⟨h.1, h.2.1, fun x hx => h.2.2.1 x hx, fun x hx => h.2.2.2 x hx⟩
def textL (s : ByteArray) : List Int := IntKind.u8.wrap (s.size : Int) :: bytesOf s
def encE (e : S47) : List Int := textL e.f0 ++ textL e.f1
def encB (e : S36) : List Int := textL e.f0 ++ [IntKind.u8.wrap (e.f1 / 256), IntKind.u8.wrap e.f1]
def encN (a : Bool) (l : List S47) (m : List S36) : List Int := (if a then 1 else 2) :: (l.flatMap encE ++ m.flatMap encB)
theorem rowU_new {w : World} {g base : Nat} {x : Int} (h : w.heap[g]? = some (.cells #[.int .u8 x] 5 (0, 0))) (hb : base ≤ g) : RowU w base (.slice (some ⟨g, 0, none⟩) 1 1) [x] :=
  Kd.R_of_own ⟨rfl, .inr ⟨g, 1, _, rfl, hb, h, Nat.le_refl _, by unfold maxLen; omega, rfl, rfl⟩⟩ (fun _ _ => trivial)
theorem box3 {w : World} {g : Nat} {a b c : Value} {t : Nat} (h : w.heap[g]? = some (.cells #[a, b, c] t (0, 0))) : w.cell? ⟨g, 0, none⟩ = some a ∧ w.cell? ⟨g, 1, none⟩ = some b ∧ w.cell? ⟨g, 2, none⟩ = some c :=
  ⟨blk_cell h 0, blk_cell h 1, blk_cell h 2⟩
theorem blk_new2 (w : World) (o o' : Obj) : ((w.alloc o).alloc o').heap[w.heap.size + 1]? = some o' := by
  rw [show w.heap.size + 1 = (w.alloc o).heap.size from (World.size_alloc _ _).symm]
  exact blk_new _ _
theorem chg_blk {w w' : World} {B g t base : Nat} {v : Value} {xs : List Int} {c : Array Value} (hc : Chg w w' B v.ownBlock) (ho : RowU w base v xs) (hg : w.heap[g]? = some (.cells c t (0, 0))) (ht : 5 ≠ t) (hB : g ≠ B) : w'.heap[g]? = some (.cells c t (0, 0)) :=
  (hc.2 g (blk_lt hg) hB (Kd.R_ne ho hg ht)).trans hg
theorem box2 {w : World} {g : Nat} {a b : Value} {t : Nat} (h : w.heap[g]? = some (.cells #[a, b] t (0, 0))) : w.cell? ⟨g, 0, none⟩ = some a ∧ w.cell? ⟨g, 1, none⟩ = some b :=
  ⟨blk_cell h 0, blk_cell h 1⟩
theorem rowU_alloc {w : World} {base : Nat} {v : Value} {xs : List Int} (h : RowU w base v xs) (o : Obj) : RowU (w.alloc o) base v xs := Kd.R_alloc h o
theorem encE_snoc (l : List S47) (i : Nat) (h : i < l.length) : (l.take (i + 1)).flatMap encE = (l.take i).flatMap encE ++ (textL (rd_T47 l (i : Int)).f0 ++ textL (rd_T47 l (i : Int)).f1) := by
  rw [List.take_succ_eq_append_getElem h, List.flatMap_append, rdE l i h]; simp [encE]
theorem encB_snoc (l : List S36) (i : Nat) (h : i < l.length) : (l.take (i + 1)).flatMap encB = (l.take i).flatMap encB ++ (textL (rd_T36 l (i : Int)).f0 ++ [IntKind.u8.wrap ((rd_T36 l (i : Int)).f1 / 256), IntKind.u8.wrap (rd_T36 l (i : Int)).f1]) := by
  rw [List.take_succ_eq_append_getElem h, List.flatMap_append, rdB l i h]; simp [encB]
theorem textL_len (s : ByteArray) : (textL s).length = s.size + 1 := by simp [textL, bytesOf_length]
theorem rel_round1 {c : Int} {l : List S47} {xs : List Int} {i : Nat} (hx : xs = c :: (l.take i).flatMap encE) (hi : i < l.length) :
    xs ++ [IntKind.u8.wrap ((rd_T47 l (i : Int)).f0.size : Int)] ++ bytesOf (rd_T47 l (i : Int)).f0 ++ [IntKind.u8.wrap ((rd_T47 l (i : Int)).f1.size : Int)] ++ bytesOf (rd_T47 l (i : Int)).f1 = c :: (l.take (i + 1)).flatMap encE := by
  rw [encE_snoc l i hi, hx]; simp [textL]
theorem lit2 (w : World) (x y : Int) : (Kd.int .u8).C (w.alloc (.cells #[.int .u8 x, .int .u8 y] 5)) (some ⟨w.heap.size, 0, none⟩) 2 [x, y] :=
  Kd.C_of_reads (d := (0 : Int)) ⟨rfl, by omega, fun _ => ⟨_, rfl, fun j hj => by
    rw [add_plain, blk_cell (blk_new w _) j]
    match j, hj with
    | 0, _ => rfl
    | 1, _ => rfl⟩⟩
theorem slice_of_R {w : World} {base : Nat} {v : Value} {xs : List Int} (h : RowU w base v xs) : ∃ A n c, v = .slice A n c := by
  obtain ⟨A, c, e⟩ := Kd.R_slice h
  exact ⟨A, _, c, e⟩
theorem rel_round2 {c : Int} {l : List S47} {m : List S36} {xs : List Int} {j : Nat} (hx : xs = c :: (l.flatMap encE ++ (m.take j).flatMap encB)) (hj : j < m.length) :
    xs ++ [IntKind.u8.wrap ((rd_T36 m (j : Int)).f0.size : Int)] ++ bytesOf (rd_T36 m (j : Int)).f0 ++ [IntKind.u8.wrap ((rd_T36 m (j : Int)).f1 / 256), IntKind.u8.wrap (rd_T36 m (j : Int)).f1] = c :: (l.flatMap encE ++ (m.take (j + 1)).flatMap encB) := by
  rw [encB_snoc m j hj, hx]; simp [textL]
theorem grow_blk {w w1 : World} {g t base : Nat} {v : Value} {xs : List Int} {c : Array Value} (hg : w.grownBy w1 v.ownBlock) (ho : RowU w base v xs) (hb : w.heap[g]? = some (.cells c t (0, 0))) (ht : 5 ≠ t) : w1.heap[g]? = some (.cells c t (0, 0)) :=
  (hg.block g (blk_lt hb) (Kd.R_ne ho hb ht)).trans hb
def EncRel1 (a : Bool) (A0 : Option Addr) (c0 : Nat) (l : List S47) (A1 : Option Addr) (c1 : Nat) (m : List S36) (w : World) (B : Nat) (v27 : Value) (wr : World) : Prop :=
  ∃ (i : Nat) (v : Value) (xs : List Int), v27 = .int .i64 i ∧ i ≤ l.length ∧ Aside0 (xs = (if a then 1 else 2) :: (l.take i).flatMap encE) ∧ Aside0 (xs.length ≤ 1 + 3000 * i) ∧ Aside0 (RowU wr w.heap.size v xs) ∧ Aside0 (wr.heap[B]? = some (.cells #[v] 45 (0, 0))) ∧ Aside0 (wr.heap[w.heap.size]? = some (.cells #[.bool a, .slice A0 l.length c0, .slice A1 m.length c1] 31 (0, 0))) ∧ Aside0 (Below w.heap.size w wr)
def EncRel2 (a : Bool) (A0 : Option Addr) (c0 : Nat) (l : List S47) (A1 : Option Addr) (c1 : Nat) (m : List S36) (w : World) (B : Nat) (v43 : Value) (wr : World) : Prop :=
  ∃ (j : Nat) (v : Value) (xs : List Int), v43 = .int .i64 j ∧ j ≤ m.length ∧ Aside0 (xs = (if a then 1 else 2) :: (l.flatMap encE ++ (m.take j).flatMap encB)) ∧ Aside0 (xs.length ≤ 3000001 + 2000 * j) ∧ Aside0 (RowU wr w.heap.size v xs) ∧ Aside0 (wr.heap[B]? = some (.cells #[v] 45 (0, 0))) ∧ Aside0 (wr.heap[w.heap.size]? = some (.cells #[.bool a, .slice A0 l.length c0, .slice A1 m.length c1] 31 (0, 0))) ∧ Aside0 (Below w.heap.size w wr)
set_option maxHeartbeats 4000000 in
set_option maxRecDepth 100000 in
theorem encode_go_true (A0 : Option Addr) (c0 : Nat) (l : List S47) (A1 : Option Addr) (c1 : Nat) (m : List S36) (w : World) (hr0 : Kd.C k47 w A0 l.length l) (hc0 : l.length ≤ c0) (hr1 : Kd.C k36 w A1 m.length m) (hc1 : m.length ≤ c1) (hs : Small l m) (hm : mayB true l m = true) (hf : decide (sizeN l m ≤ 254) = true) :
    Calls Try.prog 15 #[.agg #[.bool true, .slice A0 l.length c0, .slice A1 m.length c1]] w fun e w' => e = .returned (.tuple #[.string (strOfNums (encN true l m)), .int .i64 0]) ∧ Below w.heap.size w w' := by
  have hu31 := Try.underlying31
  have hu47 := Try.underlying47
  have hu36 := Try.underlying36
  have hl0 := hs.l_len
  have hl1 := hs.m_len
  have HS := Aside0.mk hs
  have HR0 := Aside0.mk hr0
  have HR1 := Aside0.mk hr1
  have HM := Aside0.mk hm
  have HF := Aside0.mk hf
  have HT := Aside0.mk ((may_tells true l m (by omega) (by omega) (l.length + m.length + 3) (Nat.le_refl _)).trans (congrArg some hm))
  have HZ := Aside0.mk ((fits_tells true l m hs (l.length + m.length + 2) (Nat.le_refl _)).trans (congrArg some hf))
  have HB := Aside0.mk ((Below.refl w.heap.size w).alloc (Nat.le_refl _) (.cells #[.bool true, .slice A0 l.length c0, .slice A1 m.length c1] 31))
  have HG := Aside0.mk (blk_new w (.cells #[.bool true, .slice A0 l.length c0, .slice A1 m.length c1] 31))
  clear hr0 hr1 hm hf hs
  go_enter Try.func15, Try.ntmps15
  go_wp2_with (first | (go_at_call 13; go_must (refine (leaf_May.calls _ _ _ _ _ _ _ _ _ _ (Kd.C_below HR0.out HB.out) hc0 (Kd.C_below HR1.out HB.out) hc1 HT.out).mono ?_; rintro e w2 ⟨rfl, hb2⟩; have HG2 := Aside0.mk (blk_below HG.out hb2); have HB2 := Aside0.mk (below_step HB.out hb2); clear hb2; obtain ⟨hz0, hz1, hz2⟩ := box3 HG2.out)) | (go_at_call 19; go_must (refine (leaf_Fits.calls _ _ _ _ _ _ _ _ _ _ (Kd.C_below HR0.out HB2.out) hc0 (Kd.C_below HR1.out HB2.out) hc1 HZ.out).mono ?_; rintro e w3 ⟨rfl, hb3⟩; have HG3 := Aside0.mk (blk_below HG2.out hb3); have HB3 := Aside0.mk (below_step HB2.out hb3); clear hb3; clear hz0 hz1 hz2; obtain ⟨hz0, hz1, hz2⟩ := box3 HG3.out; have hlt3 : w.heap.size < w3.heap.size := blk_lt HG3.out)))
  · go_loopw [27] (fun v27 wr => EncRel1 true A0 c0 l A1 c1 m w (w3.heap.size + 1) v27 wr) (fun v27 _ => l.length - (intOf v27).toNat)
    case atStart =>
      unfold EncRel1
      exact ⟨0, _, _, rfl, Nat.zero_le _, ⟨by simp⟩, ⟨by simp⟩, ⟨rowU_alloc (rowU_new (blk_new w3 _) (Nat.le_of_lt hlt3)) _⟩, ⟨blk_new2 _ _ _⟩, ⟨blk_alloc (blk_alloc HG3.out _) _⟩, ⟨below_alloc (below_alloc HB3.out _) _⟩⟩
    case round =>
      obtain ⟨i, v, xs, rfl, hi, HX, HL, HO, HK, HG4, HB4⟩ := hrel
      clear hz0 hz1 hz2
      obtain ⟨hz0, hz1, hz2⟩ := box3 HG4.out
      have hBlt : w3.heap.size + 1 < wr.heap.size := blk_lt HK.out
      have hBw : w.heap.size ≤ w3.heap.size + 1 := by omega
      by_cases hlt : i < l.length
      · have h1 : 0 ≤ ((i : Nat) : Int) := by omega
        have h2 : ((i : Nat) : Int) < (l.length : Int) := by omega
        obtain ⟨ad, e, hx0, hx1⟩ := at_T47 HR0.out _ h1 h2
        cases e
        replace hx0 := (HB4.out.cell (World.block_lt_of_cell? w _ hx0)).trans hx0
        replace hx1 := (HB4.out.cell (World.block_lt_of_cell? w _ hx1)).trans hx1
        simp only [Int.toNat_natCast] at hx0 hx1
        have hsz := HS.out.l_all l[i] (List.getElem_mem hlt)
        rw [← rdE l i hlt] at hsz
        have HSZ := Aside0.mk hsz
        clear hsz
        have tok1 : True := trivial
        have tok2 : True := trivial
        go_wp2_with (first | (go_at_call 42; have _t := tok1; go_must (refine (text42 (w3.heap.size + 1) v xs _ w _ (blk_alloc HK.out _) (rowU_alloc HO.out _) (below_alloc HB4.out _) hBw (by have := HL.out; have := HSZ.out; omega)).mono ?_; rintro e w5 ⟨v5, rfl, hk5, ho5, hb5, hc5⟩; have HX5 := Aside0.mk (chg_blk hc5 (rowU_alloc HO.out _) (blk_new wr _) (by decide) (by omega)); have HG5 := Aside0.mk (chg_blk hc5 (rowU_alloc HO.out _) (blk_alloc HG4.out _) (by decide) (by omega)); have HK5 := Aside0.mk hk5; have HO5 := Aside0.mk ho5; have HB5 := Aside0.mk hb5; clear hk5 ho5 hb5 hc5 hz0 hz1 hz2 tok1; obtain ⟨hy0, hy1⟩ := box2 HX5.out)) | (go_at_call 42; have _t := tok2; go_must (refine (text42 (w3.heap.size + 1) v5 _ _ w _ HK5.out HO5.out HB5.out hBw (by have := HL.out; have := HSZ.out; simp only [List.length_append, List.length_cons, List.length_nil, bytesOf_length]; omega)).mono ?_; rintro e w6 ⟨v6, rfl, hk6, ho6, hb6, hc6⟩; have HG6 := Aside0.mk (chg_blk hc6 HO5.out HG5.out (by decide) (by omega)); have HK6 := Aside0.mk hk6; have HO6 := Aside0.mk ho6; have HB6 := Aside0.mk hb6; clear hk6 ho6 hb6 hc6 tok2)))
        go_roundw
        case rel =>
          unfold EncRel1
          exact ⟨i + 1, v6, _, by go_num, by omega, ⟨rel_round1 HX.out hlt⟩, ⟨by have := HL.out; have := HSZ.out; simp only [List.length_append, List.length_cons, List.length_nil, bytesOf_length]; omega⟩, HO6, HK6, HG6, HB6⟩
        case measure => simp [intOf]; omega
      · have hil : i = l.length := by omega
        have HX1 := Aside0.mk (show xs = (if true then 1 else 2) :: l.flatMap encE from HX.out.trans (by rw [hil, List.take_length]))
        have HL1 := Aside0.mk (show xs.length ≤ 3000001 from by have := HL.out; omega)
        clear hil
        go_wp2
        go_loopw [43] (fun v43 ws => EncRel2 true A0 c0 l A1 c1 m w (w3.heap.size + 1) v43 ws) (fun v43 _ => m.length - (intOf v43).toNat)
        case atStart =>
          unfold EncRel2
          exact ⟨0, _, _, rfl, Nat.zero_le _, ⟨by rw [HX1.out]; simp⟩, ⟨HL1.out⟩, HO, HK, HG4, HB4⟩
        case round =>
          clear HX HX1 HL1 HL HO HK HG4 HB4 hz0 hz1 hz2 hBlt hlt
          obtain ⟨j, v, xs, rfl, hj, HX, HL, HO, HK, HG4, HB4⟩ := hrel
          have hBlt : w3.heap.size + 1 < wr.heap.size := blk_lt HK.out
          by_cases hlt : j < m.length
          · have h1 : 0 ≤ ((j : Nat) : Int) := by omega
            have h2 : ((j : Nat) : Int) < (m.length : Int) := by omega
            obtain ⟨ad, e, hx0, hx1⟩ := at_T36 HR1.out _ h1 h2
            cases e
            replace hx0 := (HB4.out.cell (World.block_lt_of_cell? w _ hx0)).trans hx0
            replace hx1 := (HB4.out.cell (World.block_lt_of_cell? w _ hx1)).trans hx1
            simp only [Int.toNat_natCast] at hx0 hx1
            have hsz := HS.out.m_all m[j] (List.getElem_mem hlt)
            rw [← rdB m j hlt] at hsz
            have HSZ := Aside0.mk hsz
            clear hsz
            have tok1 : True := trivial
            go_wp2_with (first | (go_at_call 42; have _t := tok1; go_must (refine (text42 (w3.heap.size + 1) v xs _ w _ (blk_alloc HK.out _) (rowU_alloc HO.out _) (below_alloc HB4.out _) hBw (by have := HL.out; have := HSZ.out; omega)).mono ?_; rintro e w5 ⟨v5, rfl, hk5, ho5, hb5, hc5⟩; have HX5 := Aside0.mk (chg_blk hc5 (rowU_alloc HO.out _) (blk_new wr _) (by decide) (by omega)); have HG5 := Aside0.mk (chg_blk hc5 (rowU_alloc HO.out _) (blk_alloc HG4.out _) (by decide) (by omega)); have HK5 := Aside0.mk hk5; have HO5 := Aside0.mk ho5; have HB5 := Aside0.mk hb5; clear hk5 ho5 hb5 hc5 tok1; obtain ⟨hy0, hy1⟩ := box2 HX5.out; obtain ⟨A5, n5, q5, rfl⟩ := slice_of_R HO5.out; have hkb : w5.cell? ⟨w3.heap.size + 1, 0, none⟩ = some (.slice A5 n5 q5) := blk_cell HK5.out 0)) | ((with_reducible refine gate_builtin (b := .append) (xs := #[.tmp 51, .tmp 59]) rfl ?_); go_must (at_builtin; refine Kd.R_append_row (Value.int .u8) (0 : Int) (h1 := fun _ => rfl) (w0 := w) w.heap.size rfl (.tmp 51) (.tmp 59) 45 5 (.int .u8 0) 1 rfl Try.underlying45 info5 rfl (by decide) (.slice A5 n5 q5) (xs ++ [IntKind.u8.wrap ((rd_T36 m (j : Int)).f0.size : Int)] ++ bytesOf (rd_T36 m (j : Int)).f0) [IntKind.u8.wrap ((rd_T36 m (j : Int)).f1 / 256), IntKind.u8.wrap (rd_T36 m (j : Int)).f1] (some ⟨w5.heap.size, 0, none⟩) 2 2 (fun _ => True) rfl rfl (fun _ _ => trivial) ?aO ?aR ?aB ?aS ?aL ?_; (case aO => exact rowU_alloc HO5.out _); (case aR => exact lit2 w5 _ _); (case aB => exact below_alloc HB5.out _); (case aS => exact below_size (below_alloc HB5.out _)); (case aL => have := HL.out; have := HSZ.out; simp only [List.length_append, List.length_cons, List.length_nil, bytesOf_length]; omega); intro v6 w6 ho6 hb6 hg6 hat6; obtain ⟨A6, n6, q6, rfl⟩ := slice_of_R ho6; have HK6 := Aside0.mk (grow_blk hg6 (rowU_alloc HO5.out _) (blk_alloc HK5.out _) (by decide)); have HG6 := Aside0.mk (grow_blk hg6 (rowU_alloc HO5.out _) (blk_alloc HG5.out _) (by decide)); have HO6 := Aside0.mk ho6; have HB6 := Aside0.mk hb6; clear ho6 hb6 hg6 hat6; have hk6 : w6.cell? ⟨w3.heap.size + 1, 0, none⟩ = some (.slice A5 n5 q5) := blk_cell HK6.out 0; have hf6 : w6.frozen? ⟨w3.heap.size + 1, 0, none⟩ = false := blk_frozen HK6.out 0)))
            go_roundw
            case rel =>
              unfold EncRel2
              exact ⟨j + 1, _, _, by go_num, by omega, ⟨rel_round2 HX.out hlt⟩, ⟨by have := HL.out; have := HSZ.out; simp only [List.length_append, List.length_cons, List.length_nil, bytesOf_length]; omega⟩, ⟨Kd.R_set HO6.out HK6.out (by decide) 0 _⟩, ⟨blk_put HK6.out 0 _ rfl⟩, ⟨blk_far HG6.out (by simp; omega) _⟩, ⟨below_set HB6.out hBw⟩⟩
            case measure => simp [intOf]; omega
          · have hjl : j = m.length := by omega
            have HX2 := Aside0.mk (show xs = encN true l m from HX.out.trans (by unfold encN; rw [hjl, List.take_length]))
            obtain ⟨A9, q9, rfl, hq9, hc9⟩ := Kd.R_reads HO.out
            have hk9 : wr.cell? ⟨w3.heap.size + 1, 0, none⟩ = some (.slice A9 xs.length q9) := blk_cell HK.out 0
            have hcv := Kd.C_string (P := Try.prog) (c := q9) Try.underlying45 Try.underlying5 Try.underlying9 hc9
            clear hjl hc9 hq9
            go_wp2
            go_ret2
            exact ⟨by rw [HX2.out]; rfl, HB4.out⟩
set_option maxHeartbeats 4000000 in
set_option maxRecDepth 100000 in
theorem encode_go_false (A0 : Option Addr) (c0 : Nat) (l : List S47) (A1 : Option Addr) (c1 : Nat) (m : List S36) (w : World) (hr0 : Kd.C k47 w A0 l.length l) (hc0 : l.length ≤ c0) (hr1 : Kd.C k36 w A1 m.length m) (hc1 : m.length ≤ c1) (hs : Small l m) (hm : mayB false l m = true) (hf : decide (sizeN l m ≤ 254) = true) :
    Calls Try.prog 15 #[.agg #[.bool false, .slice A0 l.length c0, .slice A1 m.length c1]] w fun e w' => e = .returned (.tuple #[.string (strOfNums (encN false l m)), .int .i64 0]) ∧ Below w.heap.size w w' := by
  have hu31 := Try.underlying31
  have hu47 := Try.underlying47
  have hu36 := Try.underlying36
  have hl0 := hs.l_len
  have hl1 := hs.m_len
  have HS := Aside0.mk hs
  have HR0 := Aside0.mk hr0
  have HR1 := Aside0.mk hr1
  have HM := Aside0.mk hm
  have HF := Aside0.mk hf
  have HT := Aside0.mk ((may_tells false l m (by omega) (by omega) (l.length + m.length + 3) (Nat.le_refl _)).trans (congrArg some hm))
  have HZ := Aside0.mk ((fits_tells false l m hs (l.length + m.length + 2) (Nat.le_refl _)).trans (congrArg some hf))
  have HB := Aside0.mk ((Below.refl w.heap.size w).alloc (Nat.le_refl _) (.cells #[.bool false, .slice A0 l.length c0, .slice A1 m.length c1] 31))
  have HG := Aside0.mk (blk_new w (.cells #[.bool false, .slice A0 l.length c0, .slice A1 m.length c1] 31))
  clear hr0 hr1 hm hf hs
  go_enter Try.func15, Try.ntmps15
  go_wp2_with (first | (go_at_call 13; go_must (refine (leaf_May.calls _ _ _ _ _ _ _ _ _ _ (Kd.C_below HR0.out HB.out) hc0 (Kd.C_below HR1.out HB.out) hc1 HT.out).mono ?_; rintro e w2 ⟨rfl, hb2⟩; have HG2 := Aside0.mk (blk_below HG.out hb2); have HB2 := Aside0.mk (below_step HB.out hb2); clear hb2; obtain ⟨hz0, hz1, hz2⟩ := box3 HG2.out)) | (go_at_call 19; go_must (refine (leaf_Fits.calls _ _ _ _ _ _ _ _ _ _ (Kd.C_below HR0.out HB2.out) hc0 (Kd.C_below HR1.out HB2.out) hc1 HZ.out).mono ?_; rintro e w3 ⟨rfl, hb3⟩; have HG3 := Aside0.mk (blk_below HG2.out hb3); have HB3 := Aside0.mk (below_step HB2.out hb3); clear hb3; clear hz0 hz1 hz2; obtain ⟨hz0, hz1, hz2⟩ := box3 HG3.out; have hlt3 : w.heap.size < w3.heap.size := blk_lt HG3.out)))
  · go_loopw [27] (fun v27 wr => EncRel1 false A0 c0 l A1 c1 m w (w3.heap.size + 1) v27 wr) (fun v27 _ => l.length - (intOf v27).toNat)
    case atStart =>
      unfold EncRel1
      exact ⟨0, _, _, rfl, Nat.zero_le _, ⟨by simp⟩, ⟨by simp⟩, ⟨rowU_alloc (rowU_new (blk_new w3 _) (Nat.le_of_lt hlt3)) _⟩, ⟨blk_new2 _ _ _⟩, ⟨blk_alloc (blk_alloc HG3.out _) _⟩, ⟨below_alloc (below_alloc HB3.out _) _⟩⟩
    case round =>
      obtain ⟨i, v, xs, rfl, hi, HX, HL, HO, HK, HG4, HB4⟩ := hrel
      clear hz0 hz1 hz2
      obtain ⟨hz0, hz1, hz2⟩ := box3 HG4.out
      have hBlt : w3.heap.size + 1 < wr.heap.size := blk_lt HK.out
      have hBw : w.heap.size ≤ w3.heap.size + 1 := by omega
      by_cases hlt : i < l.length
      · have h1 : 0 ≤ ((i : Nat) : Int) := by omega
        have h2 : ((i : Nat) : Int) < (l.length : Int) := by omega
        obtain ⟨ad, e, hx0, hx1⟩ := at_T47 HR0.out _ h1 h2
        cases e
        replace hx0 := (HB4.out.cell (World.block_lt_of_cell? w _ hx0)).trans hx0
        replace hx1 := (HB4.out.cell (World.block_lt_of_cell? w _ hx1)).trans hx1
        simp only [Int.toNat_natCast] at hx0 hx1
        have hsz := HS.out.l_all l[i] (List.getElem_mem hlt)
        rw [← rdE l i hlt] at hsz
        have HSZ := Aside0.mk hsz
        clear hsz
        have tok1 : True := trivial
        have tok2 : True := trivial
        go_wp2_with (first | (go_at_call 42; have _t := tok1; go_must (refine (text42 (w3.heap.size + 1) v xs _ w _ (blk_alloc HK.out _) (rowU_alloc HO.out _) (below_alloc HB4.out _) hBw (by have := HL.out; have := HSZ.out; omega)).mono ?_; rintro e w5 ⟨v5, rfl, hk5, ho5, hb5, hc5⟩; have HX5 := Aside0.mk (chg_blk hc5 (rowU_alloc HO.out _) (blk_new wr _) (by decide) (by omega)); have HG5 := Aside0.mk (chg_blk hc5 (rowU_alloc HO.out _) (blk_alloc HG4.out _) (by decide) (by omega)); have HK5 := Aside0.mk hk5; have HO5 := Aside0.mk ho5; have HB5 := Aside0.mk hb5; clear hk5 ho5 hb5 hc5 hz0 hz1 hz2 tok1; obtain ⟨hy0, hy1⟩ := box2 HX5.out)) | (go_at_call 42; have _t := tok2; go_must (refine (text42 (w3.heap.size + 1) v5 _ _ w _ HK5.out HO5.out HB5.out hBw (by have := HL.out; have := HSZ.out; simp only [List.length_append, List.length_cons, List.length_nil, bytesOf_length]; omega)).mono ?_; rintro e w6 ⟨v6, rfl, hk6, ho6, hb6, hc6⟩; have HG6 := Aside0.mk (chg_blk hc6 HO5.out HG5.out (by decide) (by omega)); have HK6 := Aside0.mk hk6; have HO6 := Aside0.mk ho6; have HB6 := Aside0.mk hb6; clear hk6 ho6 hb6 hc6 tok2)))
        go_roundw
        case rel =>
          unfold EncRel1
          exact ⟨i + 1, v6, _, by go_num, by omega, ⟨rel_round1 HX.out hlt⟩, ⟨by have := HL.out; have := HSZ.out; simp only [List.length_append, List.length_cons, List.length_nil, bytesOf_length]; omega⟩, HO6, HK6, HG6, HB6⟩
        case measure => simp [intOf]; omega
      · have hil : i = l.length := by omega
        have HX1 := Aside0.mk (show xs = (if false then 1 else 2) :: l.flatMap encE from HX.out.trans (by rw [hil, List.take_length]))
        have HL1 := Aside0.mk (show xs.length ≤ 3000001 from by have := HL.out; omega)
        clear hil
        go_wp2
        go_loopw [43] (fun v43 ws => EncRel2 false A0 c0 l A1 c1 m w (w3.heap.size + 1) v43 ws) (fun v43 _ => m.length - (intOf v43).toNat)
        case atStart =>
          unfold EncRel2
          exact ⟨0, _, _, rfl, Nat.zero_le _, ⟨by rw [HX1.out]; simp⟩, ⟨HL1.out⟩, HO, HK, HG4, HB4⟩
        case round =>
          clear HX HX1 HL1 HL HO HK HG4 HB4 hz0 hz1 hz2 hBlt hlt
          obtain ⟨j, v, xs, rfl, hj, HX, HL, HO, HK, HG4, HB4⟩ := hrel
          have hBlt : w3.heap.size + 1 < wr.heap.size := blk_lt HK.out
          by_cases hlt : j < m.length
          · have h1 : 0 ≤ ((j : Nat) : Int) := by omega
            have h2 : ((j : Nat) : Int) < (m.length : Int) := by omega
            obtain ⟨ad, e, hx0, hx1⟩ := at_T36 HR1.out _ h1 h2
            cases e
            replace hx0 := (HB4.out.cell (World.block_lt_of_cell? w _ hx0)).trans hx0
            replace hx1 := (HB4.out.cell (World.block_lt_of_cell? w _ hx1)).trans hx1
            simp only [Int.toNat_natCast] at hx0 hx1
            have hsz := HS.out.m_all m[j] (List.getElem_mem hlt)
            rw [← rdB m j hlt] at hsz
            have HSZ := Aside0.mk hsz
            clear hsz
            have tok1 : True := trivial
            go_wp2_with (first | (go_at_call 42; have _t := tok1; go_must (refine (text42 (w3.heap.size + 1) v xs _ w _ (blk_alloc HK.out _) (rowU_alloc HO.out _) (below_alloc HB4.out _) hBw (by have := HL.out; have := HSZ.out; omega)).mono ?_; rintro e w5 ⟨v5, rfl, hk5, ho5, hb5, hc5⟩; have HX5 := Aside0.mk (chg_blk hc5 (rowU_alloc HO.out _) (blk_new wr _) (by decide) (by omega)); have HG5 := Aside0.mk (chg_blk hc5 (rowU_alloc HO.out _) (blk_alloc HG4.out _) (by decide) (by omega)); have HK5 := Aside0.mk hk5; have HO5 := Aside0.mk ho5; have HB5 := Aside0.mk hb5; clear hk5 ho5 hb5 hc5 tok1; obtain ⟨hy0, hy1⟩ := box2 HX5.out; obtain ⟨A5, n5, q5, rfl⟩ := slice_of_R HO5.out; have hkb : w5.cell? ⟨w3.heap.size + 1, 0, none⟩ = some (.slice A5 n5 q5) := blk_cell HK5.out 0)) | ((with_reducible refine gate_builtin (b := .append) (xs := #[.tmp 51, .tmp 59]) rfl ?_); go_must (at_builtin; refine Kd.R_append_row (Value.int .u8) (0 : Int) (h1 := fun _ => rfl) (w0 := w) w.heap.size rfl (.tmp 51) (.tmp 59) 45 5 (.int .u8 0) 1 rfl Try.underlying45 info5 rfl (by decide) (.slice A5 n5 q5) (xs ++ [IntKind.u8.wrap ((rd_T36 m (j : Int)).f0.size : Int)] ++ bytesOf (rd_T36 m (j : Int)).f0) [IntKind.u8.wrap ((rd_T36 m (j : Int)).f1 / 256), IntKind.u8.wrap (rd_T36 m (j : Int)).f1] (some ⟨w5.heap.size, 0, none⟩) 2 2 (fun _ => True) rfl rfl (fun _ _ => trivial) ?aO ?aR ?aB ?aS ?aL ?_; (case aO => exact rowU_alloc HO5.out _); (case aR => exact lit2 w5 _ _); (case aB => exact below_alloc HB5.out _); (case aS => exact below_size (below_alloc HB5.out _)); (case aL => have := HL.out; have := HSZ.out; simp only [List.length_append, List.length_cons, List.length_nil, bytesOf_length]; omega); intro v6 w6 ho6 hb6 hg6 hat6; obtain ⟨A6, n6, q6, rfl⟩ := slice_of_R ho6; have HK6 := Aside0.mk (grow_blk hg6 (rowU_alloc HO5.out _) (blk_alloc HK5.out _) (by decide)); have HG6 := Aside0.mk (grow_blk hg6 (rowU_alloc HO5.out _) (blk_alloc HG5.out _) (by decide)); have HO6 := Aside0.mk ho6; have HB6 := Aside0.mk hb6; clear ho6 hb6 hg6 hat6; have hk6 : w6.cell? ⟨w3.heap.size + 1, 0, none⟩ = some (.slice A5 n5 q5) := blk_cell HK6.out 0; have hf6 : w6.frozen? ⟨w3.heap.size + 1, 0, none⟩ = false := blk_frozen HK6.out 0)))
            go_roundw
            case rel =>
              unfold EncRel2
              exact ⟨j + 1, _, _, by go_num, by omega, ⟨rel_round2 HX.out hlt⟩, ⟨by have := HL.out; have := HSZ.out; simp only [List.length_append, List.length_cons, List.length_nil, bytesOf_length]; omega⟩, ⟨Kd.R_set HO6.out HK6.out (by decide) 0 _⟩, ⟨blk_put HK6.out 0 _ rfl⟩, ⟨blk_far HG6.out (by simp; omega) _⟩, ⟨below_set HB6.out hBw⟩⟩
            case measure => simp [intOf]; omega
          · have hjl : j = m.length := by omega
            have HX2 := Aside0.mk (show xs = encN false l m from HX.out.trans (by unfold encN; rw [hjl, List.take_length]))
            obtain ⟨A9, q9, rfl, hq9, hc9⟩ := Kd.R_reads HO.out
            have hk9 : wr.cell? ⟨w3.heap.size + 1, 0, none⟩ = some (.slice A9 xs.length q9) := blk_cell HK.out 0
            have hcv := Kd.C_string (P := Try.prog) (c := q9) Try.underlying45 Try.underlying5 Try.underlying9 hc9
            clear hjl hc9 hq9
            go_wp2
            go_ret2
            exact ⟨by rw [HX2.out]; rfl, HB4.out⟩
set_option maxHeartbeats 4000000 in
set_option maxRecDepth 100000 in
theorem encode_not_may (a : Bool) (A0 : Option Addr) (c0 : Nat) (l : List S47) (A1 : Option Addr) (c1 : Nat) (m : List S36) (w : World) (hr0 : Kd.C k47 w A0 l.length l) (hc0 : l.length ≤ c0) (hr1 : Kd.C k36 w A1 m.length m) (hc1 : m.length ≤ c1) (hs : Small l m) (hm : mayB a l m = false) :
    Calls Try.prog 15 #[.agg #[.bool a, .slice A0 l.length c0, .slice A1 m.length c1]] w fun e w' => e = .returned (.tuple #[.string ⟨#[]⟩, .int .i64 4]) ∧ Below w.heap.size w w' := by
  have hu31 := Try.underlying31
  have hl0 := hs.l_len
  have hl1 := hs.m_len
  have HR0 := Aside0.mk hr0
  have HR1 := Aside0.mk hr1
  have HT := Aside0.mk ((may_tells a l m (by omega) (by omega) (l.length + m.length + 3) (Nat.le_refl _)).trans (congrArg some hm))
  have HB := Aside0.mk ((Below.refl w.heap.size w).alloc (Nat.le_refl _) (.cells #[.bool a, .slice A0 l.length c0, .slice A1 m.length c1] 31))
  clear hr0 hr1 hm hs
  go_enter Try.func15, Try.ntmps15
  go_wp2_with (go_at_call 13; go_must (refine (leaf_May.calls _ _ _ _ _ _ _ _ _ _ (Kd.C_below HR0.out HB.out) hc0 (Kd.C_below HR1.out HB.out) hc1 HT.out).mono ?_; rintro e w2 ⟨rfl, hb2⟩; have HB2 := Aside0.mk (below_step HB.out hb2); clear hb2))
  go_ret2
  exact ⟨rfl, HB2.out⟩
set_option maxHeartbeats 4000000 in
set_option maxRecDepth 100000 in
theorem encode_not_fits (a : Bool) (A0 : Option Addr) (c0 : Nat) (l : List S47) (A1 : Option Addr) (c1 : Nat) (m : List S36) (w : World) (hr0 : Kd.C k47 w A0 l.length l) (hc0 : l.length ≤ c0) (hr1 : Kd.C k36 w A1 m.length m) (hc1 : m.length ≤ c1) (hs : Small l m) (hm : mayB a l m = true) (hf : decide (sizeN l m ≤ 254) = false) :
    Calls Try.prog 15 #[.agg #[.bool a, .slice A0 l.length c0, .slice A1 m.length c1]] w fun e w' => e = .returned (.tuple #[.string ⟨#[]⟩, .int .i64 40]) ∧ Below w.heap.size w w' := by
  have hu31 := Try.underlying31
  have hl0 := hs.l_len
  have hl1 := hs.m_len
  have HR0 := Aside0.mk hr0
  have HR1 := Aside0.mk hr1
  have HT := Aside0.mk ((may_tells a l m (by omega) (by omega) (l.length + m.length + 3) (Nat.le_refl _)).trans (congrArg some hm))
  have HZ := Aside0.mk ((fits_tells a l m hs (l.length + m.length + 2) (Nat.le_refl _)).trans (congrArg some hf))
  have HB := Aside0.mk ((Below.refl w.heap.size w).alloc (Nat.le_refl _) (.cells #[.bool a, .slice A0 l.length c0, .slice A1 m.length c1] 31))
  have HG := Aside0.mk (blk_new w (.cells #[.bool a, .slice A0 l.length c0, .slice A1 m.length c1] 31))
  clear hr0 hr1 hm hf hs
  go_enter Try.func15, Try.ntmps15
  go_wp2_with (first | (go_at_call 13; go_must (refine (leaf_May.calls _ _ _ _ _ _ _ _ _ _ (Kd.C_below HR0.out HB.out) hc0 (Kd.C_below HR1.out HB.out) hc1 HT.out).mono ?_; rintro e w2 ⟨rfl, hb2⟩; have HG2 := Aside0.mk (blk_below HG.out hb2); have HB2 := Aside0.mk (below_step HB.out hb2); clear hb2; obtain ⟨hz0, hz1, hz2⟩ := box3 HG2.out)) | (go_at_call 19; go_must (refine (leaf_Fits.calls _ _ _ _ _ _ _ _ _ _ (Kd.C_below HR0.out HB2.out) hc0 (Kd.C_below HR1.out HB2.out) hc1 HZ.out).mono ?_; rintro e w3 ⟨rfl, hb3⟩; have HB3 := Aside0.mk (below_step HB2.out hb3); clear hb3)))
  go_ret2
  exact ⟨rfl, HB3.out⟩
def leaf_Encode.f (a0_0 : Bool) (l0_1 : List S47) (l0_2 : List S36) : Option (ByteArray × Int) :=
  if smallB l0_1 l0_2 = true then some (if mayB a0_0 l0_1 l0_2 = true then (if decide (sizeN l0_1 l0_2 ≤ 254) = true then (strOfNums (encN a0_0 l0_1 l0_2), 0) else (⟨#[]⟩, 40)) else (⟨#[]⟩, 4)) else none
theorem leaf_Encode.calls (a0_0 : Bool) (A0_1 : Option Addr) (c0_1 : Nat) (l0_1 : List S47) (A0_2 : Option Addr) (c0_2 : Nat) (l0_2 : List S36) (r1 : ByteArray) (r2 : Int) (w : World) (hr0_1 : Kd.C k47 w A0_1 l0_1.length l0_1) (hc0_1 : l0_1.length ≤ c0_1) (hr0_2 : Kd.C k36 w A0_2 l0_2.length l0_2) (hc0_2 : l0_2.length ≤ c0_2) (h : leaf_Encode.f a0_0 l0_1 l0_2 = some (r1, r2)) :
    Calls Try.prog 15 #[.agg #[.bool a0_0, .slice A0_1 l0_1.length c0_1, .slice A0_2 l0_2.length c0_2]] w fun e w' => e = .returned (.tuple #[.string r1, .int .i64 r2]) ∧ Below w.heap.size w w' := by
  unfold leaf_Encode.f at h
  by_cases hs : smallB l0_1 l0_2 = true
  · rw [if_pos hs] at h
    have hs' := small_of _ _ hs
    by_cases hm : mayB a0_0 l0_1 l0_2 = true
    · rw [if_pos hm] at h
      by_cases hf : decide (sizeN l0_1 l0_2 ≤ 254) = true
      · rw [if_pos hf] at h
        simp only [Option.some.injEq, Prod.mk.injEq] at h
        obtain ⟨rfl, rfl⟩ := h
        cases a0_0 with
        | true => exact encode_go_true _ _ _ _ _ _ w hr0_1 hc0_1 hr0_2 hc0_2 hs' hm hf
        | false => exact encode_go_false _ _ _ _ _ _ w hr0_1 hc0_1 hr0_2 hc0_2 hs' hm hf
      · rw [if_neg hf] at h
        simp only [Option.some.injEq, Prod.mk.injEq] at h
        obtain ⟨rfl, rfl⟩ := h
        exact encode_not_fits _ _ _ _ _ _ _ w hr0_1 hc0_1 hr0_2 hc0_2 hs' hm (by simpa using hf)
    · rw [if_neg hm] at h
      simp only [Option.some.injEq, Prod.mk.injEq] at h
      obtain ⟨rfl, rfl⟩ := h
      exact encode_not_may _ _ _ _ _ _ _ w hr0_1 hc0_1 hr0_2 hc0_2 hs' (by simpa using hm)
  · rw [if_neg hs] at h
    cases h
end Go.Proofs.Ytfbaejhjppikpaa.P
namespace Go.Proofs.Ytfbaejhjppikpaa.P
open Go.RowKit Go.Proofs.YtfbaejhjppikpaaW.PrintWords Go.Proofs.YtfbaejhjppikpaaW.PrintLast Go.Proofs.YtfbaejhjppikpaaW.PrintMore
set_option linter.unusedVariables false
set_option linter.unusedSimpArgs false
def cmpB (l : List S36) (key : ByteArray) (h : Nat) : Int := Lib.compareBytes (rd_T36 l (h : Int)).f0.data.toList key.data.toList
def lessB (l : List S36) (key : ByteArray) (h : Nat) : Bool := decide (cmpB l key h < 0)
def atB (l : List S36) (key : ByteArray) : Nat := bsAt (lessB l key) l.length 0 l.length
def isB (l : List S36) (key : ByteArray) : Bool := decide (atB l key < l.length) && decide (cmpB l key (atB l key) = 0)
def placeB (l : List S36) (key : ByteArray) : Int := if isB l key then (atB l key : Int) else max 0 ((atB l key : Int) - 1)
theorem cmpB40 (l : List S36) (key : ByteArray) (h : Nat) (w : World) :
    Calls Try.prog 40 #[.agg #[.string (rd_T36 l (h : Int)).f0, .int .i64 (rd_T36 l (h : Int)).f1], .string key] w fun e w' => e = .returned (.int .i64 (cmpB l key h)) ∧ Below w.heap.size w w' :=
  cmp40 _ _ _ _
set_option maxHeartbeats 2000000 in
set_option maxRecDepth 100000 in
theorem search39 (A0 : Option Addr) (c0 : Nat) (l0 : List S36) (key : ByteArray) (w : World) (hr0 : Kd.C k36 w A0 l0.length l0) (hc0 : l0.length ≤ c0) (hlen : l0.length ≤ 1000000000000) :
    Calls Try.prog 39 #[.slice A0 l0.length c0, .string key, .func (.func 40) #[] #[]] w fun e w' => e = .returned (.tuple #[.int .i64 (atB l0 key), .bool (isB l0 key)]) ∧ Below w.heap.size w w' := by
  have hu36 := Try.underlying36
  have hm : l0.length ≤ 9223372036854775807 := hr0.2.1
  have HR := Aside0.mk hr0
  clear hr0
  have HB := Aside0.mk (Below.refl w.heap.size w)
  go_enter Try.func39, Try.ntmps39
  go_wp2
  go_loopw [9, 10] (fun v9 v10 w' => ∃ i j : Nat, v9 = .int .i64 i ∧ v10 = .int .i64 j ∧ i ≤ j ∧ j ≤ l0.length ∧ Aside0 (bsAt (lessB l0 key) (j - i) i j = atB l0 key) ∧ Aside0 (Below w.heap.size w w')) (fun v9 v10 _ => (intOf v10 - intOf v9).toNat)
  case atStart => exact ⟨0, l0.length, rfl, rfl, Nat.zero_le _, Nat.le_refl _, ⟨rfl⟩, ⟨HB.out⟩⟩
  case round =>
    obtain ⟨i, j, rfl, rfl, hij, hj, HG, HB⟩ := hrel
    have hle : i + j ≤ 2000000000000 := by omega
    by_cases hlt : i < j
    · have h1 : 0 ≤ (((i + j) / 2 : Nat) : Int) := by omega
      have h2 : (((i + j) / 2 : Nat) : Int) < (l0.length : Int) := by omega
      obtain ⟨ad, e, hx0, hx1⟩ := at_T36 HR.out _ h1 h2
      cases e
      replace hx0 := (HB.out.cell (World.block_lt_of_cell? w _ hx0)).trans hx0
      replace hx1 := (HB.out.cell (World.block_lt_of_cell? w _ hx1)).trans hx1
      simp only [Int.toNat_natCast] at hx0 hx1
      have hs := bsAt_step (lessB l0 key) i j hlt
      rw [HG.out] at hs
      have HS := Aside0.mk hs
      clear hs HG
      by_cases hq : cmpB l0 key ((i + j) / 2) < 0
      · have hl : lessB l0 key ((i + j) / 2) = true := decide_eq_true hq
        rw [hl, if_pos rfl] at HS
        have HL := Aside0.mk hl
        clear hl
        have hd : decide (cmpB l0 key ((i + j) / 2) < 0) = true := decide_eq_true hq
        go_wp2_with (go_at_call 40; refine (cmpB40 l0 key ((i + j) / 2) _).mono ?_; rintro e w1 ⟨rfl, hb⟩; replace HB := Aside0.mk (below_step HB.out hb); clear hb)
        go_roundw
        case rel => exact ⟨(i + j) / 2 + 1, j, by go_num, rfl, by omega, hj, ⟨HS.out.symm⟩, ⟨HB.out⟩⟩
        case measure => simp [intOf]; omega
      · have hl : lessB l0 key ((i + j) / 2) = false := decide_eq_false hq
        rw [hl, if_neg (by decide)] at HS
        have HL := Aside0.mk hl
        clear hl
        have hd : decide (cmpB l0 key ((i + j) / 2) < 0) = false := decide_eq_false hq
        go_wp2_with (go_at_call 40; refine (cmpB40 l0 key ((i + j) / 2) _).mono ?_; rintro e w1 ⟨rfl, hb⟩; replace HB := Aside0.mk (below_step HB.out hb); clear hb)
        go_roundw
        case rel => exact ⟨i, (i + j) / 2, rfl, by go_num, by omega, by omega, ⟨HS.out.symm⟩, ⟨HB.out⟩⟩
        case measure => simp [intOf]; omega
    · have hi : atB l0 key = i := HG.out.symm.trans (bsAt_done _ _ _ _ hlt)
      by_cases hn : i < l0.length
      · have h1 : 0 ≤ ((i : Nat) : Int) := by omega
        have h2 : ((i : Nat) : Int) < (l0.length : Int) := by omega
        obtain ⟨ad, e, hx0, hx1⟩ := at_T36 HR.out _ h1 h2
        cases e
        replace hx0 := (HB.out.cell (World.block_lt_of_cell? w _ hx0)).trans hx0
        replace hx1 := (HB.out.cell (World.block_lt_of_cell? w _ hx1)).trans hx1
        simp only [Int.toNat_natCast] at hx0 hx1
        have HI := Aside0.mk hi
        clear hi HG
        go_wp2_with (go_at_call 40; refine (cmpB40 l0 key i _).mono ?_; rintro e w1 ⟨rfl, hb⟩; replace HB := Aside0.mk (below_step HB.out hb); clear hb)
        go_ret2
        refine ⟨?_, HB.out⟩
        have e2 : isB l0 key = (cmpB l0 key i == 0) := by
          unfold isB
          rw [HI.out, decide_eq_true hn, Bool.true_and]
          by_cases hz : cmpB l0 key i = 0 <;> simp [hz]
        rw [HI.out, e2]
        rfl
      · have HI := Aside0.mk hi
        clear hi HG
        go_wp2
        go_ret2
        refine ⟨?_, HB.out⟩
        have e2 : isB l0 key = false := by
          unfold isB
          rw [HI.out, decide_eq_false hn, Bool.false_and]
        rw [HI.out, e2]
        rfl
def leaf_Place.f (l0 : List S36) (a1 : ByteArray) : Option (Int) := if l0.length ≤ 1000000000000 then some (placeB l0 a1) else none
set_option maxHeartbeats 2000000 in
set_option maxRecDepth 100000 in
theorem leaf_Place.calls (A0 : Option Addr) (c0 : Nat) (l0 : List S36) (a1 : ByteArray) (r : Int) (w : World) (hr0 : Kd.C k36 w A0 l0.length l0) (hc0 : l0.length ≤ c0) (h : leaf_Place.f l0 a1 = some r) :
    Calls Try.prog 14 #[.slice A0 l0.length c0, .string a1] w fun e w' => e = .returned (.int .i64 r) ∧ Below w.heap.size w w' := by
  unfold leaf_Place.f at h
  by_cases hl : l0.length ≤ 1000000000000
  · rw [if_pos hl] at h
    obtain rfl := Option.some.inj h
    have hb := bsAt_range (lessB l0 a1) l0.length 0 l0.length (Nat.zero_le _) (by omega)
    have h9 : atB l0 a1 ≤ l0.length := hb.2
    have hu36 := Try.underlying36
    have HR := Aside0.mk hr0
    clear hr0 hb h
    have HP := Aside0.mk (show placeB l0 a1 = if isB l0 a1 then (atB l0 a1 : Int) else max 0 ((atB l0 a1 : Int) - 1) from rfl)
    cases hi : isB l0 a1 with
    | true =>
      have HI := Aside0.mk hi
      clear hi
      go_enter Try.func14, Try.ntmps14
      go_wp2_with (go_at_call 39; refine (search39 _ _ _ _ _ HR.out hc0 hl).mono ?_; rw [HI.out]; rintro e w1 ⟨rfl, hb⟩)
      all_goals
        go_ret
        refine ⟨?_, by assumption⟩
        rw [HP.out, HI.out, if_pos rfl]
        first | rfl | (exact congrArg (fun z => Ending.returned (Value.int IntKind.i64 z)) (by omega))
    | false =>
      have HI := Aside0.mk hi
      clear hi
      go_enter Try.func14, Try.ntmps14
      go_wp2_with (go_at_call 39; refine (search39 _ _ _ _ _ HR.out hc0 hl).mono ?_; rw [HI.out]; rintro e w1 ⟨rfl, hb⟩)
      all_goals
        go_ret
        refine ⟨?_, by assumption⟩
        rw [HP.out, HI.out, if_neg (by decide)]
        first | rfl | (exact congrArg (fun z => Ending.returned (Value.int IntKind.i64 z)) (by omega))
  · rw [if_neg hl] at h
    cases h
end Go.Proofs.Ytfbaejhjppikpaa.P
namespace Go.Proofs.Ytfbaejhjppikpaa.P
open Go.RowKit Go.Proofs.YtfbaejhjppikpaaW.PrintWords Go.Proofs.YtfbaejhjppikpaaW.PrintLast Go.Proofs.YtfbaejhjppikpaaW.PrintMore
attribute [local go_sem] max2_int min2_int max_two min_two max_three min_three max_four min_four
set_option linter.unusedVariables false
set_option linter.unusedSimpArgs false
end Go.Proofs.Ytfbaejhjppikpaa.P
namespace Go.Proofs.Ytfbaejhjppikpaa.P
open Go.RowKit Go.Proofs.YtfbaejhjppikpaaW.PrintWords Go.Proofs.YtfbaejhjppikpaaW.PrintLast Go.Proofs.YtfbaejhjppikpaaW.PrintMore
attribute [local go_sem] max2_int min2_int max_two min_two max_three min_three max_four min_four
set_option linter.unusedVariables false
set_option linter.unusedSimpArgs false
end Go.Proofs.Ytfbaejhjppikpaa.P
namespace Go.Proofs.Ytfbaejhjppikpaa.P
open Go.RowKit Go.Proofs.YtfbaejhjppikpaaW.PrintWords Go.Proofs.YtfbaejhjppikpaaW.PrintLast Go.Proofs.YtfbaejhjppikpaaW.PrintMore
attribute [local go_sem] max2_int min2_int max_two min_two max_three min_three max_four min_four
set_option linter.unusedVariables false
set_option linter.unusedSimpArgs false
def lw_awake.f (k : Nat)  : Option (Bool) := (some (([(⟨(⟨#[97]⟩ : ByteArray), (⟨#[49]⟩ : ByteArray)⟩ : S47), (⟨(⟨#[98]⟩ : ByteArray), (⟨#[50, 50]⟩ : ByteArray)⟩ : S47)] : List S47) : List S47)).bind fun y130 => ((leaf_Encode.f true y130 ([] : List S36)).bind fun bt134 => ((some (([(⟨(⟨#[]⟩ : ByteArray), 2⟩ : S36), (⟨(⟨#[98]⟩ : ByteArray), 3⟩ : S36), (⟨(⟨#[99]⟩ : ByteArray), 4⟩ : S36)] : List S36) : List S36)).bind fun y136 => (if bt134.2 = 0 then (if bt134.1.toList = ([1, 1, 97, 1, 49, 1, 98, 2, 50, 50] : List UInt8) then ((leaf_Size.f k true y130 ([] : List S36)).bind fun t139 => (if t139 = 10 then ((leaf_Place.f y136 (⟨#[98]⟩ : ByteArray)).bind fun t140 => (if t140 = 1 then ((leaf_Place.f y136 (⟨#[97, 97]⟩ : ByteArray)).bind fun t141 => (some (t141 == 0))) else (some false))) else (some false))) else (some false)) else (some false))))
theorem lw_awake.mono : ∀ k, LeO (lw_awake.f k ) (lw_awake.f (k + 1) ) := by
 intro  k
 unfold lw_awake.f
 repeat' first
   | (with_reducible exact leaf_Size.mono _ _ _ _)
   | (with_reducible exact LeO.refl _)
   | (with_reducible exact LeO.none _)
   | (with_reducible refine LeO.ite ?_ ?_)
   | (with_reducible refine LeO.bind ?_ (fun _ => ?_))
   | exact leaf_Size.mono _ _ _ _
   | exact LeO.none _
   | refine LeO.ite ?_ ?_
   | refine LeO.bind ?_ (fun _ => ?_)
theorem lw_awake.truth (k : Nat) (r : Bool) (h : lw_awake.f k = some r) : r = true := by
 have h1 : ∀ d, lw_awake.f (k + d) = some r := by
  intro d
  induction d with
  | zero => exact h
  | succ d ih => exact lw_awake.mono (k + d) r ih
 have h2 : ∀ d, lw_awake.f (20 + d) = some true := by
  intro d
  induction d with
  | zero => decide +kernel
  | succ d ih => exact lw_awake.mono (20 + d) true ih
 have h3 := h1 20
 rw [Nat.add_comm, h2 k] at h3
 exact (Option.some.inj h3).symm
set_option maxHeartbeats 8000000 in
set_option maxRecDepth 100000 in
theorem lw_awake.calls (k : Nat)  (r : Bool) (w : World) (h : lw_awake.f k  = some r) :
  Calls Try.prog 11 #[] w fun e w' => e = .returned (.bool r) ∧ Below w.heap.size w w' := by
 have hu47 := Try.underlying47
 have hu31 := Try.underlying31
 have hu36 := Try.underlying36
 have HB := aM (Below.refl w.heap.size w)
 have hT : Aside0 (r = true) := ⟨lw_awake.truth _ _ h⟩
 have H : ((some (([(⟨(⟨#[97]⟩ : ByteArray), (⟨#[49]⟩ : ByteArray)⟩ : S47), (⟨(⟨#[98]⟩ : ByteArray), (⟨#[50, 50]⟩ : ByteArray)⟩ : S47)] : List S47) : List S47)).bind fun y130 => ((leaf_Encode.f true y130 ([] : List S36)).bind fun bt134 => ((some (([(⟨(⟨#[]⟩ : ByteArray), 2⟩ : S36), (⟨(⟨#[98]⟩ : ByteArray), 3⟩ : S36), (⟨(⟨#[99]⟩ : ByteArray), 4⟩ : S36)] : List S36) : List S36)).bind fun y136 => (if bt134.2 = 0 then (if bt134.1.toList = ([1, 1, 97, 1, 49, 1, 98, 2, 50, 50] : List UInt8) then ((leaf_Size.f k true y130 ([] : List S36)).bind fun t139 => (if t139 = 10 then ((leaf_Place.f y136 (⟨#[98]⟩ : ByteArray)).bind fun t140 => (if t140 = 1 then ((leaf_Place.f y136 (⟨#[97, 97]⟩ : ByteArray)).bind fun t141 => (some (t141 == 0))) else (some false))) else (some false))) else (some false)) else (some false))))) = some r := h
 clear h
 obtain ⟨y130, hy130⟩ : ∃ y_ : List S47, y_ = (([(⟨(⟨#[97]⟩ : ByteArray), (⟨#[49]⟩ : ByteArray)⟩ : S47), (⟨(⟨#[98]⟩ : ByteArray), (⟨#[50, 50]⟩ : ByteArray)⟩ : S47)] : List S47)) := ⟨_, rfl⟩
 replace H : ((leaf_Encode.f true y130 ([] : List S36)).bind fun bt134 => ((some (([(⟨(⟨#[]⟩ : ByteArray), 2⟩ : S36), (⟨(⟨#[98]⟩ : ByteArray), 3⟩ : S36), (⟨(⟨#[99]⟩ : ByteArray), 4⟩ : S36)] : List S36) : List S36)).bind fun y136 => (if bt134.2 = 0 then (if bt134.1.toList = ([1, 1, 97, 1, 49, 1, 98, 2, 50, 50] : List UInt8) then ((leaf_Size.f k true y130 ([] : List S36)).bind fun t139 => (if t139 = 10 then ((leaf_Place.f y136 (⟨#[98]⟩ : ByteArray)).bind fun t140 => (if t140 = 1 then ((leaf_Place.f y136 (⟨#[97, 97]⟩ : ByteArray)).bind fun t141 => (some (t141 == 0))) else (some false))) else (some false))) else (some false)) else (some false)))) = some r := by first | (rw [hy130]; with_reducible exact H) | (have H2_ := (Option.bind_some _ _).symm.trans H; rw [hy130]; with_reducible exact H2_) | (have H2_ := (Option.bind_some _ _).symm.trans H; with_reducible exact H2_) | with_reducible exact H | (rw [hy130]; exact H) | exact H
 have Ny130 := aM hy130
 clear hy130
 replace H := Option.bind_eq_some_iff.mp H
 obtain ⟨⟨t134, t135⟩, A10, H⟩ := H
 replace H : ((some (([(⟨(⟨#[]⟩ : ByteArray), 2⟩ : S36), (⟨(⟨#[98]⟩ : ByteArray), 3⟩ : S36), (⟨(⟨#[99]⟩ : ByteArray), 4⟩ : S36)] : List S36) : List S36)).bind fun y136 => (if t135 = 0 then (if t134.toList = ([1, 1, 97, 1, 49, 1, 98, 2, 50, 50] : List UInt8) then ((leaf_Size.f k true y130 ([] : List S36)).bind fun t139 => (if t139 = 10 then ((leaf_Place.f y136 (⟨#[98]⟩ : ByteArray)).bind fun t140 => (if t140 = 1 then ((leaf_Place.f y136 (⟨#[97, 97]⟩ : ByteArray)).bind fun t141 => (some (t141 == 0))) else (some false))) else (some false))) else (some false)) else (some false))) = some r := H
 have A1 := aM A10
 clear A10
 obtain ⟨y136, hy136⟩ : ∃ y_ : List S36, y_ = (([(⟨(⟨#[]⟩ : ByteArray), 2⟩ : S36), (⟨(⟨#[98]⟩ : ByteArray), 3⟩ : S36), (⟨(⟨#[99]⟩ : ByteArray), 4⟩ : S36)] : List S36)) := ⟨_, rfl⟩
 replace H : (if t135 = 0 then (if t134.toList = ([1, 1, 97, 1, 49, 1, 98, 2, 50, 50] : List UInt8) then ((leaf_Size.f k true y130 ([] : List S36)).bind fun t139 => (if t139 = 10 then ((leaf_Place.f y136 (⟨#[98]⟩ : ByteArray)).bind fun t140 => (if t140 = 1 then ((leaf_Place.f y136 (⟨#[97, 97]⟩ : ByteArray)).bind fun t141 => (some (t141 == 0))) else (some false))) else (some false))) else (some false)) else (some false)) = some r := by first | (rw [hy136]; with_reducible exact H) | (have H2_ := (Option.bind_some _ _).symm.trans H; rw [hy136]; with_reducible exact H2_) | (have H2_ := (Option.bind_some _ _).symm.trans H; with_reducible exact H2_) | with_reducible exact H | (rw [hy136]; exact H) | exact H
 have Ny136 := aM hy136
 clear hy136
 by_cases c2 : t135 = 0
 rotate_left
 ·rw [if_neg c2] at H
  exact absurd (H.trans (congrArg some hT.out)) (by decide)
 rw [if_pos c2] at H
 have c2b0 : (t135 == 0) = true := beq_iff_eq.mpr c2
 have c2b1 : (t135 != 0) = false := bne_eq_false_iff_eq.mpr c2
 clear c2
 by_cases c3 : t134.toList = ([1, 1, 97, 1, 49, 1, 98, 2, 50, 50] : List UInt8)
 rotate_left
 ·rw [if_neg c3] at H
  exact absurd (H.trans (congrArg some hT.out)) (by decide)
 rw [if_pos c3] at H
 have c3b0 : (t134.toList == ([1, 1, 97, 1, 49, 1, 98, 2, 50, 50] : List UInt8)) = true := beq_iff_eq.mpr c3
 have c3b1 : (t134.toList != ([1, 1, 97, 1, 49, 1, 98, 2, 50, 50] : List UInt8)) = false := bne_eq_false_iff_eq.mpr c3
 clear c3
 replace H := Option.bind_eq_some_iff.mp H
 obtain ⟨t139, A40, H⟩ := H
 replace H : (if t139 = 10 then ((leaf_Place.f y136 (⟨#[98]⟩ : ByteArray)).bind fun t140 => (if t140 = 1 then ((leaf_Place.f y136 (⟨#[97, 97]⟩ : ByteArray)).bind fun t141 => (some (t141 == 0))) else (some false))) else (some false)) = some r := H
 have A4 := aM A40
 clear A40
 by_cases c5 : t139 = 10
 rotate_left
 ·rw [if_neg c5] at H
  exact absurd (H.trans (congrArg some hT.out)) (by decide)
 rw [if_pos c5] at H
 have c5b0 : (t139 == 10) = true := beq_iff_eq.mpr c5
 have c5b1 : (t139 != 10) = false := bne_eq_false_iff_eq.mpr c5
 clear c5
 replace H := Option.bind_eq_some_iff.mp H
 obtain ⟨t140, A60, H⟩ := H
 replace H : (if t140 = 1 then ((leaf_Place.f y136 (⟨#[97, 97]⟩ : ByteArray)).bind fun t141 => (some (t141 == 0))) else (some false)) = some r := H
 have A6 := aM A60
 clear A60
 by_cases c7 : t140 = 1
 ·rw [if_pos c7] at H
  have c7b0 : (t140 == 1) = true := beq_iff_eq.mpr c7
  have c7b1 : (t140 != 1) = false := bne_eq_false_iff_eq.mpr c7
  clear c7
  replace H := Option.bind_eq_some_iff.mp H
  obtain ⟨t141, A80, H⟩ := H
  replace H : (some (t141 == 0)) = some r := H
  have A8 := aM A80
  clear A80
  obtain rfl := Option.some.inj H
  go_enter Try.func11, Try.ntmps11
  go_wp2_with (first | ((with_reducible refine gate_dst (N := 7) rfl ?_); refine Kd.R_lit k47 _ 47 ?hg (N := 7) ?hd (xs := ([(⟨(⟨#[97]⟩ : ByteArray), (⟨#[49]⟩ : ByteArray)⟩ : S47), (⟨(⟨#[98]⟩ : ByteArray), (⟨#[50, 50]⟩ : ByteArray)⟩ : S47)] : List S47)) (inner := [.string (⟨#[97]⟩ : ByteArray), .string (⟨#[49]⟩ : ByteArray), .string (⟨#[98]⟩ : ByteArray), .string (⟨#[50, 50]⟩ : ByteArray)]) (ok := fun _ => True) (okp := fun _ => True) ?hr ?hp (fun _ hk => hk) trivial (Below.refl _ _) (Nat.le_refl _) (by simp) ?_; (case hd => rfl); (case hg => rfl); (case hr => first | (go_simp; done) | (go_simp; rfl)); (case hp => exact (Reps.c2 (show Kd.M k47 _ _ _ (⟨(⟨#[97]⟩ : ByteArray), (⟨#[49]⟩ : ByteArray)⟩ : S47) [.string (⟨#[97]⟩ : ByteArray), .string (⟨#[49]⟩ : ByteArray)] from (k47_mkM _ _ _ (⟨(⟨#[97]⟩ : ByteArray), (⟨#[49]⟩ : ByteArray)⟩ : S47) )) (Reps.c2 (show Kd.M k47 _ _ _ (⟨(⟨#[98]⟩ : ByteArray), (⟨#[50, 50]⟩ : ByteArray)⟩ : S47) [.string (⟨#[98]⟩ : ByteArray), .string (⟨#[50, 50]⟩ : ByteArray)] from (k47_mkM _ _ _ (⟨(⟨#[98]⟩ : ByteArray), (⟨#[50, 50]⟩ : ByteArray)⟩ : S47) )) (Reps.none _ _)))); intro v131 w9 ho10 hb hg_ hnew_; clear hg_ hnew_; (first | rw [← Ny130.out] at ho10 | (simp only [Int.reduceToNat] at ho10; rw [← Ny130.out] at ho10)); have HO132 := aM (Kd.R_lower ho10 (below_size (kl HB))); replace HB := aM (below_step (kl HB) hb); clear hb ho10; obtain ⟨Ao11, co11, eo11⟩ := Kd.R_slice HO132.out; subst eo11) | ((with_reducible refine gate_dst (N := 1) rfl ?_); refine box_event ?hg (N := 1) ?hd (cs := #[.bool false, .slice none 0 0, .slice none 0 0]) (t := 31) ?hr ?_; (case hd => rfl); (case hg => rfl); (case hr => first | (go_simp; done) | (go_simp; rfl)); intro gb133 hg w12 hbox hb; replace HO132 := rb HO132 hb; have BK133 := aM (hbox); have GE133 := gw hg HB; replace HB := aM (below_step (kl HB) hb); clear hb hbox hg; have hcz13_0 : w12.cell? ⟨gb133, 0, none⟩ = some (.bool false) := bc BK133 0; have hcz13_1 : w12.cell? ⟨gb133, 1, none⟩ = some (.slice none 0 0) := bc BK133 1; have hcz13_2 : w12.cell? ⟨gb133, 2, none⟩ = some (.slice none 0 0) := bc BK133 2; have hfz13_0 := blk_frozen BK133.out 0; have hfz13_1 := blk_frozen BK133.out 1; have hfz13_2 := blk_frozen BK133.out 2) | ((with_reducible refine gate_callee (f := 15) rfl ?_); refine goesL_ (some 11) rfl rfl Try.func15 (by kernel_rfl) rfl #[.agg #[.bool true, .slice Ao11 y130.length co11, .slice none 0 0]] rfl (by (try simp only [List.map_toArray, List.map_cons, List.map_nil]); first | done | rfl | (simp only [List.length_drop, List.length_take]; rfl)) ?_; (refine (leaf_Encode.calls true _ _ y130 _ _ ([] : List S36) t134 t135 _ ?side1 ?side2 ?side3 ?side4 A1.out).mono ?_); (case side1 => refine (Kd.R_reads' (e := 47) (base := w.heap.size) (ok := fun k_ => True) (n := y130.length) (c := co11) ?_).2.2; exact (by exact (Kd.R_mono (Kd.R_far (Kd.R_far (Kd.R_far (Kd.R_types HO132.out BK133.out (by decide)) (fun _ hk => hk.2) _) (fun _ hk => hk.2) _) (fun _ hk => hk.2) _) (fun _ h_ => h_.1)))); (case side2 => exact (Kd.R_reads' HO132.out).2.1); (case side3 => exact Kd.C_nil _ _); (case side4 => exact Nat.le_refl _); rintro e w14 ⟨rfl, hb⟩; refine ⟨_, rfl, ?_⟩; replace HO132 := aM (Kd.R_below (by exact (Kd.R_mono (Kd.R_far (Kd.R_far (Kd.R_far (Kd.R_types HO132.out BK133.out (by decide)) (fun _ hk => hk.2) _) (fun _ hk => hk.2) _) (fun _ hk => hk.2) _) (fun _ h_ => h_.1))) hb); replace BK133 := aM (blk_below (g := gb133) (o := .cells #[.bool true, .slice Ao11 y130.length co11, .slice none 0 0] 31 (0, 0)) (by (with_reducible repeat (first | refine blk_drewN ?_ _ | refine blk_drew ?_ | refine blk_alloc ?_ _)); refine blk_put (cs := #[.bool true, .slice Ao11 y130.length co11, .slice none 0 0]) ?_ 2 _ rfl; (with_reducible repeat (first | refine blk_drewN ?_ _ | refine blk_drew ?_ | refine blk_alloc ?_ _)); refine blk_put (cs := #[.bool true, .slice none 0 0, .slice none 0 0]) ?_ 1 _ rfl; (with_reducible repeat (first | refine blk_drewN ?_ _ | refine blk_drew ?_ | refine blk_alloc ?_ _)); refine blk_put (cs := #[.bool false, .slice none 0 0, .slice none 0 0]) ?_ 0 _ rfl; exact kb BK133) hb); replace HB := aM (below_step (kl HB) hb); clear hb) | ((with_reducible refine gate_dst (N := 17) rfl ?_); refine Kd.R_lit k36 _ 36 ?hg (N := 17) ?hd (xs := ([(⟨(⟨#[]⟩ : ByteArray), 2⟩ : S36), (⟨(⟨#[98]⟩ : ByteArray), 3⟩ : S36), (⟨(⟨#[99]⟩ : ByteArray), 4⟩ : S36)] : List S36)) (inner := [.string (⟨#[]⟩ : ByteArray), .int .i64 2, .string (⟨#[98]⟩ : ByteArray), .int .i64 3, .string (⟨#[99]⟩ : ByteArray), .int .i64 4]) (ok := fun _ => True) (okp := fun _ => True) ?hr ?hp (fun _ hk => hk) trivial (Below.refl _ _) (Nat.le_refl _) (by simp) ?_; (case hd => rfl); (case hg => rfl); (case hr => first | (go_simp; done) | (go_simp; rfl)); (case hp => exact (Reps.c2 (show Kd.M k36 _ _ _ (⟨(⟨#[]⟩ : ByteArray), 2⟩ : S36) [.string (⟨#[]⟩ : ByteArray), .int .i64 2] from (k36_mkM _ _ _ (⟨(⟨#[]⟩ : ByteArray), 2⟩ : S36) )) (Reps.c2 (show Kd.M k36 _ _ _ (⟨(⟨#[98]⟩ : ByteArray), 3⟩ : S36) [.string (⟨#[98]⟩ : ByteArray), .int .i64 3] from (k36_mkM _ _ _ (⟨(⟨#[98]⟩ : ByteArray), 3⟩ : S36) )) (Reps.c2 (show Kd.M k36 _ _ _ (⟨(⟨#[99]⟩ : ByteArray), 4⟩ : S36) [.string (⟨#[99]⟩ : ByteArray), .int .i64 4] from (k36_mkM _ _ _ (⟨(⟨#[99]⟩ : ByteArray), 4⟩ : S36) )) (Reps.none _ _))))); intro v137 w15 ho16 hb hg_ hnew_; clear hg_ hnew_; (first | rw [← Ny136.out] at ho16 | (simp only [Int.reduceToNat] at ho16; rw [← Ny136.out] at ho16)); replace HO132 := rb HO132 hb; have HO138 := aM (Kd.R_lower ho16 (below_size (kl HB))); replace BK133 := bb BK133 hb; replace HB := aM (below_step (kl HB) hb); clear hb ho16; have hcz17_0 : w15.cell? ⟨gb133, 0, none⟩ = some (.bool true) := bc BK133 0; have hcz17_1 : w15.cell? ⟨gb133, 1, none⟩ = some (.slice Ao11 y130.length co11) := bc BK133 1; have hcz17_2 : w15.cell? ⟨gb133, 2, none⟩ = some (.slice none 0 0) := bc BK133 2; have hfz17_0 := blk_frozen BK133.out 0; have hfz17_1 := blk_frozen BK133.out 1; have hfz17_2 := blk_frozen BK133.out 2) | (go_at_call 18; (refine (leaf_Size.calls k true _ _ y130 _ _ ([] : List S36) t139 _ ?side1 ?side2 ?side3 ?side4 A4.out).mono ?_); (case side1 => exact kc (Kd.R_reads' HO132.out).2.2); (case side2 => exact (Kd.R_reads' HO132.out).2.1); (case side3 => exact Kd.C_nil _ _); (case side4 => exact Nat.le_refl _); rintro e w18 ⟨rfl, hb⟩; replace HO132 := rb HO132 hb; replace HO138 := rb HO138 hb; replace BK133 := bb BK133 hb; replace HB := aM (below_step (kl HB) hb); clear hb; obtain ⟨Ao19, co19, eo19⟩ := Kd.R_slice HO138.out; subst eo19) | (go_at_call 14; (with_reducible refine (leaf_Place.calls _ _ y136 (⟨#[98]⟩ : ByteArray) t140 _ ?side1 ?side2 A6.out).mono ?_); (case side1 => exact kc (Kd.R_reads' HO138.out).2.2); (case side2 => exact (Kd.R_reads' HO138.out).2.1); rintro e w20 ⟨rfl, hb⟩; replace HO132 := rb HO132 hb; replace HO138 := rb HO138 hb; replace BK133 := bb BK133 hb; replace HB := aM (below_step (kl HB) hb); clear hb) | (go_at_call 14; (with_reducible refine (leaf_Place.calls _ _ y136 (⟨#[97, 97]⟩ : ByteArray) t141 _ ?side1 ?side2 A8.out).mono ?_); (case side1 => exact kc (Kd.R_reads' HO138.out).2.2); (case side2 => exact (Kd.R_reads' HO138.out).2.1); rintro e w21 ⟨rfl, hb⟩; replace HO132 := rb HO132 hb; replace HO138 := rb HO138 hb; replace BK133 := bb BK133 hb; replace HB := aM (below_step (kl HB) hb); clear hb))
  go_ret
  exact ⟨by first | rfl | (simp [errW_none, errW_some] <;> rfl) | (simp [*, errW_none, errW_some] <;> rfl), kl HB⟩
 ·rw [if_neg c7] at H
  exact absurd (H.trans (congrArg some hT.out)) (by decide)
end Go.Proofs.Ytfbaejhjppikpaa.P
namespace Go.Proofs.Ytfbaejhjppikpaa.P
open Go.RowKit Go.Proofs.YtfbaejhjppikpaaW.PrintWords Go.Proofs.YtfbaejhjppikpaaW.PrintLast Go.Proofs.YtfbaejhjppikpaaW.PrintMore
attribute [local go_sem] max2_int min2_int max_two min_two max_three min_three max_four min_four
set_option linter.unusedVariables false
set_option linter.unusedSimpArgs false
def lw_entries.l0 : Nat → List S75 → List S47 → Int → Option ((List S47))
 | 0, _, _, _ => none
 | k + 1, x0, x3, x4 => if x4 < (x0.length : Int) then (if 0 ≤ x4 then (if x3.length < 4398046511104 then (lw_entries.l0 k x0 (x3 ++ [(⟨(rd_T75 x0 x4).f0, (rd_T75 x0 x4).f1⟩ : S47)]) (wrap64 (x4 + 1))) else (none)) else (none)) else (some x3)
def lw_entries.f (k : Nat) (l0 : List S75) : Option ((List S47)) := lw_entries.l0 k l0 ([] : List S47) 0
set_option maxHeartbeats 8000000 in
set_option maxRecDepth 100000 in
theorem lw_entries.calls (k : Nat) (A0 : Option Addr) (c0 : Nat) (l0 : List S75) (r : List S47) (w : World) (hr0 : Kd.C k75 w A0 l0.length l0) (hc0 : l0.length ≤ c0) (h : lw_entries.f k l0 = some r) :
  Calls Try.prog 37 #[.slice A0 l0.length c0] w fun e w' => ∃ v0_ : Value, e = .returned (v0_) ∧ Kd.R k47 47 w' w.heap.size (fun _ => True) v0_ r ∧ Below w.heap.size w w' := by
 have hu75 := Try.underlying75
 have HR0 := Aside0.mk hr0
 have HC0 := Aside0.mk hc0
 clear hr0 hc0
 have HB := Aside0.mk (Below.refl w.heap.size w)
 have H : (lw_entries.l0 k l0 ([] : List S47) 0) = some r := h
 clear h
 have H' := Aside0.mk H
 clear H
 go_enter Try.func37, Try.ntmps37
 go_wp2
 go_loopg [3, 4] k (fun kq v3 v4 w' => ∃ (x3_1 : List S47) (x4_1 : Int), v4 = .int .i64 x4_1 ∧ Aside0 (lw_entries.l0 kq l0 x3_1 x4_1 = some r) ∧ Aside0 (kq ≤ k) ∧ Aside0 (Kd.R k47 47 w' w.heap.size (fun _ => True) v3 x3_1) ∧ Aside0 (Below w.heap.size w w'))
 case atStart => exact ⟨(([] : List S47)), (0), (by first | rfl | (simp; done) | (simp [*]; done)), H', ⟨Nat.le_refl _⟩, ⟨by first | exact Kd.R_nil _ _ _ _ _ | exact Kd.N_nil _ _ _ _ _ | exact Kd.V_nil _ _ _ _ _ | exact Kd.Q_nil _ _ _ _ _ | exact Kd.S_nil _ _ _ _ _⟩, ⟨kl HB⟩⟩
 case round =>
  clear H'
  obtain ⟨x3_1, x4_1, rfl, HA, HK1, HO_3, HB⟩ := hrel
  cases gk with
  | zero => exact absurd HA.out (by simp [lw_entries.l0])
  | succ k1 =>
   have H := HA.out
   clear HA
   simp only [lw_entries.l0] at H
   by_cases c2 : x4_1 < (l0.length : Int)
   ·rw [if_pos c2] at H
    have c2b0 : decide (x4_1 < (l0.length : Int)) = true := decide_eq_true c2
    clear c2
    by_cases c3 : 0 ≤ x4_1
    ·rw [if_pos c3] at H
     have c3b0 : decide (0 ≤ x4_1) = true := decide_eq_true c3
     clear c3
     by_cases c4 : x3_1.length < 4398046511104
     ·rw [if_pos c4] at H
      have LMc4 := Aside0.mk c4
      clear c4
      obtain ⟨y143, hy143⟩ : ∃ y_ : List S47, y_ = (x3_1 ++ [(⟨(rd_T75 l0 x4_1).f0, (rd_T75 l0 x4_1).f1⟩ : S47)]) := ⟨_, rfl⟩
      replace H : (lw_entries.l0 k1 l0 y143 (wrap64 (x4_1 + 1))) = some r := by first | (rw [hy143]; with_reducible exact H) | (have H2_ := (Option.bind_some _ _).symm.trans H; rw [hy143]; with_reducible exact H2_) | (have H2_ := (Option.bind_some _ _).symm.trans H; with_reducible exact H2_) | with_reducible exact H | (rw [hy143]; exact H) | exact H
      have Ny143 := Aside0.mk hy143
      clear hy143
      have H' := Aside0.mk H
      clear H
      have p142 : 0 ≤ (x4_1 : Int) := of_decide_eq_true (by first | (with_reducible assumption) | assumption)
      have q142 : x4_1 < (l0.length : Int) := of_decide_eq_true (by first | (with_reducible assumption) | assumption)
      obtain ⟨ad142, e142, hx142_0, hx142_1⟩ := at_T75 HR0.out x4_1 p142 q142
      cases e142
      replace hx142_0 := (HB.out.cell (World.block_lt_of_cell? w _ hx142_0)).trans hx142_0
      replace hx142_1 := (HB.out.cell (World.block_lt_of_cell? w _ hx142_1)).trans hx142_1
      replace p142 := eq_true p142
      replace q142 := eq_true q142
      go_wp2_with (first | ((with_reducible refine gate_builtin (b := .append) (xs := #[.tmp 11, .tmp 16]) rfl ?_); at_builtin; refine Kd.R_append k47 (w0 := w) w.heap.size rfl (.tmp 11) (.tmp 16) 28 47 (.agg #[(.string ⟨#[]⟩), (.string ⟨#[]⟩)]) 32 rfl Try.underlying28 info47 rfl (by decide) (by omega) u3 x3_1 (⟨(rd_T75 l0 x4_1).f0, (rd_T75 l0 x4_1).f1⟩ : S47) [.string ((rd_T75 l0 x4_1).f0), .string ((rd_T75 l0 x4_1).f1)] (fun _ => True) (fun _ => False) rfl rfl ?aP (fun _ hk => hk.elim) ?aF ?aO ?aB ?aS ?aL ?_; (case aP => exact k47_mkM _ _ _ (⟨(rd_T75 l0 x4_1).f0, (rd_T75 l0 x4_1).f1⟩ : S47)); (case aB => exact (kl HB)); (case aF => exact (fun _ _ => trivial)); (case aO => exact (kr HO_3)); (case aS => exact (below_size (kl HB))); (case aL => have := LMc4.out; omega); intro v144 w5 ho hb hg hat; rw [← Ny143.out] at ho; replace HB := Aside0.mk (hb); have HO145 := Aside0.mk (ho); clear HO_3; clear ho hb hg hat))
      go_roundg k1
      case measure => have := HK1.out; omega
      case rel => exact ⟨(y143), (wrap64 (x4_1 + 1)), (by first | rfl | (simp; done) | (simp [*]; done)), H', ⟨by have := HK1.out; omega⟩, ⟨kr HO145⟩, ⟨kl HB⟩⟩
     ·rw [if_neg c4] at H
      exact absurd H (by simp)
    ·rw [if_neg c3] at H
     exact absurd H (by simp)
   ·rw [if_neg c2] at H
    have c2b0 : decide (x4_1 < (l0.length : Int)) = false := decide_eq_false c2
    clear c2
    obtain rfl := Option.some.inj H
    go_wp2
    go_ret
    exact ⟨_, by first | rfl | (simp [errW_none, errW_some] <;> rfl) | (simp [*, errW_none, errW_some] <;> rfl), kr HO_3, kl HB⟩
end Go.Proofs.Ytfbaejhjppikpaa.P
namespace Go.Proofs.Ytfbaejhjppikpaa.P
open Go.RowKit Go.Proofs.YtfbaejhjppikpaaW.PrintWords Go.Proofs.YtfbaejhjppikpaaW.PrintLast Go.Proofs.YtfbaejhjppikpaaW.PrintMore
attribute [local go_sem] max2_int min2_int max_two min_two max_three min_three max_four min_four
set_option linter.unusedVariables false
set_option linter.unusedSimpArgs false
def lw_branches.l0 : Nat → List S76 → List S36 → Int → Option ((List S36))
 | 0, _, _, _ => none
 | k + 1, x0, x3, x4 => if x4 < (x0.length : Int) then (if 0 ≤ x4 then (if x3.length < 5864062014805 then (lw_branches.l0 k x0 (x3 ++ [(⟨(rd_T76 x0 x4).f0, (rd_T76 x0 x4).f1⟩ : S36)]) (wrap64 (x4 + 1))) else (none)) else (none)) else (some x3)
def lw_branches.f (k : Nat) (l0 : List S76) : Option ((List S36)) := lw_branches.l0 k l0 ([] : List S36) 0
set_option maxHeartbeats 8000000 in
set_option maxRecDepth 100000 in
theorem lw_branches.calls (k : Nat) (A0 : Option Addr) (c0 : Nat) (l0 : List S76) (r : List S36) (w : World) (hr0 : Kd.C k76 w A0 l0.length l0) (hc0 : l0.length ≤ c0) (h : lw_branches.f k l0 = some r) :
  Calls Try.prog 38 #[.slice A0 l0.length c0] w fun e w' => ∃ v0_ : Value, e = .returned (v0_) ∧ Kd.R k36 36 w' w.heap.size (fun _ => True) v0_ r ∧ Below w.heap.size w w' := by
 have hu76 := Try.underlying76
 have HR0 := Aside0.mk hr0
 have HC0 := Aside0.mk hc0
 clear hr0 hc0
 have HB := Aside0.mk (Below.refl w.heap.size w)
 have H : (lw_branches.l0 k l0 ([] : List S36) 0) = some r := h
 clear h
 have H' := Aside0.mk H
 clear H
 go_enter Try.func38, Try.ntmps38
 go_wp2
 go_loopg [3, 4] k (fun kq v3 v4 w' => ∃ (x3_1 : List S36) (x4_1 : Int), v4 = .int .i64 x4_1 ∧ Aside0 (lw_branches.l0 kq l0 x3_1 x4_1 = some r) ∧ Aside0 (kq ≤ k) ∧ Aside0 (Kd.R k36 36 w' w.heap.size (fun _ => True) v3 x3_1) ∧ Aside0 (Below w.heap.size w w'))
 case atStart => exact ⟨(([] : List S36)), (0), (by first | rfl | (simp; done) | (simp [*]; done)), H', ⟨Nat.le_refl _⟩, ⟨by first | exact Kd.R_nil _ _ _ _ _ | exact Kd.N_nil _ _ _ _ _ | exact Kd.V_nil _ _ _ _ _ | exact Kd.Q_nil _ _ _ _ _ | exact Kd.S_nil _ _ _ _ _⟩, ⟨kl HB⟩⟩
 case round =>
  clear H'
  obtain ⟨x3_1, x4_1, rfl, HA, HK1, HO_3, HB⟩ := hrel
  cases gk with
  | zero => exact absurd HA.out (by simp [lw_branches.l0])
  | succ k1 =>
   have H := HA.out
   clear HA
   simp only [lw_branches.l0] at H
   by_cases c2 : x4_1 < (l0.length : Int)
   ·rw [if_pos c2] at H
    have c2b0 : decide (x4_1 < (l0.length : Int)) = true := decide_eq_true c2
    clear c2
    by_cases c3 : 0 ≤ x4_1
    ·rw [if_pos c3] at H
     have c3b0 : decide (0 ≤ x4_1) = true := decide_eq_true c3
     clear c3
     by_cases c4 : x3_1.length < 5864062014805
     ·rw [if_pos c4] at H
      have LMc4 := Aside0.mk c4
      clear c4
      obtain ⟨y147, hy147⟩ : ∃ y_ : List S36, y_ = (x3_1 ++ [(⟨(rd_T76 l0 x4_1).f0, (rd_T76 l0 x4_1).f1⟩ : S36)]) := ⟨_, rfl⟩
      replace H : (lw_branches.l0 k1 l0 y147 (wrap64 (x4_1 + 1))) = some r := by first | (rw [hy147]; with_reducible exact H) | (have H2_ := (Option.bind_some _ _).symm.trans H; rw [hy147]; with_reducible exact H2_) | (have H2_ := (Option.bind_some _ _).symm.trans H; with_reducible exact H2_) | with_reducible exact H | (rw [hy147]; exact H) | exact H
      have Ny147 := Aside0.mk hy147
      clear hy147
      have H' := Aside0.mk H
      clear H
      have p146 : 0 ≤ (x4_1 : Int) := of_decide_eq_true (by first | (with_reducible assumption) | assumption)
      have q146 : x4_1 < (l0.length : Int) := of_decide_eq_true (by first | (with_reducible assumption) | assumption)
      obtain ⟨ad146, e146, hx146_0, hx146_1⟩ := at_T76 HR0.out x4_1 p146 q146
      cases e146
      replace hx146_0 := (HB.out.cell (World.block_lt_of_cell? w _ hx146_0)).trans hx146_0
      replace hx146_1 := (HB.out.cell (World.block_lt_of_cell? w _ hx146_1)).trans hx146_1
      replace p146 := eq_true p146
      replace q146 := eq_true q146
      go_wp2_with (first | ((with_reducible refine gate_builtin (b := .append) (xs := #[.tmp 11, .tmp 16]) rfl ?_); at_builtin; refine Kd.R_append k36 (w0 := w) w.heap.size rfl (.tmp 11) (.tmp 16) 29 36 (.agg #[(.string ⟨#[]⟩), (.int .i64 0)]) 24 rfl Try.underlying29 info36 rfl (by decide) (by omega) u3 x3_1 (⟨(rd_T76 l0 x4_1).f0, (rd_T76 l0 x4_1).f1⟩ : S36) [.string ((rd_T76 l0 x4_1).f0), .int .i64 ((rd_T76 l0 x4_1).f1)] (fun _ => True) (fun _ => False) rfl rfl ?aP (fun _ hk => hk.elim) ?aF ?aO ?aB ?aS ?aL ?_; (case aP => exact k36_mkM _ _ _ (⟨(rd_T76 l0 x4_1).f0, (rd_T76 l0 x4_1).f1⟩ : S36)); (case aB => exact (kl HB)); (case aF => exact (fun _ _ => trivial)); (case aO => exact (kr HO_3)); (case aS => exact (below_size (kl HB))); (case aL => have := LMc4.out; omega); intro v148 w5 ho hb hg hat; rw [← Ny147.out] at ho; replace HB := Aside0.mk (hb); have HO149 := Aside0.mk (ho); clear HO_3; clear ho hb hg hat))
      go_roundg k1
      case measure => have := HK1.out; omega
      case rel => exact ⟨(y147), (wrap64 (x4_1 + 1)), (by first | rfl | (simp; done) | (simp [*]; done)), H', ⟨by have := HK1.out; omega⟩, ⟨kr HO149⟩, ⟨kl HB⟩⟩
     ·rw [if_neg c4] at H
      exact absurd H (by simp)
    ·rw [if_neg c3] at H
     exact absurd H (by simp)
   ·rw [if_neg c2] at H
    have c2b0 : decide (x4_1 < (l0.length : Int)) = false := decide_eq_false c2
    clear c2
    obtain rfl := Option.some.inj H
    go_wp2
    go_ret
    exact ⟨_, by first | rfl | (simp [errW_none, errW_some] <;> rfl) | (simp [*, errW_none, errW_some] <;> rfl), kr HO_3, kl HB⟩
end Go.Proofs.Ytfbaejhjppikpaa.P
namespace Go.Proofs.Ytfbaejhjppikpaa.P
open Go.RowKit Go.Proofs.YtfbaejhjppikpaaW.PrintWords Go.Proofs.YtfbaejhjppikpaaW.PrintLast Go.Proofs.YtfbaejhjppikpaaW.PrintMore
attribute [local go_sem] max2_int min2_int max_two min_two max_three min_three max_four min_four
set_option linter.unusedVariables false
set_option linter.unusedSimpArgs false
def lw_given.f (k : Nat) (a0_0 : Bool) (l0_1 : List S75) (l0_2 : List S76) : Option (Bool × (List S47) × (List S36)) := (lw_entries.f k l0_1).bind fun t152 => ((lw_branches.f k l0_2).bind fun t155 => (some (a0_0, t152, t155)))
def lw_given.T1 : Bool × List (List Nat × List Nat) := (true, [([], []), ([0], [0]), ([], []), ([2], [2]), ([3], [3]), ([], []), ([5], [5]), ([6, 4], [6]), ([1, 4, 7], [1, 4, 7]), ([8, 7, 0, 1, 2, 3, 4, 5, 6, 7, 8], [8])])
def lw_given.B1 : List Nat := [0, 1, 0, 4, 12, 0, 32, 124, 255, 511]
theorem lw_given.tab1 : rtab .any (opsOf Try.f12 1) = lw_given.T1 := by kernel_rfl
theorem lw_given.bits1 : waitsOk lw_given.T1.2 lw_given.B1 = true := by kernel_rfl
set_option maxHeartbeats 8000000 in
set_option maxRecDepth 100000 in
theorem lw_given.calls (k : Nat) (a0_0 : Bool) (A0_1 : Option Addr) (c0_1 : Nat) (l0_1 : List S75) (A0_2 : Option Addr) (c0_2 : Nat) (l0_2 : List S76) (r1 : Bool) (r2 : List S47) (r3 : List S36) (w : World) (hr0_1 : Kd.C k75 w A0_1 l0_1.length l0_1) (hc0_1 : l0_1.length ≤ c0_1) (hr0_2 : Kd.C k76 w A0_2 l0_2.length l0_2) (hc0_2 : l0_2.length ≤ c0_2) (h : lw_given.f k a0_0 l0_1 l0_2 = some (r1, r2, r3)) :
  Calls Try.prog 12 #[.agg #[.bool a0_0, .slice A0_1 l0_1.length c0_1, .slice A0_2 l0_2.length c0_2]] w fun e w' => ∃ v1_ v2_ : Value, e = .returned (.agg #[.bool r1, v1_, v2_]) ∧ Kd.R k47 47 w' w.heap.size (fun _ => True) v1_ r2 ∧ Kd.R k36 36 w' w.heap.size (fun _ => True) v2_ r3 ∧ Below w.heap.size w w' := by
 have hu25 := Try.underlying25
 have hu31 := Try.underlying31
 have HR0_1 := aM hr0_1
 have HC0_1 := aM hc0_1
 clear hr0_1 hc0_1
 have HR0_2 := aM hr0_2
 have HC0_2 := aM hc0_2
 clear hr0_2 hc0_2
 have HB := aM (Below.refl w.heap.size w)
 have H : ((lw_entries.f k l0_1).bind fun t152 => ((lw_branches.f k l0_2).bind fun t155 => (some (a0_0, t152, t155)))) = some (r1, r2, r3) := h
 clear h
 replace H := Option.bind_eq_some_iff.mp H
 obtain ⟨t152, A20, H⟩ := H
 replace H : ((lw_branches.f k l0_2).bind fun t155 => (some (a0_0, t152, t155))) = some (r1, r2, r3) := H
 have A2 := aM A20
 clear A20
 replace H := Option.bind_eq_some_iff.mp H
 obtain ⟨t155, A30, H⟩ := H
 replace H : (some (a0_0, t152, t155)) = some (r1, r2, r3) := H
 have A3 := aM A30
 clear A30
 simp only [Option.some.injEq, Prod.mk.injEq] at H
 obtain ⟨rfl, rfl, rfl⟩ := H
 go_enter Try.func12, Try.ntmps12
 try go_wp2_with (first | ((with_reducible refine gate_dst (N := 1) rfl ?_); refine box_event ?hg (N := 1) ?hd (cs := #[.bool a0_0, .slice A0_1 l0_1.length c0_1, .slice A0_2 l0_2.length c0_2]) (t := 25) ?hr ?_; (case hd => rfl); (case hg => rfl); (case hr => first | (go_simp; done) | (go_simp; rfl)); intro gb150 hg w4 hbox hb; have BK150 := aM (hbox); have GE150 := gw hg HB; replace HB := aM (below_step (kl HB) hb); clear hb hbox hg) | ((with_reducible refine gate_dst (N := 2) rfl ?_); refine box_event ?hg (N := 2) ?hd (cs := #[.bool false, .slice none 0 0, .slice none 0 0]) (t := 31) ?hr ?_; (case hd => rfl); (case hg => rfl); (case hr => first | (go_simp; done) | (go_simp; rfl)); intro gb151 hg w5 hbox hb; have BK151 := aM (hbox); have GE151 := gw hg HB; replace HB := aM (below_step (kl HB) hb); have NB150_151 := nl hg BK150; have NB151_150 := ng hg BK150; replace BK150 := bb BK150 hb; clear hb hbox hg))
 replace BK150 := aM (blk_drew BK150.out)
 replace BK151 := aM (blk_drew BK151.out)
 replace HB := aM (below_drew1 HB.out)
 refine start_ (n := 10) (S := fun w' => w'.cell? ⟨gb150, 0, none⟩ = some (.bool a0_0) ∧ w'.cell? ⟨gb150, 1, none⟩ = some (.slice A0_1 l0_1.length c0_1) ∧ w'.cell? ⟨gb150, 2, none⟩ = some (.slice A0_2 l0_2.length c0_2)) (ds := []) #[N,N,N,N,N,N,N,N,N,N] (by kernel_rfl) rfl rfl ⟨bc BK150 0, bc BK150 1, bc BK150 2⟩ (fun hHeld => ?_); refine with_tabW lw_given.tab1 lw_given.bits1 (fun HT_ HW_ => ?_)
 generalize w5.drew = w6 at BK150 BK151 HB hHeld ⊢
 refine pure_ (i := 0) (N := some 3) (v := ?_) (a' := ?_) #[Y,N,N,N,N,N,N,N,N,N] rfl rfl (any_of HT_.out (by kernel_rfl)) (fun _ _ _ h => h) (Or.inl ⟨by rfl, ?_⟩) ?_ ?_
 rotate_left
 ·intro w'
  go_simp
  with_reducible rfl
 rotate_left
 ·simp only [Act.put, List.setIfInBounds_toArray, List.set_cons_zero, List.set_cons_succ, i64_w, i32_w]
  rfl
 refine pure_ (i := 2) (N := some 5) (v := ?_) (a' := ?_) #[Y,N,Y,N,N,N,N,N,N,N] rfl rfl (any_of HT_.out (by kernel_rfl)) (fun _ _ _ h => h) (Or.inl ⟨by rfl, ?_⟩) ?_ ?_
 rotate_left
 ·intro w'
  go_simp
  with_reducible rfl
 rotate_left
 ·simp only [Act.put, List.setIfInBounds_toArray, List.set_cons_zero, List.set_cons_succ, i64_w, i32_w]
  rfl
 refine pure_ (i := 5) (N := some 8) (v := ?_) (a' := ?_) #[Y,N,Y,N,N,Y,N,N,N,N] rfl rfl (any_of HT_.out (by kernel_rfl)) (fun _ _ _ h => h) (Or.inl ⟨by rfl, ?_⟩) ?_ ?_
 rotate_left
 ·intro w'
  go_simp
  with_reducible rfl
 rotate_left
 ·simp only [Act.put, List.setIfInBounds_toArray, List.set_cons_zero, List.set_cons_succ, i64_w, i32_w]
  rfl
 refine take_ (i := 1) (N := some 4) (v := ?_) (a' := ?_) #[Y,Y,Y,N,N,Y,N,N,N,N] rfl rfl (take_ofW HT_.out HW_.out (by kernel_rfl)) (fun _ _ _ h => h) (Or.inl ⟨by rfl, ?_⟩) hHeld ?_ ?_
 rotate_left
 ·rintro w' ⟨s0, s1, s2⟩
  go_simp
  with_reducible rfl
 rotate_left
 ·simp only [Act.put, List.setIfInBounds_toArray, List.set_cons_zero, List.set_cons_succ, i64_w, i32_w]
  rfl
 refine take_ (i := 3) (N := some 6) (v := ?_) (a' := ?_) #[Y,Y,Y,Y,N,Y,N,N,N,N] rfl rfl (take_ofW HT_.out HW_.out (by kernel_rfl)) (fun _ _ _ h => h) (Or.inl ⟨by rfl, ?_⟩) hHeld ?_ ?_
 rotate_left
 ·rintro w' ⟨s0, s1, s2⟩
  go_simp
  with_reducible rfl
 rotate_left
 ·simp only [Act.put, List.setIfInBounds_toArray, List.set_cons_zero, List.set_cons_succ, i64_w, i32_w]
  rfl
 refine take_ (i := 6) (N := some 9) (v := ?_) (a' := ?_) #[Y,Y,Y,Y,N,Y,Y,N,N,N] rfl rfl (take_ofW HT_.out HW_.out (by kernel_rfl)) (fun _ _ _ h => h) (Or.inl ⟨by rfl, ?_⟩) hHeld ?_ ?_
 rotate_left
 ·rintro w' ⟨s0, s1, s2⟩
  go_simp
  with_reducible rfl
 rotate_left
 ·simp only [Act.put, List.setIfInBounds_toArray, List.set_cons_zero, List.set_cons_succ, i64_w, i32_w]
  rfl
 refine one_ (i := 4) (N := some 7) #[Y,Y,Y,Y,Y,Y,Y,N,N,N] rfl rfl (one_of HT_.out (by kernel_rfl)) (by decide) (fun K hK => ?_)
 refine goes_ Try.func37 (by kernel_rfl) rfl #[.slice A0_1 l0_1.length c0_1] (by rfl) rfl rfl (by (try simp only [List.map_toArray, List.map_cons, List.map_nil]); first | done | rfl | (simp only [List.length_drop, List.length_take]; rfl)) ?_
 with_reducible refine (lw_entries.calls k _ _ l0_1 t152 _ ?side1 ?side2 A2.out).mono ?_
 (case side1 => exact kc (Kd.C_below HR0_1.out HB.out))
 (case side2 => exact HC0_1.out)
 rintro e w7 ⟨v153, rfl, ho0, hb⟩
 refine ⟨_, rfl, ?_⟩
 have HO154 := aM (Kd.R_lower ho0 (below_size (kl HB)))
 replace BK150 := bb BK150 hb
 replace BK151 := bb BK151 hb
 replace HB := aM (below_step (kl HB) hb)
 (try clear hb)
 (try clear hb2)
 (try clear hk)
 (try clear hi)
 (try clear ho0)
 refine hK.out _ _ ⟨bc BK150 0, bc BK150 1, bc BK150 2⟩ (fun hHeld => ?_)
 clear hK K
 refine norm_ (a' := ?_) ?_ ?_
 rotate_left
 ·show Act.put _ (some 7) _ = _
  simp only [Act.put, List.setIfInBounds_toArray, List.set_cons_zero, List.set_cons_succ, i64_w, i32_w]
  rfl
 refine one_ (i := 7) (N := some 10) #[Y,Y,Y,Y,Y,Y,Y,Y,N,N] rfl rfl (one_of HT_.out (by kernel_rfl)) (by decide) (fun K hK => ?_)
 refine goes_ Try.func38 (by kernel_rfl) rfl #[.slice A0_2 l0_2.length c0_2] (by rfl) rfl rfl (by (try simp only [List.map_toArray, List.map_cons, List.map_nil]); first | done | rfl | (simp only [List.length_drop, List.length_take]; rfl)) ?_
 with_reducible refine (lw_branches.calls k _ _ l0_2 t155 _ ?side1 ?side2 A3.out).mono ?_
 (case side1 => exact kc (Kd.C_below HR0_2.out HB.out))
 (case side2 => exact HC0_2.out)
 rintro e w8 ⟨v156, rfl, ho0, hb⟩
 refine ⟨_, rfl, ?_⟩
 replace HO154 := rb HO154 hb
 have HO157 := aM (Kd.R_lower ho0 (below_size (kl HB)))
 replace BK150 := bb BK150 hb
 replace BK151 := bb BK151 hb
 replace HB := aM (below_step (kl HB) hb)
 (try clear hb)
 (try clear hb2)
 (try clear hk)
 (try clear hi)
 (try clear ho0)
 obtain ⟨Ao9, co9, eo9⟩ := Kd.R_slice HO157.out
 (first | subst eo9 | (injection eo9 with f1_ f2_ f3_; have f4_ := f1_.symm; have f5_ := f3_.symm; clear f1_ f2_ f3_; subst f4_; subst f5_))
 obtain ⟨Ao10, co10, eo10⟩ := Kd.R_slice HO154.out
 (first | subst eo10 | (injection eo10 with f1_ f2_ f3_; have f4_ := f1_.symm; have f5_ := f3_.symm; clear f1_ f2_ f3_; subst f4_; subst f5_))
 refine hK.out _ _ ⟨bc BK150 0, bc BK150 1, bc BK150 2⟩ (fun hHeld => ?_)
 clear hK K
 refine norm_ (a' := ?_) ?_ ?_
 rotate_left
 ·show Act.put _ (some 10) _ = _
  simp only [Act.put, List.setIfInBounds_toArray, List.set_cons_zero, List.set_cons_succ, i64_w, i32_w]
  rfl
 refine pure_ (i := 8) (N := some 11) (v := ?_) (a' := ?_) #[Y,Y,Y,Y,Y,Y,Y,Y,Y,N] rfl rfl (any_of HT_.out (by kernel_rfl)) (fun _ _ _ h => h) (Or.inl ⟨by rfl, ?_⟩) ?_ ?_
 rotate_left
 ·intro w'
  go_simp
  with_reducible rfl
 rotate_left
 ·simp only [Act.put, List.setIfInBounds_toArray, List.set_cons_zero, List.set_cons_succ, i64_w, i32_w]
  rfl
 refine one_ (i := 9) (N := none) #[Y,Y,Y,Y,Y,Y,Y,Y,Y,Y] rfl rfl (one_of HT_.out (by kernel_rfl)) (by decide) (fun K hK => ?_)
 have hs11 : w8.cell? ⟨gb151, 0, none⟩ = some (.bool false) := bc BK151 0
 have hfs11 := blk_frozen BK151.out 0
 have hns11_0 := NB150_151.out
 have hms11_0 := NB151_150.out
 have hs12 : w8.cell? ⟨gb151, 1, none⟩ = some (.slice none 0 0) := bc BK151 1
 have hfs12 := blk_frozen BK151.out 1
 have hns12_0 := NB150_151.out
 have hms12_0 := NB151_150.out
 have hs13 : w8.cell? ⟨gb151, 2, none⟩ = some (.slice none 0 0) := bc BK151 2
 have hfs13 := blk_frozen BK151.out 2
 have hns13_0 := NB150_151.out
 have hms13_0 := NB151_150.out
 refine skip_ (w1 := ?_) (by rfl) rfl ?_ ?_
 rotate_left
 ·go_simp
  rfl
 refine hK.out _ _ ⟨((cell_far (p := ⟨gb151, _, none⟩) NB150_151.out _).trans (((cell_far (p := ⟨gb151, _, none⟩) NB150_151.out _).trans (((cell_far (p := ⟨gb151, _, none⟩) NB150_151.out _).trans (hHeld.1)))))), ((cell_far (p := ⟨gb151, _, none⟩) NB150_151.out _).trans (((cell_far (p := ⟨gb151, _, none⟩) NB150_151.out _).trans (((cell_far (p := ⟨gb151, _, none⟩) NB150_151.out _).trans (hHeld.2.1)))))), ((cell_far (p := ⟨gb151, _, none⟩) NB150_151.out _).trans (((cell_far (p := ⟨gb151, _, none⟩) NB150_151.out _).trans (((cell_far (p := ⟨gb151, _, none⟩) NB150_151.out _).trans (hHeld.2.2))))))⟩ (fun hHeld => ?_)
 clear hK K
 refine done_ (done_of HT_.out (by kernel_rfl)) ?_
 try go_wp2
 refine bodyPost_ret (results_cell_row rfl _ _ gb151 31 #[.bool a0_0, .slice Ao10 t152.length co10, .slice Ao9 t155.length co9] (0, 0) _ rfl (by (with_reducible repeat (first | refine blk_drewN ?_ _ | refine blk_drew ?_ | refine blk_alloc ?_ _)); refine blk_put (cs := #[.bool a0_0, .slice Ao10 t152.length co10, .slice none 0 0]) ?_ 2 _ rfl; (with_reducible repeat (first | refine blk_drewN ?_ _ | refine blk_drew ?_ | refine blk_alloc ?_ _)); refine blk_put (cs := #[.bool a0_0, .slice none 0 0, .slice none 0 0]) ?_ 1 _ rfl; (with_reducible repeat (first | refine blk_drewN ?_ _ | refine blk_drew ?_ | refine blk_alloc ?_ _)); refine blk_put (cs := #[.bool false, .slice none 0 0, .slice none 0 0]) ?_ 0 _ rfl; exact kb BK151) Try.underlying31 rfl (by kernel_rfl)) rfl ?_
 exact ⟨_, _, by first | rfl | (simp [errW_none, errW_some] <;> rfl) | (simp [*, errW_none, errW_some] <;> rfl), by exact Kd.R_mono (Kd.R_far (Kd.R_far (Kd.R_far (Kd.R_types HO154.out BK151.out (by decide)) (fun _ hk => hk.2) _) (fun _ hk => hk.2) _) (fun _ hk => hk.2) _) (fun _ hk => trivial), by exact Kd.R_mono (Kd.R_far (Kd.R_far (Kd.R_far (Kd.R_types HO157.out BK151.out (by decide)) (fun _ hk => hk.2) _) (fun _ hk => hk.2) _) (fun _ hk => hk.2) _) (fun _ hk => trivial), kl HB⟩
end Go.Proofs.Ytfbaejhjppikpaa.P
namespace Go.Proofs.Ytfbaejhjppikpaa.P
open Go.RowKit Go.Proofs.YtfbaejhjppikpaaW.PrintWords Go.Proofs.YtfbaejhjppikpaaW.PrintLast Go.Proofs.YtfbaejhjppikpaaW.PrintMore
theorem le_more {α : Type} {f : Nat → Option α} (hm : ∀ k, LeO (f k) (f (k + 1))) {k0 : Nat} {r : α} (h : f k0 = some r) : ∀ k, k0 ≤ k → f k = some r := by
  intro k hk
  induction k with
  | zero => rw [show k0 = 0 from by omega] at h; exact h
  | succ k ih =>
    by_cases e : k0 = k + 1
    · exact e ▸ h
    · exact hm k _ (ih (by omega))
theorem awake_tells : ∀ k, 20 ≤ k → lw_awake.f k = some true :=
  le_more lw_awake.mono (k0 := 20) (by decide +kernel)
theorem rdE5 (l : List S75) (i : Nat) (h : i < l.length) : rd_T75 l (i : Int) = l[i] := by unfold rd_T75; simp [List.getD_eq_getElem?_getD, h]
theorem rdB6 (l : List S76) (i : Nat) (h : i < l.length) : rd_T76 l (i : Int) = l[i] := by unfold rd_T76; simp [List.getD_eq_getElem?_getD, h]
def bigE (x : S75) : Bool := decide (300 < x.f0.size) || decide (300 < x.f1.size)
def bigB (x : S76) : Bool := decide (300 < x.f0.size)
def largeB (l : List S75) (m : List S76) : Bool := (decide (200 < l.length) || decide (200 < m.length)) || ((l.any bigE) || (m.any bigB))
theorem large_l1 (a : Bool) (l : List S75) (m : List S76) (hm : m.length ≤ 200) : ∀ (d i k : Nat), i + d = m.length → lw_large.l1 (d + (k + 1)) (i : Int) a l m = some ((m.drop i).any bigB) := by
  intro d
  induction d with
  | zero =>
    intro i k h
    rw [show 0 + (k + 1) = k + 1 from by omega]
    simp only [lw_large.l1]
    rw [if_neg (by omega), List.drop_eq_nil_of_le (by omega)]; rfl
  | succ d ih =>
    intro i k h
    obtain ⟨q, hq⟩ : ∃ q, q = d + (k + 1) := ⟨_, rfl⟩
    rw [show d + 1 + (k + 1) = q + 1 from by omega]
    simp only [lw_large.l1]
    have hi : i < m.length := by omega
    rw [if_pos (by omega), if_pos (by omega), wrap_nat i (by omega), hq, ih (i + 1) k (by omega), rdB6 m i hi, List.drop_eq_getElem_cons hi, List.any_cons]
    unfold bigB
    by_cases c : 300 < m[i].f0.size
    · rw [if_pos (by omega)]; simp [c]
    · rw [if_neg (by omega)]; simp [c]
theorem large_l0 (a : Bool) (l : List S75) (m : List S76) (hl : l.length ≤ 200) : ∀ (d i k : Nat), i + d = l.length → lw_large.l0 (d + (k + 1)) (i : Int) a l m = if (l.drop i).any bigE then some true else lw_large.l1 k 0 a l m := by
  intro d
  induction d with
  | zero =>
    intro i k h
    rw [show 0 + (k + 1) = k + 1 from by omega]
    simp only [lw_large.l0]
    rw [if_neg (by omega), List.drop_eq_nil_of_le (by omega)]; rfl
  | succ d ih =>
    intro i k h
    obtain ⟨q, hq⟩ : ∃ q, q = d + (k + 1) := ⟨_, rfl⟩
    rw [show d + 1 + (k + 1) = q + 1 from by omega]
    simp only [lw_large.l0]
    have hi : i < l.length := by omega
    rw [if_pos (by omega), if_pos (by omega), wrap_nat i (by omega), hq, ih (i + 1) k (by omega), rdE5 l i hi, List.drop_eq_getElem_cons hi, List.any_cons]
    unfold bigE
    by_cases c : 300 < l[i].f0.size
    · rw [if_pos (by omega)]; simp [c]
    · rw [if_neg (by omega)]
      by_cases c2 : 300 < l[i].f1.size
      · rw [if_pos (by omega)]; simp [c2]
      · rw [if_neg (by omega)]; simp [c, c2]
theorem large_tells (a : Bool) (l : List S75) (m : List S76) : ∀ k, 5000 ≤ k → lw_large.f k a l m = some (largeB l m) := by
  intro k hk
  unfold lw_large.f largeB
  obtain ⟨q, rfl⟩ : ∃ q, k = q + 1 := ⟨k - 1, by omega⟩
  by_cases h1 : (l.length : Int) > 200
  · rw [if_pos h1]
    have : 200 < l.length := by omega
    simp [lw_large.j0, this]
  · rw [if_neg h1]
    have h1' : decide (200 < l.length) = false := decide_eq_false (by omega)
    by_cases h2 : (m.length : Int) > 200
    · have : 200 < m.length := by omega
      have h2'' : decide ((m.length : Int) > 200) = true := decide_eq_true h2
      rw [h2'']
      simp [lw_large.j0, this]
    · have h2' : decide (200 < m.length) = false := decide_eq_false (by omega)
      have h2'' : decide ((m.length : Int) > 200) = false := decide_eq_false h2
      rw [h2'', h1', h2']
      simp only [lw_large.j0, Bool.false_eq_true, if_false, Bool.false_or]
      obtain ⟨p, hp⟩ : ∃ p, q = l.length + ((m.length + (p + 1)) + 1) := ⟨q - l.length - m.length - 2, by omega⟩
      rw [hp]
      have e0 := large_l0 a l m (by omega) l.length 0 (m.length + (p + 1)) (by omega)
      have e1 := large_l1 a l m (by omega) m.length 0 p (by omega)
      simp only [Int.natCast_zero, List.drop_zero] at e0 e1
      rw [e0, e1]
      by_cases ho : l.any bigE = true
      · rw [if_pos ho, ho]; rfl
      · rw [if_neg ho]; rw [show l.any bigE = false from by simpa using ho]; rfl
def toE (x : S75) : S47 := ⟨x.f0, x.f1⟩
def toB (x : S76) : S36 := ⟨x.f0, x.f1⟩
theorem entries_l0 (l : List S75) (hl : l.length ≤ 1000000) : ∀ (d i k : Nat) (out : List S47), i + d = l.length → out.length ≤ i → lw_entries.l0 (d + (k + 1)) l out (i : Int) = some (out ++ (l.drop i).map toE) := by
  intro d
  induction d with
  | zero =>
    intro i k out h ho
    rw [show 0 + (k + 1) = k + 1 from by omega]
    simp only [lw_entries.l0]
    rw [if_neg (by omega), List.drop_eq_nil_of_le (by omega)]; simp
  | succ d ih =>
    intro i k out h ho
    obtain ⟨q, hq⟩ : ∃ q, q = d + (k + 1) := ⟨_, rfl⟩
    rw [show d + 1 + (k + 1) = q + 1 from by omega]
    simp only [lw_entries.l0]
    have hi : i < l.length := by omega
    rw [if_pos (by omega), if_pos (by omega), if_pos (by omega), wrap_nat i (by omega), hq, ih (i + 1) k _ (by omega) (by simp; omega), rdE5 l i hi, List.drop_eq_getElem_cons hi, List.map_cons, List.append_assoc, List.singleton_append]
    rfl
theorem branches_l0 (l : List S76) (hl : l.length ≤ 1000000) : ∀ (d i k : Nat) (out : List S36), i + d = l.length → out.length ≤ i → lw_branches.l0 (d + (k + 1)) l out (i : Int) = some (out ++ (l.drop i).map toB) := by
  intro d
  induction d with
  | zero =>
    intro i k out h ho
    rw [show 0 + (k + 1) = k + 1 from by omega]
    simp only [lw_branches.l0]
    rw [if_neg (by omega), List.drop_eq_nil_of_le (by omega)]; simp
  | succ d ih =>
    intro i k out h ho
    obtain ⟨q, hq⟩ : ∃ q, q = d + (k + 1) := ⟨_, rfl⟩
    rw [show d + 1 + (k + 1) = q + 1 from by omega]
    simp only [lw_branches.l0]
    have hi : i < l.length := by omega
    rw [if_pos (by omega), if_pos (by omega), if_pos (by omega), wrap_nat i (by omega), hq, ih (i + 1) k _ (by omega) (by simp; omega), rdB6 l i hi, List.drop_eq_getElem_cons hi, List.map_cons, List.append_assoc, List.singleton_append]
    rfl
theorem given_tells (a : Bool) (l : List S75) (m : List S76) (hl : l.length ≤ 1000) (hm : m.length ≤ 1000) : ∀ k, 5000 ≤ k → lw_given.f k a l m = some (a, l.map toE, m.map toB) := by
  intro k hk
  unfold lw_given.f lw_entries.f lw_branches.f
  obtain ⟨q, hq⟩ : ∃ q, k = l.length + (q + 1) := ⟨k - l.length - 1, by omega⟩
  obtain ⟨p, hp⟩ : ∃ p, k = m.length + (p + 1) := ⟨k - m.length - 1, by omega⟩
  have h1 := entries_l0 l (by omega) l.length 0 q [] (by omega) (by simp)
  have h2 := branches_l0 m (by omega) m.length 0 p [] (by omega) (by simp)
  simp only [Int.natCast_zero, List.drop_zero, List.nil_append] at h1 h2
  rw [← hq] at h1
  rw [← hp] at h2
  rw [h1, h2]; rfl
theorem small_given (l : List S75) (m : List S76) (h : largeB l m = false) : l.length ≤ 200 ∧ m.length ≤ 200 ∧ (∀ x ∈ l.map toE, x.f0.size ≤ 300 ∧ x.f1.size ≤ 300) ∧ (∀ x ∈ m.map toB, x.f0.size ≤ 300) ∧ Small (l.map toE) (m.map toB) := by
  unfold largeB at h
  simp only [Bool.or_eq_false_iff, decide_eq_false_iff_not] at h
  obtain ⟨⟨h1, h2⟩, h3, h4⟩ := h
  have a1 : ∀ x ∈ l.map toE, x.f0.size ≤ 300 ∧ x.f1.size ≤ 300 := by
    intro x hx
    obtain ⟨y, hy, rfl⟩ := List.mem_map.1 hx
    have := List.any_eq_false.1 h3 y hy
    unfold bigE at this
    simp at this
    simp only [toE]; omega
  have a2 : ∀ x ∈ m.map toB, x.f0.size ≤ 300 := by
    intro x hx
    obtain ⟨y, hy, rfl⟩ := List.mem_map.1 hx
    have := List.any_eq_false.1 h4 y hy
    unfold bigB at this
    simp at this
    simp only [toB]; omega
  refine ⟨by omega, by omega, a1, a2, ⟨by simp; omega, by simp; omega, fun x hx => ?_, fun x hx => ?_⟩⟩
  · have := a1 x hx; omega
  · have := a2 x hx; omega
theorem smallB_of (l : List S47) (m : List S36) (h : Small l m) : smallB l m = true := by
  unfold smallB
  simp only [Bool.and_eq_true, decide_eq_true_eq, List.all_eq_true]
  exact ⟨h.l_len, h.m_len, fun x hx => h.l_all x hx, fun x hx => h.m_all x hx⟩
theorem may_tells' (a : Bool) (l : List S47) (m : List S36) (h : Small l m) : ∀ k, 5000 ≤ k → leaf_May.f k a l m = some (mayB a l m) := by
  intro k hk
  have := h.l_len
  have := h.m_len
  exact may_tells a l m (by omega) (by omega) k (by omega)
theorem size_tells' (a : Bool) (l : List S47) (m : List S36) (h : Small l m) : ∀ k, 5000 ≤ k → leaf_Size.f k a l m = some (sizeN l m) := by
  intro k hk
  have := h.l_len
  have := h.m_len
  exact size_tells a l m h k (by omega)
theorem fits_tells' (a : Bool) (l : List S47) (m : List S36) (h : Small l m) : ∀ k, 5000 ≤ k → leaf_Fits.f k a l m = some (decide (sizeN l m ≤ 254)) := by
  intro k hk
  have := h.l_len
  have := h.m_len
  exact fits_tells a l m h k (by omega)
end Go.Proofs.Ytfbaejhjppikpaa.P
namespace Go.Proofs.Ytfbaejhjppikpaa.P
open Go.RowKit Go.Proofs.YtfbaejhjppikpaaW.PrintWords Go.Proofs.YtfbaejhjppikpaaW.PrintLast Go.Proofs.YtfbaejhjppikpaaW.PrintMore
theorem rdE7 (l : List S47) (i : Nat) (h : i < l.length) : rd_T47 l (i : Int) = l[i] := by unfold rd_T47; simp [List.getD_eq_getElem?_getD, h]
theorem rdB7 (l : List S36) (i : Nat) (h : i < l.length) : rd_T36 l (i : Int) = l[i] := by unfold rd_T36; simp [List.getD_eq_getElem?_getD, h]
theorem bytes_list_inj {s t : ByteArray} (h : s.toList = t.toList) : s = t := by
  rw [ByteArray.toList_eq, ByteArray.toList_eq] at h
  exact ByteArray.ext (Array.toList_inj.1 h)
theorem S47_eq {x y : S47} : x = y ↔ x.f0.toList = y.f0.toList ∧ x.f1.toList = y.f1.toList := by
  constructor
  · rintro rfl; exact ⟨rfl, rfl⟩
  · rintro ⟨h1, h2⟩
    cases x; cases y
    simp only at h1 h2
    rw [bytes_list_inj h1, bytes_list_inj h2]
theorem S36_eq {x y : S36} : x = y ↔ x.f0.toList = y.f0.toList ∧ x.f1 = y.f1 := by
  constructor
  · rintro rfl; exact ⟨rfl, rfl⟩
  · rintro ⟨h1, h2⟩
    cases x; cases y
    simp only at h1 h2
    rw [bytes_list_inj h1, h2]
instance : DecidableEq S47 := fun _ _ => decidable_of_iff _ S47_eq.symm
instance : DecidableEq S36 := fun _ _ => decidable_of_iff _ S36_eq.symm
theorem drop_eq_iff {α : Type} (l m : List α) (i : Nat) (h1 : i < l.length) (h2 : i < m.length) : l.drop i = m.drop i ↔ l[i] = m[i] ∧ l.drop (i + 1) = m.drop (i + 1) := by
  rw [List.drop_eq_getElem_cons h1, List.drop_eq_getElem_cons h2, List.cons.injEq]
theorem entries_same_l0 (l m : List S47) (h : l.length = m.length) (hl : l.length ≤ 1000000) : ∀ (d i k : Nat), i + d = l.length → leaf_Entry_45.l0 (d + (k + 1)) l m (l.length : Int) (i : Int) = some (decide (l.drop i = m.drop i)) := by
  intro d
  induction d with
  | zero =>
    intro i k hi
    rw [show 0 + (k + 1) = k + 1 from by omega]
    simp only [leaf_Entry_45.l0]
    rw [if_neg (by omega), List.drop_eq_nil_of_le (by omega), List.drop_eq_nil_of_le (by omega)]; simp
  | succ d ih =>
    intro i k hi
    obtain ⟨q, hq⟩ : ∃ q, q = d + (k + 1) := ⟨_, rfl⟩
    rw [show d + 1 + (k + 1) = q + 1 from by omega]
    simp only [leaf_Entry_45.l0]
    have h1 : i < l.length := by omega
    have h2 : i < m.length := by omega
    rw [if_pos (by omega), if_pos (by omega), if_pos (by omega), if_pos (by omega), wrap_nat i (by omega), hq, ih (i + 1) k (by omega), rdE7 l i h1, rdE7 m i h2]
    have e := drop_eq_iff l m i h1 h2
    by_cases c : l[i] = m[i]
    · have c' := S47_eq.1 c
      rw [if_neg (by simp [c'.1, c'.2])]
      congr 1
      exact decide_eq_decide.2 ⟨fun h => e.2 ⟨c, h⟩, fun h => (e.1 h).2⟩
    · rw [if_pos ?_]
      · congr 1
        symm
        exact decide_eq_false (fun h => c (e.1 h).1)
      · simp only [Bool.or_eq_true, Bool.not_eq_true', beq_eq_false_iff_ne]
        by_cases c2 : l[i].f0.toList = m[i].f0.toList
        · right; exact fun c3 => c (S47_eq.2 ⟨c2, c3⟩)
        · left; exact c2
theorem branches_same_l0 (l m : List S36) (h : l.length = m.length) (hl : l.length ≤ 1000000) : ∀ (d i k : Nat), i + d = l.length → leaf_Branch_46.l0 (d + (k + 1)) l m (l.length : Int) (i : Int) = some (decide (l.drop i = m.drop i)) := by
  intro d
  induction d with
  | zero =>
    intro i k hi
    rw [show 0 + (k + 1) = k + 1 from by omega]
    simp only [leaf_Branch_46.l0]
    rw [if_neg (by omega), List.drop_eq_nil_of_le (by omega), List.drop_eq_nil_of_le (by omega)]; simp
  | succ d ih =>
    intro i k hi
    obtain ⟨q, hq⟩ : ∃ q, q = d + (k + 1) := ⟨_, rfl⟩
    rw [show d + 1 + (k + 1) = q + 1 from by omega]
    simp only [leaf_Branch_46.l0]
    have h1 : i < l.length := by omega
    have h2 : i < m.length := by omega
    rw [if_pos (by omega), if_pos (by omega), if_pos (by omega), if_pos (by omega), wrap_nat i (by omega), hq, ih (i + 1) k (by omega), rdB7 l i h1, rdB7 m i h2]
    have e := drop_eq_iff l m i h1 h2
    by_cases c : l[i] = m[i]
    · have c' := S36_eq.1 c
      rw [if_neg (by simp [c'.1, c'.2])]
      congr 1
      exact decide_eq_decide.2 ⟨fun h => e.2 ⟨c, h⟩, fun h => (e.1 h).2⟩
    · rw [if_pos ?_]
      · congr 1
        symm
        exact decide_eq_false (fun h => c (e.1 h).1)
      · simp only [Bool.or_eq_true, Bool.not_eq_true', beq_eq_false_iff_ne]
        by_cases c2 : l[i].f0.toList = m[i].f0.toList
        · right; exact fun c3 => c (S36_eq.2 ⟨c2, c3⟩)
        · left; exact c2
theorem entries_same (l m : List S47) (hl : l.length ≤ 1000) (k : Nat) (hk : 5000 ≤ k) : leaf_Entry_45.f k l m = some (decide (l = m)) := by
  unfold leaf_Entry_45.f
  by_cases h : (l.length : Int) = (m.length : Int)
  · rw [if_pos h]
    obtain ⟨q, rfl⟩ : ∃ q, k = l.length + (q + 1) := ⟨k - l.length - 1, by omega⟩
    have := entries_same_l0 l m (by omega) (by omega) l.length 0 q (by omega)
    simpa using this
  · rw [if_neg h]
    congr 1; symm
    exact decide_eq_false (fun e => h (by rw [e]))
theorem branches_same (l m : List S36) (hl : l.length ≤ 1000) (k : Nat) (hk : 5000 ≤ k) : leaf_Branch_46.f k l m = some (decide (l = m)) := by
  unfold leaf_Branch_46.f
  by_cases h : (l.length : Int) = (m.length : Int)
  · rw [if_pos h]
    obtain ⟨q, rfl⟩ : ∃ q, k = l.length + (q + 1) := ⟨k - l.length - 1, by omega⟩
    have := branches_same_l0 l m (by omega) (by omega) l.length 0 q (by omega)
    simpa using this
  · rw [if_neg h]
    congr 1; symm
    exact decide_eq_false (fun e => h (by rw [e]))
def sameN (a : Bool) (l : List S47) (m : List S36) (a' : Bool) (l' : List S47) (m' : List S36) : Bool := decide (a = a' ∧ l = l' ∧ m = m')
theorem same_tells (a : Bool) (l : List S47) (m : List S36) (a' : Bool) (l' : List S47) (m' : List S36) (h1 : l.length ≤ 1000) (h2 : m.length ≤ 1000) (k : Nat) (hk : 5000 ≤ k) : leaf_Same.f k a l m a' l' m' = some (sameN a l m a' l' m') := by
  unfold leaf_Same.f sameN
  rw [entries_same l l' h1 k hk, branches_same m m' h2 k hk]
  by_cases c1 : a = a'
  · rw [if_pos (by simp [c1])]
    by_cases c2 : l = l'
    · simp [c1, c2]
    · simp [c1, c2]
  · rw [if_neg (by simpa using c1)]; simp [c1]
end Go.Proofs.Ytfbaejhjppikpaa.P
namespace Go.Proofs.Ytfbaejhjppikpaa.P
open Go.RowKit Go.Proofs.YtfbaejhjppikpaaW.PrintWords Go.Proofs.YtfbaejhjppikpaaW.PrintLast Go.Proofs.YtfbaejhjppikpaaW.PrintMore
end Go.Proofs.Ytfbaejhjppikpaa.P
namespace Go.Proofs.Ytfbaejhjppikpaa.P
open Go.RowKit Go.Proofs.YtfbaejhjppikpaaW.PrintWords Go.Proofs.YtfbaejhjppikpaaW.PrintLast Go.Proofs.YtfbaejhjppikpaaW.PrintMore
open Go.Proofs.YtfbaejhjppikpaaB
abbrev Lt (a b : ByteArray) : Prop := Op.bytesLess a.toList b.toList = true
theorem Lt.trans {a b c : ByteArray} (h : Lt a b) (h' : Lt b c) : Lt a c := less_trans h h'
theorem keyE_get (l : List S47) (i : Nat) (h : i < l.length) : keyE l i = l[i].f0.toList := by unfold keyE; rw [rdE7 l i h]
end Go.Proofs.Ytfbaejhjppikpaa.P
namespace Go.Proofs.Ytfbaejhjppikpaa.P
open Go.RowKit Go.Proofs.YtfbaejhjppikpaaW.PrintWords Go.Proofs.YtfbaejhjppikpaaW.PrintLast Go.Proofs.YtfbaejhjppikpaaW.PrintMore
attribute [local go_sem] max2_int min2_int max_two min_two max_three min_three max_four min_four
set_option linter.unusedVariables false
set_option linter.unusedSimpArgs false
mutual
def lw_told.l0 : Nat → Int → Bool → List S47 → List S36 → Bool → List S75 → Option (Bool × (List S75) × (List S76))
 | 0, _, _, _, _, _, _ => none
 | k + 1, x4, x528000, x528001, x528002, x530000, x530001 => if x4 < (x528001.length : Int) then (if 0 ≤ x4 then (if x530001.length < 4398046511104 then (lw_told.l0 k (wrap64 (x4 + 1)) x528000 x528001 x528002 x530000 (x530001 ++ [(⟨(rd_T47 x528001 x4).f0, (rd_T47 x528001 x4).f1⟩ : S75)])) else (none)) else (none)) else (lw_told.l1 k 0 x528000 x528001 x528002 x530000 x530001 ([] : List S76))
def lw_told.l1 : Nat → Int → Bool → List S47 → List S36 → Bool → List S75 → List S76 → Option (Bool × (List S75) × (List S76))
 | 0, _, _, _, _, _, _, _ => none
 | k + 1, x5, x528000, x528001, x528002, x530000, x530001, x530002 => if x5 < (x528002.length : Int) then (if 0 ≤ x5 then (if x530002.length < 5864062014805 then (lw_told.l1 k (wrap64 (x5 + 1)) x528000 x528001 x528002 x530000 x530001 (x530002 ++ [(⟨(rd_T36 x528002 x5).f0, (rd_T36 x528002 x5).f1⟩ : S76)])) else (none)) else (none)) else (some (x530000, x530001, x530002))
end
def lw_told.f (k : Nat) (a0_0 : Bool) (l0_1 : List S47) (l0_2 : List S36) : Option (Bool × (List S75) × (List S76)) := lw_told.l0 k 0 a0_0 l0_1 l0_2 a0_0 ([] : List S75)
def lw_told.T5 : Bool × List (List Nat × List Nat) := (true, [([], []), ([0], [0]), ([], []), ([2], [2]), ([], []), ([3, 4], [3, 4]), ([5], [5]), ([6], [6]), ([1, 7], [1, 7]), ([0, 1, 2, 3, 4, 5, 6, 7, 8], []), ([9, 8, 8, 0, 1, 2, 3, 4, 5, 6, 7, 8], [8, 9])])
def lw_told.B5 : List Nat := [0, 1, 0, 4, 0, 28, 60, 124, 255, 511, 1023]
theorem lw_told.tab5 : rtab .any (opsOf Try.f28 5) = lw_told.T5 := by kernel_rfl
theorem lw_told.bits5 : waitsOk lw_told.T5.2 lw_told.B5 = true := by kernel_rfl
def lw_told.T9 : Bool × List (List Nat × List Nat) := (true, [([], []), ([0], [0]), ([], []), ([2], [2]), ([], []), ([3, 4], [3, 4]), ([5], [5]), ([6], [6]), ([1, 7], [1, 7]), ([0, 1, 2, 3, 4, 5, 6, 7, 8], []), ([9, 8, 8, 0, 1, 2, 3, 4, 5, 6, 7, 8], [8, 9])])
def lw_told.B9 : List Nat := [0, 1, 0, 4, 0, 28, 60, 124, 255, 511, 1023]
theorem lw_told.tab9 : rtab .any (opsOf Try.f28 9) = lw_told.T9 := by kernel_rfl
theorem lw_told.bits9 : waitsOk lw_told.T9.2 lw_told.B9 = true := by kernel_rfl
set_option maxHeartbeats 8000000 in
set_option maxRecDepth 100000 in
theorem lw_told.calls (k : Nat) (a0_0 : Bool) (A0_1 : Option Addr) (c0_1 : Nat) (l0_1 : List S47) (A0_2 : Option Addr) (c0_2 : Nat) (l0_2 : List S36) (r1 : Bool) (r2 : List S75) (r3 : List S76) (w : World) (hr0_1 : Kd.C k47 w A0_1 l0_1.length l0_1) (hc0_1 : l0_1.length ≤ c0_1) (hr0_2 : Kd.C k36 w A0_2 l0_2.length l0_2) (hc0_2 : l0_2.length ≤ c0_2) (h : lw_told.f k a0_0 l0_1 l0_2 = some (r1, r2, r3)) :
  Calls Try.prog 28 #[.agg #[.bool a0_0, .slice A0_1 l0_1.length c0_1, .slice A0_2 l0_2.length c0_2]] w fun e w' => ∃ v1_ v2_ : Value, e = .returned (.agg #[.bool r1, v1_, v2_]) ∧ Kd.R k75 75 w' w.heap.size (fun _ => True) v1_ r2 ∧ Kd.R k76 76 w' w.heap.size (fun _ => True) v2_ r3 ∧ Below w.heap.size w w' := by
 have hu31 := Try.underlying31
 have hu25 := Try.underlying25
 have hu47 := Try.underlying47
 have hu36 := Try.underlying36
 have HR0_1 := aM hr0_1
 have HC0_1 := aM hc0_1
 clear hr0_1 hc0_1
 have HR0_2 := aM hr0_2
 have HC0_2 := aM hc0_2
 clear hr0_2 hc0_2
 have HB := aM (Below.refl w.heap.size w)
 have H : (lw_told.l0 k 0 a0_0 l0_1 l0_2 a0_0 ([] : List S75)) = some (r1, r2, r3) := h
 clear h
 have H' := aM H
 clear H
 go_enter Try.func28, Try.ntmps28
 go_wp2_with (first | ((with_reducible refine gate_dst (N := 1) rfl ?_); refine box_event ?hg (N := 1) ?hd (cs := #[.bool a0_0, .slice A0_1 l0_1.length c0_1, .slice A0_2 l0_2.length c0_2]) (t := 31) ?hr ?_; (case hd => rfl); (case hg => rfl); (case hr => first | (go_simp; done) | (go_simp; rfl)); intro gb527 hg w2 hbox hb; have BK527 := aM (hbox); have GE527 := gw hg HB; replace HB := aM (below_step (kl HB) hb); clear hb hbox hg) | ((with_reducible refine gate_dst (N := 2) rfl ?_); refine box_event ?hg (N := 2) ?hd (cs := #[.bool false, .slice none 0 0, .slice none 0 0]) (t := 25) ?hr ?_; (case hd => rfl); (case hg => rfl); (case hr => first | (go_simp; done) | (go_simp; rfl)); intro gb528 hg w3 hbox hb; have BK528 := aM (hbox); have GE528 := gw hg HB; replace HB := aM (below_step (kl HB) hb); have NB527_528 := nl hg BK527; have NB528_527 := ng hg BK527; replace BK527 := bb BK527 hb; clear hb hbox hg; have hnb4 := NB527_528.out; have hnc4 := NB528_527.out; have hcz5_0 : w3.cell? ⟨gb527, 0, none⟩ = some (.bool a0_0) := bc BK527 0; have hcz5_1 : w3.cell? ⟨gb527, 1, none⟩ = some (.slice A0_1 l0_1.length c0_1) := bc BK527 1; have hcz5_2 : w3.cell? ⟨gb527, 2, none⟩ = some (.slice A0_2 l0_2.length c0_2) := bc BK527 2; have hfz5_0 := blk_frozen BK527.out 0; have hfz5_1 := blk_frozen BK527.out 1; have hfz5_2 := blk_frozen BK527.out 2) | ((with_reducible refine gate_dst (N := 3) rfl ?_); refine box_event ?hg (N := 3) ?hd (cs := #[.bool false, .slice none 0 0, .slice none 0 0]) (t := 25) ?hr ?_; (case hd => rfl); (case hg => rfl); (case hr => first | (go_simp; done) | (go_simp; rfl)); intro gb529 hg w6 hbox hb; have BK529 := aM (hbox); have GE529 := gw hg HB; replace HB := aM (below_step (kl HB) hb); have NB527_529 := nl hg BK527; have NB529_527 := ng hg BK527; replace BK527 := bb BK527 hb; have NB528_529 := nl hg BK528; have NB529_528 := ng hg BK528; replace BK528 := bb BK528 hb; clear hb hbox hg; have hnb7 := NB529_527.out; have hnc7 := NB527_529.out; have hnb8 := NB529_528.out; have hnc8 := NB528_529.out; have hcz9_0 : w6.cell? ⟨gb529, 0, none⟩ = some (.bool false) := bc BK529 0; have hcz9_1 : w6.cell? ⟨gb529, 1, none⟩ = some (.slice none 0 0) := bc BK529 1; have hcz9_2 : w6.cell? ⟨gb529, 2, none⟩ = some (.slice none 0 0) := bc BK529 2; have hfz9_0 := blk_frozen BK529.out 0; have hfz9_1 := blk_frozen BK529.out 1; have hfz9_2 := blk_frozen BK529.out 2))
 go_loopg [4] k (fun kq v4 w' => ∃ (x4_1 : Int) (x530001_1 : List S75) (u530001 : Value), v4 = .int .i64 x4_1 ∧ Aside0 (lw_told.l0 kq x4_1 a0_0 l0_1 l0_2 a0_0 x530001_1 = some (r1, r2, r3)) ∧ Aside0 (kq ≤ k) ∧ Aside0 (Kd.R k75 75 w' w.heap.size (fun _ => True) u530001 x530001_1) ∧ Aside0 (w'.heap[gb527]? = some (.cells #[.bool a0_0, (.slice A0_1 l0_1.length c0_1), (.slice A0_2 l0_2.length c0_2)] 31 (0, 0))) ∧ Aside0 (w'.heap[gb528]? = some (.cells #[.bool false, (.slice none 0 0), (.slice none 0 0)] 25 (0, 0))) ∧ Aside0 (w'.heap[gb529]? = some (.cells #[.bool a0_0, u530001, (.slice none 0 0)] 25 (0, 0))) ∧ Aside0 (Below w.heap.size w w'))
 case atStart => exact ⟨(0), (([] : List S75)), (.slice none 0 0), (by first | rfl | (simp; done) | (simp [*]; done)), H', ⟨Nat.le_refl _⟩, ⟨by first | exact Kd.R_nil _ _ _ _ _ | exact Kd.N_nil _ _ _ _ _ | exact Kd.V_nil _ _ _ _ _ | exact Kd.Q_nil _ _ _ _ _ | exact Kd.S_nil _ _ _ _ _⟩, ⟨kf NB527_529 BK527⟩, ⟨kf NB528_529 BK528⟩, ⟨by (with_reducible repeat (first | refine blk_drewN ?_ _ | refine blk_drew ?_ | refine blk_alloc ?_ _)); refine blk_put (cs := #[.bool a0_0, .slice none 0 0, .slice none 0 0]) ?_ 2 _ rfl; (with_reducible repeat (first | refine blk_drewN ?_ _ | refine blk_drew ?_ | refine blk_alloc ?_ _)); refine blk_put (cs := #[.bool a0_0, .slice none 0 0, .slice none 0 0]) ?_ 1 _ rfl; (with_reducible repeat (first | refine blk_drewN ?_ _ | refine blk_drew ?_ | refine blk_alloc ?_ _)); refine blk_put (cs := #[.bool false, .slice none 0 0, .slice none 0 0]) ?_ 0 _ rfl; exact kb BK529⟩, ⟨kl HB⟩⟩
 case round =>
  clear H'
  try clear c2
  try clear p2
  try clear c4
  try clear c7
  try clear c8
  try clear hcz5_0
  try clear hcz5_1
  try clear hcz5_2
  try clear hcz9_0
  try clear hcz9_1
  try clear hcz9_2
  try clear hfz5_0
  try clear hfz5_1
  try clear hfz5_2
  try clear hfz9_0
  try clear hfz9_1
  try clear hfz9_2
  obtain ⟨x4_1, x530001_1, u530001, rfl, HA, HK1, HO_530001, BK527, BK528, BK529, HB⟩ := hrel
  cases gk with
  | zero => exact absurd HA.out (by simp [lw_told.l0])
  | succ k1 =>
   have H := HA.out
   clear HA
   simp only [lw_told.l0] at H
   by_cases c10 : x4_1 < (l0_1.length : Int)
   ·rw [if_pos c10] at H
    have c10b0 : decide (x4_1 < (l0_1.length : Int)) = true := decide_eq_true c10
    clear c10
    by_cases c11 : 0 ≤ x4_1
    rotate_left
    ·rw [if_neg c11] at H
     exact absurd H (by simp)
    rw [if_pos c11] at H
    have c11b0 : decide (0 ≤ x4_1) = true := decide_eq_true c11
    clear c11
    by_cases c12 : x530001_1.length < 4398046511104
    rotate_left
    ·rw [if_neg c12] at H
     exact absurd H (by simp)
    rw [if_pos c12] at H
    have LMc12 := aM c12
    clear c12
    obtain ⟨y531, hy531⟩ : ∃ y_ : List S75, y_ = (x530001_1 ++ [(⟨(rd_T47 l0_1 x4_1).f0, (rd_T47 l0_1 x4_1).f1⟩ : S75)]) := ⟨_, rfl⟩
    replace H : (lw_told.l0 k1 (wrap64 (x4_1 + 1)) a0_0 l0_1 l0_2 a0_0 y531) = some (r1, r2, r3) := by first | (rw [hy531]; with_reducible exact H) | (have H2_ := (Option.bind_some _ _).symm.trans H; rw [hy531]; with_reducible exact H2_) | (have H2_ := (Option.bind_some _ _).symm.trans H; with_reducible exact H2_) | with_reducible exact H | (rw [hy531]; exact H) | exact H
    have Ny531 := aM hy531
    clear hy531
    have H' := aM H
    clear H
    have hnb13 := NB527_528.out
    have hnc13 := NB528_527.out
    have hnb14 := NB527_529.out
    have hnc14 := NB529_527.out
    have hcz15_0 : wr.cell? ⟨gb527, 0, none⟩ = some (.bool a0_0) := bc BK527 0
    have hcz15_1 : wr.cell? ⟨gb527, 1, none⟩ = some (.slice A0_1 l0_1.length c0_1) := bc BK527 1
    have hcz15_2 : wr.cell? ⟨gb527, 2, none⟩ = some (.slice A0_2 l0_2.length c0_2) := bc BK527 2
    have hfz15_0 := blk_frozen BK527.out 0
    have hfz15_1 := blk_frozen BK527.out 1
    have hfz15_2 := blk_frozen BK527.out 2
    try go_wp2
    replace HO_530001 := aM (Kd.R_drew HO_530001.out)
    replace BK527 := aM (blk_drew BK527.out)
    replace BK528 := aM (blk_drew BK528.out)
    replace BK529 := aM (blk_drew BK529.out)
    replace HB := aM (below_drew1 HB.out)
    have p530 : 0 ≤ (x4_1 : Int) := of_decide_eq_true (by first | (with_reducible assumption) | assumption)
    have q530 : x4_1 < (l0_1.length : Int) := of_decide_eq_true (by first | (with_reducible assumption) | assumption)
    obtain ⟨ad530, e530, hx530_0, hx530_1⟩ := at_T47 HR0_1.out x4_1 p530 q530
    have hw530_1 := hx530_1
    have hw530_0 := hx530_0
    cases e530
    replace hx530_0 := (HB.out.cell (World.block_lt_of_cell? w _ hx530_0)).trans hx530_0
    replace hx530_1 := (HB.out.cell (World.block_lt_of_cell? w _ hx530_1)).trans hx530_1
    replace p530 := eq_true p530
    replace q530 := eq_true q530
    refine start_ (n := 11) (S := fun w' => w'.cell? ⟨gb529, 0, none⟩ = some (.bool a0_0) ∧ w'.cell? ⟨gb529, 1, none⟩ = some (u530001) ∧ w'.cell? ⟨gb529, 2, none⟩ = some (.slice none 0 0) ∧ w'.cell? ⟨gb527, 0, none⟩ = some (.bool a0_0) ∧ w'.cell? ⟨gb527, 1, none⟩ = some (.slice (some ad530) l0_1.length c0_1) ∧ w'.cell? ⟨gb527, 2, none⟩ = some (.slice A0_2 l0_2.length c0_2) ∧ w'.cell? (ad530.add ((x4_1).toNat * 2)) = some (.string ((rd_T47 l0_1 x4_1).f0)) ∧ w'.cell? ⟨(ad530.add ((x4_1).toNat * 2)).block, (ad530.add ((x4_1).toNat * 2)).off + 1, none⟩ = some (.string ((rd_T47 l0_1 x4_1).f1))) (ds := [10]) #[N,N,N,N,N,N,N,N,N,N,N] (by kernel_rfl) rfl rfl ⟨bc BK529 0, bc BK529 1, bc BK529 2, bc BK527 0, bc BK527 1, bc BK527 2, ((HB.out.cell (World.block_lt_of_cell? w _ hw530_0)).trans hw530_0), ((HB.out.cell (World.block_lt_of_cell? w _ hw530_1)).trans hw530_1)⟩ (fun hHeld => ?_); refine with_tabW lw_told.tab5 lw_told.bits5 (fun HT_ HW_ => ?_)
    generalize wr.drew = w16 at HO_530001 BK527 BK528 BK529 HB hx530_0 hx530_1 hHeld ⊢
    refine pure_ (i := 0) (N := some 16) (v := ?_) (a' := ?_) #[Y,N,N,N,N,N,N,N,N,N,N] rfl rfl (any_of HT_.out (by kernel_rfl)) (fun _ _ _ h => h) (Or.inl ⟨by rfl, ?_⟩) ?_ ?_
    rotate_left
    ·intro w'
     go_simp
     with_reducible rfl
    rotate_left
    ·simp only [Act.put, List.setIfInBounds_toArray, List.set_cons_zero, List.set_cons_succ, i64_w, i32_w]
     rfl
    refine pure_ (i := 2) (N := some 18) (v := ?_) (a' := ?_) #[Y,N,Y,N,N,N,N,N,N,N,N] rfl rfl (any_of HT_.out (by kernel_rfl)) (fun _ _ _ h => h) (Or.inl ⟨by rfl, ?_⟩) ?_ ?_
    rotate_left
    ·intro w'
     go_simp
     with_reducible rfl
    rotate_left
    ·simp only [Act.put, List.setIfInBounds_toArray, List.set_cons_zero, List.set_cons_succ, i64_w, i32_w]
     rfl
    refine pure_ (i := 4) (N := some 20) (v := ?_) (a' := ?_) #[Y,N,Y,N,Y,N,N,N,N,N,N] rfl rfl (any_of HT_.out (by kernel_rfl)) (fun _ _ _ h => h) (Or.inl ⟨by rfl, ?_⟩) ?_ ?_
    rotate_left
    ·intro w'
     go_simp
     with_reducible rfl
    rotate_left
    ·simp only [Act.put, List.setIfInBounds_toArray, List.set_cons_zero, List.set_cons_succ, i64_w, i32_w]
     rfl
    refine take_ (i := 1) (N := some 17) (v := ?_) (a' := ?_) #[Y,Y,Y,N,Y,N,N,N,N,N,N] rfl rfl (take_ofW HT_.out HW_.out (by kernel_rfl)) (fun _ _ _ h => h) (Or.inl ⟨by rfl, ?_⟩) hHeld ?_ ?_
    rotate_left
    ·rintro w' ⟨s0, s1, s2, s3, s4, s5, s6, s7⟩
     go_simp
     with_reducible rfl
    rotate_left
    ·simp only [Act.put, List.setIfInBounds_toArray, List.set_cons_zero, List.set_cons_succ, i64_w, i32_w]
     rfl
    refine take_ (i := 3) (N := some 19) (v := ?_) (a' := ?_) #[Y,Y,Y,Y,Y,N,N,N,N,N,N] rfl rfl (take_ofW HT_.out HW_.out (by kernel_rfl)) (fun _ _ _ h => h) (Or.inl ⟨by rfl, ?_⟩) hHeld ?_ ?_
    rotate_left
    ·rintro w' ⟨s0, s1, s2, s3, s4, s5, s6, s7⟩
     go_simp
     with_reducible rfl
    rotate_left
    ·simp only [Act.put, List.setIfInBounds_toArray, List.set_cons_zero, List.set_cons_succ, i64_w, i32_w]
     rfl
    refine pure_ (i := 5) (N := some 21) (v := ?_) (a' := ?_) #[Y,Y,Y,Y,Y,Y,N,N,N,N,N] rfl rfl (any_of HT_.out (by kernel_rfl)) (fun _ _ _ h => h) (Or.inl ⟨by rfl, ?_⟩) ?_ ?_
    rotate_left
    ·intro w'
     go_simp
     with_reducible rfl
    rotate_left
    ·simp only [Act.put, List.setIfInBounds_toArray, List.set_cons_zero, List.set_cons_succ, i64_w, i32_w]
     rfl
    refine take_ (i := 6) (N := some 22) (v := ?_) (a' := ?_) #[Y,Y,Y,Y,Y,Y,Y,N,N,N,N] rfl rfl (take_ofW HT_.out HW_.out (by kernel_rfl)) (fun _ _ _ h => h) (Or.inl ⟨by rfl, ?_⟩) hHeld ?_ ?_
    rotate_left
    ·rintro w' ⟨s0, s1, s2, s3, s4, s5, s6, s7⟩
     go_simp
     with_reducible rfl
    rotate_left
    ·simp only [Act.put, List.setIfInBounds_toArray, List.set_cons_zero, List.set_cons_succ, i64_w, i32_w]
     rfl
    refine one_ (i := 7) (N := some 23) #[Y,Y,Y,Y,Y,Y,Y,Y,N,N,N] rfl rfl (one_of HT_.out (by kernel_rfl)) (by decide) (fun K hK => ?_)
    refine value_ (w1 := ?_) (v := ?_) (by rfl) rfl ?_ ?_
    rotate_left 2
    ·go_simp
     constructor
     ·rfl
     ·rfl
    refine hK.out _ _ ⟨(blk_cell (blk_alloc BK529.out _) 0).trans rfl, (blk_cell (blk_alloc BK529.out _) 1).trans rfl, (blk_cell (blk_alloc BK529.out _) 2).trans rfl, (blk_cell (blk_alloc BK527.out _) 0).trans rfl, (blk_cell (blk_alloc BK527.out _) 1).trans rfl, (blk_cell (blk_alloc BK527.out _) 2).trans rfl, (World.cell?_alloc_lt _ _ _ (World.block_lt_of_cell? _ _ (((HB.out.cell (World.block_lt_of_cell? w _ hw530_0)).trans hw530_0)))).trans (((HB.out.cell (World.block_lt_of_cell? w _ hw530_0)).trans hw530_0)), (World.cell?_alloc_lt _ _ _ (World.block_lt_of_cell? _ _ (((HB.out.cell (World.block_lt_of_cell? w _ hw530_1)).trans hw530_1)))).trans (((HB.out.cell (World.block_lt_of_cell? w _ hw530_1)).trans hw530_1))⟩ (fun hHeld => ?_)
    clear hK K
    refine norm_ (a' := ?_) ?_ ?_
    rotate_left
    ·show Act.put _ (some 23) _ = _
     simp only [Act.put, List.setIfInBounds_toArray, List.set_cons_zero, List.set_cons_succ, i64_w, i32_w]
     rfl
    refine one_ (i := 8) (N := some 24) #[Y,Y,Y,Y,Y,Y,Y,Y,Y,N,N] rfl rfl (one_of HT_.out (by kernel_rfl)) (by decide) (fun K hK => ?_)
    refine Kd.R_append_step k75 (w0 := w) w.heap.size (by rfl) (.tmp 17) (.tmp 23) 22 75 (.agg #[(.string ⟨#[]⟩), (.string ⟨#[]⟩)]) 32 rfl Try.underlying22 info75 rfl (by decide) (by omega) u530001 x530001_1 (⟨(rd_T47 l0_1 x4_1).f0, (rd_T47 l0_1 x4_1).f1⟩ : S75) [.string ((rd_T47 l0_1 x4_1).f0), .string ((rd_T47 l0_1 x4_1).f1)] (fun _ => True) (fun _ => False) rfl rfl ?aP (fun _ hk => hk.elim) ?aF ?aO ?aB ?aS ?aL ?_
    (case aP => exact k75_mkM _ _ _ (⟨(rd_T47 l0_1 x4_1).f0, (rd_T47 l0_1 x4_1).f1⟩ : S75))
    (case aB => exact (kl HB))
    (case aF => exact (fun _ _ => trivial))
    (case aO => exact (kr HO_530001))
    (case aS => exact (below_size (kl HB)))
    (case aL => have := LMc12.out; omega)
    intro v532 w17 ho hb hg hat
    rw [← Ny531.out] at ho
    replace BK527 := aM (blk_grown (kb BK527) hg (Kd.R_ne HO_530001.out BK527.out (by decide)))
    replace BK528 := aM (blk_grown (kb BK528) hg (Kd.R_ne HO_530001.out BK528.out (by decide)))
    replace BK529 := aM (blk_grown (kb BK529) hg (Kd.R_ne HO_530001.out BK529.out (by decide)))
    replace HB := aM (hb)
    have HO533 := aM (ho)
    clear HO_530001
    clear ho hb hg hat
    obtain ⟨Ao18, co18, eo18⟩ := Kd.R_slice HO533.out
    (first | subst eo18 | (injection eo18 with f1_ f2_ f3_; have f4_ := f1_.symm; have f5_ := f3_.symm; clear f1_ f2_ f3_; subst f4_; subst f5_))
    refine hK.out _ _ ⟨bc BK529 0, bc BK529 1, bc BK529 2, bc BK527 0, bc BK527 1, bc BK527 2, ((HB.out.cell (World.block_lt_of_cell? w _ hw530_0)).trans hw530_0), ((HB.out.cell (World.block_lt_of_cell? w _ hw530_1)).trans hw530_1)⟩ (fun hHeld => ?_)
    clear hK K
    refine norm_ (a' := ?_) ?_ ?_
    rotate_left
    ·show Act.put _ (some 24) _ = _
     simp only [Act.put, List.setIfInBounds_toArray, List.set_cons_zero, List.set_cons_succ, i64_w, i32_w]
     rfl
    refine pure_ (i := 9) (N := some 25) (v := ?_) (a' := ?_) #[Y,Y,Y,Y,Y,Y,Y,Y,Y,Y,N] rfl rfl (any_of HT_.out (by kernel_rfl)) (fun _ _ _ h => h) (Or.inl ⟨by rfl, ?_⟩) ?_ ?_
    rotate_left
    ·intro w'
     go_simp
     with_reducible rfl
    rotate_left
    ·simp only [Act.put, List.setIfInBounds_toArray, List.set_cons_zero, List.set_cons_succ, i64_w, i32_w]
     rfl
    refine last_ (i := 10) (N := none) #[Y,Y,Y,Y,Y,Y,Y,Y,Y,Y,Y] rfl rfl (one_of HT_.out (by kernel_rfl)) (by decide) (fun K hK => ?_)
    have hs19 : w17.cell? ⟨gb529, 1, none⟩ = some (u530001) := bc BK529 1
    have hfs19 := blk_frozen BK529.out 1
    have hns19_0 := NB527_529.out
    have hns19_1 := NB528_529.out
    have hms19_0 := NB529_527.out
    have hms19_1 := NB529_528.out
    refine skip_ (w1 := ?_) (by rfl) rfl ?_ ?_
    rotate_left
    ·go_simp
     rfl
    refine hK.out _ _ ?_
    clear hK K
    refine done_ (done_of HT_.out (by kernel_rfl)) ?_
    try go_wp2
    go_roundg k1
    case measure => have := HK1.out; omega
    case rel => exact ⟨(wrap64 (x4_1 + 1)), (y531), (.slice Ao18 y531.length co18), (by first | rfl | (simp; done) | (simp [*]; done)), H', ⟨by have := HK1.out; omega⟩, ⟨by exact Kd.R_mono (Kd.R_far (Kd.R_types HO533.out BK529.out (by decide)) (fun _ hk => hk.2) _) (fun _ hk => trivial)⟩, ⟨kf NB527_529 BK527⟩, ⟨kf NB528_529 BK528⟩, ⟨by (with_reducible repeat (first | refine blk_drewN ?_ _ | refine blk_drew ?_ | refine blk_alloc ?_ _)); refine blk_put (cs := #[.bool a0_0, u530001, .slice none 0 0]) ?_ 1 _ rfl; exact kb BK529⟩, ⟨kl HB⟩⟩
   rw [if_neg c10] at H
   have c10b0 : decide (x4_1 < (l0_1.length : Int)) = false := decide_eq_false c10
   clear c10
   have H' := aM H
   clear H
   have hnb20 := NB527_528.out
   have hnc20 := NB528_527.out
   have hnb21 := NB527_529.out
   have hnc21 := NB529_527.out
   have hcz22_0 : wr.cell? ⟨gb527, 0, none⟩ = some (.bool a0_0) := bc BK527 0
   have hcz22_1 : wr.cell? ⟨gb527, 1, none⟩ = some (.slice A0_1 l0_1.length c0_1) := bc BK527 1
   have hcz22_2 : wr.cell? ⟨gb527, 2, none⟩ = some (.slice A0_2 l0_2.length c0_2) := bc BK527 2
   have hfz22_0 := blk_frozen BK527.out 0
   have hfz22_1 := blk_frozen BK527.out 1
   have hfz22_2 := blk_frozen BK527.out 2
   go_wp2
   go_loopg [5] k1 (fun kq v5 w' => ∃ (x5_2 : Int) (x530002_2 : List S76) (u530002 : Value), v5 = .int .i64 x5_2 ∧ Aside0 (lw_told.l1 kq x5_2 a0_0 l0_1 l0_2 a0_0 x530001_1 x530002_2 = some (r1, r2, r3)) ∧ Aside0 (kq ≤ k1) ∧ Aside0 (Kd.R k75 75 w' w.heap.size (fun _ => True) u530001 x530001_1) ∧ Aside0 (Kd.R k76 76 w' w.heap.size (fun _ => True) u530002 x530002_2) ∧ Aside0 (w'.heap[gb527]? = some (.cells #[.bool a0_0, (.slice A0_1 l0_1.length c0_1), (.slice A0_2 l0_2.length c0_2)] 31 (0, 0))) ∧ Aside0 (w'.heap[gb528]? = some (.cells #[.bool false, (.slice none 0 0), (.slice none 0 0)] 25 (0, 0))) ∧ Aside0 (w'.heap[gb529]? = some (.cells #[.bool a0_0, u530001, u530002] 25 (0, 0))) ∧ Aside0 (Below w.heap.size w w'))
   case atStart => exact ⟨(0), (([] : List S76)), (.slice none 0 0), (by first | rfl | (simp; done) | (simp [*]; done)), H', ⟨Nat.le_refl _⟩, ⟨kr HO_530001⟩, ⟨by first | exact Kd.R_nil _ _ _ _ _ | exact Kd.N_nil _ _ _ _ _ | exact Kd.V_nil _ _ _ _ _ | exact Kd.Q_nil _ _ _ _ _ | exact Kd.S_nil _ _ _ _ _⟩, ⟨kb BK527⟩, ⟨kb BK528⟩, ⟨kb BK529⟩, ⟨kl HB⟩⟩
   case round =>
    clear H'
    try clear c1
    try clear c2
    try clear p2
    try clear c4
    try clear p5
    try clear q5
    try clear hx5
    try clear p6
    try clear c7
    try clear c8
    try clear c10
    try clear c10b0
    try clear c11
    try clear c11b0
    try clear c12
    try clear c13
    try clear c14
    try clear c20
    try clear c21
    try clear hcz15_0
    try clear hcz15_1
    try clear hcz15_2
    try clear hcz22_0
    try clear hcz22_1
    try clear hcz22_2
    try clear hcz5_0
    try clear hcz5_1
    try clear hcz5_2
    try clear hcz9_0
    try clear hcz9_1
    try clear hcz9_2
    try clear hfz15_0
    try clear hfz15_1
    try clear hfz15_2
    try clear hfz22_0
    try clear hfz22_1
    try clear hfz22_2
    try clear hfz5_0
    try clear hfz5_1
    try clear hfz5_2
    try clear hfz9_0
    try clear hfz9_1
    try clear hfz9_2
    try clear hx530_0
    try clear hx530_1
    try clear p2
    try clear p530
    try clear q530
    obtain ⟨x5_2, x530002_2, u530002, rfl, HA, HK2, HO_530001, HO_530002, BK527, BK528, BK529, HB⟩ := hrel
    cases gk with
    | zero => exact absurd HA.out (by simp [lw_told.l1])
    | succ k2 =>
     have H := HA.out
     clear HA
     simp only [lw_told.l1] at H
     by_cases c23 : x5_2 < (l0_2.length : Int)
     rotate_left
     ·rw [if_neg c23] at H
      have c23b0 : decide (x5_2 < (l0_2.length : Int)) = false := decide_eq_false c23
      clear c23
      simp only [Option.some.injEq, Prod.mk.injEq] at H
      obtain ⟨rfl, rfl, rfl⟩ := H
      have hnb33 := NB527_528.out
      have hnc33 := NB528_527.out
      have hnb34 := NB527_529.out
      have hnc34 := NB529_527.out
      have hcz35_0 : wr.cell? ⟨gb527, 0, none⟩ = some (.bool a0_0) := bc BK527 0
      have hcz35_1 : wr.cell? ⟨gb527, 1, none⟩ = some (.slice A0_1 l0_1.length c0_1) := bc BK527 1
      have hcz35_2 : wr.cell? ⟨gb527, 2, none⟩ = some (.slice A0_2 l0_2.length c0_2) := bc BK527 2
      have hfz35_0 := blk_frozen BK527.out 0
      have hfz35_1 := blk_frozen BK527.out 1
      have hfz35_2 := blk_frozen BK527.out 2
      have hnb36 := NB529_528.out
      have hnc36 := NB528_529.out
      have hcz37_0 : wr.cell? ⟨gb529, 0, none⟩ = some (.bool a0_0) := bc BK529 0
      have hcz37_1 : wr.cell? ⟨gb529, 1, none⟩ = some (u530001) := bc BK529 1
      have hcz37_2 : wr.cell? ⟨gb529, 2, none⟩ = some (u530002) := bc BK529 2
      have hfz37_0 := blk_frozen BK529.out 0
      have hfz37_1 := blk_frozen BK529.out 1
      have hfz37_2 := blk_frozen BK529.out 2
      have hcz38_0 : wr.cell? ⟨gb528, 0, none⟩ = some (.bool false) := bc BK528 0
      have hcz38_1 : wr.cell? ⟨gb528, 1, none⟩ = some (.slice none 0 0) := bc BK528 1
      have hcz38_2 : wr.cell? ⟨gb528, 2, none⟩ = some (.slice none 0 0) := bc BK528 2
      have hfz38_0 := blk_frozen BK528.out 0
      have hfz38_1 := blk_frozen BK528.out 1
      have hfz38_2 := blk_frozen BK528.out 2
      obtain ⟨Ao39, co39, eo39⟩ := Kd.R_slice HO_530001.out
      subst eo39
      obtain ⟨Ao40, co40, eo40⟩ := Kd.R_slice HO_530002.out
      subst eo40
      go_wp2
      refine bodyPost_ret (results_cell_row rfl _ _ gb528 25 #[.bool a0_0, .slice Ao39 x530001_1.length co39, .slice Ao40 x530002_2.length co40] (0, 0) _ rfl (by (with_reducible repeat (first | refine blk_drewN ?_ _ | refine blk_drew ?_ | refine blk_alloc ?_ _)); refine blk_put (cs := #[.bool a0_0, .slice Ao39 x530001_1.length co39, .slice none 0 0]) ?_ 2 _ rfl; (with_reducible repeat (first | refine blk_drewN ?_ _ | refine blk_drew ?_ | refine blk_alloc ?_ _)); refine blk_put (cs := #[.bool a0_0, .slice none 0 0, .slice none 0 0]) ?_ 1 _ rfl; (with_reducible repeat (first | refine blk_drewN ?_ _ | refine blk_drew ?_ | refine blk_alloc ?_ _)); refine blk_put (cs := #[.bool false, .slice none 0 0, .slice none 0 0]) ?_ 0 _ rfl; exact kb BK528) Try.underlying25 rfl (by kernel_rfl)) rfl ?_
      exact ⟨_, _, by first | rfl | (simp [errW_none, errW_some] <;> rfl) | (simp [*, errW_none, errW_some] <;> rfl), by exact Kd.R_mono (Kd.R_far (Kd.R_far (Kd.R_far (Kd.R_types HO_530001.out BK528.out (by decide)) (fun _ hk => hk.2) _) (fun _ hk => hk.2) _) (fun _ hk => hk.2) _) (fun _ hk => trivial), by exact Kd.R_mono (Kd.R_far (Kd.R_far (Kd.R_far (Kd.R_types HO_530002.out BK528.out (by decide)) (fun _ hk => hk.2) _) (fun _ hk => hk.2) _) (fun _ hk => hk.2) _) (fun _ hk => trivial), kl HB⟩
     rw [if_pos c23] at H
     have c23b0 : decide (x5_2 < (l0_2.length : Int)) = true := decide_eq_true c23
     clear c23
     by_cases c24 : 0 ≤ x5_2
     rotate_left
     ·rw [if_neg c24] at H
      exact absurd H (by simp)
     rw [if_pos c24] at H
     have c24b0 : decide (0 ≤ x5_2) = true := decide_eq_true c24
     clear c24
     by_cases c25 : x530002_2.length < 5864062014805
     rotate_left
     ·rw [if_neg c25] at H
      exact absurd H (by simp)
     rw [if_pos c25] at H
     have LMc25 := aM c25
     clear c25
     obtain ⟨y535, hy535⟩ : ∃ y_ : List S76, y_ = (x530002_2 ++ [(⟨(rd_T36 l0_2 x5_2).f0, (rd_T36 l0_2 x5_2).f1⟩ : S76)]) := ⟨_, rfl⟩
     replace H : (lw_told.l1 k2 (wrap64 (x5_2 + 1)) a0_0 l0_1 l0_2 a0_0 x530001_1 y535) = some (r1, r2, r3) := by first | (rw [hy535]; with_reducible exact H) | (have H2_ := (Option.bind_some _ _).symm.trans H; rw [hy535]; with_reducible exact H2_) | (have H2_ := (Option.bind_some _ _).symm.trans H; with_reducible exact H2_) | with_reducible exact H | (rw [hy535]; exact H) | exact H
     have Ny535 := aM hy535
     clear hy535
     have H' := aM H
     clear H
     have hnb26 := NB527_528.out
     have hnc26 := NB528_527.out
     have hnb27 := NB527_529.out
     have hnc27 := NB529_527.out
     have hcz28_0 : wr.cell? ⟨gb527, 0, none⟩ = some (.bool a0_0) := bc BK527 0
     have hcz28_1 : wr.cell? ⟨gb527, 1, none⟩ = some (.slice A0_1 l0_1.length c0_1) := bc BK527 1
     have hcz28_2 : wr.cell? ⟨gb527, 2, none⟩ = some (.slice A0_2 l0_2.length c0_2) := bc BK527 2
     have hfz28_0 := blk_frozen BK527.out 0
     have hfz28_1 := blk_frozen BK527.out 1
     have hfz28_2 := blk_frozen BK527.out 2
     try go_wp2
     replace HO_530001 := aM (Kd.R_drew HO_530001.out)
     replace HO_530002 := aM (Kd.R_drew HO_530002.out)
     replace BK527 := aM (blk_drew BK527.out)
     replace BK528 := aM (blk_drew BK528.out)
     replace BK529 := aM (blk_drew BK529.out)
     replace HB := aM (below_drew1 HB.out)
     have p534 : 0 ≤ (x5_2 : Int) := of_decide_eq_true (by first | (with_reducible assumption) | assumption)
     have q534 : x5_2 < (l0_2.length : Int) := of_decide_eq_true (by first | (with_reducible assumption) | assumption)
     obtain ⟨ad534, e534, hx534_0, hx534_1⟩ := at_T36 HR0_2.out x5_2 p534 q534
     have hw534_1 := hx534_1
     have hw534_0 := hx534_0
     cases e534
     replace hx534_0 := (HB.out.cell (World.block_lt_of_cell? w _ hx534_0)).trans hx534_0
     replace hx534_1 := (HB.out.cell (World.block_lt_of_cell? w _ hx534_1)).trans hx534_1
     replace p534 := eq_true p534
     replace q534 := eq_true q534
     refine start_ (n := 11) (S := fun w' => w'.cell? ⟨gb529, 0, none⟩ = some (.bool a0_0) ∧ w'.cell? ⟨gb529, 1, none⟩ = some (u530001) ∧ w'.cell? ⟨gb529, 2, none⟩ = some (u530002) ∧ w'.cell? ⟨gb527, 0, none⟩ = some (.bool a0_0) ∧ w'.cell? ⟨gb527, 1, none⟩ = some (.slice A0_1 l0_1.length c0_1) ∧ w'.cell? ⟨gb527, 2, none⟩ = some (.slice (some ad534) l0_2.length c0_2) ∧ w'.cell? (ad534.add ((x5_2).toNat * 2)) = some (.string ((rd_T36 l0_2 x5_2).f0)) ∧ w'.cell? ⟨(ad534.add ((x5_2).toNat * 2)).block, (ad534.add ((x5_2).toNat * 2)).off + 1, none⟩ = some (.int .i64 ((rd_T36 l0_2 x5_2).f1))) (ds := [10]) #[N,N,N,N,N,N,N,N,N,N,N] (by kernel_rfl) rfl rfl ⟨bc BK529 0, bc BK529 1, bc BK529 2, bc BK527 0, bc BK527 1, bc BK527 2, ((HB.out.cell (World.block_lt_of_cell? w _ hw534_0)).trans hw534_0), ((HB.out.cell (World.block_lt_of_cell? w _ hw534_1)).trans hw534_1)⟩ (fun hHeld => ?_); refine with_tabW lw_told.tab9 lw_told.bits9 (fun HT_ HW_ => ?_)
     generalize wr.drew = w29 at HO_530001 HO_530002 BK527 BK528 BK529 HB hx534_0 hx534_1 hHeld ⊢
     refine pure_ (i := 0) (N := some 33) (v := ?_) (a' := ?_) #[Y,N,N,N,N,N,N,N,N,N,N] rfl rfl (any_of HT_.out (by kernel_rfl)) (fun _ _ _ h => h) (Or.inl ⟨by rfl, ?_⟩) ?_ ?_
     rotate_left
     ·intro w'
      go_simp
      with_reducible rfl
     rotate_left
     ·simp only [Act.put, List.setIfInBounds_toArray, List.set_cons_zero, List.set_cons_succ, i64_w, i32_w]
      rfl
     refine pure_ (i := 2) (N := some 35) (v := ?_) (a' := ?_) #[Y,N,Y,N,N,N,N,N,N,N,N] rfl rfl (any_of HT_.out (by kernel_rfl)) (fun _ _ _ h => h) (Or.inl ⟨by rfl, ?_⟩) ?_ ?_
     rotate_left
     ·intro w'
      go_simp
      with_reducible rfl
     rotate_left
     ·simp only [Act.put, List.setIfInBounds_toArray, List.set_cons_zero, List.set_cons_succ, i64_w, i32_w]
      rfl
     refine pure_ (i := 4) (N := some 37) (v := ?_) (a' := ?_) #[Y,N,Y,N,Y,N,N,N,N,N,N] rfl rfl (any_of HT_.out (by kernel_rfl)) (fun _ _ _ h => h) (Or.inl ⟨by rfl, ?_⟩) ?_ ?_
     rotate_left
     ·intro w'
      go_simp
      with_reducible rfl
     rotate_left
     ·simp only [Act.put, List.setIfInBounds_toArray, List.set_cons_zero, List.set_cons_succ, i64_w, i32_w]
      rfl
     refine take_ (i := 1) (N := some 34) (v := ?_) (a' := ?_) #[Y,Y,Y,N,Y,N,N,N,N,N,N] rfl rfl (take_ofW HT_.out HW_.out (by kernel_rfl)) (fun _ _ _ h => h) (Or.inl ⟨by rfl, ?_⟩) hHeld ?_ ?_
     rotate_left
     ·rintro w' ⟨s0, s1, s2, s3, s4, s5, s6, s7⟩
      go_simp
      with_reducible rfl
     rotate_left
     ·simp only [Act.put, List.setIfInBounds_toArray, List.set_cons_zero, List.set_cons_succ, i64_w, i32_w]
      rfl
     refine take_ (i := 3) (N := some 36) (v := ?_) (a' := ?_) #[Y,Y,Y,Y,Y,N,N,N,N,N,N] rfl rfl (take_ofW HT_.out HW_.out (by kernel_rfl)) (fun _ _ _ h => h) (Or.inl ⟨by rfl, ?_⟩) hHeld ?_ ?_
     rotate_left
     ·rintro w' ⟨s0, s1, s2, s3, s4, s5, s6, s7⟩
      go_simp
      with_reducible rfl
     rotate_left
     ·simp only [Act.put, List.setIfInBounds_toArray, List.set_cons_zero, List.set_cons_succ, i64_w, i32_w]
      rfl
     refine pure_ (i := 5) (N := some 38) (v := ?_) (a' := ?_) #[Y,Y,Y,Y,Y,Y,N,N,N,N,N] rfl rfl (any_of HT_.out (by kernel_rfl)) (fun _ _ _ h => h) (Or.inl ⟨by rfl, ?_⟩) ?_ ?_
     rotate_left
     ·intro w'
      go_simp
      with_reducible rfl
     rotate_left
     ·simp only [Act.put, List.setIfInBounds_toArray, List.set_cons_zero, List.set_cons_succ, i64_w, i32_w]
      rfl
     refine take_ (i := 6) (N := some 39) (v := ?_) (a' := ?_) #[Y,Y,Y,Y,Y,Y,Y,N,N,N,N] rfl rfl (take_ofW HT_.out HW_.out (by kernel_rfl)) (fun _ _ _ h => h) (Or.inl ⟨by rfl, ?_⟩) hHeld ?_ ?_
     rotate_left
     ·rintro w' ⟨s0, s1, s2, s3, s4, s5, s6, s7⟩
      go_simp
      with_reducible rfl
     rotate_left
     ·simp only [Act.put, List.setIfInBounds_toArray, List.set_cons_zero, List.set_cons_succ, i64_w, i32_w]
      rfl
     refine one_ (i := 7) (N := some 40) #[Y,Y,Y,Y,Y,Y,Y,Y,N,N,N] rfl rfl (one_of HT_.out (by kernel_rfl)) (by decide) (fun K hK => ?_)
     refine value_ (w1 := ?_) (v := ?_) (by rfl) rfl ?_ ?_
     rotate_left 2
     ·go_simp
      constructor
      ·rfl
      ·rfl
     refine hK.out _ _ ⟨(blk_cell (blk_alloc BK529.out _) 0).trans rfl, (blk_cell (blk_alloc BK529.out _) 1).trans rfl, (blk_cell (blk_alloc BK529.out _) 2).trans rfl, (blk_cell (blk_alloc BK527.out _) 0).trans rfl, (blk_cell (blk_alloc BK527.out _) 1).trans rfl, (blk_cell (blk_alloc BK527.out _) 2).trans rfl, (World.cell?_alloc_lt _ _ _ (World.block_lt_of_cell? _ _ (((HB.out.cell (World.block_lt_of_cell? w _ hw534_0)).trans hw534_0)))).trans (((HB.out.cell (World.block_lt_of_cell? w _ hw534_0)).trans hw534_0)), (World.cell?_alloc_lt _ _ _ (World.block_lt_of_cell? _ _ (((HB.out.cell (World.block_lt_of_cell? w _ hw534_1)).trans hw534_1)))).trans (((HB.out.cell (World.block_lt_of_cell? w _ hw534_1)).trans hw534_1))⟩ (fun hHeld => ?_)
     clear hK K
     refine norm_ (a' := ?_) ?_ ?_
     rotate_left
     ·show Act.put _ (some 40) _ = _
      simp only [Act.put, List.setIfInBounds_toArray, List.set_cons_zero, List.set_cons_succ, i64_w, i32_w]
      rfl
     refine one_ (i := 8) (N := some 41) #[Y,Y,Y,Y,Y,Y,Y,Y,Y,N,N] rfl rfl (one_of HT_.out (by kernel_rfl)) (by decide) (fun K hK => ?_)
     refine Kd.R_append_step k76 (w0 := w) w.heap.size (by rfl) (.tmp 34) (.tmp 40) 23 76 (.agg #[(.string ⟨#[]⟩), (.int .i64 0)]) 24 rfl Try.underlying23 info76 rfl (by decide) (by omega) u530002 x530002_2 (⟨(rd_T36 l0_2 x5_2).f0, (rd_T36 l0_2 x5_2).f1⟩ : S76) [.string ((rd_T36 l0_2 x5_2).f0), .int .i64 ((rd_T36 l0_2 x5_2).f1)] (fun _ => True) (fun _ => False) rfl rfl ?aP (fun _ hk => hk.elim) ?aF ?aO ?aB ?aS ?aL ?_
     (case aP => exact k76_mkM _ _ _ (⟨(rd_T36 l0_2 x5_2).f0, (rd_T36 l0_2 x5_2).f1⟩ : S76))
     (case aB => exact (kl HB))
     (case aF => exact (fun _ _ => trivial))
     (case aO => exact (kr HO_530002))
     (case aS => exact (below_size (kl HB)))
     (case aL => have := LMc25.out; omega)
     intro v536 w30 ho hb hg hat
     rw [← Ny535.out] at ho
     replace HO_530001 := aM (Kd.R_over' (kr HO_530001) (Kd.R_typed (kr HO_530002)) (by decide) hg)
     replace BK527 := aM (blk_grown (kb BK527) hg (Kd.R_ne HO_530002.out BK527.out (by decide)))
     replace BK528 := aM (blk_grown (kb BK528) hg (Kd.R_ne HO_530002.out BK528.out (by decide)))
     replace BK529 := aM (blk_grown (kb BK529) hg (Kd.R_ne HO_530002.out BK529.out (by decide)))
     replace HB := aM (hb)
     have HO537 := aM (ho)
     clear HO_530002
     clear ho hb hg hat
     obtain ⟨Ao31, co31, eo31⟩ := Kd.R_slice HO537.out
     (first | subst eo31 | (injection eo31 with f1_ f2_ f3_; have f4_ := f1_.symm; have f5_ := f3_.symm; clear f1_ f2_ f3_; subst f4_; subst f5_))
     refine hK.out _ _ ⟨bc BK529 0, bc BK529 1, bc BK529 2, bc BK527 0, bc BK527 1, bc BK527 2, ((HB.out.cell (World.block_lt_of_cell? w _ hw534_0)).trans hw534_0), ((HB.out.cell (World.block_lt_of_cell? w _ hw534_1)).trans hw534_1)⟩ (fun hHeld => ?_)
     clear hK K
     refine norm_ (a' := ?_) ?_ ?_
     rotate_left
     ·show Act.put _ (some 41) _ = _
      simp only [Act.put, List.setIfInBounds_toArray, List.set_cons_zero, List.set_cons_succ, i64_w, i32_w]
      rfl
     refine pure_ (i := 9) (N := some 42) (v := ?_) (a' := ?_) #[Y,Y,Y,Y,Y,Y,Y,Y,Y,Y,N] rfl rfl (any_of HT_.out (by kernel_rfl)) (fun _ _ _ h => h) (Or.inl ⟨by rfl, ?_⟩) ?_ ?_
     rotate_left
     ·intro w'
      go_simp
      with_reducible rfl
     rotate_left
     ·simp only [Act.put, List.setIfInBounds_toArray, List.set_cons_zero, List.set_cons_succ, i64_w, i32_w]
      rfl
     refine last_ (i := 10) (N := none) #[Y,Y,Y,Y,Y,Y,Y,Y,Y,Y,Y] rfl rfl (one_of HT_.out (by kernel_rfl)) (by decide) (fun K hK => ?_)
     have hs32 : w30.cell? ⟨gb529, 2, none⟩ = some (u530002) := bc BK529 2
     have hfs32 := blk_frozen BK529.out 2
     have hns32_0 := NB527_529.out
     have hns32_1 := NB528_529.out
     have hms32_0 := NB529_527.out
     have hms32_1 := NB529_528.out
     refine skip_ (w1 := ?_) (by rfl) rfl ?_ ?_
     rotate_left
     ·go_simp
      rfl
     refine hK.out _ _ ?_
     clear hK K
     refine done_ (done_of HT_.out (by kernel_rfl)) ?_
     try go_wp2
     go_roundg k2
     case measure => have := HK1.out; have := HK2.out; omega
     case rel => exact ⟨(wrap64 (x5_2 + 1)), (y535), (.slice Ao31 y535.length co31), (by first | rfl | (simp; done) | (simp [*]; done)), H', ⟨by have := HK1.out; have := HK2.out; omega⟩, ⟨by exact Kd.R_mono (Kd.R_far (Kd.R_types HO_530001.out BK529.out (by decide)) (fun _ hk => hk.2) _) (fun _ hk => trivial)⟩, ⟨by exact Kd.R_mono (Kd.R_far (Kd.R_types HO537.out BK529.out (by decide)) (fun _ hk => hk.2) _) (fun _ hk => trivial)⟩, ⟨kf NB527_529 BK527⟩, ⟨kf NB528_529 BK528⟩, ⟨by (with_reducible repeat (first | refine blk_drewN ?_ _ | refine blk_drew ?_ | refine blk_alloc ?_ _)); refine blk_put (cs := #[.bool a0_0, u530001, u530002]) ?_ 2 _ rfl; exact kb BK529⟩, ⟨kl HB⟩⟩
end Go.Proofs.Ytfbaejhjppikpaa.P
namespace Go.Proofs.Ytfbaejhjppikpaa.P
open Go.RowKit Go.Proofs.YtfbaejhjppikpaaW.PrintWords Go.Proofs.YtfbaejhjppikpaaW.PrintLast Go.Proofs.YtfbaejhjppikpaaW.PrintMore
attribute [local go_sem] max2_int min2_int max_two min_two max_three min_three max_four min_four
set_option linter.unusedVariables false
set_option linter.unusedSimpArgs false
end Go.Proofs.Ytfbaejhjppikpaa.P
namespace Go.Proofs.Ytfbaejhjppikpaa.P
open Go.RowKit Go.Proofs.YtfbaejhjppikpaaW.PrintWords Go.Proofs.YtfbaejhjppikpaaW.PrintLast Go.Proofs.YtfbaejhjppikpaaW.PrintMore
attribute [local go_sem] max2_int min2_int max_two min_two max_three min_three max_four min_four
set_option linter.unusedVariables false
set_option linter.unusedSimpArgs false
end Go.Proofs.Ytfbaejhjppikpaa.P
namespace Go.Proofs.Ytfbaejhjppikpaa.P
open Go.RowKit Go.Proofs.YtfbaejhjppikpaaW.PrintWords Go.Proofs.YtfbaejhjppikpaaW.PrintLast Go.Proofs.YtfbaejhjppikpaaW.PrintMore
attribute [local go_sem] max2_int min2_int max_two min_two max_three min_three max_four min_four
set_option linter.unusedVariables false
set_option linter.unusedSimpArgs false
mutual
def rf_Put.l0 : Nat → List S75 → ByteArray → ByteArray → List S75 → Bool → Int → Option ((List S75))
 | 0, _, _, _, _, _, _ => none
 | k + 1, x0, x1, x2, x7, x8, x9 => if x9 < (x0.length : Int) then (if x8 = true then (rf_Put.j1 k x0 x1 x2 x7 x8 x9 false) else (if 0 ≤ x9 then (rf_Put.j1 k x0 x1 x2 x7 x8 x9 (!(Op.bytesLess (((rd_T75 x0 x9).f0).toList) x1.toList))) else (none))) else (if x8 = true then (some x7) else (if x7.length < 4398046511104 then (some (x7 ++ [(⟨x1, x2⟩ : S75)])) else (none)))
def rf_Put.j1 : Nat → List S75 → ByteArray → ByteArray → List S75 → Bool → Int → Bool → Option ((List S75))
 | 0, _, _, _, _, _, _, _ => none
 | k + 1, x0, x1, x2, x7, x8, x9, x26 => if x26 = true then (if x7.length < 4398046511104 then ((some (x7 ++ [(⟨x1, x2⟩ : S75)] : List S75)).bind fun y686 => (if 0 ≤ x9 then (if x9 < (x0.length : Int) then (if ((rd_T75 x0 x9).f0).toList = x1.toList then (rf_Put.l0 k x0 x1 x2 y686 true (wrap64 (x9 + 1))) else (if y686.length < 4398046511104 then (rf_Put.l0 k x0 x1 x2 (y686 ++ [(⟨(rd_T75 x0 x9).f0, (rd_T75 x0 x9).f1⟩ : S75)]) true (wrap64 (x9 + 1))) else (none))) else (none)) else (none))) else (none)) else (if 0 ≤ x9 then (if x9 < (x0.length : Int) then (if x7.length < 4398046511104 then (rf_Put.l0 k x0 x1 x2 (x7 ++ [(⟨(rd_T75 x0 x9).f0, (rd_T75 x0 x9).f1⟩ : S75)]) x8 (wrap64 (x9 + 1))) else (none)) else (none)) else (none))
end
end Go.Proofs.Ytfbaejhjppikpaa.P
namespace Go.Proofs.Ytfbaejhjppikpaa.P
open Go.RowKit Go.Proofs.YtfbaejhjppikpaaW.PrintWords Go.Proofs.YtfbaejhjppikpaaW.PrintLast Go.Proofs.YtfbaejhjppikpaaW.PrintMore
attribute [local go_sem] max2_int min2_int max_two min_two max_three min_three max_four min_four
set_option linter.unusedVariables false
set_option linter.unusedSimpArgs false
theorem eqA76 (d : Nat) (w : World) (x0 y0 : ByteArray) (x1 y1 : Int) :
  (Op.equalIn (d + 2) 76 (.agg #[.string x0, .int .i64 x1]) (.agg #[.string y0, .int .i64 y1])).run Try.prog w = .ok (x0.toList == y0.toList && (x1 == y1)) w := by
 refine eqA_of Try.underlying76 (by kernel_rfl) ?_
 refine eqf_cons (by rfl) (by go_simp; rfl) (by go_simp; rfl) (by go_simp) ?_
 exact eqf_last (by rfl) (by go_simp; rfl) (by go_simp; rfl) (by go_simp)
end Go.Proofs.Ytfbaejhjppikpaa.P
namespace Go.Proofs.Ytfbaejhjppikpaa.P
open Go.RowKit Go.Proofs.YtfbaejhjppikpaaW.PrintWords Go.Proofs.YtfbaejhjppikpaaW.PrintLast Go.Proofs.YtfbaejhjppikpaaW.PrintMore
attribute [local go_sem] max2_int min2_int max_two min_two max_three min_three max_four min_four
set_option linter.unusedVariables false
set_option linter.unusedSimpArgs false
theorem eqA75 (d : Nat) (w : World) (x0 y0 : ByteArray) (x1 y1 : ByteArray) :
  (Op.equalIn (d + 2) 75 (.agg #[.string x0, .string x1]) (.agg #[.string y0, .string y1])).run Try.prog w = .ok (x0.toList == y0.toList && (x1.toList == y1.toList)) w := by
 refine eqA_of Try.underlying75 (by kernel_rfl) ?_
 refine eqf_cons (by rfl) (by go_simp; rfl) (by go_simp; rfl) (by go_simp) ?_
 exact eqf_last (by rfl) (by go_simp; rfl) (by go_simp; rfl) (by go_simp)
end Go.Proofs.Ytfbaejhjppikpaa.P
namespace Go.Proofs.Ytfbaejhjppikpaa.P
open Go.RowKit Go.Proofs.YtfbaejhjppikpaaW.PrintWords Go.Proofs.YtfbaejhjppikpaaW.PrintLast Go.Proofs.YtfbaejhjppikpaaW.PrintMore
attribute [local go_sem] max2_int min2_int max_two min_two max_three min_three max_four min_four
set_option linter.unusedVariables false
set_option linter.unusedSimpArgs false
attribute [local go_sem high] eqA75
def rf_Entries.l0 : Nat → List S75 → List S75 → Int → Option (Bool)
 | 0, _, _, _ => none
 | k + 1, x0, x1, x5 => if x5 < (x0.length : Int) then (if 0 ≤ x5 then (if x5 < (x1.length : Int) then (if (!((((rd_T75 x0 x5).f0).toList) == (((rd_T75 x1 x5).f0).toList)) || (!((((rd_T75 x0 x5).f1).toList) == (((rd_T75 x1 x5).f1).toList)))) = true then (some false) else (rf_Entries.l0 k x0 x1 (wrap64 (x5 + 1)))) else (none)) else (none)) else (some true)
def rf_Entries.f (k : Nat) (l0 : List S75) (l1 : List S75) : Option (Bool) := if (l0.length : Int) = (l1.length : Int) then (rf_Entries.l0 k l0 l1 0) else (some false)
set_option maxHeartbeats 8000000 in
set_option maxRecDepth 100000 in
theorem rf_Entries.calls (k : Nat) (A0 : Option Addr) (c0 : Nat) (l0 : List S75) (A1 : Option Addr) (c1 : Nat) (l1 : List S75) (r : Bool) (w : World) (hr0 : Kd.C k75 w A0 l0.length l0) (hc0 : l0.length ≤ c0) (hr1 : Kd.C k75 w A1 l1.length l1) (hc1 : l1.length ≤ c1) (h : rf_Entries.f k l0 l1 = some r) :
  Calls Try.prog 34 #[.slice A0 l0.length c0, .slice A1 l1.length c1] w fun e w' => e = .returned (.bool r) ∧ Drawn0 w w' := by
 have hu75 := Try.underlying75
 have HR0 := Aside0.mk hr0
 have HC0 := Aside0.mk hc0
 clear hr0 hc0
 have HR1 := Aside0.mk hr1
 have HC1 := Aside0.mk hc1
 clear hr1 hc1
 have H : (if (l0.length : Int) = (l1.length : Int) then (rf_Entries.l0 k l0 l1 0) else (some false)) = some r := h
 clear h
 by_cases c3 : (l0.length : Int) = (l1.length : Int)
 ·rw [if_pos c3] at H
  have c3b0 : ((l0.length : Int) == (l1.length : Int)) = true := beq_iff_eq.mpr c3
  have c3b1 : ((l0.length : Int) != (l1.length : Int)) = false := bne_eq_false_iff_eq.mpr c3
  have c3b2 : (l0.length == l1.length) = true := by first | simpa using c3 | (simp at c3 ⊢; omega)
  clear c3
  have H' := Aside0.mk H
  clear H
  go_enter Try.func34, Try.ntmps34
  go_wp2
  repeat (go_quiet (fail); try go_wp2)
  go_loopg [5] k (fun kq v5 w' => ∃ (x5_1 : Int), v5 = .int .i64 x5_1 ∧ Aside0 (rf_Entries.l0 kq l0 l1 x5_1 = some r) ∧ Aside0 (kq ≤ k) ∧ Drawn0 w w')
  case atStart => exact ⟨(0), (by first | rfl | (simp; done) | (simp [*]; done)), H', ⟨Nat.le_refl _⟩, by repeat (first | exact Drawn0.refl _ | apply Drawn0.step)⟩
  case round =>
   clear H'
   try clear c1
   try clear p2
   try clear c3
   try clear c3b0
   try clear c3b1
   try clear c3b2
   obtain ⟨x5_1, rfl, HA, HK1, ⟨m1, rfl⟩⟩ := hrel
   cases gk with
   | zero => exact absurd HA.out (by simp [rf_Entries.l0])
   | succ k1 =>
    have H := HA.out
    clear HA
    simp only [rf_Entries.l0] at H
    by_cases c4 : x5_1 < (l0.length : Int)
    ·rw [if_pos c4] at H
     have c4b0 : decide (x5_1 < (l0.length : Int)) = true := decide_eq_true c4
     clear c4
     by_cases c5 : 0 ≤ x5_1
     ·rw [if_pos c5] at H
      have c5b0 : decide (0 ≤ x5_1) = true := decide_eq_true c5
      clear c5
      by_cases c6 : x5_1 < (l1.length : Int)
      ·rw [if_pos c6] at H
       have c6b0 : decide (x5_1 < (l1.length : Int)) = true := decide_eq_true c6
       clear c6
       by_cases c7 : (!((((rd_T75 l0 x5_1).f0).toList) == (((rd_T75 l1 x5_1).f0).toList)) || (!((((rd_T75 l0 x5_1).f1).toList) == (((rd_T75 l1 x5_1).f1).toList)))) = true
       ·rw [if_pos c7] at H
        have c7b0 : (!((((rd_T75 l0 x5_1).f0).toList) == (((rd_T75 l1 x5_1).f0).toList)) || (!((((rd_T75 l0 x5_1).f1).toList) == (((rd_T75 l1 x5_1).f1).toList)))) = true := c7
        clear c7
        obtain rfl := Option.some.inj H
        have p421 : 0 ≤ (x5_1 : Int) := of_decide_eq_true (by first | (with_reducible assumption) | assumption)
        have q421 : x5_1 < (l0.length : Int) := of_decide_eq_true (by first | (with_reducible assumption) | assumption)
        obtain ⟨ad421, e421, hx421_0, hx421_1⟩ := at_T75 HR0.out x5_1 p421 q421
        cases e421
        replace p421 := eq_true p421
        replace q421 := eq_true q421
        have p422 : 0 ≤ (x5_1 : Int) := of_decide_eq_true (by first | (with_reducible assumption) | assumption)
        have q422 : x5_1 < (l1.length : Int) := of_decide_eq_true (by first | (with_reducible assumption) | assumption)
        obtain ⟨ad422, e422, hx422_0, hx422_1⟩ := at_T75 HR1.out x5_1 p422 q422
        cases e422
        replace p422 := eq_true p422
        replace q422 := eq_true q422
        go_wp2
        repeat (go_quiet (fail); try go_wp2)
        go_ret
        exact ⟨by first | rfl | (simp; done) | (simp [*]; done), by repeat (first | exact Drawn0.refl _ | apply Drawn0.step)⟩
       ·rw [if_neg c7] at H
        have c7b0 : (!((((rd_T75 l0 x5_1).f0).toList) == (((rd_T75 l1 x5_1).f0).toList)) || (!((((rd_T75 l0 x5_1).f1).toList) == (((rd_T75 l1 x5_1).f1).toList)))) = false := by simpa using c7
        clear c7
        have H' := Aside0.mk H
        clear H
        have p421 : 0 ≤ (x5_1 : Int) := of_decide_eq_true (by first | (with_reducible assumption) | assumption)
        have q421 : x5_1 < (l0.length : Int) := of_decide_eq_true (by first | (with_reducible assumption) | assumption)
        obtain ⟨ad421, e421, hx421_0, hx421_1⟩ := at_T75 HR0.out x5_1 p421 q421
        cases e421
        replace p421 := eq_true p421
        replace q421 := eq_true q421
        have p422 : 0 ≤ (x5_1 : Int) := of_decide_eq_true (by first | (with_reducible assumption) | assumption)
        have q422 : x5_1 < (l1.length : Int) := of_decide_eq_true (by first | (with_reducible assumption) | assumption)
        obtain ⟨ad422, e422, hx422_0, hx422_1⟩ := at_T75 HR1.out x5_1 p422 q422
        cases e422
        replace p422 := eq_true p422
        replace q422 := eq_true q422
        go_wp2
        repeat (go_quiet (fail); try go_wp2)
        go_roundg k1
        case measure => have := HK1.out; omega
        case rel => exact ⟨(wrap64 (x5_1 + 1)), (by first | rfl | (simp; done) | (simp [*]; done)), H', ⟨by have := HK1.out; omega⟩, by repeat (first | exact Drawn0.refl _ | apply Drawn0.step)⟩
      ·rw [if_neg c6] at H
       exact absurd H (by simp)
     ·rw [if_neg c5] at H
      exact absurd H (by simp)
    ·rw [if_neg c4] at H
     have c4b0 : decide (x5_1 < (l0.length : Int)) = false := decide_eq_false c4
     clear c4
     obtain rfl := Option.some.inj H
     go_wp2
     repeat (go_quiet (fail); try go_wp2)
     go_ret
     exact ⟨by first | rfl | (simp; done) | (simp [*]; done), by repeat (first | exact Drawn0.refl _ | apply Drawn0.step)⟩
 ·rw [if_neg c3] at H
  have c3b0 : ((l0.length : Int) == (l1.length : Int)) = false := beq_eq_false_iff_ne.mpr c3
  have c3b1 : ((l0.length : Int) != (l1.length : Int)) = true := bne_iff_ne.mpr c3
  have c3b2 : (l0.length == l1.length) = false := by first | simpa using c3 | (simp at c3 ⊢; omega)
  obtain rfl := Option.some.inj H
  go_enter Try.func34, Try.ntmps34
  go_wp2
  repeat (go_quiet (fail); try go_wp2)
  go_ret
  exact ⟨by first | rfl | (simp; done) | (simp [*]; done), by repeat (first | exact Drawn0.refl _ | apply Drawn0.step)⟩
end Go.Proofs.Ytfbaejhjppikpaa.P
namespace Go.Proofs.Ytfbaejhjppikpaa.P
open Go.RowKit Go.Proofs.YtfbaejhjppikpaaW.PrintWords Go.Proofs.YtfbaejhjppikpaaW.PrintLast Go.Proofs.YtfbaejhjppikpaaW.PrintMore
attribute [local go_sem] max2_int min2_int max_two min_two max_three min_three max_four min_four
set_option linter.unusedVariables false
set_option linter.unusedSimpArgs false
attribute [local go_sem high] eqA76
mutual
def rf_Same.j0 : Nat → Bool → Bool → List S75 → List S76 → Bool → List S75 → List S76 → Option (Bool)
 | 0, _, _, _, _, _, _, _ => none
 | k + 1, x27, x424000, x424001, x424002, x425000, x425001, x425002 => if x27 = true then (some false) else (rf_Same.l0 k 0 x424000 x424001 x424002 x425000 x425001 x425002)
def rf_Same.l0 : Nat → Int → Bool → List S75 → List S76 → Bool → List S75 → List S76 → Option (Bool)
 | 0, _, _, _, _, _, _, _ => none
 | k + 1, x5, x424000, x424001, x424002, x425000, x425001, x425002 => if x5 < (x424002.length : Int) then (if 0 ≤ x5 then (if x5 < (x425002.length : Int) then (if (!((((rd_T76 x424002 x5).f0).toList) == (((rd_T76 x425002 x5).f0).toList)) || (!(((rd_T76 x424002 x5).f1) == ((rd_T76 x425002 x5).f1)))) = true then (some false) else (rf_Same.l0 k (wrap64 (x5 + 1)) x424000 x424001 x424002 x425000 x425001 x425002)) else (none)) else (none)) else (some true)
end
def rf_Same.f (k : Nat) (a0_0 : Bool) (l0_1 : List S75) (l0_2 : List S76) (a1_0 : Bool) (l1_1 : List S75) (l1_2 : List S76) : Option (Bool) := if (a0_0 != a1_0) = true then (rf_Same.j0 k true a0_0 l0_1 l0_2 a1_0 l1_1 l1_2) else ((rf_Entries.f k l0_1 l1_1).bind fun t425 => (if t425 = true then (rf_Same.j0 k ((l0_2.length : Int) != (l1_2.length : Int)) a0_0 l0_1 l0_2 a1_0 l1_1 l1_2) else (rf_Same.j0 k true a0_0 l0_1 l0_2 a1_0 l1_1 l1_2)))
set_option maxHeartbeats 8000000 in
set_option maxRecDepth 100000 in
theorem rf_Same.calls (k : Nat) (a0_0 : Bool) (A0_1 : Option Addr) (c0_1 : Nat) (l0_1 : List S75) (A0_2 : Option Addr) (c0_2 : Nat) (l0_2 : List S76) (a1_0 : Bool) (A1_1 : Option Addr) (c1_1 : Nat) (l1_1 : List S75) (A1_2 : Option Addr) (c1_2 : Nat) (l1_2 : List S76) (r : Bool) (w : World) (hr0_1 : Kd.C k75 w A0_1 l0_1.length l0_1) (hc0_1 : l0_1.length ≤ c0_1) (hr0_2 : Kd.C k76 w A0_2 l0_2.length l0_2) (hc0_2 : l0_2.length ≤ c0_2) (hr1_1 : Kd.C k75 w A1_1 l1_1.length l1_1) (hc1_1 : l1_1.length ≤ c1_1) (hr1_2 : Kd.C k76 w A1_2 l1_2.length l1_2) (hc1_2 : l1_2.length ≤ c1_2) (h : rf_Same.f k a0_0 l0_1 l0_2 a1_0 l1_1 l1_2 = some r) :
  Calls Try.prog 24 #[.agg #[.bool a0_0, .slice A0_1 l0_1.length c0_1, .slice A0_2 l0_2.length c0_2], .agg #[.bool a1_0, .slice A1_1 l1_1.length c1_1, .slice A1_2 l1_2.length c1_2]] w fun e w' => e = .returned (.bool r) ∧ Below w.heap.size w w' := by
 have hu25 := Try.underlying25
 have hu76 := Try.underlying76
 have HR0_1 := aM hr0_1
 have HC0_1 := aM hc0_1
 clear hr0_1 hc0_1
 have HR0_2 := aM hr0_2
 have HC0_2 := aM hc0_2
 clear hr0_2 hc0_2
 have HR1_1 := aM hr1_1
 have HC1_1 := aM hc1_1
 clear hr1_1 hc1_1
 have HR1_2 := aM hr1_2
 have HC1_2 := aM hc1_2
 clear hr1_2 hc1_2
 have HB := aM (Below.refl w.heap.size w)
 have H : (if (a0_0 != a1_0) = true then (rf_Same.j0 k true a0_0 l0_1 l0_2 a1_0 l1_1 l1_2) else ((rf_Entries.f k l0_1 l1_1).bind fun t425 => (if t425 = true then (rf_Same.j0 k ((l0_2.length : Int) != (l1_2.length : Int)) a0_0 l0_1 l0_2 a1_0 l1_1 l1_2) else (rf_Same.j0 k true a0_0 l0_1 l0_2 a1_0 l1_1 l1_2)))) = some r := h
 clear h
 have HC3 := aM H
 clear H
 go_enter Try.func24, Try.ntmps24
 go_upto_region 1 with (first | ((with_reducible refine gate_dst (N := 2) rfl ?_); (try (refine gate_guard (by rfl) ?_; dsimp only)); refine box_event ?hg (N := 2) ?hd (cs := #[.bool a0_0, .slice A0_1 l0_1.length c0_1, .slice A0_2 l0_2.length c0_2]) (t := 25) ?hr ?_; (case hd => rfl); (case hg => rfl); (case hr => first | (go_simp; done) | (go_simp; rfl)); intro gb423 hg w4 hbox hb; have BK423 := aM (hbox); have GW423 := gw hg HB; have GE423 := gw hg HB; replace HB := aM (below_step (kl HB) hb); clear hb hbox hg) | ((with_reducible refine gate_dst (N := 3) rfl ?_); (try (refine gate_guard (by rfl) ?_; dsimp only)); refine box_event ?hg (N := 3) ?hd (cs := #[.bool a1_0, .slice A1_1 l1_1.length c1_1, .slice A1_2 l1_2.length c1_2]) (t := 25) ?hr ?_; (case hd => rfl); (case hg => rfl); (case hr => first | (go_simp; done) | (go_simp; rfl)); intro gb424 hg w5 hbox hb; have BK424 := aM (hbox); have GW424 := gw hg HB; have GE424 := gw hg HB; replace HB := aM (below_step (kl HB) hb); have NB423_424 := nl hg BK423; have NB424_423 := ng hg BK423; replace BK423 := bb BK423 hb; clear hb hbox hg))
 repeat (go_quiet (fail); go_upto_region 1 with (first | ((with_reducible refine gate_dst (N := 2) rfl ?_); (try (refine gate_guard (by rfl) ?_; dsimp only)); refine box_event ?hg (N := 2) ?hd (cs := #[.bool a0_0, .slice A0_1 l0_1.length c0_1, .slice A0_2 l0_2.length c0_2]) (t := 25) ?hr ?_; (case hd => rfl); (case hg => rfl); (case hr => first | (go_simp; done) | (go_simp; rfl)); intro gb423 hg w4 hbox hb; have BK423 := aM (hbox); have GW423 := gw hg HB; have GE423 := gw hg HB; replace HB := aM (below_step (kl HB) hb); clear hb hbox hg) | ((with_reducible refine gate_dst (N := 3) rfl ?_); (try (refine gate_guard (by rfl) ?_; dsimp only)); refine box_event ?hg (N := 3) ?hd (cs := #[.bool a1_0, .slice A1_1 l1_1.length c1_1, .slice A1_2 l1_2.length c1_2]) (t := 25) ?hr ?_; (case hd => rfl); (case hg => rfl); (case hr => first | (go_simp; done) | (go_simp; rfl)); intro gb424 hg w5 hbox hb; have BK424 := aM (hbox); have GW424 := gw hg HB; have GE424 := gw hg HB; replace HB := aM (below_step (kl HB) hb); have NB423_424 := nl hg BK423; have NB424_423 := ng hg BK423; replace BK423 := bb BK423 hb; clear hb hbox hg)))
 (try simp only [Act.put, List.setIfInBounds_toArray, List.set_cons_zero, List.set_cons_succ])
 go_cut [27] (fun v27 wc => ∃ (kq : Nat) (x27_2 : Bool), v27 = .bool x27_2 ∧ Aside0 (rf_Same.j0 kq x27_2 a0_0 l0_1 l0_2 a1_0 l1_1 l1_2 = some r) ∧ Aside0 (kq ≤ k) ∧ Aside0 (wc.heap[gb423]? = some (.cells #[.bool a0_0, (.slice A0_1 l0_1.length c0_1), (.slice A0_2 l0_2.length c0_2)] 25 (0, 0))) ∧ Aside0 (wc.heap[gb424]? = some (.cells #[.bool a1_0, (.slice A1_1 l1_1.length c1_1), (.slice A1_2 l1_2.length c1_2)] 25 (0, 0))) ∧ Aside0 (Below w.heap.size w wc))
 case first =>
  have H := HC3.out
  clear HC3
  by_cases c6 : (a0_0 != a1_0) = true
  ·rw [if_pos c6] at H
   have c6b0 : (a0_0 != a1_0) = true := c6
   (try (have c6b1 : decide (a0_0 = a1_0) = false := by simpa using c6))
   (try (have c6b2 : (a0_0 == a1_0) = false := by simpa using c6))
   (try (have c6b3 : ¬ (a0_0 = a1_0) := by simpa using c6))
   clear c6
   (first | rw [c6b0] | (simp only [i64_w, i32_w]; rw [c6b0]) | skip)
   have H' := aM H
   clear H
   have hnb7 := NB423_424.out
   have hnc7 := NB424_423.out
   have hcz8_0 : w5.cell? ⟨gb423, 0, none⟩ = some (.bool a0_0) := bc BK423 0
   have hcz8_1 : w5.cell? ⟨gb423, 1, none⟩ = some (.slice A0_1 l0_1.length c0_1) := bc BK423 1
   have hcz8_2 : w5.cell? ⟨gb423, 2, none⟩ = some (.slice A0_2 l0_2.length c0_2) := bc BK423 2
   have hfz8_0 := blk_frozen BK423.out 0
   have hfz8_1 := blk_frozen BK423.out 1
   have hfz8_2 := blk_frozen BK423.out 2
   have hcz9_0 : w5.cell? ⟨gb424, 0, none⟩ = some (.bool a1_0) := bc BK424 0
   have hcz9_1 : w5.cell? ⟨gb424, 1, none⟩ = some (.slice A1_1 l1_1.length c1_1) := bc BK424 1
   have hcz9_2 : w5.cell? ⟨gb424, 2, none⟩ = some (.slice A1_2 l1_2.length c1_2) := bc BK424 2
   have hfz9_0 := blk_frozen BK424.out 0
   have hfz9_1 := blk_frozen BK424.out 1
   have hfz9_2 := blk_frozen BK424.out 2
   go_wp2
   repeat (go_quiet (fail); try go_wp2)
   go_meet
   case rel => exact ⟨_, (true), (by first | rfl | (simp; done) | (simp [*]; done)), H', ⟨by first | omega | exact Nat.le_refl _⟩, ⟨kb BK423⟩, ⟨kb BK424⟩, ⟨kl HB⟩⟩
  rw [if_neg c6] at H
  have c6b0 : (a0_0 != a1_0) = false := by simpa using c6
  (try (have c6b1 : decide (a0_0 = a1_0) = true := by simpa using c6))
  (try (have c6b2 : (a0_0 == a1_0) = true := by simpa using c6))
  clear c6
  (first | rw [c6b0] | (simp only [i64_w, i32_w]; rw [c6b0]) | skip)
  replace H := Option.bind_eq_some_iff.mp H
  obtain ⟨t425, A100, H⟩ := H
  replace H : (if t425 = true then (rf_Same.j0 k ((l0_2.length : Int) != (l1_2.length : Int)) a0_0 l0_1 l0_2 a1_0 l1_1 l1_2) else (rf_Same.j0 k true a0_0 l0_1 l0_2 a1_0 l1_1 l1_2)) = some r := H
  have A10 := aM A100
  clear A100
  by_cases c11 : t425 = true
  ·subst c11
   have H1 : (rf_Same.j0 k ((l0_2.length : Int) != (l1_2.length : Int)) a0_0 l0_1 l0_2 a1_0 l1_1 l1_2) = some r := by rw [if_pos rfl] at H; exact H
   clear H
   have H := H1
   clear H1
   have H' := aM H
   clear H
   have hnb12 := NB423_424.out
   have hnc12 := NB424_423.out
   have hcz13_0 : w5.cell? ⟨gb423, 0, none⟩ = some (.bool a0_0) := bc BK423 0
   have hcz13_1 : w5.cell? ⟨gb423, 1, none⟩ = some (.slice A0_1 l0_1.length c0_1) := bc BK423 1
   have hcz13_2 : w5.cell? ⟨gb423, 2, none⟩ = some (.slice A0_2 l0_2.length c0_2) := bc BK423 2
   have hfz13_0 := blk_frozen BK423.out 0
   have hfz13_1 := blk_frozen BK423.out 1
   have hfz13_2 := blk_frozen BK423.out 2
   have hcz14_0 : w5.cell? ⟨gb424, 0, none⟩ = some (.bool a1_0) := bc BK424 0
   have hcz14_1 : w5.cell? ⟨gb424, 1, none⟩ = some (.slice A1_1 l1_1.length c1_1) := bc BK424 1
   have hcz14_2 : w5.cell? ⟨gb424, 2, none⟩ = some (.slice A1_2 l1_2.length c1_2) := bc BK424 2
   have hfz14_0 := blk_frozen BK424.out 0
   have hfz14_1 := blk_frozen BK424.out 1
   have hfz14_2 := blk_frozen BK424.out 2
   go_wp2_with (first | (go_at_call 34; (with_reducible refine (rf_Entries.calls k _ _ l0_1 _ _ l1_1 true _ ?side1 ?side2 ?side3 ?side4 A10.out).mono ?_); (case side1 => exact kc (Kd.C_below HR0_1.out HB.out)); (case side2 => exact HC0_1.out); (case side3 => exact kc (Kd.C_below HR1_1.out HB.out)); (case side4 => exact HC1_1.out); rintro e w' ⟨rfl, ⟨nd, rfl⟩⟩; (try first | exact ⟨rfl, _, World.drewN_drewN _ _ _⟩ | exact ⟨rfl, _, Eq.trans (World.drewN_drewN _ _ _) (congrArg (World.drewN _) (Nat.add_assoc _ _ _))⟩)))
   repeat (go_quiet (fail); try go_wp2_with (first | (go_at_call 34; (with_reducible refine (rf_Entries.calls k _ _ l0_1 _ _ l1_1 true _ ?side1 ?side2 ?side3 ?side4 A10.out).mono ?_); (case side1 => exact kc (Kd.C_below HR0_1.out HB.out)); (case side2 => exact HC0_1.out); (case side3 => exact kc (Kd.C_below HR1_1.out HB.out)); (case side4 => exact HC1_1.out); rintro e w' ⟨rfl, ⟨nd, rfl⟩⟩; (try first | exact ⟨rfl, _, World.drewN_drewN _ _ _⟩ | exact ⟨rfl, _, Eq.trans (World.drewN_drewN _ _ _) (congrArg (World.drewN _) (Nat.add_assoc _ _ _))⟩))))
   go_meet
   case rel => exact ⟨_, (((l0_2.length : Int) != (l1_2.length : Int))), (by first | rfl | (simp; done) | (simp [*]; done)), H', ⟨by first | omega | exact Nat.le_refl _⟩, ⟨kb BK423⟩, ⟨kb BK424⟩, ⟨kl HB⟩⟩
  replace c11 := Bool.eq_false_iff.mpr c11
  subst c11
  have H1 : (rf_Same.j0 k true a0_0 l0_1 l0_2 a1_0 l1_1 l1_2) = some r := by rw [if_neg (show ¬ (false = true) by decide)] at H; exact H
  clear H
  have H := H1
  clear H1
  have H' := aM H
  clear H
  have hnb15 := NB423_424.out
  have hnc15 := NB424_423.out
  have hcz16_0 : w5.cell? ⟨gb423, 0, none⟩ = some (.bool a0_0) := bc BK423 0
  have hcz16_1 : w5.cell? ⟨gb423, 1, none⟩ = some (.slice A0_1 l0_1.length c0_1) := bc BK423 1
  have hcz16_2 : w5.cell? ⟨gb423, 2, none⟩ = some (.slice A0_2 l0_2.length c0_2) := bc BK423 2
  have hfz16_0 := blk_frozen BK423.out 0
  have hfz16_1 := blk_frozen BK423.out 1
  have hfz16_2 := blk_frozen BK423.out 2
  have hcz17_0 : w5.cell? ⟨gb424, 0, none⟩ = some (.bool a1_0) := bc BK424 0
  have hcz17_1 : w5.cell? ⟨gb424, 1, none⟩ = some (.slice A1_1 l1_1.length c1_1) := bc BK424 1
  have hcz17_2 : w5.cell? ⟨gb424, 2, none⟩ = some (.slice A1_2 l1_2.length c1_2) := bc BK424 2
  have hfz17_0 := blk_frozen BK424.out 0
  have hfz17_1 := blk_frozen BK424.out 1
  have hfz17_2 := blk_frozen BK424.out 2
  go_wp2_with (first | (go_at_call 34; (with_reducible refine (rf_Entries.calls k _ _ l0_1 _ _ l1_1 false _ ?side1 ?side2 ?side3 ?side4 A10.out).mono ?_); (case side1 => exact kc (Kd.C_below HR0_1.out HB.out)); (case side2 => exact HC0_1.out); (case side3 => exact kc (Kd.C_below HR1_1.out HB.out)); (case side4 => exact HC1_1.out); rintro e w' ⟨rfl, ⟨nd, rfl⟩⟩; (try first | exact ⟨rfl, _, World.drewN_drewN _ _ _⟩ | exact ⟨rfl, _, Eq.trans (World.drewN_drewN _ _ _) (congrArg (World.drewN _) (Nat.add_assoc _ _ _))⟩)))
  repeat (go_quiet (fail); try go_wp2_with (first | (go_at_call 34; (with_reducible refine (rf_Entries.calls k _ _ l0_1 _ _ l1_1 false _ ?side1 ?side2 ?side3 ?side4 A10.out).mono ?_); (case side1 => exact kc (Kd.C_below HR0_1.out HB.out)); (case side2 => exact HC0_1.out); (case side3 => exact kc (Kd.C_below HR1_1.out HB.out)); (case side4 => exact HC1_1.out); rintro e w' ⟨rfl, ⟨nd, rfl⟩⟩; (try first | exact ⟨rfl, _, World.drewN_drewN _ _ _⟩ | exact ⟨rfl, _, Eq.trans (World.drewN_drewN _ _ _) (congrArg (World.drewN _) (Nat.add_assoc _ _ _))⟩))))
  go_meet
  case rel => exact ⟨_, (true), (by first | rfl | (simp; done) | (simp [*]; done)), H', ⟨by first | omega | exact Nat.le_refl _⟩, ⟨kb BK423⟩, ⟨kb BK424⟩, ⟨kl HB⟩⟩
 case rest =>
  clear HC3
  try clear c1
  try clear c2
  try clear p2
  try clear c6
  try clear c6b0
  try clear c6b1
  try clear c6b2
  try clear c7
  try clear c11
  try clear c12
  try clear c15
  try clear hcz13_0
  try clear hcz13_1
  try clear hcz13_2
  try clear hcz14_0
  try clear hcz14_1
  try clear hcz14_2
  try clear hcz16_0
  try clear hcz16_1
  try clear hcz16_2
  try clear hcz17_0
  try clear hcz17_1
  try clear hcz17_2
  try clear hcz8_0
  try clear hcz8_1
  try clear hcz8_2
  try clear hcz9_0
  try clear hcz9_1
  try clear hcz9_2
  try clear hfz13_0
  try clear hfz13_1
  try clear hfz13_2
  try clear hfz14_0
  try clear hfz14_1
  try clear hfz14_2
  try clear hfz16_0
  try clear hfz16_1
  try clear hfz16_2
  try clear hfz17_0
  try clear hfz17_1
  try clear hfz17_2
  try clear hfz8_0
  try clear hfz8_1
  try clear hfz8_2
  try clear hfz9_0
  try clear hfz9_1
  try clear hfz9_2
  obtain ⟨kq, x27_2, rfl, HA, HJ2, BK423, BK424, HB⟩ := hcut
  cases kq with
  | zero => exact absurd HA.out (by simp [rf_Same.j0])
  | succ kj2 =>
   have H := HA.out
   clear HA
   simp only [rf_Same.j0] at H
   by_cases c18 : x27_2 = true
   ·subst c18
    have H1 : (some false) = some r := by rw [if_pos rfl] at H; exact H
    clear H
    have H := H1
    clear H1
    obtain rfl := Option.some.inj H
    go_wp2
    repeat (go_quiet (fail); try go_wp2)
    go_ret
    exact ⟨by first | rfl | (simp [errW_none, errW_some] <;> rfl) | (simp [*, errW_none, errW_some] <;> rfl), kl HB⟩
   replace c18 := Bool.eq_false_iff.mpr c18
   subst c18
   have H1 : (rf_Same.l0 kj2 0 a0_0 l0_1 l0_2 a1_0 l1_1 l1_2) = some r := by rw [if_neg (show ¬ (false = true) by decide)] at H; exact H
   clear H
   have H := H1
   clear H1
   have H' := aM H
   clear H
   go_wp2
   repeat (go_quiet (fail); try go_wp2)
   go_loopg [5] kj2 (fun kq v5 w' => ∃ (x5_2 : Int), v5 = .int .i64 x5_2 ∧ Aside0 (rf_Same.l0 kq x5_2 a0_0 l0_1 l0_2 a1_0 l1_1 l1_2 = some r) ∧ Aside0 (kq ≤ kj2) ∧ Aside0 (w'.heap[gb423]? = some (.cells #[.bool a0_0, (.slice A0_1 l0_1.length c0_1), (.slice A0_2 l0_2.length c0_2)] 25 (0, 0))) ∧ Aside0 (w'.heap[gb424]? = some (.cells #[.bool a1_0, (.slice A1_1 l1_1.length c1_1), (.slice A1_2 l1_2.length c1_2)] 25 (0, 0))) ∧ Aside0 (Below w.heap.size w w'))
   case atStart => exact ⟨(0), (by first | rfl | (simp; done) | (simp [*]; done)), H', ⟨Nat.le_refl _⟩, ⟨kb BK423⟩, ⟨kb BK424⟩, ⟨kl HB⟩⟩
   case round =>
    clear H'
    try clear c1
    try clear c2
    try clear p2
    try clear c6
    try clear c6b0
    try clear c6b1
    try clear c6b2
    try clear c7
    try clear c11
    try clear c12
    try clear c15
    try clear c18
    try clear hcz13_0
    try clear hcz13_1
    try clear hcz13_2
    try clear hcz14_0
    try clear hcz14_1
    try clear hcz14_2
    try clear hcz16_0
    try clear hcz16_1
    try clear hcz16_2
    try clear hcz17_0
    try clear hcz17_1
    try clear hcz17_2
    try clear hcz8_0
    try clear hcz8_1
    try clear hcz8_2
    try clear hcz9_0
    try clear hcz9_1
    try clear hcz9_2
    try clear hfz13_0
    try clear hfz13_1
    try clear hfz13_2
    try clear hfz14_0
    try clear hfz14_1
    try clear hfz14_2
    try clear hfz16_0
    try clear hfz16_1
    try clear hfz16_2
    try clear hfz17_0
    try clear hfz17_1
    try clear hfz17_2
    try clear hfz8_0
    try clear hfz8_1
    try clear hfz8_2
    try clear hfz9_0
    try clear hfz9_1
    try clear hfz9_2
    try clear p2
    obtain ⟨x5_2, rfl, HA, HK2, BK423, BK424, HB⟩ := hrel
    cases gk with
    | zero => exact absurd HA.out (by simp [rf_Same.l0])
    | succ k2 =>
     have H := HA.out
     clear HA
     simp only [rf_Same.l0] at H
     by_cases c19 : x5_2 < (l0_2.length : Int)
     rotate_left
     ·rw [if_neg c19] at H
      have c19b0 : decide (x5_2 < (l0_2.length : Int)) = false := decide_eq_false c19
      clear c19
      obtain rfl := Option.some.inj H
      have hnb29 := NB423_424.out
      have hnc29 := NB424_423.out
      have hcz30_0 : wr.cell? ⟨gb423, 0, none⟩ = some (.bool a0_0) := bc BK423 0
      have hcz30_1 : wr.cell? ⟨gb423, 1, none⟩ = some (.slice A0_1 l0_1.length c0_1) := bc BK423 1
      have hcz30_2 : wr.cell? ⟨gb423, 2, none⟩ = some (.slice A0_2 l0_2.length c0_2) := bc BK423 2
      have hfz30_0 := blk_frozen BK423.out 0
      have hfz30_1 := blk_frozen BK423.out 1
      have hfz30_2 := blk_frozen BK423.out 2
      go_wp2
      repeat (go_quiet (fail); try go_wp2)
      go_ret
      exact ⟨by first | rfl | (simp [errW_none, errW_some] <;> rfl) | (simp [*, errW_none, errW_some] <;> rfl), kl HB⟩
     rw [if_pos c19] at H
     have c19b0 : decide (x5_2 < (l0_2.length : Int)) = true := decide_eq_true c19
     clear c19
     by_cases c20 : 0 ≤ x5_2
     rotate_left
     ·rw [if_neg c20] at H
      exact absurd H (by simp)
     rw [if_pos c20] at H
     have c20b0 : decide (0 ≤ x5_2) = true := decide_eq_true c20
     clear c20
     by_cases c21 : x5_2 < (l1_2.length : Int)
     rotate_left
     ·rw [if_neg c21] at H
      exact absurd H (by simp)
     rw [if_pos c21] at H
     have c21b0 : decide (x5_2 < (l1_2.length : Int)) = true := decide_eq_true c21
     clear c21
     by_cases c22 : (!((((rd_T76 l0_2 x5_2).f0).toList) == (((rd_T76 l1_2 x5_2).f0).toList)) || (!(((rd_T76 l0_2 x5_2).f1) == ((rd_T76 l1_2 x5_2).f1)))) = true
     ·rw [if_pos c22] at H
      have c22b0 : (!((((rd_T76 l0_2 x5_2).f0).toList) == (((rd_T76 l1_2 x5_2).f0).toList)) || (!(((rd_T76 l0_2 x5_2).f1) == ((rd_T76 l1_2 x5_2).f1)))) = true := c22
      clear c22
      obtain rfl := Option.some.inj H
      have hnb23 := NB423_424.out
      have hnc23 := NB424_423.out
      have hcz24_0 : wr.cell? ⟨gb423, 0, none⟩ = some (.bool a0_0) := bc BK423 0
      have hcz24_1 : wr.cell? ⟨gb423, 1, none⟩ = some (.slice A0_1 l0_1.length c0_1) := bc BK423 1
      have hcz24_2 : wr.cell? ⟨gb423, 2, none⟩ = some (.slice A0_2 l0_2.length c0_2) := bc BK423 2
      have hfz24_0 := blk_frozen BK423.out 0
      have hfz24_1 := blk_frozen BK423.out 1
      have hfz24_2 := blk_frozen BK423.out 2
      have p426 : 0 ≤ (x5_2 : Int) := of_decide_eq_true (by first | (with_reducible assumption) | assumption)
      have q426 : x5_2 < (l0_2.length : Int) := of_decide_eq_true (by first | (with_reducible assumption) | assumption)
      obtain ⟨ad426, e426, hx426_0, hx426_1⟩ := at_T76 HR0_2.out x5_2 p426 q426
      cases e426
      replace hx426_0 := (HB.out.cell (World.block_lt_of_cell? w _ hx426_0)).trans hx426_0
      replace hx426_1 := (HB.out.cell (World.block_lt_of_cell? w _ hx426_1)).trans hx426_1
      replace p426 := eq_true p426
      replace q426 := eq_true q426
      have hcz25_0 : wr.cell? ⟨gb424, 0, none⟩ = some (.bool a1_0) := bc BK424 0
      have hcz25_1 : wr.cell? ⟨gb424, 1, none⟩ = some (.slice A1_1 l1_1.length c1_1) := bc BK424 1
      have hcz25_2 : wr.cell? ⟨gb424, 2, none⟩ = some (.slice A1_2 l1_2.length c1_2) := bc BK424 2
      have hfz25_0 := blk_frozen BK424.out 0
      have hfz25_1 := blk_frozen BK424.out 1
      have hfz25_2 := blk_frozen BK424.out 2
      have p427 : 0 ≤ (x5_2 : Int) := of_decide_eq_true (by first | (with_reducible assumption) | assumption)
      have q427 : x5_2 < (l1_2.length : Int) := of_decide_eq_true (by first | (with_reducible assumption) | assumption)
      obtain ⟨ad427, e427, hx427_0, hx427_1⟩ := at_T76 HR1_2.out x5_2 p427 q427
      cases e427
      replace hx427_0 := (HB.out.cell (World.block_lt_of_cell? w _ hx427_0)).trans hx427_0
      replace hx427_1 := (HB.out.cell (World.block_lt_of_cell? w _ hx427_1)).trans hx427_1
      replace p427 := eq_true p427
      replace q427 := eq_true q427
      go_wp2
      repeat (go_quiet (fail); try go_wp2)
      go_ret
      exact ⟨by first | rfl | (simp [errW_none, errW_some] <;> rfl) | (simp [*, errW_none, errW_some] <;> rfl), kl HB⟩
     rw [if_neg c22] at H
     have c22b0 : (!((((rd_T76 l0_2 x5_2).f0).toList) == (((rd_T76 l1_2 x5_2).f0).toList)) || (!(((rd_T76 l0_2 x5_2).f1) == ((rd_T76 l1_2 x5_2).f1)))) = false := by simpa using c22
     clear c22
     have H' := aM H
     clear H
     have hnb26 := NB423_424.out
     have hnc26 := NB424_423.out
     have hcz27_0 : wr.cell? ⟨gb423, 0, none⟩ = some (.bool a0_0) := bc BK423 0
     have hcz27_1 : wr.cell? ⟨gb423, 1, none⟩ = some (.slice A0_1 l0_1.length c0_1) := bc BK423 1
     have hcz27_2 : wr.cell? ⟨gb423, 2, none⟩ = some (.slice A0_2 l0_2.length c0_2) := bc BK423 2
     have hfz27_0 := blk_frozen BK423.out 0
     have hfz27_1 := blk_frozen BK423.out 1
     have hfz27_2 := blk_frozen BK423.out 2
     have p426 : 0 ≤ (x5_2 : Int) := of_decide_eq_true (by first | (with_reducible assumption) | assumption)
     have q426 : x5_2 < (l0_2.length : Int) := of_decide_eq_true (by first | (with_reducible assumption) | assumption)
     obtain ⟨ad426, e426, hx426_0, hx426_1⟩ := at_T76 HR0_2.out x5_2 p426 q426
     cases e426
     replace hx426_0 := (HB.out.cell (World.block_lt_of_cell? w _ hx426_0)).trans hx426_0
     replace hx426_1 := (HB.out.cell (World.block_lt_of_cell? w _ hx426_1)).trans hx426_1
     replace p426 := eq_true p426
     replace q426 := eq_true q426
     have hcz28_0 : wr.cell? ⟨gb424, 0, none⟩ = some (.bool a1_0) := bc BK424 0
     have hcz28_1 : wr.cell? ⟨gb424, 1, none⟩ = some (.slice A1_1 l1_1.length c1_1) := bc BK424 1
     have hcz28_2 : wr.cell? ⟨gb424, 2, none⟩ = some (.slice A1_2 l1_2.length c1_2) := bc BK424 2
     have hfz28_0 := blk_frozen BK424.out 0
     have hfz28_1 := blk_frozen BK424.out 1
     have hfz28_2 := blk_frozen BK424.out 2
     have p427 : 0 ≤ (x5_2 : Int) := of_decide_eq_true (by first | (with_reducible assumption) | assumption)
     have q427 : x5_2 < (l1_2.length : Int) := of_decide_eq_true (by first | (with_reducible assumption) | assumption)
     obtain ⟨ad427, e427, hx427_0, hx427_1⟩ := at_T76 HR1_2.out x5_2 p427 q427
     cases e427
     replace hx427_0 := (HB.out.cell (World.block_lt_of_cell? w _ hx427_0)).trans hx427_0
     replace hx427_1 := (HB.out.cell (World.block_lt_of_cell? w _ hx427_1)).trans hx427_1
     replace p427 := eq_true p427
     replace q427 := eq_true q427
     go_wp2
     repeat (go_quiet (fail); try go_wp2)
     go_roundg k2
     case measure => have := HJ2.out; have := HK2.out; omega
     case rel => exact ⟨(wrap64 (x5_2 + 1)), (by first | rfl | (simp; done) | (simp [*]; done)), H', ⟨by have := HJ2.out; have := HK2.out; omega⟩, ⟨kb BK423⟩, ⟨kb BK424⟩, ⟨kl HB⟩⟩
end Go.Proofs.Ytfbaejhjppikpaa.P
namespace Go.Proofs.Ytfbaejhjppikpaa.P
open Go.RowKit Go.Proofs.YtfbaejhjppikpaaW.PrintWords Go.Proofs.YtfbaejhjppikpaaW.PrintLast Go.Proofs.YtfbaejhjppikpaaW.PrintMore
attribute [local go_sem] max2_int min2_int max_two min_two max_three min_three max_four min_four
set_option linter.unusedVariables false
set_option linter.unusedSimpArgs false
end Go.Proofs.Ytfbaejhjppikpaa.P
namespace Go.Proofs.Ytfbaejhjppikpaa.P
open Go.RowKit Go.Proofs.YtfbaejhjppikpaaW.PrintWords Go.Proofs.YtfbaejhjppikpaaW.PrintLast Go.Proofs.YtfbaejhjppikpaaW.PrintMore
open Go.Proofs.YtfbaejhjppikpaaB
def ofE (x : S47) : S75 := ⟨x.f0, x.f1⟩
def ofB (x : S36) : S76 := ⟨x.f0, x.f1⟩
theorem map_ofE (l : List S75) : (l.map toE).map ofE = l := by rw [List.map_map]; exact List.map_id l
theorem map_ofB (l : List S76) : (l.map toB).map ofB = l := by rw [List.map_map]; exact List.map_id l
theorem told_l1 (a : Bool) (l : List S47) (m : List S36) (b : Bool) (E : List S75) (hm : m.length ≤ 1000000) : ∀ (d i k : Nat) (out : List S76), i + d = m.length → out.length ≤ i → lw_told.l1 (d + (k + 1)) (i : Int) a l m b E out = some (b, E, out ++ (m.drop i).map ofB) := by
  intro d
  induction d with
  | zero =>
    intro i k out h ho
    rw [show 0 + (k + 1) = k + 1 from by omega]
    simp only [lw_told.l1]
    rw [if_neg (by omega), List.drop_eq_nil_of_le (by omega)]; simp
  | succ d ih =>
    intro i k out h ho
    obtain ⟨q, hq⟩ : ∃ q, q = d + (k + 1) := ⟨_, rfl⟩
    rw [show d + 1 + (k + 1) = q + 1 from by omega]
    simp only [lw_told.l1]
    have hi : i < m.length := by omega
    rw [if_pos (by omega), if_pos (by omega), if_pos (by omega), wrap_nat i (by omega), hq, ih (i + 1) k _ (by omega) (by simp; omega), rdB7 m i hi, List.drop_eq_getElem_cons hi, List.map_cons, List.append_assoc]
    rfl
theorem told_l0 (a : Bool) (l : List S47) (m : List S36) (b : Bool) (hl : l.length ≤ 1000000) (hm : m.length ≤ 1000000) : ∀ (d i k : Nat) (out : List S75), i + d = l.length → out.length ≤ i → lw_told.l0 (d + (m.length + (k + 1) + 1)) (i : Int) a l m b out = some (b, out ++ (l.drop i).map ofE, m.map ofB) := by
  intro d
  induction d with
  | zero =>
    intro i k out h ho
    rw [show 0 + (m.length + (k + 1) + 1) = (m.length + (k + 1)) + 1 from by omega]
    simp only [lw_told.l0]
    have := told_l1 a l m b out hm m.length 0 k [] (by omega) (by simp)
    simp only [Int.natCast_zero, List.drop_zero, List.nil_append] at this
    rw [if_neg (by omega), this, List.drop_eq_nil_of_le (by omega)]; simp
  | succ d ih =>
    intro i k out h ho
    obtain ⟨q, hq⟩ : ∃ q, q = d + (m.length + (k + 1) + 1) := ⟨_, rfl⟩
    rw [show d + 1 + (m.length + (k + 1) + 1) = q + 1 from by omega]
    simp only [lw_told.l0]
    have hi : i < l.length := by omega
    rw [if_pos (by omega), if_pos (by omega), if_pos (by omega), wrap_nat i (by omega), hq, ih (i + 1) k _ (by omega) (by simp; omega), rdE7 l i hi, List.drop_eq_getElem_cons hi, List.map_cons, List.append_assoc]
    rfl
theorem told_tells (a : Bool) (l : List S47) (m : List S36) (hl : l.length ≤ 1000) (hm : m.length ≤ 1000) (k : Nat) (hk : 5000 ≤ k) : lw_told.f k a l m = some (a, l.map ofE, m.map ofB) := by
  unfold lw_told.f
  obtain ⟨q, rfl⟩ : ∃ q, k = l.length + (m.length + (q + 1) + 1) := ⟨k - l.length - m.length - 2, by omega⟩
  have := told_l0 a l m a (by omega) (by omega) l.length 0 q [] (by omega) (by simp)
  simpa using this
theorem S75_eq {x y : S75} : x = y ↔ x.f0.toList = y.f0.toList ∧ x.f1.toList = y.f1.toList := by
  constructor
  · rintro rfl; exact ⟨rfl, rfl⟩
  · rintro ⟨h1, h2⟩
    cases x; cases y
    simp only at h1 h2
    rw [bytes_list_inj h1, bytes_list_inj h2]
theorem S76_eq {x y : S76} : x = y ↔ x.f0.toList = y.f0.toList ∧ x.f1 = y.f1 := by
  constructor
  · rintro rfl; exact ⟨rfl, rfl⟩
  · rintro ⟨h1, h2⟩
    cases x; cases y
    simp only at h1 h2
    rw [bytes_list_inj h1, h2]
instance : DecidableEq S75 := fun _ _ => decidable_of_iff _ S75_eq.symm
instance : DecidableEq S76 := fun _ _ => decidable_of_iff _ S76_eq.symm
theorem refEntries_l0 (l m : List S75) (h : l.length = m.length) (hl : l.length ≤ 1000000) : ∀ (d i k : Nat), i + d = l.length → rf_Entries.l0 (d + (k + 1)) l m (i : Int) = some (decide (l.drop i = m.drop i)) := by
  intro d
  induction d with
  | zero =>
    intro i k hi
    rw [show 0 + (k + 1) = k + 1 from by omega]
    simp only [rf_Entries.l0]
    rw [if_neg (by omega), List.drop_eq_nil_of_le (by omega), List.drop_eq_nil_of_le (by omega)]; simp
  | succ d ih =>
    intro i k hi
    obtain ⟨q, hq⟩ : ∃ q, q = d + (k + 1) := ⟨_, rfl⟩
    rw [show d + 1 + (k + 1) = q + 1 from by omega]
    simp only [rf_Entries.l0]
    have h1 : i < l.length := by omega
    have h2 : i < m.length := by omega
    rw [if_pos (by omega), if_pos (by omega), if_pos (by omega), wrap_nat i (by omega), hq, ih (i + 1) k (by omega), rdE5 l i h1, rdE5 m i h2]
    have e := drop_eq_iff l m i h1 h2
    by_cases c : l[i] = m[i]
    · have c' := S75_eq.1 c
      rw [if_neg (by simp [c'.1, c'.2])]
      congr 1
      exact decide_eq_decide.2 ⟨fun h => e.2 ⟨c, h⟩, fun h => (e.1 h).2⟩
    · rw [if_pos ?_]
      · congr 1
        symm
        exact decide_eq_false (fun h => c (e.1 h).1)
      · simp only [Bool.or_eq_true, Bool.not_eq_true', beq_eq_false_iff_ne]
        by_cases c2 : l[i].f0.toList = m[i].f0.toList
        · right; exact fun c3 => c (S75_eq.2 ⟨c2, c3⟩)
        · left; exact c2
theorem refEntries_tells (l m : List S75) (hl : l.length ≤ 1000) (k : Nat) (hk : 5000 ≤ k) : rf_Entries.f k l m = some (decide (l = m)) := by
  unfold rf_Entries.f
  by_cases h : (l.length : Int) = (m.length : Int)
  · rw [if_pos h]
    obtain ⟨q, rfl⟩ : ∃ q, k = l.length + (q + 1) := ⟨k - l.length - 1, by omega⟩
    have := refEntries_l0 l m (by omega) (by omega) l.length 0 q (by omega)
    simpa using this
  · rw [if_neg h]
    congr 1; symm
    exact decide_eq_false (fun e => h (by rw [e]))
end Go.Proofs.Ytfbaejhjppikpaa.P
