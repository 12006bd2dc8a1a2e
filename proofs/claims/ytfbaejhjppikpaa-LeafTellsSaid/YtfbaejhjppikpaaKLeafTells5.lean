import Derived.Test.YtfbaejhjppikpaaKLeafTells0
import Derived.Test.YtfbaejhjppikpaaKLeafTells2
import Derived.Test.YtfbaejhjppikpaaKLeafTells1
import Derived.Test.YtfbaejhjppikpaaKLeafTells4
import Derived.Test.YtfbaejhjppikpaaKLeafTells3
import Derived.ProofKit
import Derived.SizedLaws
import Derived.ChangeSlices
namespace Go.Proofs.Ytfbaejhjppikpaa.P
open Go.RowKit Go.Proofs.YtfbaejhjppikpaaW.PrintWords Go.Proofs.YtfbaejhjppikpaaW.PrintLast Go.Proofs.YtfbaejhjppikpaaW.PrintMore
attribute [local go_sem] max2_int min2_int max_two min_two max_three min_three max_four min_four
set_option linter.unusedVariables false
set_option linter.unusedSimpArgs false
mutual
def lw_LeafTells.j0 : Nat → ByteArray → Bool → Bool → List S75 → List S76 → Bool → List S75 → List S76 → Option (Bool)
 | 0, _, _, _, _, _, _, _, _ => none
 | k + 1, x2, x35, x539000, x539001, x539002, x540000, x540001, x540002 => if x35 = true then ((lw_awake.f k).bind fun t542 => (some t542)) else ((lw_given.f k x539000 x539001 x539002).bind fun bt543 => ((leaf_May.f k bt543.1 bt543.2.1 bt543.2.2).bind fun t551 => ((rf_May.f k x539000 x539001 x539002).bind fun t552 => (if (t551 != t552) = true then (lw_LeafTells.j1 k x2 true x539000 x539001 x539002 bt543.1 bt543.2.1 bt543.2.2) else ((leaf_Size.f k bt543.1 bt543.2.1 bt543.2.2).bind fun t553 => ((rf_Size.f k x539000 x539001 x539002).bind fun t554 => (if t553 = t554 then ((leaf_Fits.f k bt543.1 bt543.2.1 bt543.2.2).bind fun t555 => ((rf_Fits.f k x539000 x539001 x539002).bind fun t556 => (if (t555 != t556) = true then (lw_LeafTells.j1 k x2 true x539000 x539001 x539002 bt543.1 bt543.2.1 bt543.2.2) else ((lw_given.f k x540000 x540001 x540002).bind fun bt557 => ((leaf_Same.f k bt543.1 bt543.2.1 bt543.2.2 bt557.1 bt557.2.1 bt557.2.2).bind fun t564 => ((rf_Same.f k x539000 x539001 x539002 x540000 x540001 x540002).bind fun t565 => (lw_LeafTells.j1 k x2 (t564 != t565) x539000 x539001 x539002 bt543.1 bt543.2.1 bt543.2.2))))))) else (lw_LeafTells.j1 k x2 true x539000 x539001 x539002 bt543.1 bt543.2.1 bt543.2.2))))))))
def lw_LeafTells.j1 : Nat → ByteArray → Bool → Bool → List S75 → List S76 → Bool → List S47 → List S36 → Option (Bool)
 | 0, _, _, _, _, _, _, _, _ => none
 | k + 1, x2, x67, x539000, x539001, x539002, x551000, x551001, x551002 => if x67 = true then (some false) else ((leaf_Encode.f x551000 x551001 x551002).bind fun bt566 => ((rf_Encode.f k x539000 x539001 x539002).bind fun bt568 => ((leaf_Decode.f x2).bind fun bt570 => ((rf_Decode.f k x2).bind fun bt579 => ((leaf_Split.f k x551000 x551001 x551002).bind fun bt588 => ((rf_Split.f k x539000 x539001 x539002).bind fun bt605 => (if bt566.1.toList = bt568.1.toList then (if bt566.2 = bt568.2 then ((lw_told.f k bt570.1 bt570.2.1 bt570.2.2.1).bind fun bt622 => ((rf_Same.f k bt622.1 bt622.2.1 bt622.2.2 bt579.1 bt579.2.1 bt579.2.2.1).bind fun t629 => (if t629 = true then (if bt570.2.2.2 = bt579.2.2.2 then ((lw_told.f k bt588.1 bt588.2.1 bt588.2.2.1).bind fun bt630 => ((rf_Same.f k bt630.1 bt630.2.1 bt630.2.2 bt605.1 bt605.2.1 bt605.2.2.1).bind fun t637 => (if t637 = true then ((lw_told.f k bt588.2.2.2.1 bt588.2.2.2.2.1 bt588.2.2.2.2.2.1).bind fun bt638 => ((rf_Same.f k bt638.1 bt638.2.1 bt638.2.2 bt605.2.2.2.1 bt605.2.2.2.2.1 bt605.2.2.2.2.2.1).bind fun t645 => (if t645 = true then (lw_LeafTells.j2 k (bt588.2.2.2.2.2.2 == bt605.2.2.2.2.2.2) x539000 x539001 x539002 x551000 x551001 x551002 bt588.1 bt588.2.1 bt588.2.2.1 bt588.2.2.2.1 bt588.2.2.2.2.1 bt588.2.2.2.2.2.1) else (lw_LeafTells.j2 k false x539000 x539001 x539002 x551000 x551001 x551002 bt588.1 bt588.2.1 bt588.2.2.1 bt588.2.2.2.1 bt588.2.2.2.2.1 bt588.2.2.2.2.2.1)))) else (lw_LeafTells.j2 k false x539000 x539001 x539002 x551000 x551001 x551002 bt588.1 bt588.2.1 bt588.2.2.1 bt588.2.2.2.1 bt588.2.2.2.2.1 bt588.2.2.2.2.2.1)))) else (lw_LeafTells.j2 k false x539000 x539001 x539002 x551000 x551001 x551002 bt588.1 bt588.2.1 bt588.2.2.1 bt588.2.2.2.1 bt588.2.2.2.2.1 bt588.2.2.2.2.2.1)) else (lw_LeafTells.j2 k false x539000 x539001 x539002 x551000 x551001 x551002 bt588.1 bt588.2.1 bt588.2.2.1 bt588.2.2.2.1 bt588.2.2.2.2.1 bt588.2.2.2.2.2.1)))) else (lw_LeafTells.j2 k false x539000 x539001 x539002 x551000 x551001 x551002 bt588.1 bt588.2.1 bt588.2.2.1 bt588.2.2.2.1 bt588.2.2.2.2.1 bt588.2.2.2.2.2.1)) else (lw_LeafTells.j2 k false x539000 x539001 x539002 x551000 x551001 x551002 bt588.1 bt588.2.1 bt588.2.2.1 bt588.2.2.2.1 bt588.2.2.2.2.1 bt588.2.2.2.2.2.1))))))))
def lw_LeafTells.j2 : Nat → Bool → Bool → List S75 → List S76 → Bool → List S47 → List S36 → Bool → List S47 → List S36 → Bool → List S47 → List S36 → Option (Bool)
 | 0, _, _, _, _, _, _, _, _, _, _, _, _, _ => none
 | k + 1, x22, x539000, x539001, x539002, x551000, x551001, x551002, x604000, x604001, x604002, x605000, x605001, x605002 => lw_LeafTells.l0 k x22 0 x539000 x539001 x539002 x551000 x551001 x551002 x604000 x604001 x604002 x605000 x605001 x605002
def lw_LeafTells.l0 : Nat → Bool → Int → Bool → List S75 → List S76 → Bool → List S47 → List S36 → Bool → List S47 → List S36 → Bool → List S47 → List S36 → Option (Bool)
 | 0, _, _, _, _, _, _, _, _, _, _, _, _, _, _ => none
 | k + 1, x22, x23, x539000, x539001, x539002, x551000, x551001, x551002, x604000, x604001, x604002, x605000, x605001, x605002 => if x23 < (x604001.length : Int) then (if 0 ≤ x23 then (lw_LeafTells.l0 k x22 (wrap64 (x23 + 1)) x539000 x539001 x539002 x551000 x551001 x551002 x604000 (x604001.set (x23 : Int).toNat (⟨(rd_T47 x604001 x23).f0, (⟨#[115, 112, 111, 105, 108, 116]⟩ : ByteArray)⟩ : S47)) x604002 x605000 x605001 x605002) else (none)) else (lw_LeafTells.l1 k x22 0 x539000 x539001 x539002 x551000 x551001 x551002 x605000 x605001 x605002)
def lw_LeafTells.l1 : Nat → Bool → Int → Bool → List S75 → List S76 → Bool → List S47 → List S36 → Bool → List S47 → List S36 → Option (Bool)
 | 0, _, _, _, _, _, _, _, _, _, _, _ => none
 | k + 1, x22, x24, x539000, x539001, x539002, x551000, x551001, x551002, x605000, x605001, x605002 => if x24 < (x605002.length : Int) then (if 0 ≤ x24 then (lw_LeafTells.l1 k x22 (wrap64 (x24 + 1)) x539000 x539001 x539002 x551000 x551001 x551002 x605000 x605001 (x605002.set (x24 : Int).toNat (⟨(rd_T36 x605002 x24).f0, (-7)⟩ : S36))) else (none)) else (if x22 = true then ((lw_told.f k x551000 x551001 x551002).bind fun bt648 => ((rf_Same.f k bt648.1 bt648.2.1 bt648.2.2 x539000 x539001 x539002).bind fun t655 => (if t655 = true then ((lw_awake.f k).bind fun t656 => (some t656)) else (some false)))) else (some false))
end
def lw_LeafTells.f (k : Nat) (a0_0 : Bool) (l0_1 : List S75) (l0_2 : List S76) (a1_0 : Bool) (l1_1 : List S75) (l1_2 : List S76) (a2 : ByteArray) : Option (Bool) := (lw_large.f k a0_0 l0_1 l0_2).bind fun t540 => (if t540 = true then (lw_LeafTells.j0 k a2 true a0_0 l0_1 l0_2 a1_0 l1_1 l1_2) else ((lw_large.f k a1_0 l1_1 l1_2).bind fun t541 => (if t541 = true then (lw_LeafTells.j0 k a2 true a0_0 l0_1 l0_2 a1_0 l1_1 l1_2) else (lw_LeafTells.j0 k a2 (decide ((a2.size : Int) > 1000)) a0_0 l0_1 l0_2 a1_0 l1_1 l1_2))))
theorem lw_LeafTells.dead_j1_1 : ∀ kk y0 y2 y3 y4 y5 y6 y7, lw_LeafTells.j1 kk y0 true y2 y3 y4 y5 y6 y7 ≠ some true := by
 intro kk y0 y2 y3 y4 y5 y6 y7
 cases kk <;> simp [lw_LeafTells.j1]
theorem lw_LeafTells.dead_j2_0 : ∀ kk y1 y2 y3 y4 y5 y6 y7 y8 y9 y10 y11 y12, lw_LeafTells.j2 kk false y1 y2 y3 y4 y5 y6 y7 y8 y9 y10 y11 y12 ≠ some true := by
 have h1 : ∀ kk z1 z2 z3 z4 z5 z6 z7 z8 z9 z10, lw_LeafTells.l1 kk false z1 z2 z3 z4 z5 z6 z7 z8 z9 z10 ≠ some true := by
  intro kk
  induction kk with
  | zero => intros; simp [lw_LeafTells.l1]
  | succ k ih =>
   intros
   simp only [lw_LeafTells.l1, Bool.false_eq_true, if_false]
   split
   ·split
    ·exact ih _ _ _ _ _ _ _ _ _ _
    ·simp
   ·simp
 have h0 : ∀ kk z1 z2 z3 z4 z5 z6 z7 z8 z9 z10 z11 z12 z13, lw_LeafTells.l0 kk false z1 z2 z3 z4 z5 z6 z7 z8 z9 z10 z11 z12 z13 ≠ some true := by
  intro kk
  induction kk with
  | zero => intros; simp [lw_LeafTells.l0]
  | succ k ih =>
   intros
   simp only [lw_LeafTells.l0]
   split
   ·split
    ·exact ih _ _ _ _ _ _ _ _ _ _ _ _ _
    ·simp
   ·exact h1 _ _ _ _ _ _ _ _ _ _ _
 intro kk
 cases kk with
 | zero => intros; simp [lw_LeafTells.j2]
 | succ k => intros; simp only [lw_LeafTells.j2]; exact h0 _ _ _ _ _ _ _ _ _ _ _ _ _ _
def lw_LeafTells.T4 : Bool × List (List Nat × List Nat) := (true, [([], []), ([0], [0]), ([], []), ([2, 1], [2]), ([1, 3], [1, 3]), ([4, 3], [4]), ([5], [5]), ([6, 5, 5], [5, 6]), ([5], [5]), ([8, 7, 5], [5, 8]), ([7, 9, 5], [5, 7, 9]), ([5, 10], [5, 10]), ([11, 9], [11]), ([12], [12]), ([13, 12, 12], [12, 13]), ([12], [12]), ([15, 14, 12], [12, 15]), ([14, 16, 12], [12, 14, 16]), ([12, 17], [12, 17]), ([18, 16], [18]), ([19], [19]), ([19], [19]), ([21, 19, 19], [19, 21]), ([20, 22, 22, 19], [19, 20, 22]), ([19], [19]), ([19], [19]), ([24, 25, 23, 19], [19, 24, 25]), ([23, 26, 19], [19, 23, 26]), ([19, 27], [19, 27])])
def lw_LeafTells.B4 : List Nat := [0, 1, 0, 7, 15, 31, 63, 127, 63, 511, 1023, 2047, 4095, 8191, 16383, 8191, 65535, 131071, 262143, 524287, 1048575, 1048575, 3145727, 8388607, 1048575, 1048575, 67108863, 134217727, 268435455]
theorem lw_LeafTells.tab4 : rtab .any (opsOf Try.f6 4) = lw_LeafTells.T4 := by kernel_rfl
theorem lw_LeafTells.bits4 : waitsOk lw_LeafTells.T4.2 lw_LeafTells.B4 = true := by kernel_rfl
def lw_LeafTells.T12 : Bool × List (List Nat × List Nat) := (true, [([], []), ([], []), ([0, 1], [0, 1]), ([2], [2]), ([3], [3]), ([3], [3]), ([4, 5, 3], [3, 4, 5]), ([3, 6], [3, 6]), ([7, 3], [7]), ([8], [8]), ([9, 8, 8], [8, 9]), ([8], [8]), ([10, 11, 10, 8], [8, 10, 11]), ([8, 12], [8, 12]), ([13, 12], [13]), ([14], [14]), ([14], [14]), ([15, 16, 14], [14, 15, 16]), ([14, 17], [14, 17]), ([18, 14], [18]), ([19], [19]), ([20, 19, 19], [19, 20]), ([19], [19]), ([21, 22, 21, 19], [19, 21, 22]), ([19, 23], [19, 23]), ([24, 23], [24]), ([25], [25]), ([26, 25, 25], [25, 26]), ([25], [25]), ([27, 28, 27, 25], [25, 27, 28]), ([25, 29], [25, 29]), ([30, 29], [30]), ([31], [31]), ([31], [31]), ([32, 33, 31], [31, 32, 33]), ([31, 34], [31, 34]), ([35, 31, 0, 1, 2, 3, 4, 5, 6, 7, 8, 9, 10, 11, 12, 13, 14, 15, 16, 17, 18, 19, 20, 21, 22, 23, 24, 25, 26, 27, 28, 29, 30, 31, 32, 33, 34, 35], [35])])
def lw_LeafTells.B12 : List Nat := [0, 0, 3, 7, 15, 15, 63, 127, 255, 511, 1023, 511, 4095, 8191, 16383, 32767, 32767, 131071, 262143, 524287, 1048575, 2097151, 1048575, 8388607, 16777215, 33554431, 67108863, 134217727, 67108863, 536870911, 1073741823, 2147483647, 4294967295, 4294967295, 17179869183, 34359738367, 68719476735]
theorem lw_LeafTells.tab12 : rtab .any (opsOf Try.f6 12) = lw_LeafTells.T12 := by kernel_rfl
theorem lw_LeafTells.bits12 : waitsOk lw_LeafTells.T12.2 lw_LeafTells.B12 = true := by kernel_rfl
def lw_LeafTells.T21 : Bool × List (List Nat × List Nat) := (true, [([], []), ([0], [0]), ([1], [1]), ([2, 1, 1], [1, 2]), ([1], [1]), ([3, 4, 3, 1], [1, 3, 4]), ([1, 5], [1, 5]), ([6, 5], [6]), ([7, 7], [7]), ([7, 8], [7, 8]), ([9, 8, 0, 1, 2, 3, 4, 5, 6, 7, 8, 9], [9])])
def lw_LeafTells.B21 : List Nat := [0, 1, 3, 7, 3, 31, 63, 127, 255, 511, 1023]
theorem lw_LeafTells.tab21 : rtab .any (opsOf Try.f6 21) = lw_LeafTells.T21 := by kernel_rfl
theorem lw_LeafTells.bits21 : waitsOk lw_LeafTells.T21.2 lw_LeafTells.B21 = true := by kernel_rfl
set_option maxHeartbeats 8000000 in
set_option maxRecDepth 100000 in
theorem lw_LeafTells.calls (k : Nat) (a0_0 : Bool) (A0_1 : Option Addr) (c0_1 : Nat) (l0_1 : List S75) (A0_2 : Option Addr) (c0_2 : Nat) (l0_2 : List S76) (a1_0 : Bool) (A1_1 : Option Addr) (c1_1 : Nat) (l1_1 : List S75) (A1_2 : Option Addr) (c1_2 : Nat) (l1_2 : List S76) (a2 : ByteArray) (r : Bool) (w : World) (hr0_1 : Kd.C k75 w A0_1 l0_1.length l0_1) (hc0_1 : l0_1.length ≤ c0_1) (hr0_2 : Kd.C k76 w A0_2 l0_2.length l0_2) (hc0_2 : l0_2.length ≤ c0_2) (hr1_1 : Kd.C k75 w A1_1 l1_1.length l1_1) (hc1_1 : l1_1.length ≤ c1_1) (hr1_2 : Kd.C k76 w A1_2 l1_2.length l1_2) (hc1_2 : l1_2.length ≤ c1_2) (h : lw_LeafTells.f k a0_0 l0_1 l0_2 a1_0 l1_1 l1_2 a2 = some r) (hT : Aside0 (r = true)) :
  Calls Try.prog 6 #[.agg #[.bool a0_0, .slice A0_1 l0_1.length c0_1, .slice A0_2 l0_2.length c0_2], .agg #[.bool a1_0, .slice A1_1 l1_1.length c1_1, .slice A1_2 l1_2.length c1_2], .string a2] w fun e w' => e = .returned (.bool r) ∧ Below w.heap.size w w' := by
 have hu25 := Try.underlying25
 have hu31 := Try.underlying31
 have HR0_1 := aM hr0_1
 have HC0_1 := aM hc0_1
 clear hr0_1 hc0_1
 have HR0_2 := aM hr0_2
 have HC0_2 := aM hc0_2
 clear hr0_2 hc0_2
 have HR1_1 := aM hr1_1
 have HC1_1 := aM hc1_1
 clear hr1_1 hc1_1
 have HR1_2 := aM hr1_2
 have HC1_2 := aM hc1_2
 clear hr1_2 hc1_2
 have HB := aM (Below.refl w.heap.size w)
 have H : ((lw_large.f k a0_0 l0_1 l0_2).bind fun t540 => (if t540 = true then (lw_LeafTells.j0 k a2 true a0_0 l0_1 l0_2 a1_0 l1_1 l1_2) else ((lw_large.f k a1_0 l1_1 l1_2).bind fun t541 => (if t541 = true then (lw_LeafTells.j0 k a2 true a0_0 l0_1 l0_2 a1_0 l1_1 l1_2) else (lw_LeafTells.j0 k a2 (decide ((a2.size : Int) > 1000)) a0_0 l0_1 l0_2 a1_0 l1_1 l1_2))))) = some r := h
 clear h
 have HC4 := aM H
 clear H
 go_enter Try.func6, Try.ntmps6
 go_upto_region 1 with (first | ((with_reducible refine gate_dst (N := 3) rfl ?_); (try (refine gate_guard (by rfl) ?_; dsimp only)); refine box_event ?hg (N := 3) ?hd (cs := #[.bool a0_0, .slice A0_1 l0_1.length c0_1, .slice A0_2 l0_2.length c0_2]) (t := 25) ?hr ?_; (case hd => rfl); (case hg => rfl); (case hr => first | (go_simp; done) | (go_simp; rfl)); intro gb538 hg w5 hbox hb; have BK538 := aM (hbox); have GE538 := gw hg HB; replace HB := aM (below_step (kl HB) hb); clear hb hbox hg) | ((with_reducible refine gate_dst (N := 4) rfl ?_); (try (refine gate_guard (by rfl) ?_; dsimp only)); refine box_event ?hg (N := 4) ?hd (cs := #[.bool a1_0, .slice A1_1 l1_1.length c1_1, .slice A1_2 l1_2.length c1_2]) (t := 25) ?hr ?_; (case hd => rfl); (case hg => rfl); (case hr => first | (go_simp; done) | (go_simp; rfl)); intro gb539 hg w6 hbox hb; have BK539 := aM (hbox); have GE539 := gw hg HB; replace HB := aM (below_step (kl HB) hb); have NB538_539 := nl hg BK538; have NB539_538 := ng hg BK538; replace BK538 := bb BK538 hb; clear hb hbox hg))
 (try simp only [Act.put, List.setIfInBounds_toArray, List.set_cons_zero, List.set_cons_succ])
 go_cut [35] (fun v35 wc => ∃ (kq : Nat) (x35_3 : Bool), v35 = .bool x35_3 ∧ Aside0 (lw_LeafTells.j0 kq a2 x35_3 a0_0 l0_1 l0_2 a1_0 l1_1 l1_2 = some r) ∧ Aside0 (kq ≤ k) ∧ Aside0 (wc.heap[gb538]? = some (.cells #[.bool a0_0, (.slice A0_1 l0_1.length c0_1), (.slice A0_2 l0_2.length c0_2)] 25 (0, 0))) ∧ Aside0 (wc.heap[gb539]? = some (.cells #[.bool a1_0, (.slice A1_1 l1_1.length c1_1), (.slice A1_2 l1_2.length c1_2)] 25 (0, 0))) ∧ Aside0 (Below w.heap.size w wc))
 case first =>
  have H := HC4.out
  clear HC4
  replace H := Option.bind_eq_some_iff.mp H
  obtain ⟨t540, A70, H⟩ := H
  replace H : (if t540 = true then (lw_LeafTells.j0 k a2 true a0_0 l0_1 l0_2 a1_0 l1_1 l1_2) else ((lw_large.f k a1_0 l1_1 l1_2).bind fun t541 => (if t541 = true then (lw_LeafTells.j0 k a2 true a0_0 l0_1 l0_2 a1_0 l1_1 l1_2) else (lw_LeafTells.j0 k a2 (decide ((a2.size : Int) > 1000)) a0_0 l0_1 l0_2 a1_0 l1_1 l1_2)))) = some r := H
  have A7 := aM A70
  clear A70
  by_cases c8 : t540 = true
  ·subst c8
   have H1 : (lw_LeafTells.j0 k a2 true a0_0 l0_1 l0_2 a1_0 l1_1 l1_2) = some r := by rw [if_pos rfl] at H; exact H
   clear H
   have H := H1
   clear H1
   have H' := aM H
   clear H
   have hnb9 := NB538_539.out
   have hnc9 := NB539_538.out
   have hcz10_0 : w6.cell? ⟨gb538, 0, none⟩ = some (.bool a0_0) := bc BK538 0
   have hcz10_1 : w6.cell? ⟨gb538, 1, none⟩ = some (.slice A0_1 l0_1.length c0_1) := bc BK538 1
   have hcz10_2 : w6.cell? ⟨gb538, 2, none⟩ = some (.slice A0_2 l0_2.length c0_2) := bc BK538 2
   have hfz10_0 := blk_frozen BK538.out 0
   have hfz10_1 := blk_frozen BK538.out 1
   have hfz10_2 := blk_frozen BK538.out 2
   go_wp2_with (first | ((with_reducible refine gate_callee (f := 10) rfl ?_); refine goesL_ (some 26) rfl rfl Try.func10 (by kernel_rfl) rfl #[.agg #[.bool a0_0, .slice A0_1 l0_1.length c0_1, .slice A0_2 l0_2.length c0_2]] rfl (by (try simp only [List.map_toArray, List.map_cons, List.map_nil]); first | done | rfl | (simp only [List.length_drop, List.length_take]; rfl)) ?_; (with_reducible refine (lw_large.calls k a0_0 _ _ l0_1 _ _ l0_2 true _ ?side1 ?side2 ?side3 ?side4 A7.out).mono ?_); (case side1 => exact kc (Kd.C_below HR0_1.out HB.out)); (case side2 => exact HC0_1.out); (case side3 => exact kc (Kd.C_below HR0_2.out HB.out)); (case side4 => exact HC0_2.out); rintro e w11 ⟨rfl, hb⟩; refine ⟨_, rfl, ?_⟩; replace BK538 := bb BK538 hb; replace BK539 := bb BK539 hb; replace HB := aM (below_step (kl HB) hb); clear hb))
   go_meet
   case rel => exact ⟨_, (true), (by first | rfl | (simp; done) | (simp [*]; done)), H', ⟨by first | omega | exact Nat.le_refl _⟩, ⟨kb BK538⟩, ⟨kb BK539⟩, ⟨kl HB⟩⟩
  replace c8 := Bool.eq_false_iff.mpr c8
  subst c8
  have H1 : ((lw_large.f k a1_0 l1_1 l1_2).bind fun t541 => (if t541 = true then (lw_LeafTells.j0 k a2 true a0_0 l0_1 l0_2 a1_0 l1_1 l1_2) else (lw_LeafTells.j0 k a2 (decide ((a2.size : Int) > 1000)) a0_0 l0_1 l0_2 a1_0 l1_1 l1_2))) = some r := by rw [if_neg (show ¬ (false = true) by decide)] at H; exact H
  clear H
  have H := H1
  clear H1
  replace H := Option.bind_eq_some_iff.mp H
  obtain ⟨t541, A120, H⟩ := H
  replace H : (if t541 = true then (lw_LeafTells.j0 k a2 true a0_0 l0_1 l0_2 a1_0 l1_1 l1_2) else (lw_LeafTells.j0 k a2 (decide ((a2.size : Int) > 1000)) a0_0 l0_1 l0_2 a1_0 l1_1 l1_2)) = some r := H
  have A12 := aM A120
  clear A120
  by_cases c13 : t541 = true
  ·subst c13
   have H1 : (lw_LeafTells.j0 k a2 true a0_0 l0_1 l0_2 a1_0 l1_1 l1_2) = some r := by rw [if_pos rfl] at H; exact H
   clear H
   have H := H1
   clear H1
   have H' := aM H
   clear H
   have hnb14 := NB538_539.out
   have hnc14 := NB539_538.out
   have hcz15_0 : w6.cell? ⟨gb538, 0, none⟩ = some (.bool a0_0) := bc BK538 0
   have hcz15_1 : w6.cell? ⟨gb538, 1, none⟩ = some (.slice A0_1 l0_1.length c0_1) := bc BK538 1
   have hcz15_2 : w6.cell? ⟨gb538, 2, none⟩ = some (.slice A0_2 l0_2.length c0_2) := bc BK538 2
   have hfz15_0 := blk_frozen BK538.out 0
   have hfz15_1 := blk_frozen BK538.out 1
   have hfz15_2 := blk_frozen BK538.out 2
   go_wp2_with (first | ((with_reducible refine gate_callee (f := 10) rfl ?_); refine goesL_ (some 26) rfl rfl Try.func10 (by kernel_rfl) rfl #[.agg #[.bool a0_0, .slice A0_1 l0_1.length c0_1, .slice A0_2 l0_2.length c0_2]] rfl (by (try simp only [List.map_toArray, List.map_cons, List.map_nil]); first | done | rfl | (simp only [List.length_drop, List.length_take]; rfl)) ?_; (with_reducible refine (lw_large.calls k a0_0 _ _ l0_1 _ _ l0_2 false _ ?side1 ?side2 ?side3 ?side4 A7.out).mono ?_); (case side1 => exact kc (Kd.C_below HR0_1.out HB.out)); (case side2 => exact HC0_1.out); (case side3 => exact kc (Kd.C_below HR0_2.out HB.out)); (case side4 => exact HC0_2.out); rintro e w16 ⟨rfl, hb⟩; refine ⟨_, rfl, ?_⟩; replace BK538 := bb BK538 hb; replace BK539 := bb BK539 hb; replace HB := aM (below_step (kl HB) hb); clear hb; have hcz17_0 : w16.cell? ⟨gb539, 0, none⟩ = some (.bool a1_0) := bc BK539 0; have hcz17_1 : w16.cell? ⟨gb539, 1, none⟩ = some (.slice A1_1 l1_1.length c1_1) := bc BK539 1; have hcz17_2 : w16.cell? ⟨gb539, 2, none⟩ = some (.slice A1_2 l1_2.length c1_2) := bc BK539 2; have hfz17_0 := blk_frozen BK539.out 0; have hfz17_1 := blk_frozen BK539.out 1; have hfz17_2 := blk_frozen BK539.out 2) | (go_at_call 10; (with_reducible refine (lw_large.calls k a1_0 _ _ l1_1 _ _ l1_2 true _ ?side1 ?side2 ?side3 ?side4 A12.out).mono ?_); (case side1 => exact kc (Kd.C_below HR1_1.out HB.out)); (case side2 => exact HC1_1.out); (case side3 => exact kc (Kd.C_below HR1_2.out HB.out)); (case side4 => exact HC1_2.out); rintro e w18 ⟨rfl, hb⟩; replace BK538 := bb BK538 hb; replace BK539 := bb BK539 hb; replace HB := aM (below_step (kl HB) hb); clear hb))
   go_meet
   case rel => exact ⟨_, (true), (by first | rfl | (simp; done) | (simp [*]; done)), H', ⟨by first | omega | exact Nat.le_refl _⟩, ⟨kb BK538⟩, ⟨kb BK539⟩, ⟨kl HB⟩⟩
  replace c13 := Bool.eq_false_iff.mpr c13
  subst c13
  have H1 : (lw_LeafTells.j0 k a2 (decide ((a2.size : Int) > 1000)) a0_0 l0_1 l0_2 a1_0 l1_1 l1_2) = some r := by rw [if_neg (show ¬ (false = true) by decide)] at H; exact H
  clear H
  have H := H1
  clear H1
  have H' := aM H
  clear H
  have hnb19 := NB538_539.out
  have hnc19 := NB539_538.out
  have hcz20_0 : w6.cell? ⟨gb538, 0, none⟩ = some (.bool a0_0) := bc BK538 0
  have hcz20_1 : w6.cell? ⟨gb538, 1, none⟩ = some (.slice A0_1 l0_1.length c0_1) := bc BK538 1
  have hcz20_2 : w6.cell? ⟨gb538, 2, none⟩ = some (.slice A0_2 l0_2.length c0_2) := bc BK538 2
  have hfz20_0 := blk_frozen BK538.out 0
  have hfz20_1 := blk_frozen BK538.out 1
  have hfz20_2 := blk_frozen BK538.out 2
  go_wp2_with (first | ((with_reducible refine gate_callee (f := 10) rfl ?_); refine goesL_ (some 26) rfl rfl Try.func10 (by kernel_rfl) rfl #[.agg #[.bool a0_0, .slice A0_1 l0_1.length c0_1, .slice A0_2 l0_2.length c0_2]] rfl (by (try simp only [List.map_toArray, List.map_cons, List.map_nil]); first | done | rfl | (simp only [List.length_drop, List.length_take]; rfl)) ?_; (with_reducible refine (lw_large.calls k a0_0 _ _ l0_1 _ _ l0_2 false _ ?side1 ?side2 ?side3 ?side4 A7.out).mono ?_); (case side1 => exact kc (Kd.C_below HR0_1.out HB.out)); (case side2 => exact HC0_1.out); (case side3 => exact kc (Kd.C_below HR0_2.out HB.out)); (case side4 => exact HC0_2.out); rintro e w21 ⟨rfl, hb⟩; refine ⟨_, rfl, ?_⟩; replace BK538 := bb BK538 hb; replace BK539 := bb BK539 hb; replace HB := aM (below_step (kl HB) hb); clear hb; have hcz22_0 : w21.cell? ⟨gb539, 0, none⟩ = some (.bool a1_0) := bc BK539 0; have hcz22_1 : w21.cell? ⟨gb539, 1, none⟩ = some (.slice A1_1 l1_1.length c1_1) := bc BK539 1; have hcz22_2 : w21.cell? ⟨gb539, 2, none⟩ = some (.slice A1_2 l1_2.length c1_2) := bc BK539 2; have hfz22_0 := blk_frozen BK539.out 0; have hfz22_1 := blk_frozen BK539.out 1; have hfz22_2 := blk_frozen BK539.out 2) | (go_at_call 10; (with_reducible refine (lw_large.calls k a1_0 _ _ l1_1 _ _ l1_2 false _ ?side1 ?side2 ?side3 ?side4 A12.out).mono ?_); (case side1 => exact kc (Kd.C_below HR1_1.out HB.out)); (case side2 => exact HC1_1.out); (case side3 => exact kc (Kd.C_below HR1_2.out HB.out)); (case side4 => exact HC1_2.out); rintro e w23 ⟨rfl, hb⟩; replace BK538 := bb BK538 hb; replace BK539 := bb BK539 hb; replace HB := aM (below_step (kl HB) hb); clear hb))
  go_meet
  case rel => exact ⟨_, (decide ((a2.size : Int) > 1000)), (by first | rfl | (simp; done) | (simp [*]; done)), H', ⟨by first | omega | exact Nat.le_refl _⟩, ⟨kb BK538⟩, ⟨kb BK539⟩, ⟨kl HB⟩⟩
 case rest =>
  clear HC4
  try clear c1
  try clear p2
  try clear c6
  try clear c8
  try clear c9
  try clear c10
  try clear c13
  try clear c14
  try clear c19
  try clear hcz10_0
  try clear hcz10_1
  try clear hcz10_2
  try clear hcz15_0
  try clear hcz15_1
  try clear hcz15_2
  try clear hcz17_0
  try clear hcz17_1
  try clear hcz17_2
  try clear hcz20_0
  try clear hcz20_1
  try clear hcz20_2
  try clear hcz22_0
  try clear hcz22_1
  try clear hcz22_2
  try clear hfz10_0
  try clear hfz10_1
  try clear hfz10_2
  try clear hfz15_0
  try clear hfz15_1
  try clear hfz15_2
  try clear hfz17_0
  try clear hfz17_1
  try clear hfz17_2
  try clear hfz20_0
  try clear hfz20_1
  try clear hfz20_2
  try clear hfz22_0
  try clear hfz22_1
  try clear hfz22_2
  obtain ⟨kq, x35_3, rfl, HA, HJ3, BK538, BK539, HB⟩ := hcut
  cases kq with
  | zero => exact absurd HA.out (by simp [lw_LeafTells.j0])
  | succ kj3 =>
   have H := HA.out
   clear HA
   simp only [lw_LeafTells.j0] at H
   by_cases c24 : x35_3 = true
   ·subst c24
    have H1 : ((lw_awake.f kj3).bind fun t542 => (some t542)) = some r := by rw [if_pos rfl] at H; exact H
    clear H
    have H := H1
    clear H1
    replace H := Option.bind_eq_some_iff.mp H
    obtain ⟨t542, A250, H⟩ := H
    replace H : (some t542) = some r := H
    have A25 := aM A250
    clear A250
    obtain rfl := Option.some.inj H
    go_wp2_with (first | ((with_reducible refine gate_callee (f := 11) rfl ?_); refine goesL_ (some 36) rfl rfl Try.func11 (by kernel_rfl) rfl #[] rfl (by (try simp only [List.map_toArray, List.map_cons, List.map_nil]); first | done | rfl | (simp only [List.length_drop, List.length_take]; rfl)) ?_; (with_reducible refine (lw_awake.calls kj3  t542 _ A25.out).mono ?_); rintro e w26 ⟨rfl, hb⟩; refine ⟨_, rfl, ?_⟩; replace BK538 := bb BK538 hb; replace BK539 := bb BK539 hb; replace HB := aM (below_step (kl HB) hb); clear hb))
    go_ret
    exact ⟨by first | rfl | (simp [errW_none, errW_some] <;> rfl) | (simp [*, errW_none, errW_some] <;> rfl), kl HB⟩
   replace c24 := Bool.eq_false_iff.mpr c24
   subst c24
   have H1 : ((lw_given.f kj3 a0_0 l0_1 l0_2).bind fun bt543 => ((leaf_May.f kj3 bt543.1 bt543.2.1 bt543.2.2).bind fun t551 => ((rf_May.f kj3 a0_0 l0_1 l0_2).bind fun t552 => (if (t551 != t552) = true then (lw_LeafTells.j1 kj3 a2 true a0_0 l0_1 l0_2 bt543.1 bt543.2.1 bt543.2.2) else ((leaf_Size.f kj3 bt543.1 bt543.2.1 bt543.2.2).bind fun t553 => ((rf_Size.f kj3 a0_0 l0_1 l0_2).bind fun t554 => (if t553 = t554 then ((leaf_Fits.f kj3 bt543.1 bt543.2.1 bt543.2.2).bind fun t555 => ((rf_Fits.f kj3 a0_0 l0_1 l0_2).bind fun t556 => (if (t555 != t556) = true then (lw_LeafTells.j1 kj3 a2 true a0_0 l0_1 l0_2 bt543.1 bt543.2.1 bt543.2.2) else ((lw_given.f kj3 a1_0 l1_1 l1_2).bind fun bt557 => ((leaf_Same.f kj3 bt543.1 bt543.2.1 bt543.2.2 bt557.1 bt557.2.1 bt557.2.2).bind fun t564 => ((rf_Same.f kj3 a0_0 l0_1 l0_2 a1_0 l1_1 l1_2).bind fun t565 => (lw_LeafTells.j1 kj3 a2 (t564 != t565) a0_0 l0_1 l0_2 bt543.1 bt543.2.1 bt543.2.2))))))) else (lw_LeafTells.j1 kj3 a2 true a0_0 l0_1 l0_2 bt543.1 bt543.2.1 bt543.2.2)))))))) = some r := by rw [if_neg (show ¬ (false = true) by decide)] at H; exact H
   clear H
   have H := H1
   clear H1
   replace H := Option.bind_eq_some_iff.mp H
   obtain ⟨⟨t543, t544, t547⟩, A270, H⟩ := H
   replace H : ((leaf_May.f kj3 t543 t544 t547).bind fun t551 => ((rf_May.f kj3 a0_0 l0_1 l0_2).bind fun t552 => (if (t551 != t552) = true then (lw_LeafTells.j1 kj3 a2 true a0_0 l0_1 l0_2 t543 t544 t547) else ((leaf_Size.f kj3 t543 t544 t547).bind fun t553 => ((rf_Size.f kj3 a0_0 l0_1 l0_2).bind fun t554 => (if t553 = t554 then ((leaf_Fits.f kj3 t543 t544 t547).bind fun t555 => ((rf_Fits.f kj3 a0_0 l0_1 l0_2).bind fun t556 => (if (t555 != t556) = true then (lw_LeafTells.j1 kj3 a2 true a0_0 l0_1 l0_2 t543 t544 t547) else ((lw_given.f kj3 a1_0 l1_1 l1_2).bind fun bt557 => ((leaf_Same.f kj3 t543 t544 t547 bt557.1 bt557.2.1 bt557.2.2).bind fun t564 => ((rf_Same.f kj3 a0_0 l0_1 l0_2 a1_0 l1_1 l1_2).bind fun t565 => (lw_LeafTells.j1 kj3 a2 (t564 != t565) a0_0 l0_1 l0_2 t543 t544 t547))))))) else (lw_LeafTells.j1 kj3 a2 true a0_0 l0_1 l0_2 t543 t544 t547))))))) = some r := H
   have A27 := aM A270
   clear A270
   have HC28 := aM H
   clear H
   have hnb29 := NB538_539.out
   have hnc29 := NB539_538.out
   have hcz30_0 : wc.cell? ⟨gb538, 0, none⟩ = some (.bool a0_0) := bc BK538 0
   have hcz30_1 : wc.cell? ⟨gb538, 1, none⟩ = some (.slice A0_1 l0_1.length c0_1) := bc BK538 1
   have hcz30_2 : wc.cell? ⟨gb538, 2, none⟩ = some (.slice A0_2 l0_2.length c0_2) := bc BK538 2
   have hfz30_0 := blk_frozen BK538.out 0
   have hfz30_1 := blk_frozen BK538.out 1
   have hfz30_2 := blk_frozen BK538.out 2
   go_upto_region 4 with (first | ((with_reducible refine gate_callee (f := 12) rfl ?_); refine goesL_ (some 38) rfl rfl Try.func12 (by kernel_rfl) rfl #[.agg #[.bool a0_0, .slice A0_1 l0_1.length c0_1, .slice A0_2 l0_2.length c0_2]] rfl (by (try simp only [List.map_toArray, List.map_cons, List.map_nil]); first | done | rfl | (simp only [List.length_drop, List.length_take]; rfl)) ?_; (with_reducible refine (lw_given.calls kj3 a0_0 _ _ l0_1 _ _ l0_2 t543 t544 t547 _ ?side1 ?side2 ?side3 ?side4 A27.out).mono ?_); (case side1 => exact kc (Kd.C_below HR0_1.out HB.out)); (case side2 => exact HC0_1.out); (case side3 => exact kc (Kd.C_below HR0_2.out HB.out)); (case side4 => exact HC0_2.out); rintro e w31 ⟨v545, v548, rfl, ho0, ho1, hb⟩; refine ⟨_, rfl, ?_⟩; have HO546 := aM (Kd.R_lower ho0 (below_size (kl HB))); have HO549 := aM (Kd.R_lower ho1 (below_size (kl HB))); replace BK538 := bb BK538 hb; replace BK539 := bb BK539 hb; replace HB := aM (below_step (kl HB) hb); clear hb ho0 ho1) | ((with_reducible refine gate_dst (N := 7) rfl ?_); (try (refine gate_guard (by rfl) ?_; dsimp only)); refine box_event ?hg (N := 7) ?hd (cs := #[.bool false, .slice none 0 0, .slice none 0 0]) (t := 31) ?hr ?_; (case hd => rfl); (case hg => rfl); (case hr => first | (go_simp; done) | (go_simp; rfl)); intro gb550 hg w32 hbox hb; replace HO546 := rb HO546 hb; replace HO549 := rb HO549 hb; have BK550 := aM (hbox); have GE550 := gw hg HB; replace HB := aM (below_step (kl HB) hb); have NB538_550 := nl hg BK538; have NB550_538 := ng hg BK538; replace BK538 := bb BK538 hb; have NB539_550 := nl hg BK539; have NB550_539 := ng hg BK539; replace BK539 := bb BK539 hb; clear hb hbox hg; have hnb33 := NB550_538.out; have hnc33 := NB538_550.out; have hnb34 := NB550_539.out; have hnc34 := NB539_550.out; have hcz35_0 : w32.cell? ⟨gb550, 0, none⟩ = some (.bool false) := bc BK550 0; have hcz35_1 : w32.cell? ⟨gb550, 1, none⟩ = some (.slice none 0 0) := bc BK550 1; have hcz35_2 : w32.cell? ⟨gb550, 2, none⟩ = some (.slice none 0 0) := bc BK550 2; have hfz35_0 := blk_frozen BK550.out 0; have hfz35_1 := blk_frozen BK550.out 1; have hfz35_2 := blk_frozen BK550.out 2; obtain ⟨Ao36, co36, eo36⟩ := Kd.R_slice HO546.out; subst eo36; obtain ⟨Ao37, co37, eo37⟩ := Kd.R_slice HO549.out; subst eo37))
   (try simp only [Act.put, List.setIfInBounds_toArray, List.set_cons_zero, List.set_cons_succ])
   go_cut [67] (fun v67 wc => ∃ (kq : Nat) (x67_27 : Bool), v67 = .bool x67_27 ∧ Aside0 (lw_LeafTells.j1 kq a2 x67_27 a0_0 l0_1 l0_2 t543 t544 t547 = some r) ∧ Aside0 (kq ≤ kj3) ∧ Aside0 (Kd.R k47 47 wc w.heap.size (fun _ => True) (.slice Ao36 t544.length co36) t544) ∧ Aside0 (Kd.R k36 36 wc w.heap.size (fun _ => True) (.slice Ao37 t547.length co37) t547) ∧ Aside0 (wc.heap[gb538]? = some (.cells #[.bool a0_0, (.slice A0_1 l0_1.length c0_1), (.slice A0_2 l0_2.length c0_2)] 25 (0, 0))) ∧ Aside0 (wc.heap[gb539]? = some (.cells #[.bool a1_0, (.slice A1_1 l1_1.length c1_1), (.slice A1_2 l1_2.length c1_2)] 25 (0, 0))) ∧ Aside0 (wc.heap[gb550]? = some (.cells #[.bool t543, (.slice Ao36 t544.length co36), (.slice Ao37 t547.length co37)] 31 (0, 0))) ∧ Aside0 (Below w.heap.size w wc))
   case first =>
    have H := HC28.out
    clear HC28
    replace H := Option.bind_eq_some_iff.mp H
    obtain ⟨t551, A380, H⟩ := H
    replace H : ((rf_May.f kj3 a0_0 l0_1 l0_2).bind fun t552 => (if (t551 != t552) = true then (lw_LeafTells.j1 kj3 a2 true a0_0 l0_1 l0_2 t543 t544 t547) else ((leaf_Size.f kj3 t543 t544 t547).bind fun t553 => ((rf_Size.f kj3 a0_0 l0_1 l0_2).bind fun t554 => (if t553 = t554 then ((leaf_Fits.f kj3 t543 t544 t547).bind fun t555 => ((rf_Fits.f kj3 a0_0 l0_1 l0_2).bind fun t556 => (if (t555 != t556) = true then (lw_LeafTells.j1 kj3 a2 true a0_0 l0_1 l0_2 t543 t544 t547) else ((lw_given.f kj3 a1_0 l1_1 l1_2).bind fun bt557 => ((leaf_Same.f kj3 t543 t544 t547 bt557.1 bt557.2.1 bt557.2.2).bind fun t564 => ((rf_Same.f kj3 a0_0 l0_1 l0_2 a1_0 l1_1 l1_2).bind fun t565 => (lw_LeafTells.j1 kj3 a2 (t564 != t565) a0_0 l0_1 l0_2 t543 t544 t547))))))) else (lw_LeafTells.j1 kj3 a2 true a0_0 l0_1 l0_2 t543 t544 t547)))))) = some r := H
    have A38 := aM A380
    clear A380
    replace H := Option.bind_eq_some_iff.mp H
    obtain ⟨t552, A390, H⟩ := H
    replace H : (if (t551 != t552) = true then (lw_LeafTells.j1 kj3 a2 true a0_0 l0_1 l0_2 t543 t544 t547) else ((leaf_Size.f kj3 t543 t544 t547).bind fun t553 => ((rf_Size.f kj3 a0_0 l0_1 l0_2).bind fun t554 => (if t553 = t554 then ((leaf_Fits.f kj3 t543 t544 t547).bind fun t555 => ((rf_Fits.f kj3 a0_0 l0_1 l0_2).bind fun t556 => (if (t555 != t556) = true then (lw_LeafTells.j1 kj3 a2 true a0_0 l0_1 l0_2 t543 t544 t547) else ((lw_given.f kj3 a1_0 l1_1 l1_2).bind fun bt557 => ((leaf_Same.f kj3 t543 t544 t547 bt557.1 bt557.2.1 bt557.2.2).bind fun t564 => ((rf_Same.f kj3 a0_0 l0_1 l0_2 a1_0 l1_1 l1_2).bind fun t565 => (lw_LeafTells.j1 kj3 a2 (t564 != t565) a0_0 l0_1 l0_2 t543 t544 t547))))))) else (lw_LeafTells.j1 kj3 a2 true a0_0 l0_1 l0_2 t543 t544 t547))))) = some r := H
    have A39 := aM A390
    clear A390
    by_cases c40 : (t551 != t552) = true
    ·rw [if_pos c40] at H
     exact absurd (H.trans (congrArg some hT.out)) (lw_LeafTells.dead_j1_1 _ _ _ _ _ _ _ _)
    rw [if_neg c40] at H
    have c40b0 : (t551 != t552) = false := by simpa using c40
    (try (have c40b1 : decide (t551 = t552) = true := by simpa using c40))
    (try (have c40b2 : (t551 == t552) = true := by simpa using c40))
    clear c40
    (first | rw [c40b0] | (simp only [i64_w, i32_w]; rw [c40b0]) | skip)
    replace H := Option.bind_eq_some_iff.mp H
    obtain ⟨t553, A410, H⟩ := H
    replace H : ((rf_Size.f kj3 a0_0 l0_1 l0_2).bind fun t554 => (if t553 = t554 then ((leaf_Fits.f kj3 t543 t544 t547).bind fun t555 => ((rf_Fits.f kj3 a0_0 l0_1 l0_2).bind fun t556 => (if (t555 != t556) = true then (lw_LeafTells.j1 kj3 a2 true a0_0 l0_1 l0_2 t543 t544 t547) else ((lw_given.f kj3 a1_0 l1_1 l1_2).bind fun bt557 => ((leaf_Same.f kj3 t543 t544 t547 bt557.1 bt557.2.1 bt557.2.2).bind fun t564 => ((rf_Same.f kj3 a0_0 l0_1 l0_2 a1_0 l1_1 l1_2).bind fun t565 => (lw_LeafTells.j1 kj3 a2 (t564 != t565) a0_0 l0_1 l0_2 t543 t544 t547))))))) else (lw_LeafTells.j1 kj3 a2 true a0_0 l0_1 l0_2 t543 t544 t547))) = some r := H
    have A41 := aM A410
    clear A410
    replace H := Option.bind_eq_some_iff.mp H
    obtain ⟨t554, A420, H⟩ := H
    replace H : (if t553 = t554 then ((leaf_Fits.f kj3 t543 t544 t547).bind fun t555 => ((rf_Fits.f kj3 a0_0 l0_1 l0_2).bind fun t556 => (if (t555 != t556) = true then (lw_LeafTells.j1 kj3 a2 true a0_0 l0_1 l0_2 t543 t544 t547) else ((lw_given.f kj3 a1_0 l1_1 l1_2).bind fun bt557 => ((leaf_Same.f kj3 t543 t544 t547 bt557.1 bt557.2.1 bt557.2.2).bind fun t564 => ((rf_Same.f kj3 a0_0 l0_1 l0_2 a1_0 l1_1 l1_2).bind fun t565 => (lw_LeafTells.j1 kj3 a2 (t564 != t565) a0_0 l0_1 l0_2 t543 t544 t547))))))) else (lw_LeafTells.j1 kj3 a2 true a0_0 l0_1 l0_2 t543 t544 t547)) = some r := H
    have A42 := aM A420
    clear A420
    by_cases c43 : t553 = t554
    rotate_left
    ·rw [if_neg c43] at H
     exact absurd (H.trans (congrArg some hT.out)) (lw_LeafTells.dead_j1_1 _ _ _ _ _ _ _ _)
    rw [if_pos c43] at H
    have c43b0 : (t553 == t554) = true := beq_iff_eq.mpr c43
    have c43b1 : (t553 != t554) = false := bne_eq_false_iff_eq.mpr c43
    clear c43
    replace H := Option.bind_eq_some_iff.mp H
    obtain ⟨t555, A440, H⟩ := H
    replace H : ((rf_Fits.f kj3 a0_0 l0_1 l0_2).bind fun t556 => (if (t555 != t556) = true then (lw_LeafTells.j1 kj3 a2 true a0_0 l0_1 l0_2 t543 t544 t547) else ((lw_given.f kj3 a1_0 l1_1 l1_2).bind fun bt557 => ((leaf_Same.f kj3 t543 t544 t547 bt557.1 bt557.2.1 bt557.2.2).bind fun t564 => ((rf_Same.f kj3 a0_0 l0_1 l0_2 a1_0 l1_1 l1_2).bind fun t565 => (lw_LeafTells.j1 kj3 a2 (t564 != t565) a0_0 l0_1 l0_2 t543 t544 t547)))))) = some r := H
    have A44 := aM A440
    clear A440
    replace H := Option.bind_eq_some_iff.mp H
    obtain ⟨t556, A450, H⟩ := H
    replace H : (if (t555 != t556) = true then (lw_LeafTells.j1 kj3 a2 true a0_0 l0_1 l0_2 t543 t544 t547) else ((lw_given.f kj3 a1_0 l1_1 l1_2).bind fun bt557 => ((leaf_Same.f kj3 t543 t544 t547 bt557.1 bt557.2.1 bt557.2.2).bind fun t564 => ((rf_Same.f kj3 a0_0 l0_1 l0_2 a1_0 l1_1 l1_2).bind fun t565 => (lw_LeafTells.j1 kj3 a2 (t564 != t565) a0_0 l0_1 l0_2 t543 t544 t547))))) = some r := H
    have A45 := aM A450
    clear A450
    by_cases c46 : (t555 != t556) = true
    ·rw [if_pos c46] at H
     exact absurd (H.trans (congrArg some hT.out)) (lw_LeafTells.dead_j1_1 _ _ _ _ _ _ _ _)
    rw [if_neg c46] at H
    have c46b0 : (t555 != t556) = false := by simpa using c46
    (try (have c46b1 : decide (t555 = t556) = true := by simpa using c46))
    (try (have c46b2 : (t555 == t556) = true := by simpa using c46))
    clear c46
    replace H := Option.bind_eq_some_iff.mp H
    obtain ⟨⟨t557, t558, t561⟩, A470, H⟩ := H
    replace H : ((leaf_Same.f kj3 t543 t544 t547 t557 t558 t561).bind fun t564 => ((rf_Same.f kj3 a0_0 l0_1 l0_2 a1_0 l1_1 l1_2).bind fun t565 => (lw_LeafTells.j1 kj3 a2 (t564 != t565) a0_0 l0_1 l0_2 t543 t544 t547))) = some r := H
    have A47 := aM A470
    clear A470
    replace H := Option.bind_eq_some_iff.mp H
    obtain ⟨t564, A480, H⟩ := H
    replace H : ((rf_Same.f kj3 a0_0 l0_1 l0_2 a1_0 l1_1 l1_2).bind fun t565 => (lw_LeafTells.j1 kj3 a2 (t564 != t565) a0_0 l0_1 l0_2 t543 t544 t547)) = some r := H
    have A48 := aM A480
    clear A480
    replace H := Option.bind_eq_some_iff.mp H
    obtain ⟨t565, A490, H⟩ := H
    replace H : (lw_LeafTells.j1 kj3 a2 (t564 != t565) a0_0 l0_1 l0_2 t543 t544 t547) = some r := H
    have A49 := aM A490
    clear A490
    have H' := aM H
    clear H
    try go_wp2
    have n0_ : Aside0 (Kd.R k47 47 (((w32.setCell ⟨gb550, 0, none⟩ (.bool t543)).setCell ⟨gb550, 1, none⟩ (.slice Ao36 t544.length co36)).setCell ⟨gb550, 2, none⟩ (.slice Ao37 t547.length co37)) w.heap.size (fun _ => True) (.slice Ao36 t544.length co36) t544) := ⟨by exact Kd.R_mono (Kd.R_far (Kd.R_far (Kd.R_far (Kd.R_types HO546.out BK550.out (by decide)) (fun _ hk => hk.2) _) (fun _ hk => hk.2) _) (fun _ hk => hk.2) _) (fun _ hk => trivial)⟩
    have n1_ : Aside0 (Kd.R k36 36 (((w32.setCell ⟨gb550, 0, none⟩ (.bool t543)).setCell ⟨gb550, 1, none⟩ (.slice Ao36 t544.length co36)).setCell ⟨gb550, 2, none⟩ (.slice Ao37 t547.length co37)) w.heap.size (fun _ => True) (.slice Ao37 t547.length co37) t547) := ⟨by exact Kd.R_mono (Kd.R_far (Kd.R_far (Kd.R_far (Kd.R_types HO549.out BK550.out (by decide)) (fun _ hk => hk.2) _) (fun _ hk => hk.2) _) (fun _ hk => hk.2) _) (fun _ hk => trivial)⟩
    have n2_ : Aside0 ((((w32.setCell ⟨gb550, 0, none⟩ (.bool t543)).setCell ⟨gb550, 1, none⟩ (.slice Ao36 t544.length co36)).setCell ⟨gb550, 2, none⟩ (.slice Ao37 t547.length co37)).heap[gb538]? = some (.cells #[.bool a0_0, .slice A0_1 l0_1.length c0_1, .slice A0_2 l0_2.length c0_2] 25 (0, 0))) := ⟨kf NB538_550 BK538⟩
    have n3_ : Aside0 ((((w32.setCell ⟨gb550, 0, none⟩ (.bool t543)).setCell ⟨gb550, 1, none⟩ (.slice Ao36 t544.length co36)).setCell ⟨gb550, 2, none⟩ (.slice Ao37 t547.length co37)).heap[gb539]? = some (.cells #[.bool a1_0, .slice A1_1 l1_1.length c1_1, .slice A1_2 l1_2.length c1_2] 25 (0, 0))) := ⟨kf NB539_550 BK539⟩
    have n4_ : Aside0 ((((w32.setCell ⟨gb550, 0, none⟩ (.bool t543)).setCell ⟨gb550, 1, none⟩ (.slice Ao36 t544.length co36)).setCell ⟨gb550, 2, none⟩ (.slice Ao37 t547.length co37)).heap[gb550]? = some (.cells #[.bool t543, .slice Ao36 t544.length co36, .slice Ao37 t547.length co37] 31 (0, 0))) := ⟨by (with_reducible repeat (first | refine blk_drewN ?_ _ | refine blk_drew ?_ | refine blk_alloc ?_ _)); refine blk_put (cs := #[.bool t543, .slice Ao36 t544.length co36, .slice none 0 0]) ?_ 2 _ rfl; (with_reducible repeat (first | refine blk_drewN ?_ _ | refine blk_drew ?_ | refine blk_alloc ?_ _)); refine blk_put (cs := #[.bool t543, .slice none 0 0, .slice none 0 0]) ?_ 1 _ rfl; (with_reducible repeat (first | refine blk_drewN ?_ _ | refine blk_drew ?_ | refine blk_alloc ?_ _)); refine blk_put (cs := #[.bool false, .slice none 0 0, .slice none 0 0]) ?_ 0 _ rfl; exact kb BK550⟩
    have n5_ : Aside0 (Below w.heap.size w (((w32.setCell ⟨gb550, 0, none⟩ (.bool t543)).setCell ⟨gb550, 1, none⟩ (.slice Ao36 t544.length co36)).setCell ⟨gb550, 2, none⟩ (.slice Ao37 t547.length co37))) := ⟨kl HB⟩
    (try clear HO546)
    (try clear HO549)
    (try clear BK538)
    (try clear BK539)
    (try clear BK550)
    (try clear HB)
    generalize (((w32.setCell ⟨gb550, 0, none⟩ (.bool t543)).setCell ⟨gb550, 1, none⟩ (.slice Ao36 t544.length co36)).setCell ⟨gb550, 2, none⟩ (.slice Ao37 t547.length co37)) = w50 at n0_ n1_ n2_ n3_ n4_ n5_ ⊢
    have HO546 := n0_
    have HO549 := n1_
    have BK538 := n2_
    have BK539 := n3_
    have BK550 := n4_
    have HB := n5_
    clear n0_ n1_ n2_ n3_ n4_ n5_
    replace HO546 := aM (Kd.R_drew HO546.out)
    replace HO549 := aM (Kd.R_drew HO549.out)
    replace BK538 := aM (blk_drew BK538.out)
    replace BK539 := aM (blk_drew BK539.out)
    replace BK550 := aM (blk_drew BK550.out)
    replace HB := aM (below_drew1 HB.out)
    refine start_ (n := 29) (S := fun w' => w'.cell? ⟨gb550, 0, none⟩ = some (.bool t543) ∧ w'.cell? ⟨gb550, 1, none⟩ = some (.slice Ao36 t544.length co36) ∧ w'.cell? ⟨gb550, 2, none⟩ = some (.slice Ao37 t547.length co37) ∧ w'.cell? ⟨gb538, 0, none⟩ = some (.bool a0_0) ∧ w'.cell? ⟨gb538, 1, none⟩ = some (.slice A0_1 l0_1.length c0_1) ∧ w'.cell? ⟨gb538, 2, none⟩ = some (.slice A0_2 l0_2.length c0_2) ∧ w'.cell? ⟨gb539, 0, none⟩ = some (.bool a1_0) ∧ w'.cell? ⟨gb539, 1, none⟩ = some (.slice A1_1 l1_1.length c1_1) ∧ w'.cell? ⟨gb539, 2, none⟩ = some (.slice A1_2 l1_2.length c1_2)) (ds := []) #[N,N,N,N,N,N,N,N,N,N,N,N,N,N,N,N,N,N,N,N,N,N,N,N,N,N,N,N,N] (by kernel_rfl) rfl rfl ⟨bc BK550 0, bc BK550 1, bc BK550 2, bc BK538 0, bc BK538 1, bc BK538 2, bc BK539 0, bc BK539 1, bc BK539 2⟩ (fun hHeld => ?_); refine with_tabW lw_LeafTells.tab4 lw_LeafTells.bits4 (fun HT_ HW_ => ?_)
    generalize w50.drew = w51 at HO546 HO549 BK538 BK539 BK550 HB hHeld ⊢
    refine take_ (i := 0) (N := some 39) (v := ?_) (a' := ?_) #[Y,N,N,N,N,N,N,N,N,N,N,N,N,N,N,N,N,N,N,N,N,N,N,N,N,N,N,N,N] rfl rfl (take_ofW HT_.out HW_.out (by kernel_rfl)) (fun _ _ _ h => h) (Or.inl ⟨by rfl, ?_⟩) hHeld ?_ ?_
    rotate_left
    ·rintro w' ⟨s0, s1, s2, s3, s4, s5, s6, s7, s8⟩
     go_simp
     with_reducible rfl
    rotate_left
    ·simp only [Act.put, List.setIfInBounds_toArray, List.set_cons_zero, List.set_cons_succ, i64_w, i32_w]
     rfl
    refine take_ (i := 2) (N := some 41) (v := ?_) (a' := ?_) #[Y,N,Y,N,N,N,N,N,N,N,N,N,N,N,N,N,N,N,N,N,N,N,N,N,N,N,N,N,N] rfl rfl (take_ofW HT_.out HW_.out (by kernel_rfl)) (fun _ _ _ h => h) (Or.inl ⟨by rfl, ?_⟩) hHeld ?_ ?_
    rotate_left
    ·rintro w' ⟨s0, s1, s2, s3, s4, s5, s6, s7, s8⟩
     go_simp
     with_reducible rfl
    rotate_left
    ·simp only [Act.put, List.setIfInBounds_toArray, List.set_cons_zero, List.set_cons_succ, i64_w, i32_w]
     rfl
    refine one_ (i := 1) (N := some 40) #[Y,Y,Y,N,N,N,N,N,N,N,N,N,N,N,N,N,N,N,N,N,N,N,N,N,N,N,N,N,N] rfl rfl (one_of HT_.out (by kernel_rfl)) (by decide) (fun K hK => ?_)
    refine goes_ Try.func13 (by kernel_rfl) rfl #[.agg #[.bool t543, .slice Ao36 t544.length co36, .slice Ao37 t547.length co37]] (by rfl) rfl rfl (by (try simp only [List.map_toArray, List.map_cons, List.map_nil]); first | done | rfl | (simp only [List.length_drop, List.length_take]; rfl)) ?_
    with_reducible refine (leaf_May.calls kj3 t543 _ _ t544 _ _ t547 t551 _ ?side1 ?side2 ?side3 ?side4 A38.out).mono ?_
    (case side1 => exact kc (Kd.R_reads' HO546.out).2.2)
    (case side2 => exact (Kd.R_reads' HO546.out).2.1)
    (case side3 => exact kc (Kd.R_reads' HO549.out).2.2)
    (case side4 => exact (Kd.R_reads' HO549.out).2.1)
    rintro e w52 ⟨rfl, hb⟩
    refine ⟨_, rfl, ?_⟩
    replace HO546 := rb HO546 hb
    replace HO549 := rb HO549 hb
    replace BK538 := bb BK538 hb
    replace BK539 := bb BK539 hb
    replace BK550 := bb BK550 hb
    replace HB := aM (below_step (kl HB) hb)
    (try clear hb)
    (try clear hb2)
    (try clear hk)
    (try clear hi)
    refine hK.out _ _ ⟨bc BK550 0, bc BK550 1, bc BK550 2, bc BK538 0, bc BK538 1, bc BK538 2, bc BK539 0, bc BK539 1, bc BK539 2⟩ (fun hHeld => ?_)
    clear hK K
    refine norm_ (a' := ?_) ?_ ?_
    rotate_left
    ·show Act.put _ (some 40) _ = _
     simp only [Act.put, List.setIfInBounds_toArray, List.set_cons_zero, List.set_cons_succ, i64_w, i32_w]
     rfl
    refine one_ (i := 3) (N := some 42) #[Y,Y,Y,Y,N,N,N,N,N,N,N,N,N,N,N,N,N,N,N,N,N,N,N,N,N,N,N,N,N] rfl rfl (one_of HT_.out (by kernel_rfl)) (by decide) (fun K hK => ?_)
    refine goes_ Try.func21 (by kernel_rfl) rfl #[.agg #[.bool a0_0, .slice A0_1 l0_1.length c0_1, .slice A0_2 l0_2.length c0_2]] (by rfl) rfl rfl (by (try simp only [List.map_toArray, List.map_cons, List.map_nil]); first | done | rfl | (simp only [List.length_drop, List.length_take]; rfl)) ?_
    with_reducible refine (rf_May.calls kj3 a0_0 _ _ l0_1 _ _ l0_2 t552 _ ?side1 ?side2 ?side3 ?side4 A39.out).mono ?_
    (case side1 => exact kc (Kd.C_below HR0_1.out HB.out))
    (case side2 => exact HC0_1.out)
    (case side3 => exact kc (Kd.C_below HR0_2.out HB.out))
    (case side4 => exact HC0_2.out)
    rintro e w53 ⟨rfl, hb⟩
    refine ⟨_, rfl, ?_⟩
    replace HO546 := rb HO546 hb
    replace HO549 := rb HO549 hb
    replace BK538 := bb BK538 hb
    replace BK539 := bb BK539 hb
    replace BK550 := bb BK550 hb
    replace HB := aM (below_step (kl HB) hb)
    (try clear hb)
    (try clear hb2)
    (try clear hk)
    (try clear hi)
    refine hK.out _ _ ⟨bc BK550 0, bc BK550 1, bc BK550 2, bc BK538 0, bc BK538 1, bc BK538 2, bc BK539 0, bc BK539 1, bc BK539 2⟩ (fun hHeld => ?_)
    clear hK K
    refine norm_ (a' := ?_) ?_ ?_
    rotate_left
    ·show Act.put _ (some 42) _ = _
     simp only [Act.put, List.setIfInBounds_toArray, List.set_cons_zero, List.set_cons_succ, i64_w, i32_w]
     rfl
    refine pure_ (i := 4) (N := some 43) (v := ?_) (a' := ?_) #[Y,Y,Y,Y,Y,N,N,N,N,N,N,N,N,N,N,N,N,N,N,N,N,N,N,N,N,N,N,N,N] rfl rfl (any_of HT_.out (by kernel_rfl)) (fun _ _ _ h => h) (Or.inl ⟨by rfl, ?_⟩) ?_ ?_
    rotate_left
    ·intro w'
     go_simp
     with_reducible rfl
    rotate_left
    ·simp only [Act.put, List.setIfInBounds_toArray, List.set_cons_zero, List.set_cons_succ, i64_w, i32_w]
     rfl
    refine pure_ (i := 5) (N := some 44) (v := ?_) (a' := ?_) #[Y,Y,Y,Y,Y,Y,N,N,N,N,N,N,N,N,N,N,N,N,N,N,N,N,N,N,N,N,N,N,N] rfl rfl (any_of HT_.out (by kernel_rfl)) (fun _ _ _ h => h) (Or.inl ⟨by rfl, ?_⟩) ?_ ?_
    rotate_left
    ·intro w'
     go_simp
     with_reducible rfl
    rotate_left
    ·simp only [Act.put, List.setIfInBounds_toArray, List.set_cons_zero, List.set_cons_succ, i64_w, i32_w]
     rfl
    refine take_ (i := 6) (N := some 45) (v := ?_) (a' := ?_) #[Y,Y,Y,Y,Y,Y,Y,N,N,N,N,N,N,N,N,N,N,N,N,N,N,N,N,N,N,N,N,N,N] rfl rfl (take_ofW HT_.out HW_.out (by kernel_rfl)) (fun _ _ _ h => h) (Or.inl ⟨by rfl, ?_⟩) hHeld ?_ ?_
    rotate_left
    ·rintro w' ⟨s0, s1, s2, s3, s4, s5, s6, s7, s8⟩
     go_simp
     with_reducible rfl
    rotate_left
    ·simp only [Act.put, List.setIfInBounds_toArray, List.set_cons_zero, List.set_cons_succ, i64_w, i32_w]
     rfl
    refine take_ (i := 8) (N := some 47) (v := ?_) (a' := ?_) #[Y,Y,Y,Y,Y,Y,Y,N,Y,N,N,N,N,N,N,N,N,N,N,N,N,N,N,N,N,N,N,N,N] rfl rfl (take_ofW HT_.out HW_.out (by kernel_rfl)) (fun _ _ _ h => h) (Or.inl ⟨by rfl, ?_⟩) hHeld ?_ ?_
    rotate_left
    ·rintro w' ⟨s0, s1, s2, s3, s4, s5, s6, s7, s8⟩
     go_simp
     with_reducible rfl
    rotate_left
    ·simp only [Act.put, List.setIfInBounds_toArray, List.set_cons_zero, List.set_cons_succ, i64_w, i32_w]
     rfl
    refine one_ (i := 7) (N := some 46) #[Y,Y,Y,Y,Y,Y,Y,Y,Y,N,N,N,N,N,N,N,N,N,N,N,N,N,N,N,N,N,N,N,N] rfl rfl (one_of HT_.out (by kernel_rfl)) (by decide) (fun K hK => ?_)
    refine goes_ Try.func18 (by kernel_rfl) rfl #[.agg #[.bool t543, .slice Ao36 t544.length co36, .slice Ao37 t547.length co37]] (by rfl) rfl rfl (by (try simp only [List.map_toArray, List.map_cons, List.map_nil]); first | done | rfl | (simp only [List.length_drop, List.length_take]; rfl)) ?_
    with_reducible refine (leaf_Size.calls kj3 t543 _ _ t544 _ _ t547 t553 _ ?side1 ?side2 ?side3 ?side4 A41.out).mono ?_
    (case side1 => exact kc (Kd.R_reads' HO546.out).2.2)
    (case side2 => exact (Kd.R_reads' HO546.out).2.1)
    (case side3 => exact kc (Kd.R_reads' HO549.out).2.2)
    (case side4 => exact (Kd.R_reads' HO549.out).2.1)
    rintro e w54 ⟨rfl, hb⟩
    refine ⟨_, rfl, ?_⟩
    replace HO546 := rb HO546 hb
    replace HO549 := rb HO549 hb
    replace BK538 := bb BK538 hb
    replace BK539 := bb BK539 hb
    replace BK550 := bb BK550 hb
    replace HB := aM (below_step (kl HB) hb)
    (try clear hb)
    (try clear hb2)
    (try clear hk)
    (try clear hi)
    refine hK.out _ _ ⟨bc BK550 0, bc BK550 1, bc BK550 2, bc BK538 0, bc BK538 1, bc BK538 2, bc BK539 0, bc BK539 1, bc BK539 2⟩ (fun hHeld => ?_)
    clear hK K
    refine norm_ (a' := ?_) ?_ ?_
    rotate_left
    ·show Act.put _ (some 46) _ = _
     simp only [Act.put, List.setIfInBounds_toArray, List.set_cons_zero, List.set_cons_succ, i64_w, i32_w]
     rfl
    refine one_ (i := 9) (N := some 48) #[Y,Y,Y,Y,Y,Y,Y,Y,Y,Y,N,N,N,N,N,N,N,N,N,N,N,N,N,N,N,N,N,N,N] rfl rfl (one_of HT_.out (by kernel_rfl)) (by decide) (fun K hK => ?_)
    refine goes_ Try.func22 (by kernel_rfl) rfl #[.agg #[.bool a0_0, .slice A0_1 l0_1.length c0_1, .slice A0_2 l0_2.length c0_2]] (by rfl) rfl rfl (by (try simp only [List.map_toArray, List.map_cons, List.map_nil]); first | done | rfl | (simp only [List.length_drop, List.length_take]; rfl)) ?_
    with_reducible refine (rf_Size.calls kj3 a0_0 _ _ l0_1 _ _ l0_2 t554 _ ?side1 ?side2 ?side3 ?side4 A42.out).mono ?_
    (case side1 => exact kc (Kd.C_below HR0_1.out HB.out))
    (case side2 => exact HC0_1.out)
    (case side3 => exact kc (Kd.C_below HR0_2.out HB.out))
    (case side4 => exact HC0_2.out)
    rintro e w55 ⟨rfl, hb⟩
    refine ⟨_, rfl, ?_⟩
    replace HO546 := rb HO546 hb
    replace HO549 := rb HO549 hb
    replace BK538 := bb BK538 hb
    replace BK539 := bb BK539 hb
    replace BK550 := bb BK550 hb
    replace HB := aM (below_step (kl HB) hb)
    (try clear hb)
    (try clear hb2)
    (try clear hk)
    (try clear hi)
    refine hK.out _ _ ⟨bc BK550 0, bc BK550 1, bc BK550 2, bc BK538 0, bc BK538 1, bc BK538 2, bc BK539 0, bc BK539 1, bc BK539 2⟩ (fun hHeld => ?_)
    clear hK K
    refine norm_ (a' := ?_) ?_ ?_
    rotate_left
    ·show Act.put _ (some 48) _ = _
     simp only [Act.put, List.setIfInBounds_toArray, List.set_cons_zero, List.set_cons_succ, i64_w, i32_w]
     rfl
    refine pure_ (i := 10) (N := some 49) (v := ?_) (a' := ?_) #[Y,Y,Y,Y,Y,Y,Y,Y,Y,Y,Y,N,N,N,N,N,N,N,N,N,N,N,N,N,N,N,N,N,N] rfl rfl (any_of HT_.out (by kernel_rfl)) (fun _ _ _ h => h) (Or.inl ⟨by rfl, ?_⟩) ?_ ?_
    rotate_left
    ·intro w'
     go_simp
     with_reducible rfl
    rotate_left
    ·simp only [Act.put, List.setIfInBounds_toArray, List.set_cons_zero, List.set_cons_succ, i64_w, i32_w]
     rfl
    refine pure_ (i := 11) (N := some 50) (v := ?_) (a' := ?_) #[Y,Y,Y,Y,Y,Y,Y,Y,Y,Y,Y,Y,N,N,N,N,N,N,N,N,N,N,N,N,N,N,N,N,N] rfl rfl (any_of HT_.out (by kernel_rfl)) (fun _ _ _ h => h) (Or.inl ⟨by rfl, ?_⟩) ?_ ?_
    rotate_left
    ·intro w'
     go_simp
     with_reducible rfl
    rotate_left
    ·simp only [Act.put, List.setIfInBounds_toArray, List.set_cons_zero, List.set_cons_succ, i64_w, i32_w]
     rfl
    refine pure_ (i := 12) (N := some 51) (v := ?_) (a' := ?_) #[Y,Y,Y,Y,Y,Y,Y,Y,Y,Y,Y,Y,Y,N,N,N,N,N,N,N,N,N,N,N,N,N,N,N,N] rfl rfl (any_of HT_.out (by kernel_rfl)) (fun _ _ _ h => h) (Or.inl ⟨by rfl, ?_⟩) ?_ ?_
    rotate_left
    ·intro w'
     go_simp
     with_reducible rfl
    rotate_left
    ·simp only [Act.put, List.setIfInBounds_toArray, List.set_cons_zero, List.set_cons_succ, i64_w, i32_w]
     rfl
    refine take_ (i := 13) (N := some 52) (v := ?_) (a' := ?_) #[Y,Y,Y,Y,Y,Y,Y,Y,Y,Y,Y,Y,Y,Y,N,N,N,N,N,N,N,N,N,N,N,N,N,N,N] rfl rfl (take_ofW HT_.out HW_.out (by kernel_rfl)) (fun _ _ _ h => h) (Or.inl ⟨by rfl, ?_⟩) hHeld ?_ ?_
    rotate_left
    ·rintro w' ⟨s0, s1, s2, s3, s4, s5, s6, s7, s8⟩
     go_simp
     with_reducible rfl
    rotate_left
    ·simp only [Act.put, List.setIfInBounds_toArray, List.set_cons_zero, List.set_cons_succ, i64_w, i32_w]
     rfl
    refine take_ (i := 15) (N := some 54) (v := ?_) (a' := ?_) #[Y,Y,Y,Y,Y,Y,Y,Y,Y,Y,Y,Y,Y,Y,N,Y,N,N,N,N,N,N,N,N,N,N,N,N,N] rfl rfl (take_ofW HT_.out HW_.out (by kernel_rfl)) (fun _ _ _ h => h) (Or.inl ⟨by rfl, ?_⟩) hHeld ?_ ?_
    rotate_left
    ·rintro w' ⟨s0, s1, s2, s3, s4, s5, s6, s7, s8⟩
     go_simp
     with_reducible rfl
    rotate_left
    ·simp only [Act.put, List.setIfInBounds_toArray, List.set_cons_zero, List.set_cons_succ, i64_w, i32_w]
     rfl
    refine one_ (i := 14) (N := some 53) #[Y,Y,Y,Y,Y,Y,Y,Y,Y,Y,Y,Y,Y,Y,Y,Y,N,N,N,N,N,N,N,N,N,N,N,N,N] rfl rfl (one_of HT_.out (by kernel_rfl)) (by decide) (fun K hK => ?_)
    refine goes_ Try.func19 (by kernel_rfl) rfl #[.agg #[.bool t543, .slice Ao36 t544.length co36, .slice Ao37 t547.length co37]] (by rfl) rfl rfl (by (try simp only [List.map_toArray, List.map_cons, List.map_nil]); first | done | rfl | (simp only [List.length_drop, List.length_take]; rfl)) ?_
    with_reducible refine (leaf_Fits.calls kj3 t543 _ _ t544 _ _ t547 t555 _ ?side1 ?side2 ?side3 ?side4 A44.out).mono ?_
    (case side1 => exact kc (Kd.R_reads' HO546.out).2.2)
    (case side2 => exact (Kd.R_reads' HO546.out).2.1)
    (case side3 => exact kc (Kd.R_reads' HO549.out).2.2)
    (case side4 => exact (Kd.R_reads' HO549.out).2.1)
    rintro e w56 ⟨rfl, hb⟩
    refine ⟨_, rfl, ?_⟩
    replace HO546 := rb HO546 hb
    replace HO549 := rb HO549 hb
    replace BK538 := bb BK538 hb
    replace BK539 := bb BK539 hb
    replace BK550 := bb BK550 hb
    replace HB := aM (below_step (kl HB) hb)
    (try clear hb)
    (try clear hb2)
    (try clear hk)
    (try clear hi)
    refine hK.out _ _ ⟨bc BK550 0, bc BK550 1, bc BK550 2, bc BK538 0, bc BK538 1, bc BK538 2, bc BK539 0, bc BK539 1, bc BK539 2⟩ (fun hHeld => ?_)
    clear hK K
    refine norm_ (a' := ?_) ?_ ?_
    rotate_left
    ·show Act.put _ (some 53) _ = _
     simp only [Act.put, List.setIfInBounds_toArray, List.set_cons_zero, List.set_cons_succ, i64_w, i32_w]
     rfl
    refine one_ (i := 16) (N := some 55) #[Y,Y,Y,Y,Y,Y,Y,Y,Y,Y,Y,Y,Y,Y,Y,Y,Y,N,N,N,N,N,N,N,N,N,N,N,N] rfl rfl (one_of HT_.out (by kernel_rfl)) (by decide) (fun K hK => ?_)
    refine goes_ Try.func23 (by kernel_rfl) rfl #[.agg #[.bool a0_0, .slice A0_1 l0_1.length c0_1, .slice A0_2 l0_2.length c0_2]] (by rfl) rfl rfl (by (try simp only [List.map_toArray, List.map_cons, List.map_nil]); first | done | rfl | (simp only [List.length_drop, List.length_take]; rfl)) ?_
    with_reducible refine (rf_Fits.calls kj3 a0_0 _ _ l0_1 _ _ l0_2 t556 _ ?side1 ?side2 ?side3 ?side4 A45.out).mono ?_
    (case side1 => exact kc (Kd.C_below HR0_1.out HB.out))
    (case side2 => exact HC0_1.out)
    (case side3 => exact kc (Kd.C_below HR0_2.out HB.out))
    (case side4 => exact HC0_2.out)
    rintro e w57 ⟨rfl, hb⟩
    refine ⟨_, rfl, ?_⟩
    replace HO546 := rb HO546 hb
    replace HO549 := rb HO549 hb
    replace BK538 := bb BK538 hb
    replace BK539 := bb BK539 hb
    replace BK550 := bb BK550 hb
    replace HB := aM (below_step (kl HB) hb)
    (try clear hb)
    (try clear hb2)
    (try clear hk)
    (try clear hi)
    refine hK.out _ _ ⟨bc BK550 0, bc BK550 1, bc BK550 2, bc BK538 0, bc BK538 1, bc BK538 2, bc BK539 0, bc BK539 1, bc BK539 2⟩ (fun hHeld => ?_)
    clear hK K
    refine norm_ (a' := ?_) ?_ ?_
    rotate_left
    ·show Act.put _ (some 55) _ = _
     simp only [Act.put, List.setIfInBounds_toArray, List.set_cons_zero, List.set_cons_succ, i64_w, i32_w]
     rfl
    refine pure_ (i := 17) (N := some 56) (v := ?_) (a' := ?_) #[Y,Y,Y,Y,Y,Y,Y,Y,Y,Y,Y,Y,Y,Y,Y,Y,Y,Y,N,N,N,N,N,N,N,N,N,N,N] rfl rfl (any_of HT_.out (by kernel_rfl)) (fun _ _ _ h => h) (Or.inl ⟨by rfl, ?_⟩) ?_ ?_
    rotate_left
    ·intro w'
     go_simp
     with_reducible rfl
    rotate_left
    ·simp only [Act.put, List.setIfInBounds_toArray, List.set_cons_zero, List.set_cons_succ, i64_w, i32_w]
     rfl
    refine pure_ (i := 18) (N := some 57) (v := ?_) (a' := ?_) #[Y,Y,Y,Y,Y,Y,Y,Y,Y,Y,Y,Y,Y,Y,Y,Y,Y,Y,Y,N,N,N,N,N,N,N,N,N,N] rfl rfl (any_of HT_.out (by kernel_rfl)) (fun _ _ _ h => h) (Or.inl ⟨by rfl, ?_⟩) ?_ ?_
    rotate_left
    ·intro w'
     go_simp
     with_reducible rfl
    rotate_left
    ·simp only [Act.put, List.setIfInBounds_toArray, List.set_cons_zero, List.set_cons_succ, i64_w, i32_w]
     rfl
    refine pure_ (i := 19) (N := some 58) (v := ?_) (a' := ?_) #[Y,Y,Y,Y,Y,Y,Y,Y,Y,Y,Y,Y,Y,Y,Y,Y,Y,Y,Y,Y,N,N,N,N,N,N,N,N,N] rfl rfl (any_of HT_.out (by kernel_rfl)) (fun _ _ _ h => h) (Or.inl ⟨by rfl, ?_⟩) ?_ ?_
    rotate_left
    ·intro w'
     go_simp
     with_reducible rfl
    rotate_left
    ·simp only [Act.put, List.setIfInBounds_toArray, List.set_cons_zero, List.set_cons_succ, i64_w, i32_w]
     rfl
    refine take_ (i := 20) (N := some 59) (v := ?_) (a' := ?_) #[Y,Y,Y,Y,Y,Y,Y,Y,Y,Y,Y,Y,Y,Y,Y,Y,Y,Y,Y,Y,Y,N,N,N,N,N,N,N,N] rfl rfl (take_ofW HT_.out HW_.out (by kernel_rfl)) (fun _ _ _ h => h) (Or.inl ⟨by rfl, ?_⟩) hHeld ?_ ?_
    rotate_left
    ·rintro w' ⟨s0, s1, s2, s3, s4, s5, s6, s7, s8⟩
     go_simp
     with_reducible rfl
    rotate_left
    ·simp only [Act.put, List.setIfInBounds_toArray, List.set_cons_zero, List.set_cons_succ, i64_w, i32_w]
     rfl
    refine take_ (i := 21) (N := some 60) (v := ?_) (a' := ?_) #[Y,Y,Y,Y,Y,Y,Y,Y,Y,Y,Y,Y,Y,Y,Y,Y,Y,Y,Y,Y,Y,Y,N,N,N,N,N,N,N] rfl rfl (take_ofW HT_.out HW_.out (by kernel_rfl)) (fun _ _ _ h => h) (Or.inl ⟨by rfl, ?_⟩) hHeld ?_ ?_
    rotate_left
    ·rintro w' ⟨s0, s1, s2, s3, s4, s5, s6, s7, s8⟩
     go_simp
     with_reducible rfl
    rotate_left
    ·simp only [Act.put, List.setIfInBounds_toArray, List.set_cons_zero, List.set_cons_succ, i64_w, i32_w]
     rfl
    refine take_ (i := 24) (N := some 63) (v := ?_) (a' := ?_) #[Y,Y,Y,Y,Y,Y,Y,Y,Y,Y,Y,Y,Y,Y,Y,Y,Y,Y,Y,Y,Y,Y,N,N,Y,N,N,N,N] rfl rfl (take_ofW HT_.out HW_.out (by kernel_rfl)) (fun _ _ _ h => h) (Or.inl ⟨by rfl, ?_⟩) hHeld ?_ ?_
    rotate_left
    ·rintro w' ⟨s0, s1, s2, s3, s4, s5, s6, s7, s8⟩
     go_simp
     with_reducible rfl
    rotate_left
    ·simp only [Act.put, List.setIfInBounds_toArray, List.set_cons_zero, List.set_cons_succ, i64_w, i32_w]
     rfl
    refine take_ (i := 25) (N := some 64) (v := ?_) (a' := ?_) #[Y,Y,Y,Y,Y,Y,Y,Y,Y,Y,Y,Y,Y,Y,Y,Y,Y,Y,Y,Y,Y,Y,N,N,Y,Y,N,N,N] rfl rfl (take_ofW HT_.out HW_.out (by kernel_rfl)) (fun _ _ _ h => h) (Or.inl ⟨by rfl, ?_⟩) hHeld ?_ ?_
    rotate_left
    ·rintro w' ⟨s0, s1, s2, s3, s4, s5, s6, s7, s8⟩
     go_simp
     with_reducible rfl
    rotate_left
    ·simp only [Act.put, List.setIfInBounds_toArray, List.set_cons_zero, List.set_cons_succ, i64_w, i32_w]
     rfl
    refine one_ (i := 22) (N := some 61) #[Y,Y,Y,Y,Y,Y,Y,Y,Y,Y,Y,Y,Y,Y,Y,Y,Y,Y,Y,Y,Y,Y,Y,N,Y,Y,N,N,N] rfl rfl (one_of HT_.out (by kernel_rfl)) (by decide) (fun K hK => ?_)
    refine goes_ Try.func12 (by kernel_rfl) rfl #[.agg #[.bool a1_0, .slice A1_1 l1_1.length c1_1, .slice A1_2 l1_2.length c1_2]] (by rfl) rfl rfl (by (try simp only [List.map_toArray, List.map_cons, List.map_nil]); first | done | rfl | (simp only [List.length_drop, List.length_take]; rfl)) ?_
    with_reducible refine (lw_given.calls kj3 a1_0 _ _ l1_1 _ _ l1_2 t557 t558 t561 _ ?side1 ?side2 ?side3 ?side4 A47.out).mono ?_
    (case side1 => exact kc (Kd.C_below HR1_1.out HB.out))
    (case side2 => exact HC1_1.out)
    (case side3 => exact kc (Kd.C_below HR1_2.out HB.out))
    (case side4 => exact HC1_2.out)
    rintro e w58 ⟨v559, v562, rfl, ho0, ho1, hb⟩
    refine ⟨_, rfl, ?_⟩
    have HO560 := aM (Kd.R_lower (Kd.R_new' ho0 (Kd.R_lt (kr HO546))) (below_size (kl HB)))
    replace HO546 := aM (Kd.R_elder' (kr HO546) (Kd.R_base ho0) hb)
    have HO563 := aM (Kd.R_lower (Kd.R_new' ho1 (Kd.R_lt (kr HO549))) (below_size (kl HB)))
    replace HO549 := aM (Kd.R_elder' (kr HO549) (Kd.R_base ho1) hb)
    replace BK538 := bb BK538 hb
    replace BK539 := bb BK539 hb
    replace BK550 := bb BK550 hb
    replace HB := aM (below_step (kl HB) hb)
    (try clear hb)
    (try clear hb2)
    (try clear hk)
    (try clear hi)
    (try clear ho0)
    (try clear ho1)
    obtain ⟨Ao59, co59, eo59⟩ := Kd.R_slice HO560.out
    (first | subst eo59 | (injection eo59 with f1_ f2_ f3_; have f4_ := f1_.symm; have f5_ := f3_.symm; clear f1_ f2_ f3_; subst f4_; subst f5_))
    obtain ⟨Ao60, co60, eo60⟩ := Kd.R_slice HO563.out
    (first | subst eo60 | (injection eo60 with f1_ f2_ f3_; have f4_ := f1_.symm; have f5_ := f3_.symm; clear f1_ f2_ f3_; subst f4_; subst f5_))
    refine hK.out _ _ ⟨bc BK550 0, bc BK550 1, bc BK550 2, bc BK538 0, bc BK538 1, bc BK538 2, bc BK539 0, bc BK539 1, bc BK539 2⟩ (fun hHeld => ?_)
    clear hK K
    refine norm_ (a' := ?_) ?_ ?_
    rotate_left
    ·show Act.put _ (some 61) _ = _
     simp only [Act.put, List.setIfInBounds_toArray, List.set_cons_zero, List.set_cons_succ, i64_w, i32_w]
     rfl
    refine one_ (i := 23) (N := some 62) #[Y,Y,Y,Y,Y,Y,Y,Y,Y,Y,Y,Y,Y,Y,Y,Y,Y,Y,Y,Y,Y,Y,Y,Y,Y,Y,N,N,N] rfl rfl (one_of HT_.out (by kernel_rfl)) (by decide) (fun K hK => ?_)
    refine goes_ Try.func17 (by kernel_rfl) rfl #[.agg #[.bool t543, .slice Ao36 t544.length co36, .slice Ao37 t547.length co37], .agg #[.bool t557, .slice Ao59 t558.length co59, .slice Ao60 t561.length co60]] (by rfl) rfl rfl (by (try simp only [List.map_toArray, List.map_cons, List.map_nil]); first | done | rfl | (simp only [List.length_drop, List.length_take]; rfl)) ?_
    with_reducible refine (leaf_Same.calls kj3 t543 _ _ t544 _ _ t547 t557 _ _ t558 _ _ t561 t564 _ ?side1 ?side2 ?side3 ?side4 ?side5 ?side6 ?side7 ?side8 A48.out).mono ?_
    (case side1 => exact kc (Kd.R_reads' HO546.out).2.2)
    (case side2 => exact (Kd.R_reads' HO546.out).2.1)
    (case side3 => exact kc (Kd.R_reads' HO549.out).2.2)
    (case side4 => exact (Kd.R_reads' HO549.out).2.1)
    (case side5 => exact kc (Kd.R_reads' HO560.out).2.2)
    (case side6 => exact (Kd.R_reads' HO560.out).2.1)
    (case side7 => exact kc (Kd.R_reads' HO563.out).2.2)
    (case side8 => exact (Kd.R_reads' HO563.out).2.1)
    rintro e w61 ⟨rfl, hb⟩
    refine ⟨_, rfl, ?_⟩
    replace HO546 := rb HO546 hb
    replace HO549 := rb HO549 hb
    replace HO560 := rb HO560 hb
    replace HO563 := rb HO563 hb
    replace BK538 := bb BK538 hb
    replace BK539 := bb BK539 hb
    replace BK550 := bb BK550 hb
    replace HB := aM (below_step (kl HB) hb)
    (try clear hb)
    (try clear hb2)
    (try clear hk)
    (try clear hi)
    refine hK.out _ _ ⟨bc BK550 0, bc BK550 1, bc BK550 2, bc BK538 0, bc BK538 1, bc BK538 2, bc BK539 0, bc BK539 1, bc BK539 2⟩ (fun hHeld => ?_)
    clear hK K
    refine norm_ (a' := ?_) ?_ ?_
    rotate_left
    ·show Act.put _ (some 62) _ = _
     simp only [Act.put, List.setIfInBounds_toArray, List.set_cons_zero, List.set_cons_succ, i64_w, i32_w]
     rfl
    refine one_ (i := 26) (N := some 65) #[Y,Y,Y,Y,Y,Y,Y,Y,Y,Y,Y,Y,Y,Y,Y,Y,Y,Y,Y,Y,Y,Y,Y,Y,Y,Y,Y,N,N] rfl rfl (one_of HT_.out (by kernel_rfl)) (by decide) (fun K hK => ?_)
    refine goes_ Try.func24 (by kernel_rfl) rfl #[.agg #[.bool a0_0, .slice A0_1 l0_1.length c0_1, .slice A0_2 l0_2.length c0_2], .agg #[.bool a1_0, .slice A1_1 l1_1.length c1_1, .slice A1_2 l1_2.length c1_2]] (by rfl) rfl rfl (by (try simp only [List.map_toArray, List.map_cons, List.map_nil]); first | done | rfl | (simp only [List.length_drop, List.length_take]; rfl)) ?_
    with_reducible refine (rf_Same.calls kj3 a0_0 _ _ l0_1 _ _ l0_2 a1_0 _ _ l1_1 _ _ l1_2 t565 _ ?side1 ?side2 ?side3 ?side4 ?side5 ?side6 ?side7 ?side8 A49.out).mono ?_
    (case side1 => exact kc (Kd.C_below HR0_1.out HB.out))
    (case side2 => exact HC0_1.out)
    (case side3 => exact kc (Kd.C_below HR0_2.out HB.out))
    (case side4 => exact HC0_2.out)
    (case side5 => exact kc (Kd.C_below HR1_1.out HB.out))
    (case side6 => exact HC1_1.out)
    (case side7 => exact kc (Kd.C_below HR1_2.out HB.out))
    (case side8 => exact HC1_2.out)
    rintro e w62 ⟨rfl, hb⟩
    refine ⟨_, rfl, ?_⟩
    replace HO546 := rb HO546 hb
    replace HO549 := rb HO549 hb
    replace HO560 := rb HO560 hb
    replace HO563 := rb HO563 hb
    replace BK538 := bb BK538 hb
    replace BK539 := bb BK539 hb
    replace BK550 := bb BK550 hb
    replace HB := aM (below_step (kl HB) hb)
    (try clear hb)
    (try clear hb2)
    (try clear hk)
    (try clear hi)
    refine hK.out _ _ ⟨bc BK550 0, bc BK550 1, bc BK550 2, bc BK538 0, bc BK538 1, bc BK538 2, bc BK539 0, bc BK539 1, bc BK539 2⟩ (fun hHeld => ?_)
    clear hK K
    refine norm_ (a' := ?_) ?_ ?_
    rotate_left
    ·show Act.put _ (some 65) _ = _
     simp only [Act.put, List.setIfInBounds_toArray, List.set_cons_zero, List.set_cons_succ, i64_w, i32_w]
     rfl
    refine pure_ (i := 27) (N := some 66) (v := ?_) (a' := ?_) #[Y,Y,Y,Y,Y,Y,Y,Y,Y,Y,Y,Y,Y,Y,Y,Y,Y,Y,Y,Y,Y,Y,Y,Y,Y,Y,Y,Y,N] rfl rfl (any_of HT_.out (by kernel_rfl)) (fun _ _ _ h => h) (Or.inl ⟨by rfl, ?_⟩) ?_ ?_
    rotate_left
    ·intro w'
     go_simp
     with_reducible rfl
    rotate_left
    ·simp only [Act.put, List.setIfInBounds_toArray, List.set_cons_zero, List.set_cons_succ, i64_w, i32_w]
     rfl
    refine pure_ (i := 28) (N := some 67) (v := ?_) (a' := ?_) #[Y,Y,Y,Y,Y,Y,Y,Y,Y,Y,Y,Y,Y,Y,Y,Y,Y,Y,Y,Y,Y,Y,Y,Y,Y,Y,Y,Y,Y] rfl rfl (any_of HT_.out (by kernel_rfl)) (fun _ _ _ h => h) (Or.inl ⟨by rfl, ?_⟩) ?_ ?_
    rotate_left
    ·intro w'
     go_simp
     with_reducible rfl
    rotate_left
    ·simp only [Act.put, List.setIfInBounds_toArray, List.set_cons_zero, List.set_cons_succ, i64_w, i32_w]
     rfl
    refine done_ (done_of HT_.out (by kernel_rfl)) ?_
    try go_wp2
    go_meet
    case rel => exact ⟨_, ((t564 != t565)), (by first | rfl | (simp; done) | (simp [*]; done)), H', ⟨by have := HJ3.out; first | omega | exact Nat.le_refl _⟩, ⟨by (with_reducible repeat (first | apply Kd.R_alloc | apply Kd.R_drewN | apply Kd.R_drew)); exact Kd.R_mono HO546.out (fun _ hk => trivial)⟩, ⟨by (with_reducible repeat (first | apply Kd.R_alloc | apply Kd.R_drewN | apply Kd.R_drew)); exact Kd.R_mono HO549.out (fun _ hk => trivial)⟩, ⟨kb BK538⟩, ⟨kb BK539⟩, ⟨kb BK550⟩, ⟨kl HB⟩⟩
   case rest =>
    clear HC28
    try clear c1
    try clear c2
    try clear p2
    try clear c4
    try clear c12
    try clear c13
    try clear c17
    try clear c18
    try clear c19
    try clear c21
    try clear c22
    try clear c23
    try clear c24
    try clear c43
    obtain ⟨kq, x67_27, rfl, HA, HJ27, HO_551001, HO_551002, BK538, BK539, BK550, HB⟩ := hcut
    cases kq with
    | zero => exact absurd HA.out (by simp [lw_LeafTells.j1])
    | succ kj27 =>
     have H := HA.out
     clear HA
     simp only [lw_LeafTells.j1] at H
     by_cases c63 : x67_27 = true
     ·subst c63
      have H1 : (some false) = some r := by rw [if_pos rfl] at H; exact H
      clear H
      have H := H1
      clear H1
      exact absurd (H.trans (congrArg some hT.out)) (by decide)
     replace c63 := Bool.eq_false_iff.mpr c63
     subst c63
     have H1 : ((leaf_Encode.f t543 t544 t547).bind fun bt566 => ((rf_Encode.f kj27 a0_0 l0_1 l0_2).bind fun bt568 => ((leaf_Decode.f a2).bind fun bt570 => ((rf_Decode.f kj27 a2).bind fun bt579 => ((leaf_Split.f kj27 t543 t544 t547).bind fun bt588 => ((rf_Split.f kj27 a0_0 l0_1 l0_2).bind fun bt605 => (if bt566.1.toList = bt568.1.toList then (if bt566.2 = bt568.2 then ((lw_told.f kj27 bt570.1 bt570.2.1 bt570.2.2.1).bind fun bt622 => ((rf_Same.f kj27 bt622.1 bt622.2.1 bt622.2.2 bt579.1 bt579.2.1 bt579.2.2.1).bind fun t629 => (if t629 = true then (if bt570.2.2.2 = bt579.2.2.2 then ((lw_told.f kj27 bt588.1 bt588.2.1 bt588.2.2.1).bind fun bt630 => ((rf_Same.f kj27 bt630.1 bt630.2.1 bt630.2.2 bt605.1 bt605.2.1 bt605.2.2.1).bind fun t637 => (if t637 = true then ((lw_told.f kj27 bt588.2.2.2.1 bt588.2.2.2.2.1 bt588.2.2.2.2.2.1).bind fun bt638 => ((rf_Same.f kj27 bt638.1 bt638.2.1 bt638.2.2 bt605.2.2.2.1 bt605.2.2.2.2.1 bt605.2.2.2.2.2.1).bind fun t645 => (if t645 = true then (lw_LeafTells.j2 kj27 (bt588.2.2.2.2.2.2 == bt605.2.2.2.2.2.2) a0_0 l0_1 l0_2 t543 t544 t547 bt588.1 bt588.2.1 bt588.2.2.1 bt588.2.2.2.1 bt588.2.2.2.2.1 bt588.2.2.2.2.2.1) else (lw_LeafTells.j2 kj27 false a0_0 l0_1 l0_2 t543 t544 t547 bt588.1 bt588.2.1 bt588.2.2.1 bt588.2.2.2.1 bt588.2.2.2.2.1 bt588.2.2.2.2.2.1)))) else (lw_LeafTells.j2 kj27 false a0_0 l0_1 l0_2 t543 t544 t547 bt588.1 bt588.2.1 bt588.2.2.1 bt588.2.2.2.1 bt588.2.2.2.2.1 bt588.2.2.2.2.2.1)))) else (lw_LeafTells.j2 kj27 false a0_0 l0_1 l0_2 t543 t544 t547 bt588.1 bt588.2.1 bt588.2.2.1 bt588.2.2.2.1 bt588.2.2.2.2.1 bt588.2.2.2.2.2.1)) else (lw_LeafTells.j2 kj27 false a0_0 l0_1 l0_2 t543 t544 t547 bt588.1 bt588.2.1 bt588.2.2.1 bt588.2.2.2.1 bt588.2.2.2.2.1 bt588.2.2.2.2.2.1)))) else (lw_LeafTells.j2 kj27 false a0_0 l0_1 l0_2 t543 t544 t547 bt588.1 bt588.2.1 bt588.2.2.1 bt588.2.2.2.1 bt588.2.2.2.2.1 bt588.2.2.2.2.2.1)) else (lw_LeafTells.j2 kj27 false a0_0 l0_1 l0_2 t543 t544 t547 bt588.1 bt588.2.1 bt588.2.2.1 bt588.2.2.2.1 bt588.2.2.2.2.1 bt588.2.2.2.2.2.1)))))))) = some r := by rw [if_neg (show ¬ (false = true) by decide)] at H; exact H
     clear H
     have H := H1
     clear H1
     replace H := Option.bind_eq_some_iff.mp H
     obtain ⟨⟨t566, t567⟩, A640, H⟩ := H
     replace H : ((rf_Encode.f kj27 a0_0 l0_1 l0_2).bind fun bt568 => ((leaf_Decode.f a2).bind fun bt570 => ((rf_Decode.f kj27 a2).bind fun bt579 => ((leaf_Split.f kj27 t543 t544 t547).bind fun bt588 => ((rf_Split.f kj27 a0_0 l0_1 l0_2).bind fun bt605 => (if t566.toList = bt568.1.toList then (if t567 = bt568.2 then ((lw_told.f kj27 bt570.1 bt570.2.1 bt570.2.2.1).bind fun bt622 => ((rf_Same.f kj27 bt622.1 bt622.2.1 bt622.2.2 bt579.1 bt579.2.1 bt579.2.2.1).bind fun t629 => (if t629 = true then (if bt570.2.2.2 = bt579.2.2.2 then ((lw_told.f kj27 bt588.1 bt588.2.1 bt588.2.2.1).bind fun bt630 => ((rf_Same.f kj27 bt630.1 bt630.2.1 bt630.2.2 bt605.1 bt605.2.1 bt605.2.2.1).bind fun t637 => (if t637 = true then ((lw_told.f kj27 bt588.2.2.2.1 bt588.2.2.2.2.1 bt588.2.2.2.2.2.1).bind fun bt638 => ((rf_Same.f kj27 bt638.1 bt638.2.1 bt638.2.2 bt605.2.2.2.1 bt605.2.2.2.2.1 bt605.2.2.2.2.2.1).bind fun t645 => (if t645 = true then (lw_LeafTells.j2 kj27 (bt588.2.2.2.2.2.2 == bt605.2.2.2.2.2.2) a0_0 l0_1 l0_2 t543 t544 t547 bt588.1 bt588.2.1 bt588.2.2.1 bt588.2.2.2.1 bt588.2.2.2.2.1 bt588.2.2.2.2.2.1) else (lw_LeafTells.j2 kj27 false a0_0 l0_1 l0_2 t543 t544 t547 bt588.1 bt588.2.1 bt588.2.2.1 bt588.2.2.2.1 bt588.2.2.2.2.1 bt588.2.2.2.2.2.1)))) else (lw_LeafTells.j2 kj27 false a0_0 l0_1 l0_2 t543 t544 t547 bt588.1 bt588.2.1 bt588.2.2.1 bt588.2.2.2.1 bt588.2.2.2.2.1 bt588.2.2.2.2.2.1)))) else (lw_LeafTells.j2 kj27 false a0_0 l0_1 l0_2 t543 t544 t547 bt588.1 bt588.2.1 bt588.2.2.1 bt588.2.2.2.1 bt588.2.2.2.2.1 bt588.2.2.2.2.2.1)) else (lw_LeafTells.j2 kj27 false a0_0 l0_1 l0_2 t543 t544 t547 bt588.1 bt588.2.1 bt588.2.2.1 bt588.2.2.2.1 bt588.2.2.2.2.1 bt588.2.2.2.2.2.1)))) else (lw_LeafTells.j2 kj27 false a0_0 l0_1 l0_2 t543 t544 t547 bt588.1 bt588.2.1 bt588.2.2.1 bt588.2.2.2.1 bt588.2.2.2.2.1 bt588.2.2.2.2.2.1)) else (lw_LeafTells.j2 kj27 false a0_0 l0_1 l0_2 t543 t544 t547 bt588.1 bt588.2.1 bt588.2.2.1 bt588.2.2.2.1 bt588.2.2.2.2.1 bt588.2.2.2.2.2.1))))))) = some r := H
     have A64 := aM A640
     clear A640
     replace H := Option.bind_eq_some_iff.mp H
     obtain ⟨⟨t568, t569⟩, A650, H⟩ := H
     replace H : ((leaf_Decode.f a2).bind fun bt570 => ((rf_Decode.f kj27 a2).bind fun bt579 => ((leaf_Split.f kj27 t543 t544 t547).bind fun bt588 => ((rf_Split.f kj27 a0_0 l0_1 l0_2).bind fun bt605 => (if t566.toList = t568.toList then (if t567 = t569 then ((lw_told.f kj27 bt570.1 bt570.2.1 bt570.2.2.1).bind fun bt622 => ((rf_Same.f kj27 bt622.1 bt622.2.1 bt622.2.2 bt579.1 bt579.2.1 bt579.2.2.1).bind fun t629 => (if t629 = true then (if bt570.2.2.2 = bt579.2.2.2 then ((lw_told.f kj27 bt588.1 bt588.2.1 bt588.2.2.1).bind fun bt630 => ((rf_Same.f kj27 bt630.1 bt630.2.1 bt630.2.2 bt605.1 bt605.2.1 bt605.2.2.1).bind fun t637 => (if t637 = true then ((lw_told.f kj27 bt588.2.2.2.1 bt588.2.2.2.2.1 bt588.2.2.2.2.2.1).bind fun bt638 => ((rf_Same.f kj27 bt638.1 bt638.2.1 bt638.2.2 bt605.2.2.2.1 bt605.2.2.2.2.1 bt605.2.2.2.2.2.1).bind fun t645 => (if t645 = true then (lw_LeafTells.j2 kj27 (bt588.2.2.2.2.2.2 == bt605.2.2.2.2.2.2) a0_0 l0_1 l0_2 t543 t544 t547 bt588.1 bt588.2.1 bt588.2.2.1 bt588.2.2.2.1 bt588.2.2.2.2.1 bt588.2.2.2.2.2.1) else (lw_LeafTells.j2 kj27 false a0_0 l0_1 l0_2 t543 t544 t547 bt588.1 bt588.2.1 bt588.2.2.1 bt588.2.2.2.1 bt588.2.2.2.2.1 bt588.2.2.2.2.2.1)))) else (lw_LeafTells.j2 kj27 false a0_0 l0_1 l0_2 t543 t544 t547 bt588.1 bt588.2.1 bt588.2.2.1 bt588.2.2.2.1 bt588.2.2.2.2.1 bt588.2.2.2.2.2.1)))) else (lw_LeafTells.j2 kj27 false a0_0 l0_1 l0_2 t543 t544 t547 bt588.1 bt588.2.1 bt588.2.2.1 bt588.2.2.2.1 bt588.2.2.2.2.1 bt588.2.2.2.2.2.1)) else (lw_LeafTells.j2 kj27 false a0_0 l0_1 l0_2 t543 t544 t547 bt588.1 bt588.2.1 bt588.2.2.1 bt588.2.2.2.1 bt588.2.2.2.2.1 bt588.2.2.2.2.2.1)))) else (lw_LeafTells.j2 kj27 false a0_0 l0_1 l0_2 t543 t544 t547 bt588.1 bt588.2.1 bt588.2.2.1 bt588.2.2.2.1 bt588.2.2.2.2.1 bt588.2.2.2.2.2.1)) else (lw_LeafTells.j2 kj27 false a0_0 l0_1 l0_2 t543 t544 t547 bt588.1 bt588.2.1 bt588.2.2.1 bt588.2.2.2.1 bt588.2.2.2.2.1 bt588.2.2.2.2.2.1)))))) = some r := H
     have A65 := aM A650
     clear A650
     replace H := Option.bind_eq_some_iff.mp H
     obtain ⟨⟨t570, t571, t574, t577⟩, A660, H⟩ := H
     replace H : ((rf_Decode.f kj27 a2).bind fun bt579 => ((leaf_Split.f kj27 t543 t544 t547).bind fun bt588 => ((rf_Split.f kj27 a0_0 l0_1 l0_2).bind fun bt605 => (if t566.toList = t568.toList then (if t567 = t569 then ((lw_told.f kj27 t570 t571 t574).bind fun bt622 => ((rf_Same.f kj27 bt622.1 bt622.2.1 bt622.2.2 bt579.1 bt579.2.1 bt579.2.2.1).bind fun t629 => (if t629 = true then (if t577 = bt579.2.2.2 then ((lw_told.f kj27 bt588.1 bt588.2.1 bt588.2.2.1).bind fun bt630 => ((rf_Same.f kj27 bt630.1 bt630.2.1 bt630.2.2 bt605.1 bt605.2.1 bt605.2.2.1).bind fun t637 => (if t637 = true then ((lw_told.f kj27 bt588.2.2.2.1 bt588.2.2.2.2.1 bt588.2.2.2.2.2.1).bind fun bt638 => ((rf_Same.f kj27 bt638.1 bt638.2.1 bt638.2.2 bt605.2.2.2.1 bt605.2.2.2.2.1 bt605.2.2.2.2.2.1).bind fun t645 => (if t645 = true then (lw_LeafTells.j2 kj27 (bt588.2.2.2.2.2.2 == bt605.2.2.2.2.2.2) a0_0 l0_1 l0_2 t543 t544 t547 bt588.1 bt588.2.1 bt588.2.2.1 bt588.2.2.2.1 bt588.2.2.2.2.1 bt588.2.2.2.2.2.1) else (lw_LeafTells.j2 kj27 false a0_0 l0_1 l0_2 t543 t544 t547 bt588.1 bt588.2.1 bt588.2.2.1 bt588.2.2.2.1 bt588.2.2.2.2.1 bt588.2.2.2.2.2.1)))) else (lw_LeafTells.j2 kj27 false a0_0 l0_1 l0_2 t543 t544 t547 bt588.1 bt588.2.1 bt588.2.2.1 bt588.2.2.2.1 bt588.2.2.2.2.1 bt588.2.2.2.2.2.1)))) else (lw_LeafTells.j2 kj27 false a0_0 l0_1 l0_2 t543 t544 t547 bt588.1 bt588.2.1 bt588.2.2.1 bt588.2.2.2.1 bt588.2.2.2.2.1 bt588.2.2.2.2.2.1)) else (lw_LeafTells.j2 kj27 false a0_0 l0_1 l0_2 t543 t544 t547 bt588.1 bt588.2.1 bt588.2.2.1 bt588.2.2.2.1 bt588.2.2.2.2.1 bt588.2.2.2.2.2.1)))) else (lw_LeafTells.j2 kj27 false a0_0 l0_1 l0_2 t543 t544 t547 bt588.1 bt588.2.1 bt588.2.2.1 bt588.2.2.2.1 bt588.2.2.2.2.1 bt588.2.2.2.2.2.1)) else (lw_LeafTells.j2 kj27 false a0_0 l0_1 l0_2 t543 t544 t547 bt588.1 bt588.2.1 bt588.2.2.1 bt588.2.2.2.1 bt588.2.2.2.2.1 bt588.2.2.2.2.2.1))))) = some r := H
     have A66 := aM A660
     clear A660
     replace H := Option.bind_eq_some_iff.mp H
     obtain ⟨⟨t579, t580, t583, t586⟩, A670, H⟩ := H
     replace H : ((leaf_Split.f kj27 t543 t544 t547).bind fun bt588 => ((rf_Split.f kj27 a0_0 l0_1 l0_2).bind fun bt605 => (if t566.toList = t568.toList then (if t567 = t569 then ((lw_told.f kj27 t570 t571 t574).bind fun bt622 => ((rf_Same.f kj27 bt622.1 bt622.2.1 bt622.2.2 t579 t580 t583).bind fun t629 => (if t629 = true then (if t577 = t586 then ((lw_told.f kj27 bt588.1 bt588.2.1 bt588.2.2.1).bind fun bt630 => ((rf_Same.f kj27 bt630.1 bt630.2.1 bt630.2.2 bt605.1 bt605.2.1 bt605.2.2.1).bind fun t637 => (if t637 = true then ((lw_told.f kj27 bt588.2.2.2.1 bt588.2.2.2.2.1 bt588.2.2.2.2.2.1).bind fun bt638 => ((rf_Same.f kj27 bt638.1 bt638.2.1 bt638.2.2 bt605.2.2.2.1 bt605.2.2.2.2.1 bt605.2.2.2.2.2.1).bind fun t645 => (if t645 = true then (lw_LeafTells.j2 kj27 (bt588.2.2.2.2.2.2 == bt605.2.2.2.2.2.2) a0_0 l0_1 l0_2 t543 t544 t547 bt588.1 bt588.2.1 bt588.2.2.1 bt588.2.2.2.1 bt588.2.2.2.2.1 bt588.2.2.2.2.2.1) else (lw_LeafTells.j2 kj27 false a0_0 l0_1 l0_2 t543 t544 t547 bt588.1 bt588.2.1 bt588.2.2.1 bt588.2.2.2.1 bt588.2.2.2.2.1 bt588.2.2.2.2.2.1)))) else (lw_LeafTells.j2 kj27 false a0_0 l0_1 l0_2 t543 t544 t547 bt588.1 bt588.2.1 bt588.2.2.1 bt588.2.2.2.1 bt588.2.2.2.2.1 bt588.2.2.2.2.2.1)))) else (lw_LeafTells.j2 kj27 false a0_0 l0_1 l0_2 t543 t544 t547 bt588.1 bt588.2.1 bt588.2.2.1 bt588.2.2.2.1 bt588.2.2.2.2.1 bt588.2.2.2.2.2.1)) else (lw_LeafTells.j2 kj27 false a0_0 l0_1 l0_2 t543 t544 t547 bt588.1 bt588.2.1 bt588.2.2.1 bt588.2.2.2.1 bt588.2.2.2.2.1 bt588.2.2.2.2.2.1)))) else (lw_LeafTells.j2 kj27 false a0_0 l0_1 l0_2 t543 t544 t547 bt588.1 bt588.2.1 bt588.2.2.1 bt588.2.2.2.1 bt588.2.2.2.2.1 bt588.2.2.2.2.2.1)) else (lw_LeafTells.j2 kj27 false a0_0 l0_1 l0_2 t543 t544 t547 bt588.1 bt588.2.1 bt588.2.2.1 bt588.2.2.2.1 bt588.2.2.2.2.1 bt588.2.2.2.2.2.1)))) = some r := H
     have A67 := aM A670
     clear A670
     replace H := Option.bind_eq_some_iff.mp H
     obtain ⟨⟨t588, t589, t592, t595, t596, t599, t602⟩, A680, H⟩ := H
     replace H : ((rf_Split.f kj27 a0_0 l0_1 l0_2).bind fun bt605 => (if t566.toList = t568.toList then (if t567 = t569 then ((lw_told.f kj27 t570 t571 t574).bind fun bt622 => ((rf_Same.f kj27 bt622.1 bt622.2.1 bt622.2.2 t579 t580 t583).bind fun t629 => (if t629 = true then (if t577 = t586 then ((lw_told.f kj27 t588 t589 t592).bind fun bt630 => ((rf_Same.f kj27 bt630.1 bt630.2.1 bt630.2.2 bt605.1 bt605.2.1 bt605.2.2.1).bind fun t637 => (if t637 = true then ((lw_told.f kj27 t595 t596 t599).bind fun bt638 => ((rf_Same.f kj27 bt638.1 bt638.2.1 bt638.2.2 bt605.2.2.2.1 bt605.2.2.2.2.1 bt605.2.2.2.2.2.1).bind fun t645 => (if t645 = true then (lw_LeafTells.j2 kj27 (t602 == bt605.2.2.2.2.2.2) a0_0 l0_1 l0_2 t543 t544 t547 t588 t589 t592 t595 t596 t599) else (lw_LeafTells.j2 kj27 false a0_0 l0_1 l0_2 t543 t544 t547 t588 t589 t592 t595 t596 t599)))) else (lw_LeafTells.j2 kj27 false a0_0 l0_1 l0_2 t543 t544 t547 t588 t589 t592 t595 t596 t599)))) else (lw_LeafTells.j2 kj27 false a0_0 l0_1 l0_2 t543 t544 t547 t588 t589 t592 t595 t596 t599)) else (lw_LeafTells.j2 kj27 false a0_0 l0_1 l0_2 t543 t544 t547 t588 t589 t592 t595 t596 t599)))) else (lw_LeafTells.j2 kj27 false a0_0 l0_1 l0_2 t543 t544 t547 t588 t589 t592 t595 t596 t599)) else (lw_LeafTells.j2 kj27 false a0_0 l0_1 l0_2 t543 t544 t547 t588 t589 t592 t595 t596 t599))) = some r := H
     have A68 := aM A680
     clear A680
     replace H := Option.bind_eq_some_iff.mp H
     obtain ⟨⟨t605, t606, t609, t612, t613, t616, t619⟩, A690, H⟩ := H
     replace H : (if t566.toList = t568.toList then (if t567 = t569 then ((lw_told.f kj27 t570 t571 t574).bind fun bt622 => ((rf_Same.f kj27 bt622.1 bt622.2.1 bt622.2.2 t579 t580 t583).bind fun t629 => (if t629 = true then (if t577 = t586 then ((lw_told.f kj27 t588 t589 t592).bind fun bt630 => ((rf_Same.f kj27 bt630.1 bt630.2.1 bt630.2.2 t605 t606 t609).bind fun t637 => (if t637 = true then ((lw_told.f kj27 t595 t596 t599).bind fun bt638 => ((rf_Same.f kj27 bt638.1 bt638.2.1 bt638.2.2 t612 t613 t616).bind fun t645 => (if t645 = true then (lw_LeafTells.j2 kj27 (t602 == t619) a0_0 l0_1 l0_2 t543 t544 t547 t588 t589 t592 t595 t596 t599) else (lw_LeafTells.j2 kj27 false a0_0 l0_1 l0_2 t543 t544 t547 t588 t589 t592 t595 t596 t599)))) else (lw_LeafTells.j2 kj27 false a0_0 l0_1 l0_2 t543 t544 t547 t588 t589 t592 t595 t596 t599)))) else (lw_LeafTells.j2 kj27 false a0_0 l0_1 l0_2 t543 t544 t547 t588 t589 t592 t595 t596 t599)) else (lw_LeafTells.j2 kj27 false a0_0 l0_1 l0_2 t543 t544 t547 t588 t589 t592 t595 t596 t599)))) else (lw_LeafTells.j2 kj27 false a0_0 l0_1 l0_2 t543 t544 t547 t588 t589 t592 t595 t596 t599)) else (lw_LeafTells.j2 kj27 false a0_0 l0_1 l0_2 t543 t544 t547 t588 t589 t592 t595 t596 t599)) = some r := H
     have A69 := aM A690
     clear A690
     have HC70 := aM H
     clear H
     have hnb71 := NB550_538.out
     have hnc71 := NB538_550.out
     have hnb72 := NB550_539.out
     have hnc72 := NB539_550.out
     have hcz73_0 : wc.cell? ⟨gb550, 0, none⟩ = some (.bool t543) := bc BK550 0
     have hcz73_1 : wc.cell? ⟨gb550, 1, none⟩ = some (.slice Ao36 t544.length co36) := bc BK550 1
     have hcz73_2 : wc.cell? ⟨gb550, 2, none⟩ = some (.slice Ao37 t547.length co37) := bc BK550 2
     have hfz73_0 := blk_frozen BK550.out 0
     have hfz73_1 := blk_frozen BK550.out 1
     have hfz73_2 := blk_frozen BK550.out 2
     go_upto_region 12 with (first | ((with_reducible refine gate_callee (f := 15) rfl ?_); refine goesL_ (some 70) rfl rfl Try.func15 (by kernel_rfl) rfl #[.agg #[.bool t543, .slice Ao36 t544.length co36, .slice Ao37 t547.length co37]] rfl (by (try simp only [List.map_toArray, List.map_cons, List.map_nil]); first | done | rfl | (simp only [List.length_drop, List.length_take]; rfl)) ?_; (with_reducible refine (leaf_Encode.calls t543 _ _ t544 _ _ t547 t566 t567 _ ?side1 ?side2 ?side3 ?side4 A64.out).mono ?_); (case side1 => exact kc (Kd.R_reads' HO_551001.out).2.2); (case side2 => exact (Kd.R_reads' HO_551001.out).2.1); (case side3 => exact kc (Kd.R_reads' HO_551002.out).2.2); (case side4 => exact (Kd.R_reads' HO_551002.out).2.1); rintro e w74 ⟨rfl, hb⟩; refine ⟨_, rfl, ?_⟩; replace HO_551001 := rb HO_551001 hb; replace HO_551002 := rb HO_551002 hb; replace BK538 := bb BK538 hb; replace BK539 := bb BK539 hb; replace BK550 := bb BK550 hb; replace HB := aM (below_step (kl HB) hb); clear hb; have hnb75 := NB538_539.out; have hnc75 := NB539_538.out; have hcz76_0 : w74.cell? ⟨gb538, 0, none⟩ = some (.bool a0_0) := bc BK538 0; have hcz76_1 : w74.cell? ⟨gb538, 1, none⟩ = some (.slice A0_1 l0_1.length c0_1) := bc BK538 1; have hcz76_2 : w74.cell? ⟨gb538, 2, none⟩ = some (.slice A0_2 l0_2.length c0_2) := bc BK538 2; have hfz76_0 := blk_frozen BK538.out 0; have hfz76_1 := blk_frozen BK538.out 1; have hfz76_2 := blk_frozen BK538.out 2) | ((with_reducible refine gate_callee (f := 25) rfl ?_); refine goesL_ (some 75) rfl rfl Try.func25 (by kernel_rfl) rfl #[.agg #[.bool a0_0, .slice A0_1 l0_1.length c0_1, .slice A0_2 l0_2.length c0_2]] rfl (by (try simp only [List.map_toArray, List.map_cons, List.map_nil]); first | done | rfl | (simp only [List.length_drop, List.length_take]; rfl)) ?_; (with_reducible refine (rf_Encode.calls kj27 a0_0 _ _ l0_1 _ _ l0_2 t568 t569 _ ?side1 ?side2 ?side3 ?side4 A65.out).mono ?_); (case side1 => exact kc (Kd.C_below HR0_1.out HB.out)); (case side2 => exact HC0_1.out); (case side3 => exact kc (Kd.C_below HR0_2.out HB.out)); (case side4 => exact HC0_2.out); rintro e w77 ⟨rfl, hb⟩; refine ⟨_, rfl, ?_⟩; replace HO_551001 := rb HO_551001 hb; replace HO_551002 := rb HO_551002 hb; replace BK538 := bb BK538 hb; replace BK539 := bb BK539 hb; replace BK550 := bb BK550 hb; replace HB := aM (below_step (kl HB) hb); clear hb) | ((with_reducible refine gate_callee (f := 16) rfl ?_); refine goesL_ (some 80) rfl rfl Try.func16 (by kernel_rfl) rfl #[.string a2] rfl (by (try simp only [List.map_toArray, List.map_cons, List.map_nil]); first | done | rfl | (simp only [List.length_drop, List.length_take]; rfl)) ?_; (with_reducible refine (leaf_Decode.calls a2 t570 t571 t574 t577 _ A66.out).mono ?_); rintro e w78 ⟨v572, v575, rfl, ho0, ho1, hb⟩; refine ⟨_, rfl, ?_⟩; have HO573 := aM (Kd.R_lower (Kd.R_new' ho0 (Kd.R_lt (kr HO_551001))) (below_size (kl HB))); replace HO_551001 := aM (Kd.R_elder' (kr HO_551001) (Kd.R_base ho0) hb); have HO576 := aM (Kd.R_lower (Kd.R_new' ho1 (Kd.R_lt (kr HO_551002))) (below_size (kl HB))); replace HO_551002 := aM (Kd.R_elder' (kr HO_551002) (Kd.R_base ho1) hb); replace BK538 := bb BK538 hb; replace BK539 := bb BK539 hb; replace BK550 := bb BK550 hb; replace HB := aM (below_step (kl HB) hb); clear hb ho0 ho1) | ((with_reducible refine gate_dst (N := 12) rfl ?_); (try (refine gate_guard (by rfl) ?_; dsimp only)); refine box_event ?hg (N := 12) ?hd (cs := #[.bool false, .slice none 0 0, .slice none 0 0]) (t := 31) ?hr ?_; (case hd => rfl); (case hg => rfl); (case hr => first | (go_simp; done) | (go_simp; rfl)); intro gb578 hg w79 hbox hb; replace HO_551001 := rb HO_551001 hb; replace HO_551002 := rb HO_551002 hb; replace HO573 := rb HO573 hb; replace HO576 := rb HO576 hb; have BK578 := aM (hbox); have GE578 := gw hg HB; replace HB := aM (below_step (kl HB) hb); have NB538_578 := nl hg BK538; have NB578_538 := ng hg BK538; replace BK538 := bb BK538 hb; have NB539_578 := nl hg BK539; have NB578_539 := ng hg BK539; replace BK539 := bb BK539 hb; have NB550_578 := nl hg BK550; have NB578_550 := ng hg BK550; replace BK550 := bb BK550 hb; clear hb hbox hg; have hnb80 := NB578_538.out; have hnc80 := NB538_578.out; have hnb81 := NB578_539.out; have hnc81 := NB539_578.out; have hnb82 := NB578_550.out; have hnc82 := NB550_578.out; have hcz83_0 : w79.cell? ⟨gb578, 0, none⟩ = some (.bool false) := bc BK578 0; have hcz83_1 : w79.cell? ⟨gb578, 1, none⟩ = some (.slice none 0 0) := bc BK578 1; have hcz83_2 : w79.cell? ⟨gb578, 2, none⟩ = some (.slice none 0 0) := bc BK578 2; have hfz83_0 := blk_frozen BK578.out 0; have hfz83_1 := blk_frozen BK578.out 1; have hfz83_2 := blk_frozen BK578.out 2; obtain ⟨Ao84, co84, eo84⟩ := Kd.R_slice HO573.out; subst eo84; obtain ⟨Ao85, co85, eo85⟩ := Kd.R_slice HO576.out; subst eo85) | ((with_reducible refine gate_callee (f := 26) rfl ?_); refine goesL_ (some 85) rfl rfl Try.func26 (by kernel_rfl) rfl #[.string a2] rfl (by (try simp only [List.map_toArray, List.map_cons, List.map_nil]); first | done | rfl | (simp only [List.length_drop, List.length_take]; rfl)) ?_; (with_reducible refine (rf_Decode.calls kj27 a2 t579 t580 t583 t586 _ A67.out).mono ?_); rintro e w86 ⟨v581, v584, rfl, ho0, ho1, hb⟩; refine ⟨_, rfl, ?_⟩; replace HO_551001 := aM (Kd.R_below (by exact (Kd.R_mono (Kd.R_far (Kd.R_far (Kd.R_far (Kd.R_types HO_551001.out BK578.out (by decide)) (fun _ hk => hk.2) _) (fun _ hk => hk.2) _) (fun _ hk => hk.2) _) (fun _ h_ => h_.1))) hb); replace HO_551002 := aM (Kd.R_below (by exact (Kd.R_mono (Kd.R_far (Kd.R_far (Kd.R_far (Kd.R_types HO_551002.out BK578.out (by decide)) (fun _ hk => hk.2) _) (fun _ hk => hk.2) _) (fun _ hk => hk.2) _) (fun _ h_ => h_.1))) hb); replace HO573 := aM (Kd.R_below (by exact (Kd.R_mono (Kd.R_far (Kd.R_far (Kd.R_far (Kd.R_types HO573.out BK578.out (by decide)) (fun _ hk => hk.2) _) (fun _ hk => hk.2) _) (fun _ hk => hk.2) _) (fun _ h_ => h_.1))) hb); replace HO576 := aM (Kd.R_below (by exact (Kd.R_mono (Kd.R_far (Kd.R_far (Kd.R_far (Kd.R_types HO576.out BK578.out (by decide)) (fun _ hk => hk.2) _) (fun _ hk => hk.2) _) (fun _ hk => hk.2) _) (fun _ h_ => h_.1))) hb); have HO582 := aM (Kd.R_lower ho0 (below_size (kl HB))); have HO585 := aM (Kd.R_lower ho1 (below_size (kl HB))); replace BK538 := bf NB538_578 BK538 hb; replace BK539 := bf NB539_578 BK539 hb; replace BK550 := bf NB550_578 BK550 hb; replace BK578 := aM (blk_below (g := gb578) (o := .cells #[.bool t570, .slice Ao84 t571.length co84, .slice Ao85 t574.length co85] 31 (0, 0)) (by (with_reducible repeat (first | refine blk_drewN ?_ _ | refine blk_drew ?_ | refine blk_alloc ?_ _)); refine blk_put (cs := #[.bool t570, .slice Ao84 t571.length co84, .slice none 0 0]) ?_ 2 _ rfl; (with_reducible repeat (first | refine blk_drewN ?_ _ | refine blk_drew ?_ | refine blk_alloc ?_ _)); refine blk_put (cs := #[.bool t570, .slice none 0 0, .slice none 0 0]) ?_ 1 _ rfl; (with_reducible repeat (first | refine blk_drewN ?_ _ | refine blk_drew ?_ | refine blk_alloc ?_ _)); refine blk_put (cs := #[.bool false, .slice none 0 0, .slice none 0 0]) ?_ 0 _ rfl; exact kb BK578) hb); replace HB := aM (below_step (kl HB) hb); clear hb ho0 ho1) | ((with_reducible refine gate_dst (N := 14) rfl ?_); (try (refine gate_guard (by rfl) ?_; dsimp only)); refine box_event ?hg (N := 14) ?hd (cs := #[.bool false, .slice none 0 0, .slice none 0 0]) (t := 25) ?hr ?_; (case hd => rfl); (case hg => rfl); (case hr => first | (go_simp; done) | (go_simp; rfl)); intro gb587 hg w87 hbox hb; replace HO_551001 := rb HO_551001 hb; replace HO_551002 := rb HO_551002 hb; replace HO573 := rb HO573 hb; replace HO576 := rb HO576 hb; replace HO582 := rb HO582 hb; replace HO585 := rb HO585 hb; have BK587 := aM (hbox); have GE587 := gw hg HB; replace HB := aM (below_step (kl HB) hb); have NB538_587 := nl hg BK538; have NB587_538 := ng hg BK538; replace BK538 := bb BK538 hb; have NB539_587 := nl hg BK539; have NB587_539 := ng hg BK539; replace BK539 := bb BK539 hb; have NB550_587 := nl hg BK550; have NB587_550 := ng hg BK550; replace BK550 := bb BK550 hb; have NB578_587 := nl hg BK578; have NB587_578 := ng hg BK578; replace BK578 := bb BK578 hb; clear hb hbox hg; have hnb88 := NB587_538.out; have hnc88 := NB538_587.out; have hnb89 := NB587_539.out; have hnc89 := NB539_587.out; have hnb90 := NB587_550.out; have hnc90 := NB550_587.out; have hnb91 := NB587_578.out; have hnc91 := NB578_587.out; have hcz92_0 : w87.cell? ⟨gb587, 0, none⟩ = some (.bool false) := bc BK587 0; have hcz92_1 : w87.cell? ⟨gb587, 1, none⟩ = some (.slice none 0 0) := bc BK587 1; have hcz92_2 : w87.cell? ⟨gb587, 2, none⟩ = some (.slice none 0 0) := bc BK587 2; have hfz92_0 := blk_frozen BK587.out 0; have hfz92_1 := blk_frozen BK587.out 1; have hfz92_2 := blk_frozen BK587.out 2; obtain ⟨Ao93, co93, eo93⟩ := Kd.R_slice HO582.out; subst eo93; obtain ⟨Ao94, co94, eo94⟩ := Kd.R_slice HO585.out; subst eo94; have hcz95_0 : w87.cell? ⟨gb550, 0, none⟩ = some (.bool t543) := bc BK550 0; have hcz95_1 : w87.cell? ⟨gb550, 1, none⟩ = some (.slice Ao36 t544.length co36) := bc BK550 1; have hcz95_2 : w87.cell? ⟨gb550, 2, none⟩ = some (.slice Ao37 t547.length co37) := bc BK550 2; have hfz95_0 := blk_frozen BK550.out 0; have hfz95_1 := blk_frozen BK550.out 1; have hfz95_2 := blk_frozen BK550.out 2) | ((with_reducible refine gate_callee (f := 20) rfl ?_); refine goesL_ (some 90) rfl rfl Try.func20 (by kernel_rfl) rfl #[.agg #[.bool t543, .slice Ao36 t544.length co36, .slice Ao37 t547.length co37]] rfl (by (try simp only [List.map_toArray, List.map_cons, List.map_nil]); first | done | rfl | (simp only [List.length_drop, List.length_take]; rfl)) ?_; (with_reducible refine (leaf_Split.calls kj27 t543 _ _ t544 _ _ t547 t588 t589 t592 t595 t596 t599 t602 _ ?side1 ?side2 ?side3 ?side4 A68.out).mono ?_); (case side1 => refine (Kd.R_reads' (e := 47) (base := w.heap.size) (ok := fun k_ => (True ∧ some k_ ≠ (.slice Ao84 t571.length co84 : Value).ownBlock)) (n := t544.length) (c := co36) ?_).2.2; exact (by exact (Kd.R_mono (Kd.R_far (Kd.R_far (Kd.R_far (Kd.R_types HO_551001.out BK587.out (by decide)) (fun _ hk => hk.2) _) (fun _ hk => hk.2) _) (fun _ hk => hk.2) _) (fun _ h_ => h_.1)))); (case side2 => exact (Kd.R_reads' HO_551001.out).2.1); (case side3 => refine (Kd.R_reads' (e := 36) (base := w.heap.size) (ok := fun k_ => (True ∧ some k_ ≠ (.slice Ao85 t574.length co85 : Value).ownBlock)) (n := t547.length) (c := co37) ?_).2.2; exact (by exact (Kd.R_mono (Kd.R_far (Kd.R_far (Kd.R_far (Kd.R_types HO_551002.out BK587.out (by decide)) (fun _ hk => hk.2) _) (fun _ hk => hk.2) _) (fun _ hk => hk.2) _) (fun _ h_ => h_.1)))); (case side4 => exact (Kd.R_reads' HO_551002.out).2.1); rintro e w96 ⟨v590, v593, v597, v600, rfl, ho0, ho1, ho2, ho3, hb⟩; refine ⟨_, rfl, ?_⟩; replace HO582 := aM (Kd.R_below (by exact (Kd.R_mono (Kd.R_far (Kd.R_far (Kd.R_far (Kd.R_types HO582.out BK587.out (by decide)) (fun _ hk => hk.2) _) (fun _ hk => hk.2) _) (fun _ hk => hk.2) _) (fun _ h_ => h_.1))) hb); replace HO585 := aM (Kd.R_below (by exact (Kd.R_mono (Kd.R_far (Kd.R_far (Kd.R_far (Kd.R_types HO585.out BK587.out (by decide)) (fun _ hk => hk.2) _) (fun _ hk => hk.2) _) (fun _ hk => hk.2) _) (fun _ h_ => h_.1))) hb); have HO591 := aM (Kd.R_lower (Kd.R_new' (Kd.R_new' ho0 (Kd.R_lt (by exact (Kd.R_mono (Kd.R_far (Kd.R_far (Kd.R_far (Kd.R_types HO_551001.out BK587.out (by decide)) (fun _ hk => hk.2) _) (fun _ hk => hk.2) _) (fun _ hk => hk.2) _) (fun _ h_ => h_.1))))) (Kd.R_lt (by exact (Kd.R_mono (Kd.R_far (Kd.R_far (Kd.R_far (Kd.R_types HO573.out BK587.out (by decide)) (fun _ hk => hk.2) _) (fun _ hk => hk.2) _) (fun _ hk => hk.2) _) (fun _ h_ => h_.1))))) (below_size (kl HB))); have HO594 := aM (Kd.R_lower (Kd.R_new' (Kd.R_new' ho1 (Kd.R_lt (by exact (Kd.R_mono (Kd.R_far (Kd.R_far (Kd.R_far (Kd.R_types HO_551002.out BK587.out (by decide)) (fun _ hk => hk.2) _) (fun _ hk => hk.2) _) (fun _ hk => hk.2) _) (fun _ h_ => h_.1))))) (Kd.R_lt (by exact (Kd.R_mono (Kd.R_far (Kd.R_far (Kd.R_far (Kd.R_types HO576.out BK587.out (by decide)) (fun _ hk => hk.2) _) (fun _ hk => hk.2) _) (fun _ hk => hk.2) _) (fun _ h_ => h_.1))))) (below_size (kl HB))); have HO598 := aM (Kd.R_lower (Kd.R_new' (Kd.R_new' ho2 (Kd.R_lt (by exact (Kd.R_mono (Kd.R_far (Kd.R_far (Kd.R_far (Kd.R_types HO_551001.out BK587.out (by decide)) (fun _ hk => hk.2) _) (fun _ hk => hk.2) _) (fun _ hk => hk.2) _) (fun _ h_ => h_.1))))) (Kd.R_lt (by exact (Kd.R_mono (Kd.R_far (Kd.R_far (Kd.R_far (Kd.R_types HO573.out BK587.out (by decide)) (fun _ hk => hk.2) _) (fun _ hk => hk.2) _) (fun _ hk => hk.2) _) (fun _ h_ => h_.1))))) (below_size (kl HB))); replace HO_551001 := aM (Kd.R_mono (Kd.R_told (Kd.R_told (Kd.R_old (by exact (Kd.R_mono (Kd.R_far (Kd.R_far (Kd.R_far (Kd.R_types HO_551001.out BK587.out (by decide)) (fun _ hk => hk.2) _) (fun _ hk => hk.2) _) (fun _ hk => hk.2) _) (fun _ h_ => h_.1))) hb) (Kd.R_base ho0)) (Kd.R_base ho2)) (fun _ h_ => h_.1)); replace HO573 := aM (Kd.R_mono (Kd.R_told (Kd.R_told (Kd.R_old (by exact (Kd.R_mono (Kd.R_far (Kd.R_far (Kd.R_far (Kd.R_types HO573.out BK587.out (by decide)) (fun _ hk => hk.2) _) (fun _ hk => hk.2) _) (fun _ hk => hk.2) _) (fun _ h_ => h_.1))) hb) (Kd.R_base ho0)) (Kd.R_base ho2)) (fun _ h_ => h_.1)); have HO601 := aM (Kd.R_lower (Kd.R_new' (Kd.R_new' ho3 (Kd.R_lt (by exact (Kd.R_mono (Kd.R_far (Kd.R_far (Kd.R_far (Kd.R_types HO_551002.out BK587.out (by decide)) (fun _ hk => hk.2) _) (fun _ hk => hk.2) _) (fun _ hk => hk.2) _) (fun _ h_ => h_.1))))) (Kd.R_lt (by exact (Kd.R_mono (Kd.R_far (Kd.R_far (Kd.R_far (Kd.R_types HO576.out BK587.out (by decide)) (fun _ hk => hk.2) _) (fun _ hk => hk.2) _) (fun _ hk => hk.2) _) (fun _ h_ => h_.1))))) (below_size (kl HB))); replace HO_551002 := aM (Kd.R_mono (Kd.R_told (Kd.R_told (Kd.R_old (by exact (Kd.R_mono (Kd.R_far (Kd.R_far (Kd.R_far (Kd.R_types HO_551002.out BK587.out (by decide)) (fun _ hk => hk.2) _) (fun _ hk => hk.2) _) (fun _ hk => hk.2) _) (fun _ h_ => h_.1))) hb) (Kd.R_base ho1)) (Kd.R_base ho3)) (fun _ h_ => h_.1)); replace HO576 := aM (Kd.R_mono (Kd.R_told (Kd.R_told (Kd.R_old (by exact (Kd.R_mono (Kd.R_far (Kd.R_far (Kd.R_far (Kd.R_types HO576.out BK587.out (by decide)) (fun _ hk => hk.2) _) (fun _ hk => hk.2) _) (fun _ hk => hk.2) _) (fun _ h_ => h_.1))) hb) (Kd.R_base ho1)) (Kd.R_base ho3)) (fun _ h_ => h_.1)); replace BK538 := bf NB538_587 BK538 hb; replace BK539 := bf NB539_587 BK539 hb; replace BK550 := bf NB550_587 BK550 hb; replace BK578 := bf NB578_587 BK578 hb; replace BK587 := aM (blk_below (g := gb587) (o := .cells #[.bool t579, .slice Ao93 t580.length co93, .slice Ao94 t583.length co94] 25 (0, 0)) (by (with_reducible repeat (first | refine blk_drewN ?_ _ | refine blk_drew ?_ | refine blk_alloc ?_ _)); refine blk_put (cs := #[.bool t579, .slice Ao93 t580.length co93, .slice none 0 0]) ?_ 2 _ rfl; (with_reducible repeat (first | refine blk_drewN ?_ _ | refine blk_drew ?_ | refine blk_alloc ?_ _)); refine blk_put (cs := #[.bool t579, .slice none 0 0, .slice none 0 0]) ?_ 1 _ rfl; (with_reducible repeat (first | refine blk_drewN ?_ _ | refine blk_drew ?_ | refine blk_alloc ?_ _)); refine blk_put (cs := #[.bool false, .slice none 0 0, .slice none 0 0]) ?_ 0 _ rfl; exact kb BK587) hb); replace HB := aM (below_step (kl HB) hb); clear hb ho0 ho1 ho2 ho3) | ((with_reducible refine gate_dst (N := 16) rfl ?_); (try (refine gate_guard (by rfl) ?_; dsimp only)); refine box_event ?hg (N := 16) ?hd (cs := #[.bool false, .slice none 0 0, .slice none 0 0]) (t := 31) ?hr ?_; (case hd => rfl); (case hg => rfl); (case hr => first | (go_simp; done) | (go_simp; rfl)); intro gb603 hg w97 hbox hb; replace HO_551001 := rb HO_551001 hb; replace HO_551002 := rb HO_551002 hb; replace HO573 := rb HO573 hb; replace HO576 := rb HO576 hb; replace HO582 := rb HO582 hb; replace HO585 := rb HO585 hb; replace HO591 := rb HO591 hb; replace HO594 := rb HO594 hb; replace HO598 := rb HO598 hb; replace HO601 := rb HO601 hb; have BK603 := aM (hbox); have GE603 := gw hg HB; replace HB := aM (below_step (kl HB) hb); have NB538_603 := nl hg BK538; have NB603_538 := ng hg BK538; replace BK538 := bb BK538 hb; have NB539_603 := nl hg BK539; have NB603_539 := ng hg BK539; replace BK539 := bb BK539 hb; have NB550_603 := nl hg BK550; have NB603_550 := ng hg BK550; replace BK550 := bb BK550 hb; have NB578_603 := nl hg BK578; have NB603_578 := ng hg BK578; replace BK578 := bb BK578 hb; have NB587_603 := nl hg BK587; have NB603_587 := ng hg BK587; replace BK587 := bb BK587 hb; clear hb hbox hg) | ((with_reducible refine gate_dst (N := 17) rfl ?_); (try (refine gate_guard (by rfl) ?_; dsimp only)); refine box_event ?hg (N := 17) ?hd (cs := #[.bool false, .slice none 0 0, .slice none 0 0]) (t := 31) ?hr ?_; (case hd => rfl); (case hg => rfl); (case hr => first | (go_simp; done) | (go_simp; rfl)); intro gb604 hg w98 hbox hb; replace HO_551001 := rb HO_551001 hb; replace HO_551002 := rb HO_551002 hb; replace HO573 := rb HO573 hb; replace HO576 := rb HO576 hb; replace HO582 := rb HO582 hb; replace HO585 := rb HO585 hb; replace HO591 := rb HO591 hb; replace HO594 := rb HO594 hb; replace HO598 := rb HO598 hb; replace HO601 := rb HO601 hb; have BK604 := aM (hbox); have GE604 := gw hg HB; replace HB := aM (below_step (kl HB) hb); have NB538_604 := nl hg BK538; have NB604_538 := ng hg BK538; replace BK538 := bb BK538 hb; have NB539_604 := nl hg BK539; have NB604_539 := ng hg BK539; replace BK539 := bb BK539 hb; have NB550_604 := nl hg BK550; have NB604_550 := ng hg BK550; replace BK550 := bb BK550 hb; have NB578_604 := nl hg BK578; have NB604_578 := ng hg BK578; replace BK578 := bb BK578 hb; have NB587_604 := nl hg BK587; have NB604_587 := ng hg BK587; replace BK587 := bb BK587 hb; have NB603_604 := nl hg BK603; have NB604_603 := ng hg BK603; replace BK603 := bb BK603 hb; clear hb hbox hg; have hnb99 := NB603_538.out; have hnc99 := NB538_603.out; have hnb100 := NB603_539.out; have hnc100 := NB539_603.out; have hnb101 := NB603_550.out; have hnc101 := NB550_603.out; have hnb102 := NB603_578.out; have hnc102 := NB578_603.out; have hnb103 := NB603_587.out; have hnc103 := NB587_603.out; have hnb104 := NB603_604.out; have hnc104 := NB604_603.out; have hcz105_0 : w98.cell? ⟨gb603, 0, none⟩ = some (.bool false) := bc BK603 0; have hcz105_1 : w98.cell? ⟨gb603, 1, none⟩ = some (.slice none 0 0) := bc BK603 1; have hcz105_2 : w98.cell? ⟨gb603, 2, none⟩ = some (.slice none 0 0) := bc BK603 2; have hfz105_0 := blk_frozen BK603.out 0; have hfz105_1 := blk_frozen BK603.out 1; have hfz105_2 := blk_frozen BK603.out 2; obtain ⟨Ao106, co106, eo106⟩ := Kd.R_slice HO591.out; subst eo106; obtain ⟨Ao107, co107, eo107⟩ := Kd.R_slice HO594.out; subst eo107; have hnb108 := NB604_538.out; have hnc108 := NB538_604.out; have hnb109 := NB604_539.out; have hnc109 := NB539_604.out; have hnb110 := NB604_550.out; have hnc110 := NB550_604.out; have hnb111 := NB604_578.out; have hnc111 := NB578_604.out; have hnb112 := NB604_587.out; have hnc112 := NB587_604.out; have hcz113_0 : w98.cell? ⟨gb604, 0, none⟩ = some (.bool false) := bc BK604 0; have hcz113_1 : w98.cell? ⟨gb604, 1, none⟩ = some (.slice none 0 0) := bc BK604 1; have hcz113_2 : w98.cell? ⟨gb604, 2, none⟩ = some (.slice none 0 0) := bc BK604 2; have hfz113_0 := blk_frozen BK604.out 0; have hfz113_1 := blk_frozen BK604.out 1; have hfz113_2 := blk_frozen BK604.out 2; obtain ⟨Ao114, co114, eo114⟩ := Kd.R_slice HO598.out; subst eo114; obtain ⟨Ao115, co115, eo115⟩ := Kd.R_slice HO601.out; subst eo115; have hcz116_0 : w98.cell? ⟨gb538, 0, none⟩ = some (.bool a0_0) := bc BK538 0; have hcz116_1 : w98.cell? ⟨gb538, 1, none⟩ = some (.slice A0_1 l0_1.length c0_1) := bc BK538 1; have hcz116_2 : w98.cell? ⟨gb538, 2, none⟩ = some (.slice A0_2 l0_2.length c0_2) := bc BK538 2; have hfz116_0 := blk_frozen BK538.out 0; have hfz116_1 := blk_frozen BK538.out 1; have hfz116_2 := blk_frozen BK538.out 2) | ((with_reducible refine gate_callee (f := 27) rfl ?_); refine goesL_ (some 96) rfl rfl Try.func27 (by kernel_rfl) rfl #[.agg #[.bool a0_0, .slice A0_1 l0_1.length c0_1, .slice A0_2 l0_2.length c0_2]] rfl (by (try simp only [List.map_toArray, List.map_cons, List.map_nil]); first | done | rfl | (simp only [List.length_drop, List.length_take]; rfl)) ?_; (with_reducible refine (rf_Split.calls kj27 a0_0 _ _ l0_1 _ _ l0_2 t605 t606 t609 t612 t613 t616 t619 _ ?side1 ?side2 ?side3 ?side4 A69.out).mono ?_); (case side1 => exact Kd.C_below HR0_1.out (kl HB)); (case side2 => exact HC0_1.out); (case side3 => exact Kd.C_below HR0_2.out (kl HB)); (case side4 => exact HC0_2.out); rintro e w117 ⟨v607, v610, v614, v617, rfl, ho0, ho1, ho2, ho3, hb⟩; refine ⟨_, rfl, ?_⟩; replace HO_551001 := aM (Kd.R_below (by exact (Kd.R_mono (Kd.R_mono (Kd.R_far (Kd.R_far (Kd.R_far (Kd.R_far (Kd.R_far (Kd.R_far (Kd.R_types (Kd.R_types HO_551001.out BK603.out (by decide)) BK604.out (by decide)) (fun _ hk => hk.1.2) _) (fun _ hk => hk.1.2) _) (fun _ hk => hk.1.2) _) (fun _ hk => hk.2) _) (fun _ hk => hk.2) _) (fun _ hk => hk.2) _) (fun _ h_ => h_.1)) (fun _ h_ => h_.1))) hb); replace HO_551002 := aM (Kd.R_below (by exact (Kd.R_mono (Kd.R_mono (Kd.R_far (Kd.R_far (Kd.R_far (Kd.R_far (Kd.R_far (Kd.R_far (Kd.R_types (Kd.R_types HO_551002.out BK603.out (by decide)) BK604.out (by decide)) (fun _ hk => hk.1.2) _) (fun _ hk => hk.1.2) _) (fun _ hk => hk.1.2) _) (fun _ hk => hk.2) _) (fun _ hk => hk.2) _) (fun _ hk => hk.2) _) (fun _ h_ => h_.1)) (fun _ h_ => h_.1))) hb); replace HO573 := aM (Kd.R_below (by exact (Kd.R_mono (Kd.R_mono (Kd.R_far (Kd.R_far (Kd.R_far (Kd.R_far (Kd.R_far (Kd.R_far (Kd.R_types (Kd.R_types HO573.out BK603.out (by decide)) BK604.out (by decide)) (fun _ hk => hk.1.2) _) (fun _ hk => hk.1.2) _) (fun _ hk => hk.1.2) _) (fun _ hk => hk.2) _) (fun _ hk => hk.2) _) (fun _ hk => hk.2) _) (fun _ h_ => h_.1)) (fun _ h_ => h_.1))) hb); replace HO576 := aM (Kd.R_below (by exact (Kd.R_mono (Kd.R_mono (Kd.R_far (Kd.R_far (Kd.R_far (Kd.R_far (Kd.R_far (Kd.R_far (Kd.R_types (Kd.R_types HO576.out BK603.out (by decide)) BK604.out (by decide)) (fun _ hk => hk.1.2) _) (fun _ hk => hk.1.2) _) (fun _ hk => hk.1.2) _) (fun _ hk => hk.2) _) (fun _ hk => hk.2) _) (fun _ hk => hk.2) _) (fun _ h_ => h_.1)) (fun _ h_ => h_.1))) hb); replace HO591 := aM (Kd.R_below (by exact (Kd.R_mono (Kd.R_mono (Kd.R_far (Kd.R_far (Kd.R_far (Kd.R_far (Kd.R_far (Kd.R_far (Kd.R_types (Kd.R_types HO591.out BK603.out (by decide)) BK604.out (by decide)) (fun _ hk => hk.1.2) _) (fun _ hk => hk.1.2) _) (fun _ hk => hk.1.2) _) (fun _ hk => hk.2) _) (fun _ hk => hk.2) _) (fun _ hk => hk.2) _) (fun _ h_ => h_.1)) (fun _ h_ => h_.1))) hb); replace HO594 := aM (Kd.R_below (by exact (Kd.R_mono (Kd.R_mono (Kd.R_far (Kd.R_far (Kd.R_far (Kd.R_far (Kd.R_far (Kd.R_far (Kd.R_types (Kd.R_types HO594.out BK603.out (by decide)) BK604.out (by decide)) (fun _ hk => hk.1.2) _) (fun _ hk => hk.1.2) _) (fun _ hk => hk.1.2) _) (fun _ hk => hk.2) _) (fun _ hk => hk.2) _) (fun _ hk => hk.2) _) (fun _ h_ => h_.1)) (fun _ h_ => h_.1))) hb); replace HO598 := aM (Kd.R_below (by exact (Kd.R_mono (Kd.R_mono (Kd.R_far (Kd.R_far (Kd.R_far (Kd.R_far (Kd.R_far (Kd.R_far (Kd.R_types (Kd.R_types HO598.out BK603.out (by decide)) BK604.out (by decide)) (fun _ hk => hk.1.2) _) (fun _ hk => hk.1.2) _) (fun _ hk => hk.1.2) _) (fun _ hk => hk.2) _) (fun _ hk => hk.2) _) (fun _ hk => hk.2) _) (fun _ h_ => h_.1)) (fun _ h_ => h_.1))) hb); replace HO601 := aM (Kd.R_below (by exact (Kd.R_mono (Kd.R_mono (Kd.R_far (Kd.R_far (Kd.R_far (Kd.R_far (Kd.R_far (Kd.R_far (Kd.R_types (Kd.R_types HO601.out BK603.out (by decide)) BK604.out (by decide)) (fun _ hk => hk.1.2) _) (fun _ hk => hk.1.2) _) (fun _ hk => hk.1.2) _) (fun _ hk => hk.2) _) (fun _ hk => hk.2) _) (fun _ hk => hk.2) _) (fun _ h_ => h_.1)) (fun _ h_ => h_.1))) hb); have HO608 := aM (Kd.R_lower (Kd.R_new' ho0 (Kd.R_lt (by exact (Kd.R_mono (Kd.R_mono (Kd.R_far (Kd.R_far (Kd.R_far (Kd.R_far (Kd.R_far (Kd.R_far (Kd.R_types (Kd.R_types HO582.out BK603.out (by decide)) BK604.out (by decide)) (fun _ hk => hk.1.2) _) (fun _ hk => hk.1.2) _) (fun _ hk => hk.1.2) _) (fun _ hk => hk.2) _) (fun _ hk => hk.2) _) (fun _ hk => hk.2) _) (fun _ h_ => h_.1)) (fun _ h_ => h_.1))))) (below_size (kl HB))); have HO611 := aM (Kd.R_lower (Kd.R_new' ho1 (Kd.R_lt (by exact (Kd.R_mono (Kd.R_mono (Kd.R_far (Kd.R_far (Kd.R_far (Kd.R_far (Kd.R_far (Kd.R_far (Kd.R_types (Kd.R_types HO585.out BK603.out (by decide)) BK604.out (by decide)) (fun _ hk => hk.1.2) _) (fun _ hk => hk.1.2) _) (fun _ hk => hk.1.2) _) (fun _ hk => hk.2) _) (fun _ hk => hk.2) _) (fun _ hk => hk.2) _) (fun _ h_ => h_.1)) (fun _ h_ => h_.1))))) (below_size (kl HB))); have HO615 := aM (Kd.R_lower (Kd.R_new' ho2 (Kd.R_lt (by exact (Kd.R_mono (Kd.R_mono (Kd.R_far (Kd.R_far (Kd.R_far (Kd.R_far (Kd.R_far (Kd.R_far (Kd.R_types (Kd.R_types HO582.out BK603.out (by decide)) BK604.out (by decide)) (fun _ hk => hk.1.2) _) (fun _ hk => hk.1.2) _) (fun _ hk => hk.1.2) _) (fun _ hk => hk.2) _) (fun _ hk => hk.2) _) (fun _ hk => hk.2) _) (fun _ h_ => h_.1)) (fun _ h_ => h_.1))))) (below_size (kl HB))); replace HO582 := aM (Kd.R_mono (Kd.R_told (Kd.R_told (Kd.R_old (by exact (Kd.R_mono (Kd.R_mono (Kd.R_far (Kd.R_far (Kd.R_far (Kd.R_far (Kd.R_far (Kd.R_far (Kd.R_types (Kd.R_types HO582.out BK603.out (by decide)) BK604.out (by decide)) (fun _ hk => hk.1.2) _) (fun _ hk => hk.1.2) _) (fun _ hk => hk.1.2) _) (fun _ hk => hk.2) _) (fun _ hk => hk.2) _) (fun _ hk => hk.2) _) (fun _ h_ => h_.1)) (fun _ h_ => h_.1))) hb) (Kd.R_base ho0)) (Kd.R_base ho2)) (fun _ h_ => h_.1)); have HO618 := aM (Kd.R_lower (Kd.R_new' ho3 (Kd.R_lt (by exact (Kd.R_mono (Kd.R_mono (Kd.R_far (Kd.R_far (Kd.R_far (Kd.R_far (Kd.R_far (Kd.R_far (Kd.R_types (Kd.R_types HO585.out BK603.out (by decide)) BK604.out (by decide)) (fun _ hk => hk.1.2) _) (fun _ hk => hk.1.2) _) (fun _ hk => hk.1.2) _) (fun _ hk => hk.2) _) (fun _ hk => hk.2) _) (fun _ hk => hk.2) _) (fun _ h_ => h_.1)) (fun _ h_ => h_.1))))) (below_size (kl HB))); replace HO585 := aM (Kd.R_mono (Kd.R_told (Kd.R_told (Kd.R_old (by exact (Kd.R_mono (Kd.R_mono (Kd.R_far (Kd.R_far (Kd.R_far (Kd.R_far (Kd.R_far (Kd.R_far (Kd.R_types (Kd.R_types HO585.out BK603.out (by decide)) BK604.out (by decide)) (fun _ hk => hk.1.2) _) (fun _ hk => hk.1.2) _) (fun _ hk => hk.1.2) _) (fun _ hk => hk.2) _) (fun _ hk => hk.2) _) (fun _ hk => hk.2) _) (fun _ h_ => h_.1)) (fun _ h_ => h_.1))) hb) (Kd.R_base ho1)) (Kd.R_base ho3)) (fun _ h_ => h_.1)); replace BK538 := aM (blk_below (g := gb538) (o := .cells #[.bool a0_0, .slice A0_1 l0_1.length c0_1, .slice A0_2 l0_2.length c0_2] 25 (0, 0)) (kg2 NB538_604 NB538_603 BK538) hb); replace BK539 := aM (blk_below (g := gb539) (o := .cells #[.bool a1_0, .slice A1_1 l1_1.length c1_1, .slice A1_2 l1_2.length c1_2] 25 (0, 0)) (kg2 NB539_604 NB539_603 BK539) hb); replace BK550 := aM (blk_below (g := gb550) (o := .cells #[.bool t543, .slice Ao36 t544.length co36, .slice Ao37 t547.length co37] 31 (0, 0)) (kg2 NB550_604 NB550_603 BK550) hb); replace BK578 := aM (blk_below (g := gb578) (o := .cells #[.bool t570, .slice Ao84 t571.length co84, .slice Ao85 t574.length co85] 31 (0, 0)) (kg2 NB578_604 NB578_603 BK578) hb); replace BK587 := aM (blk_below (g := gb587) (o := .cells #[.bool t579, .slice Ao93 t580.length co93, .slice Ao94 t583.length co94] 25 (0, 0)) (kg2 NB587_604 NB587_603 BK587) hb); replace BK603 := aM (blk_below (g := gb603) (o := .cells #[.bool t588, .slice Ao106 t589.length co106, .slice Ao107 t592.length co107] 31 (0, 0)) (by (with_reducible repeat (first | refine blk_drewN ?_ _ | refine blk_drew ?_ | refine blk_alloc ?_ _)); refine blk_far ?_ NB603_604.out _; (with_reducible repeat (first | refine blk_drewN ?_ _ | refine blk_drew ?_ | refine blk_alloc ?_ _)); refine blk_far ?_ NB603_604.out _; (with_reducible repeat (first | refine blk_drewN ?_ _ | refine blk_drew ?_ | refine blk_alloc ?_ _)); refine blk_far ?_ NB603_604.out _; (with_reducible repeat (first | refine blk_drewN ?_ _ | refine blk_drew ?_ | refine blk_alloc ?_ _)); refine blk_put (cs := #[.bool t588, .slice Ao106 t589.length co106, .slice none 0 0]) ?_ 2 _ rfl; (with_reducible repeat (first | refine blk_drewN ?_ _ | refine blk_drew ?_ | refine blk_alloc ?_ _)); refine blk_put (cs := #[.bool t588, .slice none 0 0, .slice none 0 0]) ?_ 1 _ rfl; (with_reducible repeat (first | refine blk_drewN ?_ _ | refine blk_drew ?_ | refine blk_alloc ?_ _)); refine blk_put (cs := #[.bool false, .slice none 0 0, .slice none 0 0]) ?_ 0 _ rfl; exact kb BK603) hb); replace BK604 := aM (blk_below (g := gb604) (o := .cells #[.bool t595, .slice Ao114 t596.length co114, .slice Ao115 t599.length co115] 31 (0, 0)) (by (with_reducible repeat (first | refine blk_drewN ?_ _ | refine blk_drew ?_ | refine blk_alloc ?_ _)); refine blk_put (cs := #[.bool t595, .slice Ao114 t596.length co114, .slice none 0 0]) ?_ 2 _ rfl; (with_reducible repeat (first | refine blk_drewN ?_ _ | refine blk_drew ?_ | refine blk_alloc ?_ _)); refine blk_put (cs := #[.bool t595, .slice none 0 0, .slice none 0 0]) ?_ 1 _ rfl; (with_reducible repeat (first | refine blk_drewN ?_ _ | refine blk_drew ?_ | refine blk_alloc ?_ _)); refine blk_put (cs := #[.bool false, .slice none 0 0, .slice none 0 0]) ?_ 0 _ rfl; exact kf NB604_603 BK604) hb); replace HB := aM (below_step (kl HB) hb); clear hb ho0 ho1 ho2 ho3) | ((with_reducible refine gate_dst (N := 19) rfl ?_); (try (refine gate_guard (by rfl) ?_; dsimp only)); refine box_event ?hg (N := 19) ?hd (cs := #[.bool false, .slice none 0 0, .slice none 0 0]) (t := 25) ?hr ?_; (case hd => rfl); (case hg => rfl); (case hr => first | (go_simp; done) | (go_simp; rfl)); intro gb620 hg w118 hbox hb; replace HO_551001 := rb HO_551001 hb; replace HO_551002 := rb HO_551002 hb; replace HO573 := rb HO573 hb; replace HO576 := rb HO576 hb; replace HO582 := rb HO582 hb; replace HO585 := rb HO585 hb; replace HO591 := rb HO591 hb; replace HO594 := rb HO594 hb; replace HO598 := rb HO598 hb; replace HO601 := rb HO601 hb; replace HO608 := rb HO608 hb; replace HO611 := rb HO611 hb; replace HO615 := rb HO615 hb; replace HO618 := rb HO618 hb; have BK620 := aM (hbox); have GE620 := gw hg HB; replace HB := aM (below_step (kl HB) hb); have NB538_620 := nl hg BK538; have NB620_538 := ng hg BK538; replace BK538 := bb BK538 hb; have NB539_620 := nl hg BK539; have NB620_539 := ng hg BK539; replace BK539 := bb BK539 hb; have NB550_620 := nl hg BK550; have NB620_550 := ng hg BK550; replace BK550 := bb BK550 hb; have NB578_620 := nl hg BK578; have NB620_578 := ng hg BK578; replace BK578 := bb BK578 hb; have NB587_620 := nl hg BK587; have NB620_587 := ng hg BK587; replace BK587 := bb BK587 hb; have NB603_620 := nl hg BK603; have NB620_603 := ng hg BK603; replace BK603 := bb BK603 hb; have NB604_620 := nl hg BK604; have NB620_604 := ng hg BK604; replace BK604 := bb BK604 hb; clear hb hbox hg) | ((with_reducible refine gate_dst (N := 20) rfl ?_); (try (refine gate_guard (by rfl) ?_; dsimp only)); refine box_event ?hg (N := 20) ?hd (cs := #[.bool false, .slice none 0 0, .slice none 0 0]) (t := 25) ?hr ?_; (case hd => rfl); (case hg => rfl); (case hr => first | (go_simp; done) | (go_simp; rfl)); intro gb621 hg w119 hbox hb; replace HO_551001 := rb HO_551001 hb; replace HO_551002 := rb HO_551002 hb; replace HO573 := rb HO573 hb; replace HO576 := rb HO576 hb; replace HO582 := rb HO582 hb; replace HO585 := rb HO585 hb; replace HO591 := rb HO591 hb; replace HO594 := rb HO594 hb; replace HO598 := rb HO598 hb; replace HO601 := rb HO601 hb; replace HO608 := rb HO608 hb; replace HO611 := rb HO611 hb; replace HO615 := rb HO615 hb; replace HO618 := rb HO618 hb; have BK621 := aM (hbox); have GE621 := gw hg HB; replace HB := aM (below_step (kl HB) hb); have NB538_621 := nl hg BK538; have NB621_538 := ng hg BK538; replace BK538 := bb BK538 hb; have NB539_621 := nl hg BK539; have NB621_539 := ng hg BK539; replace BK539 := bb BK539 hb; have NB550_621 := nl hg BK550; have NB621_550 := ng hg BK550; replace BK550 := bb BK550 hb; have NB578_621 := nl hg BK578; have NB621_578 := ng hg BK578; replace BK578 := bb BK578 hb; have NB587_621 := nl hg BK587; have NB621_587 := ng hg BK587; replace BK587 := bb BK587 hb; have NB603_621 := nl hg BK603; have NB621_603 := ng hg BK603; replace BK603 := bb BK603 hb; have NB604_621 := nl hg BK604; have NB621_604 := ng hg BK604; replace BK604 := bb BK604 hb; have NB620_621 := nl hg BK620; have NB621_620 := ng hg BK620; replace BK620 := bb BK620 hb; clear hb hbox hg; have hnb120 := NB620_538.out; have hnc120 := NB538_620.out; have hnb121 := NB620_539.out; have hnc121 := NB539_620.out; have hnb122 := NB620_550.out; have hnc122 := NB550_620.out; have hnb123 := NB620_578.out; have hnc123 := NB578_620.out; have hnb124 := NB620_587.out; have hnc124 := NB587_620.out; have hnb125 := NB620_603.out; have hnc125 := NB603_620.out; have hnb126 := NB620_604.out; have hnc126 := NB604_620.out; have hnb127 := NB620_621.out; have hnc127 := NB621_620.out; have hcz128_0 : w119.cell? ⟨gb620, 0, none⟩ = some (.bool false) := bc BK620 0; have hcz128_1 : w119.cell? ⟨gb620, 1, none⟩ = some (.slice none 0 0) := bc BK620 1; have hcz128_2 : w119.cell? ⟨gb620, 2, none⟩ = some (.slice none 0 0) := bc BK620 2; have hfz128_0 := blk_frozen BK620.out 0; have hfz128_1 := blk_frozen BK620.out 1; have hfz128_2 := blk_frozen BK620.out 2; obtain ⟨Ao129, co129, eo129⟩ := Kd.R_slice HO608.out; subst eo129; obtain ⟨Ao130, co130, eo130⟩ := Kd.R_slice HO611.out; subst eo130; have hnb131 := NB621_538.out; have hnc131 := NB538_621.out; have hnb132 := NB621_539.out; have hnc132 := NB539_621.out; have hnb133 := NB621_550.out; have hnc133 := NB550_621.out; have hnb134 := NB621_578.out; have hnc134 := NB578_621.out; have hnb135 := NB621_587.out; have hnc135 := NB587_621.out; have hnb136 := NB621_603.out; have hnc136 := NB603_621.out; have hnb137 := NB621_604.out; have hnc137 := NB604_621.out; have hcz138_0 : w119.cell? ⟨gb621, 0, none⟩ = some (.bool false) := bc BK621 0; have hcz138_1 : w119.cell? ⟨gb621, 1, none⟩ = some (.slice none 0 0) := bc BK621 1; have hcz138_2 : w119.cell? ⟨gb621, 2, none⟩ = some (.slice none 0 0) := bc BK621 2; have hfz138_0 := blk_frozen BK621.out 0; have hfz138_1 := blk_frozen BK621.out 1; have hfz138_2 := blk_frozen BK621.out 2; obtain ⟨Ao139, co139, eo139⟩ := Kd.R_slice HO615.out; subst eo139; obtain ⟨Ao140, co140, eo140⟩ := Kd.R_slice HO618.out; subst eo140))
     (try simp only [Act.put, List.setIfInBounds_toArray, List.set_cons_zero, List.set_cons_succ])
     go_cut [22] (fun v22 wc => ∃ (kq : Nat) (x22_69 : Bool), v22 = .bool x22_69 ∧ Aside0 (lw_LeafTells.j2 kq x22_69 a0_0 l0_1 l0_2 t543 t544 t547 t588 t589 t592 t595 t596 t599 = some r) ∧ Aside0 (kq ≤ kj27) ∧ Aside0 (Kd.R k47 47 wc w.heap.size (fun k_ => some k_ ≠ ((.slice Ao84 t571.length co84) : Value).ownBlock ∧ some k_ ≠ ((.slice Ao106 t589.length co106) : Value).ownBlock ∧ some k_ ≠ ((.slice Ao114 t596.length co114) : Value).ownBlock) (.slice Ao36 t544.length co36) t544) ∧ Aside0 (Kd.R k36 36 wc w.heap.size (fun k_ => some k_ ≠ ((.slice Ao85 t574.length co85) : Value).ownBlock ∧ some k_ ≠ ((.slice Ao107 t592.length co107) : Value).ownBlock ∧ some k_ ≠ ((.slice Ao115 t599.length co115) : Value).ownBlock) (.slice Ao37 t547.length co37) t547) ∧ Aside0 (Kd.R k47 47 wc w.heap.size (fun k_ => some k_ ≠ ((.slice Ao36 t544.length co36) : Value).ownBlock ∧ some k_ ≠ ((.slice Ao106 t589.length co106) : Value).ownBlock ∧ some k_ ≠ ((.slice Ao114 t596.length co114) : Value).ownBlock) (.slice Ao84 t571.length co84) t571) ∧ Aside0 (Kd.R k36 36 wc w.heap.size (fun k_ => some k_ ≠ ((.slice Ao37 t547.length co37) : Value).ownBlock ∧ some k_ ≠ ((.slice Ao107 t592.length co107) : Value).ownBlock ∧ some k_ ≠ ((.slice Ao115 t599.length co115) : Value).ownBlock) (.slice Ao85 t574.length co85) t574) ∧ Aside0 (Kd.R k75 75 wc w.heap.size (fun k_ => some k_ ≠ ((.slice Ao129 t606.length co129) : Value).ownBlock ∧ some k_ ≠ ((.slice Ao139 t613.length co139) : Value).ownBlock) (.slice Ao93 t580.length co93) t580) ∧ Aside0 (Kd.R k76 76 wc w.heap.size (fun k_ => some k_ ≠ ((.slice Ao130 t609.length co130) : Value).ownBlock ∧ some k_ ≠ ((.slice Ao140 t616.length co140) : Value).ownBlock) (.slice Ao94 t583.length co94) t583) ∧ Aside0 (Kd.R k47 47 wc w.heap.size (fun k_ => some k_ ≠ ((.slice Ao36 t544.length co36) : Value).ownBlock ∧ some k_ ≠ ((.slice Ao84 t571.length co84) : Value).ownBlock ∧ some k_ ≠ ((.slice Ao114 t596.length co114) : Value).ownBlock) (.slice Ao106 t589.length co106) t589) ∧ Aside0 (Kd.R k36 36 wc w.heap.size (fun k_ => some k_ ≠ ((.slice Ao37 t547.length co37) : Value).ownBlock ∧ some k_ ≠ ((.slice Ao85 t574.length co85) : Value).ownBlock ∧ some k_ ≠ ((.slice Ao115 t599.length co115) : Value).ownBlock) (.slice Ao107 t592.length co107) t592) ∧ Aside0 (Kd.R k47 47 wc w.heap.size (fun k_ => some k_ ≠ ((.slice Ao36 t544.length co36) : Value).ownBlock ∧ some k_ ≠ ((.slice Ao84 t571.length co84) : Value).ownBlock ∧ some k_ ≠ ((.slice Ao106 t589.length co106) : Value).ownBlock) (.slice Ao114 t596.length co114) t596) ∧ Aside0 (Kd.R k36 36 wc w.heap.size (fun k_ => some k_ ≠ ((.slice Ao37 t547.length co37) : Value).ownBlock ∧ some k_ ≠ ((.slice Ao85 t574.length co85) : Value).ownBlock ∧ some k_ ≠ ((.slice Ao107 t592.length co107) : Value).ownBlock) (.slice Ao115 t599.length co115) t599) ∧ Aside0 (Kd.R k75 75 wc w.heap.size (fun k_ => some k_ ≠ ((.slice Ao93 t580.length co93) : Value).ownBlock ∧ some k_ ≠ ((.slice Ao139 t613.length co139) : Value).ownBlock) (.slice Ao129 t606.length co129) t606) ∧ Aside0 (Kd.R k76 76 wc w.heap.size (fun k_ => some k_ ≠ ((.slice Ao94 t583.length co94) : Value).ownBlock ∧ some k_ ≠ ((.slice Ao140 t616.length co140) : Value).ownBlock) (.slice Ao130 t609.length co130) t609) ∧ Aside0 (Kd.R k75 75 wc w.heap.size (fun k_ => some k_ ≠ ((.slice Ao93 t580.length co93) : Value).ownBlock ∧ some k_ ≠ ((.slice Ao129 t606.length co129) : Value).ownBlock) (.slice Ao139 t613.length co139) t613) ∧ Aside0 (Kd.R k76 76 wc w.heap.size (fun k_ => some k_ ≠ ((.slice Ao94 t583.length co94) : Value).ownBlock ∧ some k_ ≠ ((.slice Ao130 t609.length co130) : Value).ownBlock) (.slice Ao140 t616.length co140) t616) ∧ Aside0 (wc.heap[gb538]? = some (.cells #[.bool a0_0, (.slice A0_1 l0_1.length c0_1), (.slice A0_2 l0_2.length c0_2)] 25 (0, 0))) ∧ Aside0 (wc.heap[gb539]? = some (.cells #[.bool a1_0, (.slice A1_1 l1_1.length c1_1), (.slice A1_2 l1_2.length c1_2)] 25 (0, 0))) ∧ Aside0 (wc.heap[gb550]? = some (.cells #[.bool t543, (.slice Ao36 t544.length co36), (.slice Ao37 t547.length co37)] 31 (0, 0))) ∧ Aside0 (wc.heap[gb578]? = some (.cells #[.bool t570, (.slice Ao84 t571.length co84), (.slice Ao85 t574.length co85)] 31 (0, 0))) ∧ Aside0 (wc.heap[gb587]? = some (.cells #[.bool t579, (.slice Ao93 t580.length co93), (.slice Ao94 t583.length co94)] 25 (0, 0))) ∧ Aside0 (wc.heap[gb603]? = some (.cells #[.bool t588, (.slice Ao106 t589.length co106), (.slice Ao107 t592.length co107)] 31 (0, 0))) ∧ Aside0 (wc.heap[gb604]? = some (.cells #[.bool t595, (.slice Ao114 t596.length co114), (.slice Ao115 t599.length co115)] 31 (0, 0))) ∧ Aside0 (wc.heap[gb620]? = some (.cells #[.bool t605, (.slice Ao129 t606.length co129), (.slice Ao130 t609.length co130)] 25 (0, 0))) ∧ Aside0 (wc.heap[gb621]? = some (.cells #[.bool t612, (.slice Ao139 t613.length co139), (.slice Ao140 t616.length co140)] 25 (0, 0))) ∧ Aside0 (Below w.heap.size w wc))
     case first =>
      have H := HC70.out
      clear HC70
      by_cases c141 : t566.toList = t568.toList
      rotate_left
      ·rw [if_neg c141] at H
       exact absurd (H.trans (congrArg some hT.out)) (lw_LeafTells.dead_j2_0 _ _ _ _ _ _ _ _ _ _ _ _ _)
      rw [if_pos c141] at H
      have c141b0 : (t566.toList == t568.toList) = true := beq_iff_eq.mpr c141
      have c141b1 : (t566.toList != t568.toList) = false := bne_eq_false_iff_eq.mpr c141
      clear c141
      (first | rw [c141b0] | (simp only [i64_w, i32_w]; rw [c141b0]) | skip)
      by_cases c142 : t567 = t569
      rotate_left
      ·rw [if_neg c142] at H
       exact absurd (H.trans (congrArg some hT.out)) (lw_LeafTells.dead_j2_0 _ _ _ _ _ _ _ _ _ _ _ _ _)
      rw [if_pos c142] at H
      have c142b0 : (t567 == t569) = true := beq_iff_eq.mpr c142
      have c142b1 : (t567 != t569) = false := bne_eq_false_iff_eq.mpr c142
      clear c142
      replace H := Option.bind_eq_some_iff.mp H
      obtain ⟨⟨t622, t623, t626⟩, A1430, H⟩ := H
      replace H : ((rf_Same.f kj27 t622 t623 t626 t579 t580 t583).bind fun t629 => (if t629 = true then (if t577 = t586 then ((lw_told.f kj27 t588 t589 t592).bind fun bt630 => ((rf_Same.f kj27 bt630.1 bt630.2.1 bt630.2.2 t605 t606 t609).bind fun t637 => (if t637 = true then ((lw_told.f kj27 t595 t596 t599).bind fun bt638 => ((rf_Same.f kj27 bt638.1 bt638.2.1 bt638.2.2 t612 t613 t616).bind fun t645 => (if t645 = true then (lw_LeafTells.j2 kj27 (t602 == t619) a0_0 l0_1 l0_2 t543 t544 t547 t588 t589 t592 t595 t596 t599) else (lw_LeafTells.j2 kj27 false a0_0 l0_1 l0_2 t543 t544 t547 t588 t589 t592 t595 t596 t599)))) else (lw_LeafTells.j2 kj27 false a0_0 l0_1 l0_2 t543 t544 t547 t588 t589 t592 t595 t596 t599)))) else (lw_LeafTells.j2 kj27 false a0_0 l0_1 l0_2 t543 t544 t547 t588 t589 t592 t595 t596 t599)) else (lw_LeafTells.j2 kj27 false a0_0 l0_1 l0_2 t543 t544 t547 t588 t589 t592 t595 t596 t599))) = some r := H
      have A143 := aM A1430
      clear A1430
      replace H := Option.bind_eq_some_iff.mp H
      obtain ⟨t629, A1440, H⟩ := H
      replace H : (if t629 = true then (if t577 = t586 then ((lw_told.f kj27 t588 t589 t592).bind fun bt630 => ((rf_Same.f kj27 bt630.1 bt630.2.1 bt630.2.2 t605 t606 t609).bind fun t637 => (if t637 = true then ((lw_told.f kj27 t595 t596 t599).bind fun bt638 => ((rf_Same.f kj27 bt638.1 bt638.2.1 bt638.2.2 t612 t613 t616).bind fun t645 => (if t645 = true then (lw_LeafTells.j2 kj27 (t602 == t619) a0_0 l0_1 l0_2 t543 t544 t547 t588 t589 t592 t595 t596 t599) else (lw_LeafTells.j2 kj27 false a0_0 l0_1 l0_2 t543 t544 t547 t588 t589 t592 t595 t596 t599)))) else (lw_LeafTells.j2 kj27 false a0_0 l0_1 l0_2 t543 t544 t547 t588 t589 t592 t595 t596 t599)))) else (lw_LeafTells.j2 kj27 false a0_0 l0_1 l0_2 t543 t544 t547 t588 t589 t592 t595 t596 t599)) else (lw_LeafTells.j2 kj27 false a0_0 l0_1 l0_2 t543 t544 t547 t588 t589 t592 t595 t596 t599)) = some r := H
      have A144 := aM A1440
      clear A1440
      by_cases c145 : t629 = true
      rotate_left
      ·replace c145 := Bool.eq_false_iff.mpr c145
       subst c145
       have H1 : (lw_LeafTells.j2 kj27 false a0_0 l0_1 l0_2 t543 t544 t547 t588 t589 t592 t595 t596 t599) = some r := by rw [if_neg (show ¬ (false = true) by decide)] at H; exact H
       clear H
       have H := H1
       clear H1
       exact absurd (H.trans (congrArg some hT.out)) (lw_LeafTells.dead_j2_0 _ _ _ _ _ _ _ _ _ _ _ _ _)
      subst c145
      have H1 : (if t577 = t586 then ((lw_told.f kj27 t588 t589 t592).bind fun bt630 => ((rf_Same.f kj27 bt630.1 bt630.2.1 bt630.2.2 t605 t606 t609).bind fun t637 => (if t637 = true then ((lw_told.f kj27 t595 t596 t599).bind fun bt638 => ((rf_Same.f kj27 bt638.1 bt638.2.1 bt638.2.2 t612 t613 t616).bind fun t645 => (if t645 = true then (lw_LeafTells.j2 kj27 (t602 == t619) a0_0 l0_1 l0_2 t543 t544 t547 t588 t589 t592 t595 t596 t599) else (lw_LeafTells.j2 kj27 false a0_0 l0_1 l0_2 t543 t544 t547 t588 t589 t592 t595 t596 t599)))) else (lw_LeafTells.j2 kj27 false a0_0 l0_1 l0_2 t543 t544 t547 t588 t589 t592 t595 t596 t599)))) else (lw_LeafTells.j2 kj27 false a0_0 l0_1 l0_2 t543 t544 t547 t588 t589 t592 t595 t596 t599)) = some r := by rw [if_pos rfl] at H; exact H
      clear H
      have H := H1
      clear H1
      by_cases c146 : t577 = t586
      rotate_left
      ·rw [if_neg c146] at H
       exact absurd (H.trans (congrArg some hT.out)) (lw_LeafTells.dead_j2_0 _ _ _ _ _ _ _ _ _ _ _ _ _)
      rw [if_pos c146] at H
      have c146b0 : (t577 == t586) = true := beq_iff_eq.mpr c146
      have c146b1 : (t577 != t586) = false := bne_eq_false_iff_eq.mpr c146
      clear c146
      replace H := Option.bind_eq_some_iff.mp H
      obtain ⟨⟨t630, t631, t634⟩, A1470, H⟩ := H
      replace H : ((rf_Same.f kj27 t630 t631 t634 t605 t606 t609).bind fun t637 => (if t637 = true then ((lw_told.f kj27 t595 t596 t599).bind fun bt638 => ((rf_Same.f kj27 bt638.1 bt638.2.1 bt638.2.2 t612 t613 t616).bind fun t645 => (if t645 = true then (lw_LeafTells.j2 kj27 (t602 == t619) a0_0 l0_1 l0_2 t543 t544 t547 t588 t589 t592 t595 t596 t599) else (lw_LeafTells.j2 kj27 false a0_0 l0_1 l0_2 t543 t544 t547 t588 t589 t592 t595 t596 t599)))) else (lw_LeafTells.j2 kj27 false a0_0 l0_1 l0_2 t543 t544 t547 t588 t589 t592 t595 t596 t599))) = some r := H
      have A147 := aM A1470
      clear A1470
      replace H := Option.bind_eq_some_iff.mp H
      obtain ⟨t637, A1480, H⟩ := H
      replace H : (if t637 = true then ((lw_told.f kj27 t595 t596 t599).bind fun bt638 => ((rf_Same.f kj27 bt638.1 bt638.2.1 bt638.2.2 t612 t613 t616).bind fun t645 => (if t645 = true then (lw_LeafTells.j2 kj27 (t602 == t619) a0_0 l0_1 l0_2 t543 t544 t547 t588 t589 t592 t595 t596 t599) else (lw_LeafTells.j2 kj27 false a0_0 l0_1 l0_2 t543 t544 t547 t588 t589 t592 t595 t596 t599)))) else (lw_LeafTells.j2 kj27 false a0_0 l0_1 l0_2 t543 t544 t547 t588 t589 t592 t595 t596 t599)) = some r := H
      have A148 := aM A1480
      clear A1480
      by_cases c149 : t637 = true
      rotate_left
      ·replace c149 := Bool.eq_false_iff.mpr c149
       subst c149
       have H1 : (lw_LeafTells.j2 kj27 false a0_0 l0_1 l0_2 t543 t544 t547 t588 t589 t592 t595 t596 t599) = some r := by rw [if_neg (show ¬ (false = true) by decide)] at H; exact H
       clear H
       have H := H1
       clear H1
       exact absurd (H.trans (congrArg some hT.out)) (lw_LeafTells.dead_j2_0 _ _ _ _ _ _ _ _ _ _ _ _ _)
      subst c149
      have H1 : ((lw_told.f kj27 t595 t596 t599).bind fun bt638 => ((rf_Same.f kj27 bt638.1 bt638.2.1 bt638.2.2 t612 t613 t616).bind fun t645 => (if t645 = true then (lw_LeafTells.j2 kj27 (t602 == t619) a0_0 l0_1 l0_2 t543 t544 t547 t588 t589 t592 t595 t596 t599) else (lw_LeafTells.j2 kj27 false a0_0 l0_1 l0_2 t543 t544 t547 t588 t589 t592 t595 t596 t599)))) = some r := by rw [if_pos rfl] at H; exact H
      clear H
      have H := H1
      clear H1
      replace H := Option.bind_eq_some_iff.mp H
      obtain ⟨⟨t638, t639, t642⟩, A1500, H⟩ := H
      replace H : ((rf_Same.f kj27 t638 t639 t642 t612 t613 t616).bind fun t645 => (if t645 = true then (lw_LeafTells.j2 kj27 (t602 == t619) a0_0 l0_1 l0_2 t543 t544 t547 t588 t589 t592 t595 t596 t599) else (lw_LeafTells.j2 kj27 false a0_0 l0_1 l0_2 t543 t544 t547 t588 t589 t592 t595 t596 t599))) = some r := H
      have A150 := aM A1500
      clear A1500
      replace H := Option.bind_eq_some_iff.mp H
      obtain ⟨t645, A1510, H⟩ := H
      replace H : (if t645 = true then (lw_LeafTells.j2 kj27 (t602 == t619) a0_0 l0_1 l0_2 t543 t544 t547 t588 t589 t592 t595 t596 t599) else (lw_LeafTells.j2 kj27 false a0_0 l0_1 l0_2 t543 t544 t547 t588 t589 t592 t595 t596 t599)) = some r := H
      have A151 := aM A1510
      clear A1510
      by_cases c152 : t645 = true
      rotate_left
      ·replace c152 := Bool.eq_false_iff.mpr c152
       subst c152
       have H1 : (lw_LeafTells.j2 kj27 false a0_0 l0_1 l0_2 t543 t544 t547 t588 t589 t592 t595 t596 t599) = some r := by rw [if_neg (show ¬ (false = true) by decide)] at H; exact H
       clear H
       have H := H1
       clear H1
       exact absurd (H.trans (congrArg some hT.out)) (lw_LeafTells.dead_j2_0 _ _ _ _ _ _ _ _ _ _ _ _ _)
      subst c152
      have H1 : (lw_LeafTells.j2 kj27 (t602 == t619) a0_0 l0_1 l0_2 t543 t544 t547 t588 t589 t592 t595 t596 t599) = some r := by rw [if_pos rfl] at H; exact H
      clear H
      have H := H1
      clear H1
      have H' := aM H
      clear H
      try go_wp2
      have n0_ : Aside0 (Kd.R k47 47 ((((((w119.setCell ⟨gb620, 0, none⟩ (.bool t605)).setCell ⟨gb620, 1, none⟩ (.slice Ao129 t606.length co129)).setCell ⟨gb620, 2, none⟩ (.slice Ao130 t609.length co130)).setCell ⟨gb621, 0, none⟩ (.bool t612)).setCell ⟨gb621, 1, none⟩ (.slice Ao139 t613.length co139)).setCell ⟨gb621, 2, none⟩ (.slice Ao140 t616.length co140)) w.heap.size (fun k_ => some k_ ≠ (.slice Ao84 t571.length co84 : Value).ownBlock ∧ some k_ ≠ (.slice Ao106 t589.length co106 : Value).ownBlock ∧ some k_ ≠ (.slice Ao114 t596.length co114 : Value).ownBlock) (.slice Ao36 t544.length co36) t544) := ⟨by exact Kd.R_mono (Kd.R_far (Kd.R_far (Kd.R_far (Kd.R_far (Kd.R_far (Kd.R_far (Kd.R_types (Kd.R_types HO_551001.out BK620.out (by decide)) BK621.out (by decide)) (fun _ hk => hk.1.2) _) (fun _ hk => hk.1.2) _) (fun _ hk => hk.1.2) _) (fun _ hk => hk.2) _) (fun _ hk => hk.2) _) (fun _ hk => hk.2) _) (fun _ hk => ⟨hk.1.1.1.1.2, ⟨hk.1.1.1.2, hk.1.1.2⟩⟩)⟩
      have n1_ : Aside0 (Kd.R k36 36 ((((((w119.setCell ⟨gb620, 0, none⟩ (.bool t605)).setCell ⟨gb620, 1, none⟩ (.slice Ao129 t606.length co129)).setCell ⟨gb620, 2, none⟩ (.slice Ao130 t609.length co130)).setCell ⟨gb621, 0, none⟩ (.bool t612)).setCell ⟨gb621, 1, none⟩ (.slice Ao139 t613.length co139)).setCell ⟨gb621, 2, none⟩ (.slice Ao140 t616.length co140)) w.heap.size (fun k_ => some k_ ≠ (.slice Ao85 t574.length co85 : Value).ownBlock ∧ some k_ ≠ (.slice Ao107 t592.length co107 : Value).ownBlock ∧ some k_ ≠ (.slice Ao115 t599.length co115 : Value).ownBlock) (.slice Ao37 t547.length co37) t547) := ⟨by exact Kd.R_mono (Kd.R_far (Kd.R_far (Kd.R_far (Kd.R_far (Kd.R_far (Kd.R_far (Kd.R_types (Kd.R_types HO_551002.out BK620.out (by decide)) BK621.out (by decide)) (fun _ hk => hk.1.2) _) (fun _ hk => hk.1.2) _) (fun _ hk => hk.1.2) _) (fun _ hk => hk.2) _) (fun _ hk => hk.2) _) (fun _ hk => hk.2) _) (fun _ hk => ⟨hk.1.1.1.1.2, ⟨hk.1.1.1.2, hk.1.1.2⟩⟩)⟩
      have n2_ : Aside0 (Kd.R k47 47 ((((((w119.setCell ⟨gb620, 0, none⟩ (.bool t605)).setCell ⟨gb620, 1, none⟩ (.slice Ao129 t606.length co129)).setCell ⟨gb620, 2, none⟩ (.slice Ao130 t609.length co130)).setCell ⟨gb621, 0, none⟩ (.bool t612)).setCell ⟨gb621, 1, none⟩ (.slice Ao139 t613.length co139)).setCell ⟨gb621, 2, none⟩ (.slice Ao140 t616.length co140)) w.heap.size (fun k_ => some k_ ≠ (.slice Ao36 t544.length co36 : Value).ownBlock ∧ some k_ ≠ (.slice Ao106 t589.length co106 : Value).ownBlock ∧ some k_ ≠ (.slice Ao114 t596.length co114 : Value).ownBlock) (.slice Ao84 t571.length co84) t571) := ⟨by exact Kd.R_mono (Kd.R_far (Kd.R_far (Kd.R_far (Kd.R_far (Kd.R_far (Kd.R_far (Kd.R_types (Kd.R_types HO573.out BK620.out (by decide)) BK621.out (by decide)) (fun _ hk => hk.1.2) _) (fun _ hk => hk.1.2) _) (fun _ hk => hk.1.2) _) (fun _ hk => hk.2) _) (fun _ hk => hk.2) _) (fun _ hk => hk.2) _) (fun _ hk => ⟨hk.1.1.1.1.2, ⟨hk.1.1.1.2, hk.1.1.2⟩⟩)⟩
      have n3_ : Aside0 (Kd.R k36 36 ((((((w119.setCell ⟨gb620, 0, none⟩ (.bool t605)).setCell ⟨gb620, 1, none⟩ (.slice Ao129 t606.length co129)).setCell ⟨gb620, 2, none⟩ (.slice Ao130 t609.length co130)).setCell ⟨gb621, 0, none⟩ (.bool t612)).setCell ⟨gb621, 1, none⟩ (.slice Ao139 t613.length co139)).setCell ⟨gb621, 2, none⟩ (.slice Ao140 t616.length co140)) w.heap.size (fun k_ => some k_ ≠ (.slice Ao37 t547.length co37 : Value).ownBlock ∧ some k_ ≠ (.slice Ao107 t592.length co107 : Value).ownBlock ∧ some k_ ≠ (.slice Ao115 t599.length co115 : Value).ownBlock) (.slice Ao85 t574.length co85) t574) := ⟨by exact Kd.R_mono (Kd.R_far (Kd.R_far (Kd.R_far (Kd.R_far (Kd.R_far (Kd.R_far (Kd.R_types (Kd.R_types HO576.out BK620.out (by decide)) BK621.out (by decide)) (fun _ hk => hk.1.2) _) (fun _ hk => hk.1.2) _) (fun _ hk => hk.1.2) _) (fun _ hk => hk.2) _) (fun _ hk => hk.2) _) (fun _ hk => hk.2) _) (fun _ hk => ⟨hk.1.1.1.1.2, ⟨hk.1.1.1.2, hk.1.1.2⟩⟩)⟩
      have n4_ : Aside0 (Kd.R k75 75 ((((((w119.setCell ⟨gb620, 0, none⟩ (.bool t605)).setCell ⟨gb620, 1, none⟩ (.slice Ao129 t606.length co129)).setCell ⟨gb620, 2, none⟩ (.slice Ao130 t609.length co130)).setCell ⟨gb621, 0, none⟩ (.bool t612)).setCell ⟨gb621, 1, none⟩ (.slice Ao139 t613.length co139)).setCell ⟨gb621, 2, none⟩ (.slice Ao140 t616.length co140)) w.heap.size (fun k_ => some k_ ≠ (.slice Ao129 t606.length co129 : Value).ownBlock ∧ some k_ ≠ (.slice Ao139 t613.length co139 : Value).ownBlock) (.slice Ao93 t580.length co93) t580) := ⟨by exact Kd.R_mono (Kd.R_far (Kd.R_far (Kd.R_far (Kd.R_far (Kd.R_far (Kd.R_far (Kd.R_types (Kd.R_types HO582.out BK620.out (by decide)) BK621.out (by decide)) (fun _ hk => hk.1.2) _) (fun _ hk => hk.1.2) _) (fun _ hk => hk.1.2) _) (fun _ hk => hk.2) _) (fun _ hk => hk.2) _) (fun _ hk => hk.2) _) (fun _ hk => ⟨hk.1.1.1.2, hk.1.1.2⟩)⟩
      have n5_ : Aside0 (Kd.R k76 76 ((((((w119.setCell ⟨gb620, 0, none⟩ (.bool t605)).setCell ⟨gb620, 1, none⟩ (.slice Ao129 t606.length co129)).setCell ⟨gb620, 2, none⟩ (.slice Ao130 t609.length co130)).setCell ⟨gb621, 0, none⟩ (.bool t612)).setCell ⟨gb621, 1, none⟩ (.slice Ao139 t613.length co139)).setCell ⟨gb621, 2, none⟩ (.slice Ao140 t616.length co140)) w.heap.size (fun k_ => some k_ ≠ (.slice Ao130 t609.length co130 : Value).ownBlock ∧ some k_ ≠ (.slice Ao140 t616.length co140 : Value).ownBlock) (.slice Ao94 t583.length co94) t583) := ⟨by exact Kd.R_mono (Kd.R_far (Kd.R_far (Kd.R_far (Kd.R_far (Kd.R_far (Kd.R_far (Kd.R_types (Kd.R_types HO585.out BK620.out (by decide)) BK621.out (by decide)) (fun _ hk => hk.1.2) _) (fun _ hk => hk.1.2) _) (fun _ hk => hk.1.2) _) (fun _ hk => hk.2) _) (fun _ hk => hk.2) _) (fun _ hk => hk.2) _) (fun _ hk => ⟨hk.1.1.1.2, hk.1.1.2⟩)⟩
      have n6_ : Aside0 (Kd.R k47 47 ((((((w119.setCell ⟨gb620, 0, none⟩ (.bool t605)).setCell ⟨gb620, 1, none⟩ (.slice Ao129 t606.length co129)).setCell ⟨gb620, 2, none⟩ (.slice Ao130 t609.length co130)).setCell ⟨gb621, 0, none⟩ (.bool t612)).setCell ⟨gb621, 1, none⟩ (.slice Ao139 t613.length co139)).setCell ⟨gb621, 2, none⟩ (.slice Ao140 t616.length co140)) w.heap.size (fun k_ => some k_ ≠ (.slice Ao36 t544.length co36 : Value).ownBlock ∧ some k_ ≠ (.slice Ao84 t571.length co84 : Value).ownBlock ∧ some k_ ≠ (.slice Ao114 t596.length co114 : Value).ownBlock) (.slice Ao106 t589.length co106) t589) := ⟨by exact Kd.R_mono (Kd.R_far (Kd.R_far (Kd.R_far (Kd.R_far (Kd.R_far (Kd.R_far (Kd.R_types (Kd.R_types HO591.out BK620.out (by decide)) BK621.out (by decide)) (fun _ hk => hk.1.2) _) (fun _ hk => hk.1.2) _) (fun _ hk => hk.1.2) _) (fun _ hk => hk.2) _) (fun _ hk => hk.2) _) (fun _ hk => hk.2) _) (fun _ hk => ⟨hk.1.1.1.2, ⟨hk.1.1.2, hk.1.1.1.1⟩⟩)⟩
      have n7_ : Aside0 (Kd.R k36 36 ((((((w119.setCell ⟨gb620, 0, none⟩ (.bool t605)).setCell ⟨gb620, 1, none⟩ (.slice Ao129 t606.length co129)).setCell ⟨gb620, 2, none⟩ (.slice Ao130 t609.length co130)).setCell ⟨gb621, 0, none⟩ (.bool t612)).setCell ⟨gb621, 1, none⟩ (.slice Ao139 t613.length co139)).setCell ⟨gb621, 2, none⟩ (.slice Ao140 t616.length co140)) w.heap.size (fun k_ => some k_ ≠ (.slice Ao37 t547.length co37 : Value).ownBlock ∧ some k_ ≠ (.slice Ao85 t574.length co85 : Value).ownBlock ∧ some k_ ≠ (.slice Ao115 t599.length co115 : Value).ownBlock) (.slice Ao107 t592.length co107) t592) := ⟨by exact Kd.R_mono (Kd.R_far (Kd.R_far (Kd.R_far (Kd.R_far (Kd.R_far (Kd.R_far (Kd.R_types (Kd.R_types HO594.out BK620.out (by decide)) BK621.out (by decide)) (fun _ hk => hk.1.2) _) (fun _ hk => hk.1.2) _) (fun _ hk => hk.1.2) _) (fun _ hk => hk.2) _) (fun _ hk => hk.2) _) (fun _ hk => hk.2) _) (fun _ hk => ⟨hk.1.1.1.2, ⟨hk.1.1.2, hk.1.1.1.1⟩⟩)⟩
      have n8_ : Aside0 (Kd.R k47 47 ((((((w119.setCell ⟨gb620, 0, none⟩ (.bool t605)).setCell ⟨gb620, 1, none⟩ (.slice Ao129 t606.length co129)).setCell ⟨gb620, 2, none⟩ (.slice Ao130 t609.length co130)).setCell ⟨gb621, 0, none⟩ (.bool t612)).setCell ⟨gb621, 1, none⟩ (.slice Ao139 t613.length co139)).setCell ⟨gb621, 2, none⟩ (.slice Ao140 t616.length co140)) w.heap.size (fun k_ => some k_ ≠ (.slice Ao36 t544.length co36 : Value).ownBlock ∧ some k_ ≠ (.slice Ao84 t571.length co84 : Value).ownBlock ∧ some k_ ≠ (.slice Ao106 t589.length co106 : Value).ownBlock) (.slice Ao114 t596.length co114) t596) := ⟨by exact Kd.R_mono (Kd.R_far (Kd.R_far (Kd.R_far (Kd.R_far (Kd.R_far (Kd.R_far (Kd.R_types (Kd.R_types HO598.out BK620.out (by decide)) BK621.out (by decide)) (fun _ hk => hk.1.2) _) (fun _ hk => hk.1.2) _) (fun _ hk => hk.1.2) _) (fun _ hk => hk.2) _) (fun _ hk => hk.2) _) (fun _ hk => hk.2) _) (fun _ hk => ⟨hk.1.1.1.2, ⟨hk.1.1.2, hk.1.1.1.1⟩⟩)⟩
      have n9_ : Aside0 (Kd.R k36 36 ((((((w119.setCell ⟨gb620, 0, none⟩ (.bool t605)).setCell ⟨gb620, 1, none⟩ (.slice Ao129 t606.length co129)).setCell ⟨gb620, 2, none⟩ (.slice Ao130 t609.length co130)).setCell ⟨gb621, 0, none⟩ (.bool t612)).setCell ⟨gb621, 1, none⟩ (.slice Ao139 t613.length co139)).setCell ⟨gb621, 2, none⟩ (.slice Ao140 t616.length co140)) w.heap.size (fun k_ => some k_ ≠ (.slice Ao37 t547.length co37 : Value).ownBlock ∧ some k_ ≠ (.slice Ao85 t574.length co85 : Value).ownBlock ∧ some k_ ≠ (.slice Ao107 t592.length co107 : Value).ownBlock) (.slice Ao115 t599.length co115) t599) := ⟨by exact Kd.R_mono (Kd.R_far (Kd.R_far (Kd.R_far (Kd.R_far (Kd.R_far (Kd.R_far (Kd.R_types (Kd.R_types HO601.out BK620.out (by decide)) BK621.out (by decide)) (fun _ hk => hk.1.2) _) (fun _ hk => hk.1.2) _) (fun _ hk => hk.1.2) _) (fun _ hk => hk.2) _) (fun _ hk => hk.2) _) (fun _ hk => hk.2) _) (fun _ hk => ⟨hk.1.1.1.2, ⟨hk.1.1.2, hk.1.1.1.1⟩⟩)⟩
      have n10_ : Aside0 (Kd.R k75 75 ((((((w119.setCell ⟨gb620, 0, none⟩ (.bool t605)).setCell ⟨gb620, 1, none⟩ (.slice Ao129 t606.length co129)).setCell ⟨gb620, 2, none⟩ (.slice Ao130 t609.length co130)).setCell ⟨gb621, 0, none⟩ (.bool t612)).setCell ⟨gb621, 1, none⟩ (.slice Ao139 t613.length co139)).setCell ⟨gb621, 2, none⟩ (.slice Ao140 t616.length co140)) w.heap.size (fun k_ => some k_ ≠ (.slice Ao93 t580.length co93 : Value).ownBlock ∧ some k_ ≠ (.slice Ao139 t613.length co139 : Value).ownBlock) (.slice Ao129 t606.length co129) t606) := ⟨by exact Kd.R_mono (Kd.R_far (Kd.R_far (Kd.R_far (Kd.R_far (Kd.R_far (Kd.R_far (Kd.R_types (Kd.R_types HO608.out BK620.out (by decide)) BK621.out (by decide)) (fun _ hk => hk.1.2) _) (fun _ hk => hk.1.2) _) (fun _ hk => hk.1.2) _) (fun _ hk => hk.2) _) (fun _ hk => hk.2) _) (fun _ hk => hk.2) _) (fun _ hk => ⟨hk.1.1.2, hk.1.1.1⟩)⟩
      have n11_ : Aside0 (Kd.R k76 76 ((((((w119.setCell ⟨gb620, 0, none⟩ (.bool t605)).setCell ⟨gb620, 1, none⟩ (.slice Ao129 t606.length co129)).setCell ⟨gb620, 2, none⟩ (.slice Ao130 t609.length co130)).setCell ⟨gb621, 0, none⟩ (.bool t612)).setCell ⟨gb621, 1, none⟩ (.slice Ao139 t613.length co139)).setCell ⟨gb621, 2, none⟩ (.slice Ao140 t616.length co140)) w.heap.size (fun k_ => some k_ ≠ (.slice Ao94 t583.length co94 : Value).ownBlock ∧ some k_ ≠ (.slice Ao140 t616.length co140 : Value).ownBlock) (.slice Ao130 t609.length co130) t609) := ⟨by exact Kd.R_mono (Kd.R_far (Kd.R_far (Kd.R_far (Kd.R_far (Kd.R_far (Kd.R_far (Kd.R_types (Kd.R_types HO611.out BK620.out (by decide)) BK621.out (by decide)) (fun _ hk => hk.1.2) _) (fun _ hk => hk.1.2) _) (fun _ hk => hk.1.2) _) (fun _ hk => hk.2) _) (fun _ hk => hk.2) _) (fun _ hk => hk.2) _) (fun _ hk => ⟨hk.1.1.2, hk.1.1.1⟩)⟩
      have n12_ : Aside0 (Kd.R k75 75 ((((((w119.setCell ⟨gb620, 0, none⟩ (.bool t605)).setCell ⟨gb620, 1, none⟩ (.slice Ao129 t606.length co129)).setCell ⟨gb620, 2, none⟩ (.slice Ao130 t609.length co130)).setCell ⟨gb621, 0, none⟩ (.bool t612)).setCell ⟨gb621, 1, none⟩ (.slice Ao139 t613.length co139)).setCell ⟨gb621, 2, none⟩ (.slice Ao140 t616.length co140)) w.heap.size (fun k_ => some k_ ≠ (.slice Ao93 t580.length co93 : Value).ownBlock ∧ some k_ ≠ (.slice Ao129 t606.length co129 : Value).ownBlock) (.slice Ao139 t613.length co139) t613) := ⟨by exact Kd.R_mono (Kd.R_far (Kd.R_far (Kd.R_far (Kd.R_far (Kd.R_far (Kd.R_far (Kd.R_types (Kd.R_types HO615.out BK620.out (by decide)) BK621.out (by decide)) (fun _ hk => hk.1.2) _) (fun _ hk => hk.1.2) _) (fun _ hk => hk.1.2) _) (fun _ hk => hk.2) _) (fun _ hk => hk.2) _) (fun _ hk => hk.2) _) (fun _ hk => ⟨hk.1.1.2, hk.1.1.1⟩)⟩
      have n13_ : Aside0 (Kd.R k76 76 ((((((w119.setCell ⟨gb620, 0, none⟩ (.bool t605)).setCell ⟨gb620, 1, none⟩ (.slice Ao129 t606.length co129)).setCell ⟨gb620, 2, none⟩ (.slice Ao130 t609.length co130)).setCell ⟨gb621, 0, none⟩ (.bool t612)).setCell ⟨gb621, 1, none⟩ (.slice Ao139 t613.length co139)).setCell ⟨gb621, 2, none⟩ (.slice Ao140 t616.length co140)) w.heap.size (fun k_ => some k_ ≠ (.slice Ao94 t583.length co94 : Value).ownBlock ∧ some k_ ≠ (.slice Ao130 t609.length co130 : Value).ownBlock) (.slice Ao140 t616.length co140) t616) := ⟨by exact Kd.R_mono (Kd.R_far (Kd.R_far (Kd.R_far (Kd.R_far (Kd.R_far (Kd.R_far (Kd.R_types (Kd.R_types HO618.out BK620.out (by decide)) BK621.out (by decide)) (fun _ hk => hk.1.2) _) (fun _ hk => hk.1.2) _) (fun _ hk => hk.1.2) _) (fun _ hk => hk.2) _) (fun _ hk => hk.2) _) (fun _ hk => hk.2) _) (fun _ hk => ⟨hk.1.1.2, hk.1.1.1⟩)⟩
      have n14_ : Aside0 (((((((w119.setCell ⟨gb620, 0, none⟩ (.bool t605)).setCell ⟨gb620, 1, none⟩ (.slice Ao129 t606.length co129)).setCell ⟨gb620, 2, none⟩ (.slice Ao130 t609.length co130)).setCell ⟨gb621, 0, none⟩ (.bool t612)).setCell ⟨gb621, 1, none⟩ (.slice Ao139 t613.length co139)).setCell ⟨gb621, 2, none⟩ (.slice Ao140 t616.length co140)).heap[gb538]? = some (.cells #[.bool a0_0, .slice A0_1 l0_1.length c0_1, .slice A0_2 l0_2.length c0_2] 25 (0, 0))) := ⟨kg2 NB538_621 NB538_620 BK538⟩
      have n15_ : Aside0 (((((((w119.setCell ⟨gb620, 0, none⟩ (.bool t605)).setCell ⟨gb620, 1, none⟩ (.slice Ao129 t606.length co129)).setCell ⟨gb620, 2, none⟩ (.slice Ao130 t609.length co130)).setCell ⟨gb621, 0, none⟩ (.bool t612)).setCell ⟨gb621, 1, none⟩ (.slice Ao139 t613.length co139)).setCell ⟨gb621, 2, none⟩ (.slice Ao140 t616.length co140)).heap[gb539]? = some (.cells #[.bool a1_0, .slice A1_1 l1_1.length c1_1, .slice A1_2 l1_2.length c1_2] 25 (0, 0))) := ⟨kg2 NB539_621 NB539_620 BK539⟩
      have n16_ : Aside0 (((((((w119.setCell ⟨gb620, 0, none⟩ (.bool t605)).setCell ⟨gb620, 1, none⟩ (.slice Ao129 t606.length co129)).setCell ⟨gb620, 2, none⟩ (.slice Ao130 t609.length co130)).setCell ⟨gb621, 0, none⟩ (.bool t612)).setCell ⟨gb621, 1, none⟩ (.slice Ao139 t613.length co139)).setCell ⟨gb621, 2, none⟩ (.slice Ao140 t616.length co140)).heap[gb550]? = some (.cells #[.bool t543, .slice Ao36 t544.length co36, .slice Ao37 t547.length co37] 31 (0, 0))) := ⟨kg2 NB550_621 NB550_620 BK550⟩
      have n17_ : Aside0 (((((((w119.setCell ⟨gb620, 0, none⟩ (.bool t605)).setCell ⟨gb620, 1, none⟩ (.slice Ao129 t606.length co129)).setCell ⟨gb620, 2, none⟩ (.slice Ao130 t609.length co130)).setCell ⟨gb621, 0, none⟩ (.bool t612)).setCell ⟨gb621, 1, none⟩ (.slice Ao139 t613.length co139)).setCell ⟨gb621, 2, none⟩ (.slice Ao140 t616.length co140)).heap[gb578]? = some (.cells #[.bool t570, .slice Ao84 t571.length co84, .slice Ao85 t574.length co85] 31 (0, 0))) := ⟨kg2 NB578_621 NB578_620 BK578⟩
      have n18_ : Aside0 (((((((w119.setCell ⟨gb620, 0, none⟩ (.bool t605)).setCell ⟨gb620, 1, none⟩ (.slice Ao129 t606.length co129)).setCell ⟨gb620, 2, none⟩ (.slice Ao130 t609.length co130)).setCell ⟨gb621, 0, none⟩ (.bool t612)).setCell ⟨gb621, 1, none⟩ (.slice Ao139 t613.length co139)).setCell ⟨gb621, 2, none⟩ (.slice Ao140 t616.length co140)).heap[gb587]? = some (.cells #[.bool t579, .slice Ao93 t580.length co93, .slice Ao94 t583.length co94] 25 (0, 0))) := ⟨kg2 NB587_621 NB587_620 BK587⟩
      have n19_ : Aside0 (((((((w119.setCell ⟨gb620, 0, none⟩ (.bool t605)).setCell ⟨gb620, 1, none⟩ (.slice Ao129 t606.length co129)).setCell ⟨gb620, 2, none⟩ (.slice Ao130 t609.length co130)).setCell ⟨gb621, 0, none⟩ (.bool t612)).setCell ⟨gb621, 1, none⟩ (.slice Ao139 t613.length co139)).setCell ⟨gb621, 2, none⟩ (.slice Ao140 t616.length co140)).heap[gb603]? = some (.cells #[.bool t588, .slice Ao106 t589.length co106, .slice Ao107 t592.length co107] 31 (0, 0))) := ⟨kg2 NB603_621 NB603_620 BK603⟩
      have n20_ : Aside0 (((((((w119.setCell ⟨gb620, 0, none⟩ (.bool t605)).setCell ⟨gb620, 1, none⟩ (.slice Ao129 t606.length co129)).setCell ⟨gb620, 2, none⟩ (.slice Ao130 t609.length co130)).setCell ⟨gb621, 0, none⟩ (.bool t612)).setCell ⟨gb621, 1, none⟩ (.slice Ao139 t613.length co139)).setCell ⟨gb621, 2, none⟩ (.slice Ao140 t616.length co140)).heap[gb604]? = some (.cells #[.bool t595, .slice Ao114 t596.length co114, .slice Ao115 t599.length co115] 31 (0, 0))) := ⟨kg2 NB604_621 NB604_620 BK604⟩
      have n21_ : Aside0 (((((((w119.setCell ⟨gb620, 0, none⟩ (.bool t605)).setCell ⟨gb620, 1, none⟩ (.slice Ao129 t606.length co129)).setCell ⟨gb620, 2, none⟩ (.slice Ao130 t609.length co130)).setCell ⟨gb621, 0, none⟩ (.bool t612)).setCell ⟨gb621, 1, none⟩ (.slice Ao139 t613.length co139)).setCell ⟨gb621, 2, none⟩ (.slice Ao140 t616.length co140)).heap[gb620]? = some (.cells #[.bool t605, .slice Ao129 t606.length co129, .slice Ao130 t609.length co130] 25 (0, 0))) := ⟨by (with_reducible repeat (first | refine blk_drewN ?_ _ | refine blk_drew ?_ | refine blk_alloc ?_ _)); refine blk_far ?_ NB620_621.out _; (with_reducible repeat (first | refine blk_drewN ?_ _ | refine blk_drew ?_ | refine blk_alloc ?_ _)); refine blk_far ?_ NB620_621.out _; (with_reducible repeat (first | refine blk_drewN ?_ _ | refine blk_drew ?_ | refine blk_alloc ?_ _)); refine blk_far ?_ NB620_621.out _; (with_reducible repeat (first | refine blk_drewN ?_ _ | refine blk_drew ?_ | refine blk_alloc ?_ _)); refine blk_put (cs := #[.bool t605, .slice Ao129 t606.length co129, .slice none 0 0]) ?_ 2 _ rfl; (with_reducible repeat (first | refine blk_drewN ?_ _ | refine blk_drew ?_ | refine blk_alloc ?_ _)); refine blk_put (cs := #[.bool t605, .slice none 0 0, .slice none 0 0]) ?_ 1 _ rfl; (with_reducible repeat (first | refine blk_drewN ?_ _ | refine blk_drew ?_ | refine blk_alloc ?_ _)); refine blk_put (cs := #[.bool false, .slice none 0 0, .slice none 0 0]) ?_ 0 _ rfl; exact kb BK620⟩
      have n22_ : Aside0 (((((((w119.setCell ⟨gb620, 0, none⟩ (.bool t605)).setCell ⟨gb620, 1, none⟩ (.slice Ao129 t606.length co129)).setCell ⟨gb620, 2, none⟩ (.slice Ao130 t609.length co130)).setCell ⟨gb621, 0, none⟩ (.bool t612)).setCell ⟨gb621, 1, none⟩ (.slice Ao139 t613.length co139)).setCell ⟨gb621, 2, none⟩ (.slice Ao140 t616.length co140)).heap[gb621]? = some (.cells #[.bool t612, .slice Ao139 t613.length co139, .slice Ao140 t616.length co140] 25 (0, 0))) := ⟨by (with_reducible repeat (first | refine blk_drewN ?_ _ | refine blk_drew ?_ | refine blk_alloc ?_ _)); refine blk_put (cs := #[.bool t612, .slice Ao139 t613.length co139, .slice none 0 0]) ?_ 2 _ rfl; (with_reducible repeat (first | refine blk_drewN ?_ _ | refine blk_drew ?_ | refine blk_alloc ?_ _)); refine blk_put (cs := #[.bool t612, .slice none 0 0, .slice none 0 0]) ?_ 1 _ rfl; (with_reducible repeat (first | refine blk_drewN ?_ _ | refine blk_drew ?_ | refine blk_alloc ?_ _)); refine blk_put (cs := #[.bool false, .slice none 0 0, .slice none 0 0]) ?_ 0 _ rfl; exact kf NB621_620 BK621⟩
      have n23_ : Aside0 (Below w.heap.size w ((((((w119.setCell ⟨gb620, 0, none⟩ (.bool t605)).setCell ⟨gb620, 1, none⟩ (.slice Ao129 t606.length co129)).setCell ⟨gb620, 2, none⟩ (.slice Ao130 t609.length co130)).setCell ⟨gb621, 0, none⟩ (.bool t612)).setCell ⟨gb621, 1, none⟩ (.slice Ao139 t613.length co139)).setCell ⟨gb621, 2, none⟩ (.slice Ao140 t616.length co140))) := ⟨kl HB⟩
      (try clear HO_551001)
      (try clear HO_551002)
      (try clear HO573)
      (try clear HO576)
      (try clear HO582)
      (try clear HO585)
      (try clear HO591)
      (try clear HO594)
      (try clear HO598)
      (try clear HO601)
      (try clear HO608)
      (try clear HO611)
      (try clear HO615)
      (try clear HO618)
      (try clear BK538)
      (try clear BK539)
      (try clear BK550)
      (try clear BK578)
      (try clear BK587)
      (try clear BK603)
      (try clear BK604)
      (try clear BK620)
      (try clear BK621)
      (try clear HB)
      generalize ((((((w119.setCell ⟨gb620, 0, none⟩ (.bool t605)).setCell ⟨gb620, 1, none⟩ (.slice Ao129 t606.length co129)).setCell ⟨gb620, 2, none⟩ (.slice Ao130 t609.length co130)).setCell ⟨gb621, 0, none⟩ (.bool t612)).setCell ⟨gb621, 1, none⟩ (.slice Ao139 t613.length co139)).setCell ⟨gb621, 2, none⟩ (.slice Ao140 t616.length co140)) = w153 at n0_ n1_ n2_ n3_ n4_ n5_ n6_ n7_ n8_ n9_ n10_ n11_ n12_ n13_ n14_ n15_ n16_ n17_ n18_ n19_ n20_ n21_ n22_ n23_ ⊢
      have HO_551001 := n0_
      have HO_551002 := n1_
      have HO573 := n2_
      have HO576 := n3_
      have HO582 := n4_
      have HO585 := n5_
      have HO591 := n6_
      have HO594 := n7_
      have HO598 := n8_
      have HO601 := n9_
      have HO608 := n10_
      have HO611 := n11_
      have HO615 := n12_
      have HO618 := n13_
      have BK538 := n14_
      have BK539 := n15_
      have BK550 := n16_
      have BK578 := n17_
      have BK587 := n18_
      have BK603 := n19_
      have BK604 := n20_
      have BK620 := n21_
      have BK621 := n22_
      have HB := n23_
      clear n0_ n1_ n2_ n3_ n4_ n5_ n6_ n7_ n8_ n9_ n10_ n11_ n12_ n13_ n14_ n15_ n16_ n17_ n18_ n19_ n20_ n21_ n22_ n23_
      replace HO_551001 := aM (Kd.R_drew HO_551001.out)
      replace HO_551002 := aM (Kd.R_drew HO_551002.out)
      replace HO573 := aM (Kd.R_drew HO573.out)
      replace HO576 := aM (Kd.R_drew HO576.out)
      replace HO582 := aM (Kd.R_drew HO582.out)
      replace HO585 := aM (Kd.R_drew HO585.out)
      replace HO591 := aM (Kd.R_drew HO591.out)
      replace HO594 := aM (Kd.R_drew HO594.out)
      replace HO598 := aM (Kd.R_drew HO598.out)
      replace HO601 := aM (Kd.R_drew HO601.out)
      replace HO608 := aM (Kd.R_drew HO608.out)
      replace HO611 := aM (Kd.R_drew HO611.out)
      replace HO615 := aM (Kd.R_drew HO615.out)
      replace HO618 := aM (Kd.R_drew HO618.out)
      replace BK538 := aM (blk_drew BK538.out)
      replace BK539 := aM (blk_drew BK539.out)
      replace BK550 := aM (blk_drew BK550.out)
      replace BK578 := aM (blk_drew BK578.out)
      replace BK587 := aM (blk_drew BK587.out)
      replace BK603 := aM (blk_drew BK603.out)
      replace BK604 := aM (blk_drew BK604.out)
      replace BK620 := aM (blk_drew BK620.out)
      replace BK621 := aM (blk_drew BK621.out)
      replace HB := aM (below_drew1 HB.out)
      refine start_ (n := 37) (S := fun w' => w'.cell? ⟨gb578, 0, none⟩ = some (.bool t570) ∧ w'.cell? ⟨gb578, 1, none⟩ = some (.slice Ao84 t571.length co84) ∧ w'.cell? ⟨gb578, 2, none⟩ = some (.slice Ao85 t574.length co85) ∧ w'.cell? ⟨gb587, 0, none⟩ = some (.bool t579) ∧ w'.cell? ⟨gb587, 1, none⟩ = some (.slice Ao93 t580.length co93) ∧ w'.cell? ⟨gb587, 2, none⟩ = some (.slice Ao94 t583.length co94) ∧ w'.cell? ⟨gb603, 0, none⟩ = some (.bool t588) ∧ w'.cell? ⟨gb603, 1, none⟩ = some (.slice Ao106 t589.length co106) ∧ w'.cell? ⟨gb603, 2, none⟩ = some (.slice Ao107 t592.length co107) ∧ w'.cell? ⟨gb620, 0, none⟩ = some (.bool t605) ∧ w'.cell? ⟨gb620, 1, none⟩ = some (.slice Ao129 t606.length co129) ∧ w'.cell? ⟨gb620, 2, none⟩ = some (.slice Ao130 t609.length co130) ∧ w'.cell? ⟨gb604, 0, none⟩ = some (.bool t595) ∧ w'.cell? ⟨gb604, 1, none⟩ = some (.slice Ao114 t596.length co114) ∧ w'.cell? ⟨gb604, 2, none⟩ = some (.slice Ao115 t599.length co115) ∧ w'.cell? ⟨gb621, 0, none⟩ = some (.bool t612) ∧ w'.cell? ⟨gb621, 1, none⟩ = some (.slice Ao139 t613.length co139) ∧ w'.cell? ⟨gb621, 2, none⟩ = some (.slice Ao140 t616.length co140)) (ds := []) #[N,N,N,N,N,N,N,N,N,N,N,N,N,N,N,N,N,N,N,N,N,N,N,N,N,N,N,N,N,N,N,N,N,N,N,N,N] (by kernel_rfl) rfl rfl ⟨bc BK578 0, bc BK578 1, bc BK578 2, bc BK587 0, bc BK587 1, bc BK587 2, bc BK603 0, bc BK603 1, bc BK603 2, bc BK620 0, bc BK620 1, bc BK620 2, bc BK604 0, bc BK604 1, bc BK604 2, bc BK621 0, bc BK621 1, bc BK621 2⟩ (fun hHeld => ?_); refine with_tabW lw_LeafTells.tab12 lw_LeafTells.bits12 (fun HT_ HW_ => ?_)
      generalize w153.drew = w154 at HO_551001 HO_551002 HO573 HO576 HO582 HO585 HO591 HO594 HO598 HO601 HO608 HO611 HO615 HO618 BK538 BK539 BK550 BK578 BK587 BK603 BK604 BK620 BK621 HB hHeld ⊢
      refine pure_ (i := 0) (N := some 100) (v := ?_) (a' := ?_) #[Y,N,N,N,N,N,N,N,N,N,N,N,N,N,N,N,N,N,N,N,N,N,N,N,N,N,N,N,N,N,N,N,N,N,N,N,N] rfl rfl (any_of HT_.out (by kernel_rfl)) (fun _ _ _ h => h) (Or.inl ⟨by rfl, ?_⟩) ?_ ?_
      rotate_left
      ·intro w'
       go_simp
       with_reducible rfl
      rotate_left
      ·simp only [Act.put, List.setIfInBounds_toArray, List.set_cons_zero, List.set_cons_succ, i64_w, i32_w]
       rfl
      refine pure_ (i := 1) (N := some 101) (v := ?_) (a' := ?_) #[Y,Y,N,N,N,N,N,N,N,N,N,N,N,N,N,N,N,N,N,N,N,N,N,N,N,N,N,N,N,N,N,N,N,N,N,N,N] rfl rfl (any_of HT_.out (by kernel_rfl)) (fun _ _ _ h => h) (Or.inl ⟨by rfl, ?_⟩) ?_ ?_
      rotate_left
      ·intro w'
       go_simp
       with_reducible rfl
      rotate_left
      ·simp only [Act.put, List.setIfInBounds_toArray, List.set_cons_zero, List.set_cons_succ, i64_w, i32_w]
       rfl
      refine pure_ (i := 2) (N := some 102) (v := ?_) (a' := ?_) #[Y,Y,Y,N,N,N,N,N,N,N,N,N,N,N,N,N,N,N,N,N,N,N,N,N,N,N,N,N,N,N,N,N,N,N,N,N,N] rfl rfl (any_of HT_.out (by kernel_rfl)) (fun _ _ _ h => h) (Or.inl ⟨by rfl, ?_⟩) ?_ ?_
      rotate_left
      ·intro w'
       go_simp
       with_reducible rfl
      rotate_left
      ·simp only [Act.put, List.setIfInBounds_toArray, List.set_cons_zero, List.set_cons_succ, i64_w, i32_w]
       rfl
      refine pure_ (i := 3) (N := some 103) (v := ?_) (a' := ?_) #[Y,Y,Y,Y,N,N,N,N,N,N,N,N,N,N,N,N,N,N,N,N,N,N,N,N,N,N,N,N,N,N,N,N,N,N,N,N,N] rfl rfl (any_of HT_.out (by kernel_rfl)) (fun _ _ _ h => h) (Or.inl ⟨by rfl, ?_⟩) ?_ ?_
      rotate_left
      ·intro w'
       go_simp
       with_reducible rfl
      rotate_left
      ·simp only [Act.put, List.setIfInBounds_toArray, List.set_cons_zero, List.set_cons_succ, i64_w, i32_w]
       rfl
      refine pure_ (i := 4) (N := some 104) (v := ?_) (a' := ?_) #[Y,Y,Y,Y,Y,N,N,N,N,N,N,N,N,N,N,N,N,N,N,N,N,N,N,N,N,N,N,N,N,N,N,N,N,N,N,N,N] rfl rfl (any_of HT_.out (by kernel_rfl)) (fun _ _ _ h => h) (Or.inl ⟨by rfl, ?_⟩) ?_ ?_
      rotate_left
      ·intro w'
       go_simp
       with_reducible rfl
      rotate_left
      ·simp only [Act.put, List.setIfInBounds_toArray, List.set_cons_zero, List.set_cons_succ, i64_w, i32_w]
       rfl
      refine pure_ (i := 5) (N := some 105) (v := ?_) (a' := ?_) #[Y,Y,Y,Y,Y,Y,N,N,N,N,N,N,N,N,N,N,N,N,N,N,N,N,N,N,N,N,N,N,N,N,N,N,N,N,N,N,N] rfl rfl (any_of HT_.out (by kernel_rfl)) (fun _ _ _ h => h) (Or.inl ⟨by rfl, ?_⟩) ?_ ?_
      rotate_left
      ·intro w'
       go_simp
       with_reducible rfl
      rotate_left
      ·simp only [Act.put, List.setIfInBounds_toArray, List.set_cons_zero, List.set_cons_succ, i64_w, i32_w]
       rfl
      refine pure_ (i := 6) (N := some 106) (v := ?_) (a' := ?_) #[Y,Y,Y,Y,Y,Y,Y,N,N,N,N,N,N,N,N,N,N,N,N,N,N,N,N,N,N,N,N,N,N,N,N,N,N,N,N,N,N] rfl rfl (any_of HT_.out (by kernel_rfl)) (fun _ _ _ h => h) (Or.inl ⟨by rfl, ?_⟩) ?_ ?_
      rotate_left
      ·intro w'
       go_simp
       with_reducible rfl
      rotate_left
      ·simp only [Act.put, List.setIfInBounds_toArray, List.set_cons_zero, List.set_cons_succ, i64_w, i32_w]
       rfl
      refine pure_ (i := 7) (N := some 107) (v := ?_) (a' := ?_) #[Y,Y,Y,Y,Y,Y,Y,Y,N,N,N,N,N,N,N,N,N,N,N,N,N,N,N,N,N,N,N,N,N,N,N,N,N,N,N,N,N] rfl rfl (any_of HT_.out (by kernel_rfl)) (fun _ _ _ h => h) (Or.inl ⟨by rfl, ?_⟩) ?_ ?_
      rotate_left
      ·intro w'
       go_simp
       with_reducible rfl
      rotate_left
      ·simp only [Act.put, List.setIfInBounds_toArray, List.set_cons_zero, List.set_cons_succ, i64_w, i32_w]
       rfl
      refine pure_ (i := 8) (N := some 108) (v := ?_) (a' := ?_) #[Y,Y,Y,Y,Y,Y,Y,Y,Y,N,N,N,N,N,N,N,N,N,N,N,N,N,N,N,N,N,N,N,N,N,N,N,N,N,N,N,N] rfl rfl (any_of HT_.out (by kernel_rfl)) (fun _ _ _ h => h) (Or.inl ⟨by rfl, ?_⟩) ?_ ?_
      rotate_left
      ·intro w'
       go_simp
       with_reducible rfl
      rotate_left
      ·simp only [Act.put, List.setIfInBounds_toArray, List.set_cons_zero, List.set_cons_succ, i64_w, i32_w]
       rfl
      refine take_ (i := 9) (N := some 109) (v := ?_) (a' := ?_) #[Y,Y,Y,Y,Y,Y,Y,Y,Y,Y,N,N,N,N,N,N,N,N,N,N,N,N,N,N,N,N,N,N,N,N,N,N,N,N,N,N,N] rfl rfl (take_ofW HT_.out HW_.out (by kernel_rfl)) (fun _ _ _ h => h) (Or.inl ⟨by rfl, ?_⟩) hHeld ?_ ?_
      rotate_left
      ·rintro w' ⟨s0, s1, s2, s3, s4, s5, s6, s7, s8, s9, s10, s11, s12, s13, s14, s15, s16, s17⟩
       go_simp
       with_reducible rfl
      rotate_left
      ·simp only [Act.put, List.setIfInBounds_toArray, List.set_cons_zero, List.set_cons_succ, i64_w, i32_w]
       rfl
      refine take_ (i := 11) (N := some 111) (v := ?_) (a' := ?_) #[Y,Y,Y,Y,Y,Y,Y,Y,Y,Y,N,Y,N,N,N,N,N,N,N,N,N,N,N,N,N,N,N,N,N,N,N,N,N,N,N,N,N] rfl rfl (take_ofW HT_.out HW_.out (by kernel_rfl)) (fun _ _ _ h => h) (Or.inl ⟨by rfl, ?_⟩) hHeld ?_ ?_
      rotate_left
      ·rintro w' ⟨s0, s1, s2, s3, s4, s5, s6, s7, s8, s9, s10, s11, s12, s13, s14, s15, s16, s17⟩
       go_simp
       with_reducible rfl
      rotate_left
      ·simp only [Act.put, List.setIfInBounds_toArray, List.set_cons_zero, List.set_cons_succ, i64_w, i32_w]
       rfl
      refine one_ (i := 10) (N := some 110) #[Y,Y,Y,Y,Y,Y,Y,Y,Y,Y,Y,Y,N,N,N,N,N,N,N,N,N,N,N,N,N,N,N,N,N,N,N,N,N,N,N,N,N] rfl rfl (one_of HT_.out (by kernel_rfl)) (by decide) (fun K hK => ?_)
      refine goes_ Try.func28 (by kernel_rfl) rfl #[.agg #[.bool t570, .slice Ao84 t571.length co84, .slice Ao85 t574.length co85]] (by rfl) rfl rfl (by (try simp only [List.map_toArray, List.map_cons, List.map_nil]); first | done | rfl | (simp only [List.length_drop, List.length_take]; rfl)) ?_
      with_reducible refine (lw_told.calls kj27 t570 _ _ t571 _ _ t574 t622 t623 t626 _ ?side1 ?side2 ?side3 ?side4 A143.out).mono ?_
      (case side1 => exact kc (Kd.R_reads' HO573.out).2.2)
      (case side2 => exact (Kd.R_reads' HO573.out).2.1)
      (case side3 => exact kc (Kd.R_reads' HO576.out).2.2)
      (case side4 => exact (Kd.R_reads' HO576.out).2.1)
      rintro e w155 ⟨v624, v627, rfl, ho0, ho1, hb⟩
      refine ⟨_, rfl, ?_⟩
      replace HO_551001 := rb HO_551001 hb
      replace HO_551002 := rb HO_551002 hb
      replace HO573 := rb HO573 hb
      replace HO576 := rb HO576 hb
      replace HO591 := rb HO591 hb
      replace HO594 := rb HO594 hb
      replace HO598 := rb HO598 hb
      replace HO601 := rb HO601 hb
      have HO625 := aM (Kd.R_lower (Kd.R_new' (Kd.R_new' (Kd.R_new' ho0 (Kd.R_lt (kr HO582))) (Kd.R_lt (kr HO608))) (Kd.R_lt (kr HO615))) (below_size (kl HB)))
      replace HO582 := aM (Kd.R_elder' (kr HO582) (Kd.R_base ho0) hb)
      replace HO608 := aM (Kd.R_elder' (kr HO608) (Kd.R_base ho0) hb)
      replace HO615 := aM (Kd.R_elder' (kr HO615) (Kd.R_base ho0) hb)
      have HO628 := aM (Kd.R_lower (Kd.R_new' (Kd.R_new' (Kd.R_new' ho1 (Kd.R_lt (kr HO585))) (Kd.R_lt (kr HO611))) (Kd.R_lt (kr HO618))) (below_size (kl HB)))
      replace HO585 := aM (Kd.R_elder' (kr HO585) (Kd.R_base ho1) hb)
      replace HO611 := aM (Kd.R_elder' (kr HO611) (Kd.R_base ho1) hb)
      replace HO618 := aM (Kd.R_elder' (kr HO618) (Kd.R_base ho1) hb)
      replace BK538 := bb BK538 hb
      replace BK539 := bb BK539 hb
      replace BK550 := bb BK550 hb
      replace BK578 := bb BK578 hb
      replace BK587 := bb BK587 hb
      replace BK603 := bb BK603 hb
      replace BK604 := bb BK604 hb
      replace BK620 := bb BK620 hb
      replace BK621 := bb BK621 hb
      replace HB := aM (below_step (kl HB) hb)
      (try clear hb)
      (try clear hb2)
      (try clear hk)
      (try clear hi)
      (try clear ho0)
      (try clear ho1)
      obtain ⟨Ao156, co156, eo156⟩ := Kd.R_slice HO625.out
      (first | subst eo156 | (injection eo156 with f1_ f2_ f3_; have f4_ := f1_.symm; have f5_ := f3_.symm; clear f1_ f2_ f3_; subst f4_; subst f5_))
      obtain ⟨Ao157, co157, eo157⟩ := Kd.R_slice HO628.out
      (first | subst eo157 | (injection eo157 with f1_ f2_ f3_; have f4_ := f1_.symm; have f5_ := f3_.symm; clear f1_ f2_ f3_; subst f4_; subst f5_))
      refine hK.out _ _ ⟨bc BK578 0, bc BK578 1, bc BK578 2, bc BK587 0, bc BK587 1, bc BK587 2, bc BK603 0, bc BK603 1, bc BK603 2, bc BK620 0, bc BK620 1, bc BK620 2, bc BK604 0, bc BK604 1, bc BK604 2, bc BK621 0, bc BK621 1, bc BK621 2⟩ (fun hHeld => ?_)
      clear hK K
      refine norm_ (a' := ?_) ?_ ?_
      rotate_left
      ·show Act.put _ (some 110) _ = _
       simp only [Act.put, List.setIfInBounds_toArray, List.set_cons_zero, List.set_cons_succ, i64_w, i32_w]
       rfl
      refine one_ (i := 12) (N := some 112) #[Y,Y,Y,Y,Y,Y,Y,Y,Y,Y,Y,Y,Y,N,N,N,N,N,N,N,N,N,N,N,N,N,N,N,N,N,N,N,N,N,N,N,N] rfl rfl (one_of HT_.out (by kernel_rfl)) (by decide) (fun K hK => ?_)
      refine goes_ Try.func24 (by kernel_rfl) rfl #[.agg #[.bool t622, .slice Ao156 t623.length co156, .slice Ao157 t626.length co157], .agg #[.bool t579, .slice Ao93 t580.length co93, .slice Ao94 t583.length co94]] (by rfl) rfl rfl (by (try simp only [List.map_toArray, List.map_cons, List.map_nil]); first | done | rfl | (simp only [List.length_drop, List.length_take]; rfl)) ?_
      with_reducible refine (rf_Same.calls kj27 t622 _ _ t623 _ _ t626 t579 _ _ t580 _ _ t583 true _ ?side1 ?side2 ?side3 ?side4 ?side5 ?side6 ?side7 ?side8 A144.out).mono ?_
      (case side1 => exact kc (Kd.R_reads' HO625.out).2.2)
      (case side2 => exact (Kd.R_reads' HO625.out).2.1)
      (case side3 => exact kc (Kd.R_reads' HO628.out).2.2)
      (case side4 => exact (Kd.R_reads' HO628.out).2.1)
      (case side5 => exact kc (Kd.R_reads' HO582.out).2.2)
      (case side6 => exact (Kd.R_reads' HO582.out).2.1)
      (case side7 => exact kc (Kd.R_reads' HO585.out).2.2)
      (case side8 => exact (Kd.R_reads' HO585.out).2.1)
      rintro e w158 ⟨rfl, hb⟩
      refine ⟨_, rfl, ?_⟩
      replace HO_551001 := rb HO_551001 hb
      replace HO_551002 := rb HO_551002 hb
      replace HO573 := rb HO573 hb
      replace HO576 := rb HO576 hb
      replace HO582 := rb HO582 hb
      replace HO585 := rb HO585 hb
      replace HO591 := rb HO591 hb
      replace HO594 := rb HO594 hb
      replace HO598 := rb HO598 hb
      replace HO601 := rb HO601 hb
      replace HO608 := rb HO608 hb
      replace HO611 := rb HO611 hb
      replace HO615 := rb HO615 hb
      replace HO618 := rb HO618 hb
      replace HO625 := rb HO625 hb
      replace HO628 := rb HO628 hb
      replace BK538 := bb BK538 hb
      replace BK539 := bb BK539 hb
      replace BK550 := bb BK550 hb
      replace BK578 := bb BK578 hb
      replace BK587 := bb BK587 hb
      replace BK603 := bb BK603 hb
      replace BK604 := bb BK604 hb
      replace BK620 := bb BK620 hb
      replace BK621 := bb BK621 hb
      replace HB := aM (below_step (kl HB) hb)
      (try clear hb)
      (try clear hb2)
      (try clear hk)
      (try clear hi)
      refine hK.out _ _ ⟨bc BK578 0, bc BK578 1, bc BK578 2, bc BK587 0, bc BK587 1, bc BK587 2, bc BK603 0, bc BK603 1, bc BK603 2, bc BK620 0, bc BK620 1, bc BK620 2, bc BK604 0, bc BK604 1, bc BK604 2, bc BK621 0, bc BK621 1, bc BK621 2⟩ (fun hHeld => ?_)
      clear hK K
      refine norm_ (a' := ?_) ?_ ?_
      rotate_left
      ·show Act.put _ (some 112) _ = _
       simp only [Act.put, List.setIfInBounds_toArray, List.set_cons_zero, List.set_cons_succ, i64_w, i32_w]
       rfl
      refine pure_ (i := 13) (N := some 113) (v := ?_) (a' := ?_) #[Y,Y,Y,Y,Y,Y,Y,Y,Y,Y,Y,Y,Y,Y,N,N,N,N,N,N,N,N,N,N,N,N,N,N,N,N,N,N,N,N,N,N,N] rfl rfl (any_of HT_.out (by kernel_rfl)) (fun _ _ _ h => h) (Or.inl ⟨by rfl, ?_⟩) ?_ ?_
      rotate_left
      ·intro w'
       go_simp
       with_reducible rfl
      rotate_left
      ·simp only [Act.put, List.setIfInBounds_toArray, List.set_cons_zero, List.set_cons_succ, i64_w, i32_w]
       rfl
      refine pure_ (i := 14) (N := some 114) (v := ?_) (a' := ?_) #[Y,Y,Y,Y,Y,Y,Y,Y,Y,Y,Y,Y,Y,Y,Y,N,N,N,N,N,N,N,N,N,N,N,N,N,N,N,N,N,N,N,N,N,N] rfl rfl (any_of HT_.out (by kernel_rfl)) (fun _ _ _ h => h) (Or.inl ⟨by rfl, ?_⟩) ?_ ?_
      rotate_left
      ·intro w'
       go_simp
       with_reducible rfl
      rotate_left
      ·simp only [Act.put, List.setIfInBounds_toArray, List.set_cons_zero, List.set_cons_succ, i64_w, i32_w]
       rfl
      refine pure_ (i := 15) (N := some 115) (v := ?_) (a' := ?_) #[Y,Y,Y,Y,Y,Y,Y,Y,Y,Y,Y,Y,Y,Y,Y,Y,N,N,N,N,N,N,N,N,N,N,N,N,N,N,N,N,N,N,N,N,N] rfl rfl (any_of HT_.out (by kernel_rfl)) (fun _ _ _ h => h) (Or.inl ⟨by rfl, ?_⟩) ?_ ?_
      rotate_left
      ·intro w'
       go_simp
       with_reducible rfl
      rotate_left
      ·simp only [Act.put, List.setIfInBounds_toArray, List.set_cons_zero, List.set_cons_succ, i64_w, i32_w]
       rfl
      refine pure_ (i := 16) (N := some 116) (v := ?_) (a' := ?_) #[Y,Y,Y,Y,Y,Y,Y,Y,Y,Y,Y,Y,Y,Y,Y,Y,Y,N,N,N,N,N,N,N,N,N,N,N,N,N,N,N,N,N,N,N,N] rfl rfl (any_of HT_.out (by kernel_rfl)) (fun _ _ _ h => h) (Or.inl ⟨by rfl, ?_⟩) ?_ ?_
      rotate_left
      ·intro w'
       go_simp
       with_reducible rfl
      rotate_left
      ·simp only [Act.put, List.setIfInBounds_toArray, List.set_cons_zero, List.set_cons_succ, i64_w, i32_w]
       rfl
      refine pure_ (i := 17) (N := some 117) (v := ?_) (a' := ?_) #[Y,Y,Y,Y,Y,Y,Y,Y,Y,Y,Y,Y,Y,Y,Y,Y,Y,Y,N,N,N,N,N,N,N,N,N,N,N,N,N,N,N,N,N,N,N] rfl rfl (any_of HT_.out (by kernel_rfl)) (fun _ _ _ h => h) (Or.inl ⟨by rfl, ?_⟩) ?_ ?_
      rotate_left
      ·intro w'
       go_simp
       with_reducible rfl
      rotate_left
      ·simp only [Act.put, List.setIfInBounds_toArray, List.set_cons_zero, List.set_cons_succ, i64_w, i32_w]
       rfl
      refine pure_ (i := 18) (N := some 118) (v := ?_) (a' := ?_) #[Y,Y,Y,Y,Y,Y,Y,Y,Y,Y,Y,Y,Y,Y,Y,Y,Y,Y,Y,N,N,N,N,N,N,N,N,N,N,N,N,N,N,N,N,N,N] rfl rfl (any_of HT_.out (by kernel_rfl)) (fun _ _ _ h => h) (Or.inl ⟨by rfl, ?_⟩) ?_ ?_
      rotate_left
      ·intro w'
       go_simp
       with_reducible rfl
      rotate_left
      ·simp only [Act.put, List.setIfInBounds_toArray, List.set_cons_zero, List.set_cons_succ, i64_w, i32_w]
       rfl
      refine pure_ (i := 19) (N := some 119) (v := ?_) (a' := ?_) #[Y,Y,Y,Y,Y,Y,Y,Y,Y,Y,Y,Y,Y,Y,Y,Y,Y,Y,Y,Y,N,N,N,N,N,N,N,N,N,N,N,N,N,N,N,N,N] rfl rfl (any_of HT_.out (by kernel_rfl)) (fun _ _ _ h => h) (Or.inl ⟨by rfl, ?_⟩) ?_ ?_
      rotate_left
      ·intro w'
       go_simp
       with_reducible rfl
      rotate_left
      ·simp only [Act.put, List.setIfInBounds_toArray, List.set_cons_zero, List.set_cons_succ, i64_w, i32_w]
       rfl
      refine take_ (i := 20) (N := some 120) (v := ?_) (a' := ?_) #[Y,Y,Y,Y,Y,Y,Y,Y,Y,Y,Y,Y,Y,Y,Y,Y,Y,Y,Y,Y,Y,N,N,N,N,N,N,N,N,N,N,N,N,N,N,N,N] rfl rfl (take_ofW HT_.out HW_.out (by kernel_rfl)) (fun _ _ _ h => h) (Or.inl ⟨by rfl, ?_⟩) hHeld ?_ ?_
      rotate_left
      ·rintro w' ⟨s0, s1, s2, s3, s4, s5, s6, s7, s8, s9, s10, s11, s12, s13, s14, s15, s16, s17⟩
       go_simp
       with_reducible rfl
      rotate_left
      ·simp only [Act.put, List.setIfInBounds_toArray, List.set_cons_zero, List.set_cons_succ, i64_w, i32_w]
       rfl
      refine take_ (i := 22) (N := some 122) (v := ?_) (a' := ?_) #[Y,Y,Y,Y,Y,Y,Y,Y,Y,Y,Y,Y,Y,Y,Y,Y,Y,Y,Y,Y,Y,N,Y,N,N,N,N,N,N,N,N,N,N,N,N,N,N] rfl rfl (take_ofW HT_.out HW_.out (by kernel_rfl)) (fun _ _ _ h => h) (Or.inl ⟨by rfl, ?_⟩) hHeld ?_ ?_
      rotate_left
      ·rintro w' ⟨s0, s1, s2, s3, s4, s5, s6, s7, s8, s9, s10, s11, s12, s13, s14, s15, s16, s17⟩
       go_simp
       with_reducible rfl
      rotate_left
      ·simp only [Act.put, List.setIfInBounds_toArray, List.set_cons_zero, List.set_cons_succ, i64_w, i32_w]
       rfl
      refine one_ (i := 21) (N := some 121) #[Y,Y,Y,Y,Y,Y,Y,Y,Y,Y,Y,Y,Y,Y,Y,Y,Y,Y,Y,Y,Y,Y,Y,N,N,N,N,N,N,N,N,N,N,N,N,N,N] rfl rfl (one_of HT_.out (by kernel_rfl)) (by decide) (fun K hK => ?_)
      refine goes_ Try.func28 (by kernel_rfl) rfl #[.agg #[.bool t588, .slice Ao106 t589.length co106, .slice Ao107 t592.length co107]] (by rfl) rfl rfl (by (try simp only [List.map_toArray, List.map_cons, List.map_nil]); first | done | rfl | (simp only [List.length_drop, List.length_take]; rfl)) ?_
      with_reducible refine (lw_told.calls kj27 t588 _ _ t589 _ _ t592 t630 t631 t634 _ ?side1 ?side2 ?side3 ?side4 A147.out).mono ?_
      (case side1 => exact kc (Kd.R_reads' HO591.out).2.2)
      (case side2 => exact (Kd.R_reads' HO591.out).2.1)
      (case side3 => exact kc (Kd.R_reads' HO594.out).2.2)
      (case side4 => exact (Kd.R_reads' HO594.out).2.1)
      rintro e w159 ⟨v632, v635, rfl, ho0, ho1, hb⟩
      refine ⟨_, rfl, ?_⟩
      replace HO_551001 := rb HO_551001 hb
      replace HO_551002 := rb HO_551002 hb
      replace HO573 := rb HO573 hb
      replace HO576 := rb HO576 hb
      replace HO591 := rb HO591 hb
      replace HO594 := rb HO594 hb
      replace HO598 := rb HO598 hb
      replace HO601 := rb HO601 hb
      have HO633 := aM (Kd.R_lower (Kd.R_new' (Kd.R_new' (Kd.R_new' (Kd.R_new' ho0 (Kd.R_lt (kr HO582))) (Kd.R_lt (kr HO608))) (Kd.R_lt (kr HO615))) (Kd.R_lt (kr HO625))) (below_size (kl HB)))
      replace HO582 := aM (Kd.R_elder' (kr HO582) (Kd.R_base ho0) hb)
      replace HO608 := aM (Kd.R_elder' (kr HO608) (Kd.R_base ho0) hb)
      replace HO615 := aM (Kd.R_elder' (kr HO615) (Kd.R_base ho0) hb)
      replace HO625 := aM (Kd.R_elder' (kr HO625) (Kd.R_base ho0) hb)
      have HO636 := aM (Kd.R_lower (Kd.R_new' (Kd.R_new' (Kd.R_new' (Kd.R_new' ho1 (Kd.R_lt (kr HO585))) (Kd.R_lt (kr HO611))) (Kd.R_lt (kr HO618))) (Kd.R_lt (kr HO628))) (below_size (kl HB)))
      replace HO585 := aM (Kd.R_elder' (kr HO585) (Kd.R_base ho1) hb)
      replace HO611 := aM (Kd.R_elder' (kr HO611) (Kd.R_base ho1) hb)
      replace HO618 := aM (Kd.R_elder' (kr HO618) (Kd.R_base ho1) hb)
      replace HO628 := aM (Kd.R_elder' (kr HO628) (Kd.R_base ho1) hb)
      replace BK538 := bb BK538 hb
      replace BK539 := bb BK539 hb
      replace BK550 := bb BK550 hb
      replace BK578 := bb BK578 hb
      replace BK587 := bb BK587 hb
      replace BK603 := bb BK603 hb
      replace BK604 := bb BK604 hb
      replace BK620 := bb BK620 hb
      replace BK621 := bb BK621 hb
      replace HB := aM (below_step (kl HB) hb)
      (try clear hb)
      (try clear hb2)
      (try clear hk)
      (try clear hi)
      (try clear ho0)
      (try clear ho1)
      obtain ⟨Ao160, co160, eo160⟩ := Kd.R_slice HO633.out
      (first | subst eo160 | (injection eo160 with f1_ f2_ f3_; have f4_ := f1_.symm; have f5_ := f3_.symm; clear f1_ f2_ f3_; subst f4_; subst f5_))
      obtain ⟨Ao161, co161, eo161⟩ := Kd.R_slice HO636.out
      (first | subst eo161 | (injection eo161 with f1_ f2_ f3_; have f4_ := f1_.symm; have f5_ := f3_.symm; clear f1_ f2_ f3_; subst f4_; subst f5_))
      refine hK.out _ _ ⟨bc BK578 0, bc BK578 1, bc BK578 2, bc BK587 0, bc BK587 1, bc BK587 2, bc BK603 0, bc BK603 1, bc BK603 2, bc BK620 0, bc BK620 1, bc BK620 2, bc BK604 0, bc BK604 1, bc BK604 2, bc BK621 0, bc BK621 1, bc BK621 2⟩ (fun hHeld => ?_)
      clear hK K
      refine norm_ (a' := ?_) ?_ ?_
      rotate_left
      ·show Act.put _ (some 121) _ = _
       simp only [Act.put, List.setIfInBounds_toArray, List.set_cons_zero, List.set_cons_succ, i64_w, i32_w]
       rfl
      refine one_ (i := 23) (N := some 123) #[Y,Y,Y,Y,Y,Y,Y,Y,Y,Y,Y,Y,Y,Y,Y,Y,Y,Y,Y,Y,Y,Y,Y,Y,N,N,N,N,N,N,N,N,N,N,N,N,N] rfl rfl (one_of HT_.out (by kernel_rfl)) (by decide) (fun K hK => ?_)
      refine goes_ Try.func24 (by kernel_rfl) rfl #[.agg #[.bool t630, .slice Ao160 t631.length co160, .slice Ao161 t634.length co161], .agg #[.bool t605, .slice Ao129 t606.length co129, .slice Ao130 t609.length co130]] (by rfl) rfl rfl (by (try simp only [List.map_toArray, List.map_cons, List.map_nil]); first | done | rfl | (simp only [List.length_drop, List.length_take]; rfl)) ?_
      with_reducible refine (rf_Same.calls kj27 t630 _ _ t631 _ _ t634 t605 _ _ t606 _ _ t609 true _ ?side1 ?side2 ?side3 ?side4 ?side5 ?side6 ?side7 ?side8 A148.out).mono ?_
      (case side1 => exact kc (Kd.R_reads' HO633.out).2.2)
      (case side2 => exact (Kd.R_reads' HO633.out).2.1)
      (case side3 => exact kc (Kd.R_reads' HO636.out).2.2)
      (case side4 => exact (Kd.R_reads' HO636.out).2.1)
      (case side5 => exact kc (Kd.R_reads' HO608.out).2.2)
      (case side6 => exact (Kd.R_reads' HO608.out).2.1)
      (case side7 => exact kc (Kd.R_reads' HO611.out).2.2)
      (case side8 => exact (Kd.R_reads' HO611.out).2.1)
      rintro e w162 ⟨rfl, hb⟩
      refine ⟨_, rfl, ?_⟩
      replace HO_551001 := rb HO_551001 hb
      replace HO_551002 := rb HO_551002 hb
      replace HO573 := rb HO573 hb
      replace HO576 := rb HO576 hb
      replace HO582 := rb HO582 hb
      replace HO585 := rb HO585 hb
      replace HO591 := rb HO591 hb
      replace HO594 := rb HO594 hb
      replace HO598 := rb HO598 hb
      replace HO601 := rb HO601 hb
      replace HO608 := rb HO608 hb
      replace HO611 := rb HO611 hb
      replace HO615 := rb HO615 hb
      replace HO618 := rb HO618 hb
      replace HO625 := rb HO625 hb
      replace HO628 := rb HO628 hb
      replace HO633 := rb HO633 hb
      replace HO636 := rb HO636 hb
      replace BK538 := bb BK538 hb
      replace BK539 := bb BK539 hb
      replace BK550 := bb BK550 hb
      replace BK578 := bb BK578 hb
      replace BK587 := bb BK587 hb
      replace BK603 := bb BK603 hb
      replace BK604 := bb BK604 hb
      replace BK620 := bb BK620 hb
      replace BK621 := bb BK621 hb
      replace HB := aM (below_step (kl HB) hb)
      (try clear hb)
      (try clear hb2)
      (try clear hk)
      (try clear hi)
      refine hK.out _ _ ⟨bc BK578 0, bc BK578 1, bc BK578 2, bc BK587 0, bc BK587 1, bc BK587 2, bc BK603 0, bc BK603 1, bc BK603 2, bc BK620 0, bc BK620 1, bc BK620 2, bc BK604 0, bc BK604 1, bc BK604 2, bc BK621 0, bc BK621 1, bc BK621 2⟩ (fun hHeld => ?_)
      clear hK K
      refine norm_ (a' := ?_) ?_ ?_
      rotate_left
      ·show Act.put _ (some 123) _ = _
       simp only [Act.put, List.setIfInBounds_toArray, List.set_cons_zero, List.set_cons_succ, i64_w, i32_w]
       rfl
      refine pure_ (i := 24) (N := some 124) (v := ?_) (a' := ?_) #[Y,Y,Y,Y,Y,Y,Y,Y,Y,Y,Y,Y,Y,Y,Y,Y,Y,Y,Y,Y,Y,Y,Y,Y,Y,N,N,N,N,N,N,N,N,N,N,N,N] rfl rfl (any_of HT_.out (by kernel_rfl)) (fun _ _ _ h => h) (Or.inl ⟨by rfl, ?_⟩) ?_ ?_
      rotate_left
      ·intro w'
       go_simp
       with_reducible rfl
      rotate_left
      ·simp only [Act.put, List.setIfInBounds_toArray, List.set_cons_zero, List.set_cons_succ, i64_w, i32_w]
       rfl
      refine pure_ (i := 25) (N := some 125) (v := ?_) (a' := ?_) #[Y,Y,Y,Y,Y,Y,Y,Y,Y,Y,Y,Y,Y,Y,Y,Y,Y,Y,Y,Y,Y,Y,Y,Y,Y,Y,N,N,N,N,N,N,N,N,N,N,N] rfl rfl (any_of HT_.out (by kernel_rfl)) (fun _ _ _ h => h) (Or.inl ⟨by rfl, ?_⟩) ?_ ?_
      rotate_left
      ·intro w'
       go_simp
       with_reducible rfl
      rotate_left
      ·simp only [Act.put, List.setIfInBounds_toArray, List.set_cons_zero, List.set_cons_succ, i64_w, i32_w]
       rfl
      refine take_ (i := 26) (N := some 126) (v := ?_) (a' := ?_) #[Y,Y,Y,Y,Y,Y,Y,Y,Y,Y,Y,Y,Y,Y,Y,Y,Y,Y,Y,Y,Y,Y,Y,Y,Y,Y,Y,N,N,N,N,N,N,N,N,N,N] rfl rfl (take_ofW HT_.out HW_.out (by kernel_rfl)) (fun _ _ _ h => h) (Or.inl ⟨by rfl, ?_⟩) hHeld ?_ ?_
      rotate_left
      ·rintro w' ⟨s0, s1, s2, s3, s4, s5, s6, s7, s8, s9, s10, s11, s12, s13, s14, s15, s16, s17⟩
       go_simp
       with_reducible rfl
      rotate_left
      ·simp only [Act.put, List.setIfInBounds_toArray, List.set_cons_zero, List.set_cons_succ, i64_w, i32_w]
       rfl
      refine take_ (i := 28) (N := some 128) (v := ?_) (a' := ?_) #[Y,Y,Y,Y,Y,Y,Y,Y,Y,Y,Y,Y,Y,Y,Y,Y,Y,Y,Y,Y,Y,Y,Y,Y,Y,Y,Y,N,Y,N,N,N,N,N,N,N,N] rfl rfl (take_ofW HT_.out HW_.out (by kernel_rfl)) (fun _ _ _ h => h) (Or.inl ⟨by rfl, ?_⟩) hHeld ?_ ?_
      rotate_left
      ·rintro w' ⟨s0, s1, s2, s3, s4, s5, s6, s7, s8, s9, s10, s11, s12, s13, s14, s15, s16, s17⟩
       go_simp
       with_reducible rfl
      rotate_left
      ·simp only [Act.put, List.setIfInBounds_toArray, List.set_cons_zero, List.set_cons_succ, i64_w, i32_w]
       rfl
      refine one_ (i := 27) (N := some 127) #[Y,Y,Y,Y,Y,Y,Y,Y,Y,Y,Y,Y,Y,Y,Y,Y,Y,Y,Y,Y,Y,Y,Y,Y,Y,Y,Y,Y,Y,N,N,N,N,N,N,N,N] rfl rfl (one_of HT_.out (by kernel_rfl)) (by decide) (fun K hK => ?_)
      refine goes_ Try.func28 (by kernel_rfl) rfl #[.agg #[.bool t595, .slice Ao114 t596.length co114, .slice Ao115 t599.length co115]] (by rfl) rfl rfl (by (try simp only [List.map_toArray, List.map_cons, List.map_nil]); first | done | rfl | (simp only [List.length_drop, List.length_take]; rfl)) ?_
      with_reducible refine (lw_told.calls kj27 t595 _ _ t596 _ _ t599 t638 t639 t642 _ ?side1 ?side2 ?side3 ?side4 A150.out).mono ?_
      (case side1 => exact kc (Kd.R_reads' HO598.out).2.2)
      (case side2 => exact (Kd.R_reads' HO598.out).2.1)
      (case side3 => exact kc (Kd.R_reads' HO601.out).2.2)
      (case side4 => exact (Kd.R_reads' HO601.out).2.1)
      rintro e w163 ⟨v640, v643, rfl, ho0, ho1, hb⟩
      refine ⟨_, rfl, ?_⟩
      replace HO_551001 := rb HO_551001 hb
      replace HO_551002 := rb HO_551002 hb
      replace HO573 := rb HO573 hb
      replace HO576 := rb HO576 hb
      replace HO591 := rb HO591 hb
      replace HO594 := rb HO594 hb
      replace HO598 := rb HO598 hb
      replace HO601 := rb HO601 hb
      have HO641 := aM (Kd.R_lower (Kd.R_new' (Kd.R_new' (Kd.R_new' (Kd.R_new' (Kd.R_new' ho0 (Kd.R_lt (kr HO582))) (Kd.R_lt (kr HO608))) (Kd.R_lt (kr HO615))) (Kd.R_lt (kr HO625))) (Kd.R_lt (kr HO633))) (below_size (kl HB)))
      replace HO582 := aM (Kd.R_elder' (kr HO582) (Kd.R_base ho0) hb)
      replace HO608 := aM (Kd.R_elder' (kr HO608) (Kd.R_base ho0) hb)
      replace HO615 := aM (Kd.R_elder' (kr HO615) (Kd.R_base ho0) hb)
      replace HO625 := aM (Kd.R_elder' (kr HO625) (Kd.R_base ho0) hb)
      replace HO633 := aM (Kd.R_elder' (kr HO633) (Kd.R_base ho0) hb)
      have HO644 := aM (Kd.R_lower (Kd.R_new' (Kd.R_new' (Kd.R_new' (Kd.R_new' (Kd.R_new' ho1 (Kd.R_lt (kr HO585))) (Kd.R_lt (kr HO611))) (Kd.R_lt (kr HO618))) (Kd.R_lt (kr HO628))) (Kd.R_lt (kr HO636))) (below_size (kl HB)))
      replace HO585 := aM (Kd.R_elder' (kr HO585) (Kd.R_base ho1) hb)
      replace HO611 := aM (Kd.R_elder' (kr HO611) (Kd.R_base ho1) hb)
      replace HO618 := aM (Kd.R_elder' (kr HO618) (Kd.R_base ho1) hb)
      replace HO628 := aM (Kd.R_elder' (kr HO628) (Kd.R_base ho1) hb)
      replace HO636 := aM (Kd.R_elder' (kr HO636) (Kd.R_base ho1) hb)
      replace BK538 := bb BK538 hb
      replace BK539 := bb BK539 hb
      replace BK550 := bb BK550 hb
      replace BK578 := bb BK578 hb
      replace BK587 := bb BK587 hb
      replace BK603 := bb BK603 hb
      replace BK604 := bb BK604 hb
      replace BK620 := bb BK620 hb
      replace BK621 := bb BK621 hb
      replace HB := aM (below_step (kl HB) hb)
      (try clear hb)
      (try clear hb2)
      (try clear hk)
      (try clear hi)
      (try clear ho0)
      (try clear ho1)
      obtain ⟨Ao164, co164, eo164⟩ := Kd.R_slice HO641.out
      (first | subst eo164 | (injection eo164 with f1_ f2_ f3_; have f4_ := f1_.symm; have f5_ := f3_.symm; clear f1_ f2_ f3_; subst f4_; subst f5_))
      obtain ⟨Ao165, co165, eo165⟩ := Kd.R_slice HO644.out
      (first | subst eo165 | (injection eo165 with f1_ f2_ f3_; have f4_ := f1_.symm; have f5_ := f3_.symm; clear f1_ f2_ f3_; subst f4_; subst f5_))
      refine hK.out _ _ ⟨bc BK578 0, bc BK578 1, bc BK578 2, bc BK587 0, bc BK587 1, bc BK587 2, bc BK603 0, bc BK603 1, bc BK603 2, bc BK620 0, bc BK620 1, bc BK620 2, bc BK604 0, bc BK604 1, bc BK604 2, bc BK621 0, bc BK621 1, bc BK621 2⟩ (fun hHeld => ?_)
      clear hK K
      refine norm_ (a' := ?_) ?_ ?_
      rotate_left
      ·show Act.put _ (some 127) _ = _
       simp only [Act.put, List.setIfInBounds_toArray, List.set_cons_zero, List.set_cons_succ, i64_w, i32_w]
       rfl
      refine one_ (i := 29) (N := some 129) #[Y,Y,Y,Y,Y,Y,Y,Y,Y,Y,Y,Y,Y,Y,Y,Y,Y,Y,Y,Y,Y,Y,Y,Y,Y,Y,Y,Y,Y,Y,N,N,N,N,N,N,N] rfl rfl (one_of HT_.out (by kernel_rfl)) (by decide) (fun K hK => ?_)
      refine goes_ Try.func24 (by kernel_rfl) rfl #[.agg #[.bool t638, .slice Ao164 t639.length co164, .slice Ao165 t642.length co165], .agg #[.bool t612, .slice Ao139 t613.length co139, .slice Ao140 t616.length co140]] (by rfl) rfl rfl (by (try simp only [List.map_toArray, List.map_cons, List.map_nil]); first | done | rfl | (simp only [List.length_drop, List.length_take]; rfl)) ?_
      with_reducible refine (rf_Same.calls kj27 t638 _ _ t639 _ _ t642 t612 _ _ t613 _ _ t616 true _ ?side1 ?side2 ?side3 ?side4 ?side5 ?side6 ?side7 ?side8 A151.out).mono ?_
      (case side1 => exact kc (Kd.R_reads' HO641.out).2.2)
      (case side2 => exact (Kd.R_reads' HO641.out).2.1)
      (case side3 => exact kc (Kd.R_reads' HO644.out).2.2)
      (case side4 => exact (Kd.R_reads' HO644.out).2.1)
      (case side5 => exact kc (Kd.R_reads' HO615.out).2.2)
      (case side6 => exact (Kd.R_reads' HO615.out).2.1)
      (case side7 => exact kc (Kd.R_reads' HO618.out).2.2)
      (case side8 => exact (Kd.R_reads' HO618.out).2.1)
      rintro e w166 ⟨rfl, hb⟩
      refine ⟨_, rfl, ?_⟩
      replace HO_551001 := rb HO_551001 hb
      replace HO_551002 := rb HO_551002 hb
      replace HO573 := rb HO573 hb
      replace HO576 := rb HO576 hb
      replace HO582 := rb HO582 hb
      replace HO585 := rb HO585 hb
      replace HO591 := rb HO591 hb
      replace HO594 := rb HO594 hb
      replace HO598 := rb HO598 hb
      replace HO601 := rb HO601 hb
      replace HO608 := rb HO608 hb
      replace HO611 := rb HO611 hb
      replace HO615 := rb HO615 hb
      replace HO618 := rb HO618 hb
      replace HO625 := rb HO625 hb
      replace HO628 := rb HO628 hb
      replace HO633 := rb HO633 hb
      replace HO636 := rb HO636 hb
      replace HO641 := rb HO641 hb
      replace HO644 := rb HO644 hb
      replace BK538 := bb BK538 hb
      replace BK539 := bb BK539 hb
      replace BK550 := bb BK550 hb
      replace BK578 := bb BK578 hb
      replace BK587 := bb BK587 hb
      replace BK603 := bb BK603 hb
      replace BK604 := bb BK604 hb
      replace BK620 := bb BK620 hb
      replace BK621 := bb BK621 hb
      replace HB := aM (below_step (kl HB) hb)
      (try clear hb)
      (try clear hb2)
      (try clear hk)
      (try clear hi)
      refine hK.out _ _ ⟨bc BK578 0, bc BK578 1, bc BK578 2, bc BK587 0, bc BK587 1, bc BK587 2, bc BK603 0, bc BK603 1, bc BK603 2, bc BK620 0, bc BK620 1, bc BK620 2, bc BK604 0, bc BK604 1, bc BK604 2, bc BK621 0, bc BK621 1, bc BK621 2⟩ (fun hHeld => ?_)
      clear hK K
      refine norm_ (a' := ?_) ?_ ?_
      rotate_left
      ·show Act.put _ (some 129) _ = _
       simp only [Act.put, List.setIfInBounds_toArray, List.set_cons_zero, List.set_cons_succ, i64_w, i32_w]
       rfl
      refine pure_ (i := 30) (N := some 130) (v := ?_) (a' := ?_) #[Y,Y,Y,Y,Y,Y,Y,Y,Y,Y,Y,Y,Y,Y,Y,Y,Y,Y,Y,Y,Y,Y,Y,Y,Y,Y,Y,Y,Y,Y,Y,N,N,N,N,N,N] rfl rfl (any_of HT_.out (by kernel_rfl)) (fun _ _ _ h => h) (Or.inl ⟨by rfl, ?_⟩) ?_ ?_
      rotate_left
      ·intro w'
       go_simp
       with_reducible rfl
      rotate_left
      ·simp only [Act.put, List.setIfInBounds_toArray, List.set_cons_zero, List.set_cons_succ, i64_w, i32_w]
       rfl
      refine pure_ (i := 31) (N := some 131) (v := ?_) (a' := ?_) #[Y,Y,Y,Y,Y,Y,Y,Y,Y,Y,Y,Y,Y,Y,Y,Y,Y,Y,Y,Y,Y,Y,Y,Y,Y,Y,Y,Y,Y,Y,Y,Y,N,N,N,N,N] rfl rfl (any_of HT_.out (by kernel_rfl)) (fun _ _ _ h => h) (Or.inl ⟨by rfl, ?_⟩) ?_ ?_
      rotate_left
      ·intro w'
       go_simp
       with_reducible rfl
      rotate_left
      ·simp only [Act.put, List.setIfInBounds_toArray, List.set_cons_zero, List.set_cons_succ, i64_w, i32_w]
       rfl
      refine pure_ (i := 32) (N := some 132) (v := ?_) (a' := ?_) #[Y,Y,Y,Y,Y,Y,Y,Y,Y,Y,Y,Y,Y,Y,Y,Y,Y,Y,Y,Y,Y,Y,Y,Y,Y,Y,Y,Y,Y,Y,Y,Y,Y,N,N,N,N] rfl rfl (any_of HT_.out (by kernel_rfl)) (fun _ _ _ h => h) (Or.inl ⟨by rfl, ?_⟩) ?_ ?_
      rotate_left
      ·intro w'
       go_simp
       with_reducible rfl
      rotate_left
      ·simp only [Act.put, List.setIfInBounds_toArray, List.set_cons_zero, List.set_cons_succ, i64_w, i32_w]
       rfl
      refine pure_ (i := 33) (N := some 133) (v := ?_) (a' := ?_) #[Y,Y,Y,Y,Y,Y,Y,Y,Y,Y,Y,Y,Y,Y,Y,Y,Y,Y,Y,Y,Y,Y,Y,Y,Y,Y,Y,Y,Y,Y,Y,Y,Y,Y,N,N,N] rfl rfl (any_of HT_.out (by kernel_rfl)) (fun _ _ _ h => h) (Or.inl ⟨by rfl, ?_⟩) ?_ ?_
      rotate_left
      ·intro w'
       go_simp
       with_reducible rfl
      rotate_left
      ·simp only [Act.put, List.setIfInBounds_toArray, List.set_cons_zero, List.set_cons_succ, i64_w, i32_w]
       rfl
      refine pure_ (i := 34) (N := some 134) (v := ?_) (a' := ?_) #[Y,Y,Y,Y,Y,Y,Y,Y,Y,Y,Y,Y,Y,Y,Y,Y,Y,Y,Y,Y,Y,Y,Y,Y,Y,Y,Y,Y,Y,Y,Y,Y,Y,Y,Y,N,N] rfl rfl (any_of HT_.out (by kernel_rfl)) (fun _ _ _ h => h) (Or.inl ⟨by rfl, ?_⟩) ?_ ?_
      rotate_left
      ·intro w'
       go_simp
       with_reducible rfl
      rotate_left
      ·simp only [Act.put, List.setIfInBounds_toArray, List.set_cons_zero, List.set_cons_succ, i64_w, i32_w]
       rfl
      refine pure_ (i := 35) (N := some 135) (v := ?_) (a' := ?_) #[Y,Y,Y,Y,Y,Y,Y,Y,Y,Y,Y,Y,Y,Y,Y,Y,Y,Y,Y,Y,Y,Y,Y,Y,Y,Y,Y,Y,Y,Y,Y,Y,Y,Y,Y,Y,N] rfl rfl (any_of HT_.out (by kernel_rfl)) (fun _ _ _ h => h) (Or.inl ⟨by rfl, ?_⟩) ?_ ?_
      rotate_left
      ·intro w'
       go_simp
       with_reducible rfl
      rotate_left
      ·simp only [Act.put, List.setIfInBounds_toArray, List.set_cons_zero, List.set_cons_succ, i64_w, i32_w]
       rfl
      refine pure_ (i := 36) (N := some 22) (v := ?_) (a' := ?_) #[Y,Y,Y,Y,Y,Y,Y,Y,Y,Y,Y,Y,Y,Y,Y,Y,Y,Y,Y,Y,Y,Y,Y,Y,Y,Y,Y,Y,Y,Y,Y,Y,Y,Y,Y,Y,Y] rfl rfl (any_of HT_.out (by kernel_rfl)) (fun _ _ _ h => h) (Or.inl ⟨by rfl, ?_⟩) ?_ ?_
      rotate_left
      ·intro w'
       go_simp
       with_reducible rfl
      rotate_left
      ·simp only [Act.put, List.setIfInBounds_toArray, List.set_cons_zero, List.set_cons_succ, i64_w, i32_w]
       rfl
      refine done_ (done_of HT_.out (by kernel_rfl)) ?_
      try go_wp2
      go_meet
      case rel => exact ⟨_, ((t602 == t619)), (by first | rfl | (simp; done) | (simp [*]; done)), H', ⟨by have := HJ3.out; have := HJ27.out; first | omega | exact Nat.le_refl _⟩, ⟨kr HO_551001⟩, ⟨kr HO_551002⟩, ⟨kr HO573⟩, ⟨kr HO576⟩, ⟨by (with_reducible repeat (first | apply Kd.R_alloc | apply Kd.R_drewN | apply Kd.R_drew)); exact Kd.R_mono HO582.out (fun _ hk => ⟨hk.1.1.1.1, hk.1.1.1.2⟩)⟩, ⟨by (with_reducible repeat (first | apply Kd.R_alloc | apply Kd.R_drewN | apply Kd.R_drew)); exact Kd.R_mono HO585.out (fun _ hk => ⟨hk.1.1.1.1, hk.1.1.1.2⟩)⟩, ⟨kr HO591⟩, ⟨kr HO594⟩, ⟨kr HO598⟩, ⟨kr HO601⟩, ⟨by (with_reducible repeat (first | apply Kd.R_alloc | apply Kd.R_drewN | apply Kd.R_drew)); exact Kd.R_mono HO608.out (fun _ hk => ⟨hk.1.1.1.1, hk.1.1.1.2⟩)⟩, ⟨by (with_reducible repeat (first | apply Kd.R_alloc | apply Kd.R_drewN | apply Kd.R_drew)); exact Kd.R_mono HO611.out (fun _ hk => ⟨hk.1.1.1.1, hk.1.1.1.2⟩)⟩, ⟨by (with_reducible repeat (first | apply Kd.R_alloc | apply Kd.R_drewN | apply Kd.R_drew)); exact Kd.R_mono HO615.out (fun _ hk => ⟨hk.1.1.1.1, hk.1.1.1.2⟩)⟩, ⟨by (with_reducible repeat (first | apply Kd.R_alloc | apply Kd.R_drewN | apply Kd.R_drew)); exact Kd.R_mono HO618.out (fun _ hk => ⟨hk.1.1.1.1, hk.1.1.1.2⟩)⟩, ⟨kb BK538⟩, ⟨kb BK539⟩, ⟨kb BK550⟩, ⟨kb BK578⟩, ⟨kb BK587⟩, ⟨kb BK603⟩, ⟨kb BK604⟩, ⟨kb BK620⟩, ⟨kb BK621⟩, ⟨kl HB⟩⟩
     case rest =>
      clear HC70
      try clear c1
      try clear c2
      try clear p2
      try clear c14
      try clear c15
      try clear c24
      try clear c28
      try clear c141
      try clear c142
      try clear c145
      try clear c146
      try clear c149
      try clear c152
      obtain ⟨kq, x22_69, rfl, HA, HJ69, HO_551001, HO_551002, HO_579001, HO_579002, HO_588001, HO_588002, HO_604001, HO_604002, HO_605001, HO_605002, HO_621001, HO_621002, HO_622001, HO_622002, BK538, BK539, BK550, BK578, BK587, BK603, BK604, BK620, BK621, HB⟩ := hcut
      cases kq with
      | zero => exact absurd HA.out (by simp [lw_LeafTells.j2])
      | succ kj69 =>
       have H := HA.out
       clear HA
       simp only [lw_LeafTells.j2] at H
       have H' := aM H
       clear H
       go_wp2
       go_loopg [23] kj69 (fun kq v23 w' => ∃ (x23_4 : Int) (x551001_4 : List S47) (x579001_4 : List S47) (x604001_4 : List S47) (x605001_4 : List S47) (u551001 : Value) (u579001 : Value) (u604001 : Value) (u605001 : Value), v23 = .int .i64 x23_4 ∧ Aside0 (lw_LeafTells.l0 kq x22_69 x23_4 a0_0 l0_1 l0_2 t543 x551001_4 t547 t588 x604001_4 t592 t595 x605001_4 t599 = some r) ∧ Aside0 (kq ≤ kj69) ∧ Aside0 (Kd.R k47 47 w' w.heap.size (fun k_ => some k_ ≠ (u579001 : Value).ownBlock ∧ some k_ ≠ (u604001 : Value).ownBlock ∧ some k_ ≠ (u605001 : Value).ownBlock) u551001 x551001_4) ∧ Aside0 (Kd.R k36 36 w' w.heap.size (fun k_ => some k_ ≠ ((.slice Ao85 t574.length co85) : Value).ownBlock ∧ some k_ ≠ ((.slice Ao107 t592.length co107) : Value).ownBlock ∧ some k_ ≠ ((.slice Ao115 t599.length co115) : Value).ownBlock) (.slice Ao37 t547.length co37) t547) ∧ Aside0 (Kd.R k47 47 w' w.heap.size (fun k_ => some k_ ≠ (u551001 : Value).ownBlock ∧ some k_ ≠ (u604001 : Value).ownBlock ∧ some k_ ≠ (u605001 : Value).ownBlock) u579001 x579001_4) ∧ Aside0 (Kd.R k36 36 w' w.heap.size (fun k_ => some k_ ≠ ((.slice Ao37 t547.length co37) : Value).ownBlock ∧ some k_ ≠ ((.slice Ao107 t592.length co107) : Value).ownBlock ∧ some k_ ≠ ((.slice Ao115 t599.length co115) : Value).ownBlock) (.slice Ao85 t574.length co85) t574) ∧ Aside0 (Kd.R k75 75 w' w.heap.size (fun k_ => some k_ ≠ ((.slice Ao129 t606.length co129) : Value).ownBlock ∧ some k_ ≠ ((.slice Ao139 t613.length co139) : Value).ownBlock) (.slice Ao93 t580.length co93) t580) ∧ Aside0 (Kd.R k76 76 w' w.heap.size (fun k_ => some k_ ≠ ((.slice Ao130 t609.length co130) : Value).ownBlock ∧ some k_ ≠ ((.slice Ao140 t616.length co140) : Value).ownBlock) (.slice Ao94 t583.length co94) t583) ∧ Aside0 (Kd.R k47 47 w' w.heap.size (fun k_ => some k_ ≠ (u551001 : Value).ownBlock ∧ some k_ ≠ (u579001 : Value).ownBlock ∧ some k_ ≠ (u605001 : Value).ownBlock) u604001 x604001_4) ∧ Aside0 (Kd.R k36 36 w' w.heap.size (fun k_ => some k_ ≠ ((.slice Ao37 t547.length co37) : Value).ownBlock ∧ some k_ ≠ ((.slice Ao85 t574.length co85) : Value).ownBlock ∧ some k_ ≠ ((.slice Ao115 t599.length co115) : Value).ownBlock) (.slice Ao107 t592.length co107) t592) ∧ Aside0 (Kd.R k47 47 w' w.heap.size (fun k_ => some k_ ≠ (u551001 : Value).ownBlock ∧ some k_ ≠ (u579001 : Value).ownBlock ∧ some k_ ≠ (u604001 : Value).ownBlock) u605001 x605001_4) ∧ Aside0 (Kd.R k36 36 w' w.heap.size (fun k_ => some k_ ≠ ((.slice Ao37 t547.length co37) : Value).ownBlock ∧ some k_ ≠ ((.slice Ao85 t574.length co85) : Value).ownBlock ∧ some k_ ≠ ((.slice Ao107 t592.length co107) : Value).ownBlock) (.slice Ao115 t599.length co115) t599) ∧ Aside0 (Kd.R k75 75 w' w.heap.size (fun k_ => some k_ ≠ ((.slice Ao93 t580.length co93) : Value).ownBlock ∧ some k_ ≠ ((.slice Ao139 t613.length co139) : Value).ownBlock) (.slice Ao129 t606.length co129) t606) ∧ Aside0 (Kd.R k76 76 w' w.heap.size (fun k_ => some k_ ≠ ((.slice Ao94 t583.length co94) : Value).ownBlock ∧ some k_ ≠ ((.slice Ao140 t616.length co140) : Value).ownBlock) (.slice Ao130 t609.length co130) t609) ∧ Aside0 (Kd.R k75 75 w' w.heap.size (fun k_ => some k_ ≠ ((.slice Ao93 t580.length co93) : Value).ownBlock ∧ some k_ ≠ ((.slice Ao129 t606.length co129) : Value).ownBlock) (.slice Ao139 t613.length co139) t613) ∧ Aside0 (Kd.R k76 76 w' w.heap.size (fun k_ => some k_ ≠ ((.slice Ao94 t583.length co94) : Value).ownBlock ∧ some k_ ≠ ((.slice Ao130 t609.length co130) : Value).ownBlock) (.slice Ao140 t616.length co140) t616) ∧ Aside0 (w'.heap[gb538]? = some (.cells #[.bool a0_0, (.slice A0_1 l0_1.length c0_1), (.slice A0_2 l0_2.length c0_2)] 25 (0, 0))) ∧ Aside0 (w'.heap[gb539]? = some (.cells #[.bool a1_0, (.slice A1_1 l1_1.length c1_1), (.slice A1_2 l1_2.length c1_2)] 25 (0, 0))) ∧ Aside0 (w'.heap[gb550]? = some (.cells #[.bool t543, u551001, (.slice Ao37 t547.length co37)] 31 (0, 0))) ∧ Aside0 (w'.heap[gb578]? = some (.cells #[.bool t570, u579001, (.slice Ao85 t574.length co85)] 31 (0, 0))) ∧ Aside0 (w'.heap[gb587]? = some (.cells #[.bool t579, (.slice Ao93 t580.length co93), (.slice Ao94 t583.length co94)] 25 (0, 0))) ∧ Aside0 (w'.heap[gb603]? = some (.cells #[.bool t588, u604001, (.slice Ao107 t592.length co107)] 31 (0, 0))) ∧ Aside0 (w'.heap[gb604]? = some (.cells #[.bool t595, u605001, (.slice Ao115 t599.length co115)] 31 (0, 0))) ∧ Aside0 (w'.heap[gb620]? = some (.cells #[.bool t605, (.slice Ao129 t606.length co129), (.slice Ao130 t609.length co130)] 25 (0, 0))) ∧ Aside0 (w'.heap[gb621]? = some (.cells #[.bool t612, (.slice Ao139 t613.length co139), (.slice Ao140 t616.length co140)] 25 (0, 0))) ∧ Aside0 (Below w.heap.size w w'))
       case atStart => exact ⟨(0), (t544), (t571), (t589), (t596), (.slice Ao36 t544.length co36), (.slice Ao84 t571.length co84), (.slice Ao106 t589.length co106), (.slice Ao114 t596.length co114), (by first | rfl | (simp; done) | (simp [*]; done)), H', ⟨Nat.le_refl _⟩, ⟨kr HO_551001⟩, ⟨kr HO_551002⟩, ⟨kr HO_579001⟩, ⟨kr HO_579002⟩, ⟨kr HO_588001⟩, ⟨kr HO_588002⟩, ⟨kr HO_604001⟩, ⟨kr HO_604002⟩, ⟨kr HO_605001⟩, ⟨kr HO_605002⟩, ⟨kr HO_621001⟩, ⟨kr HO_621002⟩, ⟨kr HO_622001⟩, ⟨kr HO_622002⟩, ⟨kb BK538⟩, ⟨kb BK539⟩, ⟨kb BK550⟩, ⟨kb BK578⟩, ⟨kb BK587⟩, ⟨kb BK603⟩, ⟨kb BK604⟩, ⟨kb BK620⟩, ⟨kb BK621⟩, ⟨kl HB⟩⟩
       case round =>
        clear H'
        try clear c1
        try clear c2
        try clear p2
        try clear c14
        try clear c15
        try clear c24
        try clear c28
        try clear c141
        try clear c142
        try clear c145
        try clear c146
        try clear c149
        try clear c152
        try clear p2
        obtain ⟨x23_4, x551001_4, x579001_4, x604001_4, x605001_4, u551001, u579001, u604001, u605001, rfl, HA, HK4, HO_551001, HO_551002, HO_579001, HO_579002, HO_588001, HO_588002, HO_604001, HO_604002, HO_605001, HO_605002, HO_621001, HO_621002, HO_622001, HO_622002, BK538, BK539, BK550, BK578, BK587, BK603, BK604, BK620, BK621, HB⟩ := hrel
        cases gk with
        | zero => exact absurd HA.out (by simp [lw_LeafTells.l0])
        | succ k4 =>
         have H := HA.out
         clear HA
         simp only [lw_LeafTells.l0] at H
         by_cases c167 : x23_4 < (x604001_4.length : Int)
         ·rw [if_pos c167] at H
          have c167b0 : decide (x23_4 < (x604001_4.length : Int)) = true := decide_eq_true c167
          clear c167
          by_cases c168 : 0 ≤ x23_4
          rotate_left
          ·rw [if_neg c168] at H
           exact absurd H (by simp)
          rw [if_pos c168] at H
          have c168b0 : decide (0 ≤ x23_4) = true := decide_eq_true c168
          clear c168
          obtain ⟨y646, hy646⟩ : ∃ y_ : List S47, y_ = (x604001_4.set (x23_4 : Int).toNat (⟨(rd_T47 x604001_4 x23_4).f0, (⟨#[115, 112, 111, 105, 108, 116]⟩ : ByteArray)⟩ : S47)) := ⟨_, rfl⟩
          replace H : (lw_LeafTells.l0 k4 x22_69 (wrap64 (x23_4 + 1)) a0_0 l0_1 l0_2 t543 x551001_4 t547 t588 y646 t592 t595 x605001_4 t599) = some r := by first | (rw [hy646]; with_reducible exact H) | (have H2_ := (Option.bind_some _ _).symm.trans H; rw [hy646]; with_reducible exact H2_) | (have H2_ := (Option.bind_some _ _).symm.trans H; with_reducible exact H2_) | with_reducible exact H | (rw [hy646]; exact H) | exact H
          have Ny646 := aM hy646
          clear hy646
          have H' := aM H
          clear H
          have hnb170 := NB603_538.out
          have hnc170 := NB538_603.out
          have hnb171 := NB603_539.out
          have hnc171 := NB539_603.out
          have hnb172 := NB603_550.out
          have hnc172 := NB550_603.out
          have hnb173 := NB603_578.out
          have hnc173 := NB578_603.out
          have hnb174 := NB603_587.out
          have hnc174 := NB587_603.out
          have hnb175 := NB603_604.out
          have hnc175 := NB604_603.out
          have hnb176 := NB603_620.out
          have hnc176 := NB620_603.out
          have hnb177 := NB603_621.out
          have hnc177 := NB621_603.out
          have hcz178_0 : wr.cell? ⟨gb603, 0, none⟩ = some (.bool t588) := bc BK603 0
          have hcz178_1 : wr.cell? ⟨gb603, 1, none⟩ = some (u604001) := bc BK603 1
          have hcz178_2 : wr.cell? ⟨gb603, 2, none⟩ = some (.slice Ao107 t592.length co107) := bc BK603 2
          have hfz178_0 := blk_frozen BK603.out 0
          have hfz178_1 := blk_frozen BK603.out 1
          have hfz178_2 := blk_frozen BK603.out 2
          obtain ⟨Ao179, co179, eo179⟩ := Kd.R_slice HO_604001.out
          subst eo179
          have p169 : 0 ≤ (x23_4 : Int) := of_decide_eq_true (by first | (with_reducible assumption) | assumption)
          have q169 : (x23_4 : Int) < ((x604001_4.length : Int) : Int) := of_decide_eq_true (by first | (with_reducible assumption) | assumption)
          obtain ⟨go169, co169, eo169, gb169, gl169, cl169, HG169⟩ := Kd.R_form HO_604001.out (by omega)
          (first | cases eo169 | (injection eo169 with ea_ en_ ec_; (first | subst ea_ | (injection ea_ with ea_; subst ea_)); subst ec_; clear en_))
          have GB169 := aM gb169
          have GG169 := aM HG169
          clear gb169 gl169 HG169
          obtain ⟨ce169, hcl169, hM169, hcc169, hfr169⟩ := Kd.R_elem HO_604001.out z47 (x23_4 : Int) p169 q169
          obtain rfl := k47_openM hM169
          have hx169_0 : wr.cell? ⟨go169, (x23_4 : Int).toNat * 2, none⟩ = some (.string ((rd_T47 x604001_4 x23_4).f0)) := hcc169 0 _ rfl
          have hx169_1 : wr.cell? ⟨go169, (x23_4 : Int).toNat * 2 + 1, none⟩ = some (.string ((rd_T47 x604001_4 x23_4).f1)) := hcc169 1 _ rfl
          have hf169_0 : wr.frozen? ⟨go169, (x23_4 : Int).toNat * 2, none⟩ = false := hfr169 0
          have hf169_1 : wr.frozen? ⟨go169, (x23_4 : Int).toNat * 2 + 1, none⟩ = false := hfr169 1
          clear hcl169 hcc169 hfr169 hM169
          replace p169 := eq_true p169
          replace q169 := eq_true q169
          have HX180 := aM (show Kd.R k47 47 wr w.heap.size (fun k_ => some k_ ≠ (u551001 : Value).ownBlock ∧ some k_ ≠ (u579001 : Value).ownBlock ∧ some k_ ≠ (u605001 : Value).ownBlock) (.slice (some ⟨go169, 0, none⟩) x604001_4.length co179) x604001_4 from (kr HO_604001))
          obtain ⟨ce180, hcl180, hM180, hcc180, hfr180⟩ := Kd.R_elem HX180.out z47 (x23_4 : Int) (of_decide_eq_true (by first | (with_reducible assumption) | assumption)) (by have h_ : (x23_4 : Int) < ((x604001_4.length : Int) : Int) := of_decide_eq_true (by first | (with_reducible assumption) | assumption); first | exact h_ | (have e_ := (Kd.R_reads' HO_604001.out).1; omega) | simpa using h_)
          obtain rfl := k47_openM hM180
          have HP180 := Kd.R_seg HX180.out (x23_4 : Int) (of_decide_eq_true (by first | (with_reducible assumption) | assumption)) (by have h_ : (x23_4 : Int) < ((x604001_4.length : Int) : Int) := of_decide_eq_true (by first | (with_reducible assumption) | assumption); first | exact h_ | (have e_ := (Kd.R_reads' HO_604001.out).1; omega) | simpa using h_) (seg := [.string (⟨#[115, 112, 111, 105, 108, 116]⟩ : ByteArray)]) (j := 1) hcl180 hcc180 (show 2 ≤ 2 from by decide) (x' := (⟨(rd_T47 x604001_4 x23_4).f0, (⟨#[115, 112, 111, 105, 108, 116]⟩ : ByteArray)⟩ : S47)) (k47_mkM _ _ _ (⟨(rd_T47 x604001_4 x23_4).f0, (⟨#[115, 112, 111, 105, 108, 116]⟩ : ByteArray)⟩ : S47) ) (fun _ hk => hk)
          have hx180_1 := hcc180 1 _ rfl
          (try simp only [show (k47).sz = 2 from rfl, Nat.mul_one, Nat.add_zero] at hx180_1)
          have hf180_1 := hfr180 1
          (try simp only [show (k47).sz = 2 from rfl, Nat.mul_one, Nat.add_zero] at hf180_1)
          clear hcl180 hcc180 hfr180 hM180
          go_wp2_with (first | ((with_reducible refine gate_store (t := 9) (p := 147) rfl ?_); refine store_event (t := 9) (p := 147) (v := ?vo_w181) (w1 := (wr.setCell ⟨go169, (x23_4 : Int).toNat * 2 + 1, none⟩ (.string (⟨#[115, 112, 111, 105, 108, 116]⟩ : ByteArray)))) ?hg ?ho ?hn ?hr ?_; (case ho => rfl); (case hg => rfl); (case hn => rfl); (case hr => first | (go_simp; done) | (go_simp; rfl)); intro w181 hw; have hg : wr.grownBy w181 (some go169) := (by rw [hw]; exact HP180.2); have hp_ : Kd.R k47 47 w181 w.heap.size (fun k_ => some k_ ≠ (u551001 : Value).ownBlock ∧ some k_ ≠ (u579001 : Value).ownBlock ∧ some k_ ≠ (u605001 : Value).ownBlock) (.slice (some ⟨go169, 0, none⟩) x604001_4.length co179) y646 := (by rw [hw, Ny646.out]; exact HP180.1); clear HP180; replace HO_551001 := aM (Kd.R_after (v := (.slice (some ⟨go169, 0, none⟩) x604001_4.length co179)) (v1 := (.slice (some ⟨go169, 0, none⟩) x604001_4.length co179)) (ok := (fun k_ => some k_ ≠ (u579001 : Value).ownBlock ∧ some k_ ≠ (u605001 : Value).ownBlock)) (by (with_reducible repeat (first | apply Kd.R_alloc | apply Kd.R_drewN | apply Kd.R_drew)); exact Kd.R_mono HO_551001.out (fun _ hk => ⟨⟨hk.1, hk.2.2⟩, hk.2.1⟩)) hg (.inl rfl)); replace HO_551002 := aM (Kd.R_over' (v := (.slice (some ⟨go169, 0, none⟩) x604001_4.length co179)) (kr HO_551002) (Kd.R_typed HO_604001.out) (by decide) hg); replace HO_579001 := aM (Kd.R_after (v := (.slice (some ⟨go169, 0, none⟩) x604001_4.length co179)) (v1 := (.slice (some ⟨go169, 0, none⟩) x604001_4.length co179)) (ok := (fun k_ => some k_ ≠ (u551001 : Value).ownBlock ∧ some k_ ≠ (u605001 : Value).ownBlock)) (by (with_reducible repeat (first | apply Kd.R_alloc | apply Kd.R_drewN | apply Kd.R_drew)); exact Kd.R_mono HO_579001.out (fun _ hk => ⟨⟨hk.1, hk.2.2⟩, hk.2.1⟩)) hg (.inl rfl)); replace HO_579002 := aM (Kd.R_over' (v := (.slice (some ⟨go169, 0, none⟩) x604001_4.length co179)) (kr HO_579002) (Kd.R_typed HO_604001.out) (by decide) hg); replace HO_588001 := aM (Kd.R_over' (v := (.slice (some ⟨go169, 0, none⟩) x604001_4.length co179)) (kr HO_588001) (Kd.R_typed HO_604001.out) (by decide) hg); replace HO_588002 := aM (Kd.R_over' (v := (.slice (some ⟨go169, 0, none⟩) x604001_4.length co179)) (kr HO_588002) (Kd.R_typed HO_604001.out) (by decide) hg); replace HO_604002 := aM (Kd.R_over' (v := (.slice (some ⟨go169, 0, none⟩) x604001_4.length co179)) (kr HO_604002) (Kd.R_typed HO_604001.out) (by decide) hg); replace HO_605001 := aM (Kd.R_after (v := (.slice (some ⟨go169, 0, none⟩) x604001_4.length co179)) (v1 := (.slice (some ⟨go169, 0, none⟩) x604001_4.length co179)) (ok := (fun k_ => some k_ ≠ (u551001 : Value).ownBlock ∧ some k_ ≠ (u579001 : Value).ownBlock)) (by (with_reducible repeat (first | apply Kd.R_alloc | apply Kd.R_drewN | apply Kd.R_drew)); exact Kd.R_mono HO_605001.out (fun _ hk => ⟨⟨hk.1, hk.2.1⟩, hk.2.2⟩)) hg (.inl rfl)); replace HO_605002 := aM (Kd.R_over' (v := (.slice (some ⟨go169, 0, none⟩) x604001_4.length co179)) (kr HO_605002) (Kd.R_typed HO_604001.out) (by decide) hg); replace HO_621001 := aM (Kd.R_over' (v := (.slice (some ⟨go169, 0, none⟩) x604001_4.length co179)) (kr HO_621001) (Kd.R_typed HO_604001.out) (by decide) hg); replace HO_621002 := aM (Kd.R_over' (v := (.slice (some ⟨go169, 0, none⟩) x604001_4.length co179)) (kr HO_621002) (Kd.R_typed HO_604001.out) (by decide) hg); replace HO_622001 := aM (Kd.R_over' (v := (.slice (some ⟨go169, 0, none⟩) x604001_4.length co179)) (kr HO_622001) (Kd.R_typed HO_604001.out) (by decide) hg); replace HO_622002 := aM (Kd.R_over' (v := (.slice (some ⟨go169, 0, none⟩) x604001_4.length co179)) (kr HO_622002) (Kd.R_typed HO_604001.out) (by decide) hg); replace BK538 := aM (blk_grown (kb BK538) hg (Kd.R_ne HO_604001.out BK538.out (by decide))); replace BK539 := aM (blk_grown (kb BK539) hg (Kd.R_ne HO_604001.out BK539.out (by decide))); replace BK550 := aM (blk_grown (kb BK550) hg (Kd.R_ne HO_604001.out BK550.out (by decide))); replace BK578 := aM (blk_grown (kb BK578) hg (Kd.R_ne HO_604001.out BK578.out (by decide))); replace BK587 := aM (blk_grown (kb BK587) hg (Kd.R_ne HO_604001.out BK587.out (by decide))); replace BK603 := aM (blk_grown (kb BK603) hg (Kd.R_ne HO_604001.out BK603.out (by decide))); replace BK604 := aM (blk_grown (kb BK604) hg (Kd.R_ne HO_604001.out BK604.out (by decide))); replace BK620 := aM (blk_grown (kb BK620) hg (Kd.R_ne HO_604001.out BK620.out (by decide))); replace BK621 := aM (blk_grown (kb BK621) hg (Kd.R_ne HO_604001.out BK621.out (by decide))); replace HO_604001 := aM (hp_); replace HB := aM ((by rw [hw]; exact below_set (HB.out) GB169.out : Below w.heap.size w w181)); clear hg hw hp_))
          go_roundg k4
          case measure => have := HJ3.out; have := HJ27.out; have := HJ69.out; have := HK4.out; omega
          case rel => exact ⟨(wrap64 (x23_4 + 1)), (x551001_4), (x579001_4), (y646), (x605001_4), (u551001), (u579001), (.slice (some ⟨go169, 0, none⟩) x604001_4.length co179), (u605001), (by first | rfl | (simp; done) | (simp [*]; done)), H', ⟨by have := HJ3.out; have := HJ27.out; have := HJ69.out; have := HK4.out; omega⟩, ⟨by (with_reducible repeat (first | apply Kd.R_alloc | apply Kd.R_drewN | apply Kd.R_drew)); exact Kd.R_mono HO_551001.out (fun _ hk => ⟨hk.1.1, ⟨hk.2, hk.1.2⟩⟩)⟩, ⟨kr HO_551002⟩, ⟨by (with_reducible repeat (first | apply Kd.R_alloc | apply Kd.R_drewN | apply Kd.R_drew)); exact Kd.R_mono HO_579001.out (fun _ hk => ⟨hk.1.1, ⟨hk.2, hk.1.2⟩⟩)⟩, ⟨kr HO_579002⟩, ⟨kr HO_588001⟩, ⟨kr HO_588002⟩, ⟨kr HO_604001⟩, ⟨kr HO_604002⟩, ⟨by (with_reducible repeat (first | apply Kd.R_alloc | apply Kd.R_drewN | apply Kd.R_drew)); exact Kd.R_mono HO_605001.out (fun _ hk => ⟨hk.1.1, ⟨hk.1.2, hk.2⟩⟩)⟩, ⟨kr HO_605002⟩, ⟨kr HO_621001⟩, ⟨kr HO_621002⟩, ⟨kr HO_622001⟩, ⟨kr HO_622002⟩, ⟨kb BK538⟩, ⟨kb BK539⟩, ⟨kb BK550⟩, ⟨kb BK578⟩, ⟨kb BK587⟩, ⟨kb BK603⟩, ⟨kb BK604⟩, ⟨kb BK620⟩, ⟨kb BK621⟩, ⟨kl HB⟩⟩
         rw [if_neg c167] at H
         have c167b0 : decide (x23_4 < (x604001_4.length : Int)) = false := decide_eq_false c167
         clear c167
         have H' := aM H
         clear H
         have hnb182 := NB603_538.out
         have hnc182 := NB538_603.out
         have hnb183 := NB603_539.out
         have hnc183 := NB539_603.out
         have hnb184 := NB603_550.out
         have hnc184 := NB550_603.out
         have hnb185 := NB603_578.out
         have hnc185 := NB578_603.out
         have hnb186 := NB603_587.out
         have hnc186 := NB587_603.out
         have hnb187 := NB603_604.out
         have hnc187 := NB604_603.out
         have hnb188 := NB603_620.out
         have hnc188 := NB620_603.out
         have hnb189 := NB603_621.out
         have hnc189 := NB621_603.out
         have hcz190_0 : wr.cell? ⟨gb603, 0, none⟩ = some (.bool t588) := bc BK603 0
         have hcz190_1 : wr.cell? ⟨gb603, 1, none⟩ = some (u604001) := bc BK603 1
         have hcz190_2 : wr.cell? ⟨gb603, 2, none⟩ = some (.slice Ao107 t592.length co107) := bc BK603 2
         have hfz190_0 := blk_frozen BK603.out 0
         have hfz190_1 := blk_frozen BK603.out 1
         have hfz190_2 := blk_frozen BK603.out 2
         obtain ⟨Ao191, co191, eo191⟩ := Kd.R_slice HO_604001.out
         subst eo191
         go_wp2
         go_loopg [24] k4 (fun kq v24 w' => ∃ (x24_5 : Int) (x551002_5 : List S36) (x579002_5 : List S36) (x604002_5 : List S36) (x605002_5 : List S36) (u551002 : Value) (u579002 : Value) (u604002 : Value) (u605002 : Value), v24 = .int .i64 x24_5 ∧ Aside0 (lw_LeafTells.l1 kq x22_69 x24_5 a0_0 l0_1 l0_2 t543 x551001_4 x551002_5 t595 x605001_4 x605002_5 = some r) ∧ Aside0 (kq ≤ k4) ∧ Aside0 (Kd.R k47 47 w' w.heap.size (fun k_ => some k_ ≠ (u579001 : Value).ownBlock ∧ some k_ ≠ ((.slice Ao191 x604001_4.length co191) : Value).ownBlock ∧ some k_ ≠ (u605001 : Value).ownBlock) u551001 x551001_4) ∧ Aside0 (Kd.R k36 36 w' w.heap.size (fun k_ => some k_ ≠ (u579002 : Value).ownBlock ∧ some k_ ≠ (u604002 : Value).ownBlock ∧ some k_ ≠ (u605002 : Value).ownBlock) u551002 x551002_5) ∧ Aside0 (Kd.R k47 47 w' w.heap.size (fun k_ => some k_ ≠ (u551001 : Value).ownBlock ∧ some k_ ≠ ((.slice Ao191 x604001_4.length co191) : Value).ownBlock ∧ some k_ ≠ (u605001 : Value).ownBlock) u579001 x579001_4) ∧ Aside0 (Kd.R k36 36 w' w.heap.size (fun k_ => some k_ ≠ (u551002 : Value).ownBlock ∧ some k_ ≠ (u604002 : Value).ownBlock ∧ some k_ ≠ (u605002 : Value).ownBlock) u579002 x579002_5) ∧ Aside0 (Kd.R k75 75 w' w.heap.size (fun k_ => some k_ ≠ ((.slice Ao129 t606.length co129) : Value).ownBlock ∧ some k_ ≠ ((.slice Ao139 t613.length co139) : Value).ownBlock) (.slice Ao93 t580.length co93) t580) ∧ Aside0 (Kd.R k76 76 w' w.heap.size (fun k_ => some k_ ≠ ((.slice Ao130 t609.length co130) : Value).ownBlock ∧ some k_ ≠ ((.slice Ao140 t616.length co140) : Value).ownBlock) (.slice Ao94 t583.length co94) t583) ∧ Aside0 (Kd.R k47 47 w' w.heap.size (fun k_ => some k_ ≠ (u551001 : Value).ownBlock ∧ some k_ ≠ (u579001 : Value).ownBlock ∧ some k_ ≠ (u605001 : Value).ownBlock) (.slice Ao191 x604001_4.length co191) x604001_4) ∧ Aside0 (Kd.R k36 36 w' w.heap.size (fun k_ => some k_ ≠ (u551002 : Value).ownBlock ∧ some k_ ≠ (u579002 : Value).ownBlock ∧ some k_ ≠ (u605002 : Value).ownBlock) u604002 x604002_5) ∧ Aside0 (Kd.R k47 47 w' w.heap.size (fun k_ => some k_ ≠ (u551001 : Value).ownBlock ∧ some k_ ≠ (u579001 : Value).ownBlock ∧ some k_ ≠ ((.slice Ao191 x604001_4.length co191) : Value).ownBlock) u605001 x605001_4) ∧ Aside0 (Kd.R k36 36 w' w.heap.size (fun k_ => some k_ ≠ (u551002 : Value).ownBlock ∧ some k_ ≠ (u579002 : Value).ownBlock ∧ some k_ ≠ (u604002 : Value).ownBlock) u605002 x605002_5) ∧ Aside0 (Kd.R k75 75 w' w.heap.size (fun k_ => some k_ ≠ ((.slice Ao93 t580.length co93) : Value).ownBlock ∧ some k_ ≠ ((.slice Ao139 t613.length co139) : Value).ownBlock) (.slice Ao129 t606.length co129) t606) ∧ Aside0 (Kd.R k76 76 w' w.heap.size (fun k_ => some k_ ≠ ((.slice Ao94 t583.length co94) : Value).ownBlock ∧ some k_ ≠ ((.slice Ao140 t616.length co140) : Value).ownBlock) (.slice Ao130 t609.length co130) t609) ∧ Aside0 (Kd.R k75 75 w' w.heap.size (fun k_ => some k_ ≠ ((.slice Ao93 t580.length co93) : Value).ownBlock ∧ some k_ ≠ ((.slice Ao129 t606.length co129) : Value).ownBlock) (.slice Ao139 t613.length co139) t613) ∧ Aside0 (Kd.R k76 76 w' w.heap.size (fun k_ => some k_ ≠ ((.slice Ao94 t583.length co94) : Value).ownBlock ∧ some k_ ≠ ((.slice Ao130 t609.length co130) : Value).ownBlock) (.slice Ao140 t616.length co140) t616) ∧ Aside0 (w'.heap[gb538]? = some (.cells #[.bool a0_0, (.slice A0_1 l0_1.length c0_1), (.slice A0_2 l0_2.length c0_2)] 25 (0, 0))) ∧ Aside0 (w'.heap[gb539]? = some (.cells #[.bool a1_0, (.slice A1_1 l1_1.length c1_1), (.slice A1_2 l1_2.length c1_2)] 25 (0, 0))) ∧ Aside0 (w'.heap[gb550]? = some (.cells #[.bool t543, u551001, u551002] 31 (0, 0))) ∧ Aside0 (w'.heap[gb578]? = some (.cells #[.bool t570, u579001, u579002] 31 (0, 0))) ∧ Aside0 (w'.heap[gb587]? = some (.cells #[.bool t579, (.slice Ao93 t580.length co93), (.slice Ao94 t583.length co94)] 25 (0, 0))) ∧ Aside0 (w'.heap[gb603]? = some (.cells #[.bool t588, (.slice Ao191 x604001_4.length co191), u604002] 31 (0, 0))) ∧ Aside0 (w'.heap[gb604]? = some (.cells #[.bool t595, u605001, u605002] 31 (0, 0))) ∧ Aside0 (w'.heap[gb620]? = some (.cells #[.bool t605, (.slice Ao129 t606.length co129), (.slice Ao130 t609.length co130)] 25 (0, 0))) ∧ Aside0 (w'.heap[gb621]? = some (.cells #[.bool t612, (.slice Ao139 t613.length co139), (.slice Ao140 t616.length co140)] 25 (0, 0))) ∧ Aside0 (Below w.heap.size w w'))
         case atStart => exact ⟨(0), (t547), (t574), (t592), (t599), (.slice Ao37 t547.length co37), (.slice Ao85 t574.length co85), (.slice Ao107 t592.length co107), (.slice Ao115 t599.length co115), (by first | rfl | (simp; done) | (simp [*]; done)), H', ⟨Nat.le_refl _⟩, ⟨kr HO_551001⟩, ⟨kr HO_551002⟩, ⟨kr HO_579001⟩, ⟨kr HO_579002⟩, ⟨kr HO_588001⟩, ⟨kr HO_588002⟩, ⟨kr HO_604001⟩, ⟨kr HO_604002⟩, ⟨kr HO_605001⟩, ⟨kr HO_605002⟩, ⟨kr HO_621001⟩, ⟨kr HO_621002⟩, ⟨kr HO_622001⟩, ⟨kr HO_622002⟩, ⟨kb BK538⟩, ⟨kb BK539⟩, ⟨kb BK550⟩, ⟨kb BK578⟩, ⟨kb BK587⟩, ⟨kb BK603⟩, ⟨kb BK604⟩, ⟨kb BK620⟩, ⟨kb BK621⟩, ⟨kl HB⟩⟩
         case round =>
          clear H'
          try clear c1
          try clear p1
          try clear q1
          try clear hx1
          try clear c2
          try clear p2
          try clear p6
          try clear c14
          try clear c15
          try clear c16
          try clear p16
          try clear q16
          try clear hx16
          try clear hf16
          try clear c17
          try clear c18
          try clear hx18
          try clear hf18
          try clear c24
          try clear c28
          try clear p64
          try clear c141
          try clear c142
          try clear c145
          try clear c146
          try clear c149
          try clear c152
          try clear c167
          try clear c167b0
          try clear c168
          try clear c168b0
          try clear c169
          try clear p169
          try clear q169
          try clear hx169
          try clear hf169
          try clear c170
          try clear c171
          try clear c172
          try clear c173
          try clear c174
          try clear c175
          try clear c176
          try clear c177
          try clear c180
          try clear hx180
          try clear hf180
          try clear c182
          try clear c183
          try clear c184
          try clear c185
          try clear c186
          try clear c187
          try clear c188
          try clear c189
          try clear hcz178_0
          try clear hcz178_1
          try clear hcz178_2
          try clear hcz190_0
          try clear hcz190_1
          try clear hcz190_2
          try clear hfz178_0
          try clear hfz178_1
          try clear hfz178_2
          try clear hfz190_0
          try clear hfz190_1
          try clear hfz190_2
          try clear hx169_0
          try clear hx169_1
          try clear hx180_1
          try clear p169
          try clear p2
          try clear q169
          obtain ⟨x24_5, x551002_5, x579002_5, x604002_5, x605002_5, u551002, u579002, u604002, u605002, rfl, HA, HK5, HO_551001, HO_551002, HO_579001, HO_579002, HO_588001, HO_588002, HO_604001, HO_604002, HO_605001, HO_605002, HO_621001, HO_621002, HO_622001, HO_622002, BK538, BK539, BK550, BK578, BK587, BK603, BK604, BK620, BK621, HB⟩ := hrel
          cases gk with
          | zero => exact absurd HA.out (by simp [lw_LeafTells.l1])
          | succ k5 =>
           have H := HA.out
           clear HA
           simp only [lw_LeafTells.l1] at H
           by_cases c192 : x24_5 < (x605002_5.length : Int)
           ·rw [if_pos c192] at H
            have c192b0 : decide (x24_5 < (x605002_5.length : Int)) = true := decide_eq_true c192
            clear c192
            by_cases c193 : 0 ≤ x24_5
            rotate_left
            ·rw [if_neg c193] at H
             exact absurd H (by simp)
            rw [if_pos c193] at H
            have c193b0 : decide (0 ≤ x24_5) = true := decide_eq_true c193
            clear c193
            obtain ⟨y647, hy647⟩ : ∃ y_ : List S36, y_ = (x605002_5.set (x24_5 : Int).toNat (⟨(rd_T36 x605002_5 x24_5).f0, (-7)⟩ : S36)) := ⟨_, rfl⟩
            replace H : (lw_LeafTells.l1 k5 x22_69 (wrap64 (x24_5 + 1)) a0_0 l0_1 l0_2 t543 x551001_4 x551002_5 t595 x605001_4 y647) = some r := by first | (rw [hy647]; with_reducible exact H) | (have H2_ := (Option.bind_some _ _).symm.trans H; rw [hy647]; with_reducible exact H2_) | (have H2_ := (Option.bind_some _ _).symm.trans H; with_reducible exact H2_) | with_reducible exact H | (rw [hy647]; exact H) | exact H
            have Ny647 := aM hy647
            clear hy647
            have H' := aM H
            clear H
            have hnb195 := NB604_538.out
            have hnc195 := NB538_604.out
            have hnb196 := NB604_539.out
            have hnc196 := NB539_604.out
            have hnb197 := NB604_550.out
            have hnc197 := NB550_604.out
            have hnb198 := NB604_578.out
            have hnc198 := NB578_604.out
            have hnb199 := NB604_587.out
            have hnc199 := NB587_604.out
            have hnb200 := NB604_603.out
            have hnc200 := NB603_604.out
            have hnb201 := NB604_620.out
            have hnc201 := NB620_604.out
            have hnb202 := NB604_621.out
            have hnc202 := NB621_604.out
            have hcz203_0 : wr.cell? ⟨gb604, 0, none⟩ = some (.bool t595) := bc BK604 0
            have hcz203_1 : wr.cell? ⟨gb604, 1, none⟩ = some (u605001) := bc BK604 1
            have hcz203_2 : wr.cell? ⟨gb604, 2, none⟩ = some (u605002) := bc BK604 2
            have hfz203_0 := blk_frozen BK604.out 0
            have hfz203_1 := blk_frozen BK604.out 1
            have hfz203_2 := blk_frozen BK604.out 2
            obtain ⟨Ao204, co204, eo204⟩ := Kd.R_slice HO_605002.out
            subst eo204
            have p194 : 0 ≤ (x24_5 : Int) := of_decide_eq_true (by first | (with_reducible assumption) | assumption)
            have q194 : (x24_5 : Int) < ((x605002_5.length : Int) : Int) := of_decide_eq_true (by first | (with_reducible assumption) | assumption)
            obtain ⟨go194, co194, eo194, gb194, gl194, cl194, HG194⟩ := Kd.R_form HO_605002.out (by omega)
            (first | cases eo194 | (injection eo194 with ea_ en_ ec_; (first | subst ea_ | (injection ea_ with ea_; subst ea_)); subst ec_; clear en_))
            have GB194 := aM gb194
            have GG194 := aM HG194
            clear gb194 gl194 HG194
            obtain ⟨ce194, hcl194, hM194, hcc194, hfr194⟩ := Kd.R_elem HO_605002.out z36 (x24_5 : Int) p194 q194
            obtain rfl := k36_openM hM194
            have hx194_0 : wr.cell? ⟨go194, (x24_5 : Int).toNat * 2, none⟩ = some (.string ((rd_T36 x605002_5 x24_5).f0)) := hcc194 0 _ rfl
            have hx194_1 : wr.cell? ⟨go194, (x24_5 : Int).toNat * 2 + 1, none⟩ = some (.int .i64 ((rd_T36 x605002_5 x24_5).f1)) := hcc194 1 _ rfl
            have hf194_0 : wr.frozen? ⟨go194, (x24_5 : Int).toNat * 2, none⟩ = false := hfr194 0
            have hf194_1 : wr.frozen? ⟨go194, (x24_5 : Int).toNat * 2 + 1, none⟩ = false := hfr194 1
            clear hcl194 hcc194 hfr194 hM194
            replace p194 := eq_true p194
            replace q194 := eq_true q194
            have HX205 := aM (show Kd.R k36 36 wr w.heap.size (fun k_ => some k_ ≠ (u551002 : Value).ownBlock ∧ some k_ ≠ (u579002 : Value).ownBlock ∧ some k_ ≠ (u604002 : Value).ownBlock) (.slice (some ⟨go194, 0, none⟩) x605002_5.length co204) x605002_5 from (kr HO_605002))
            obtain ⟨ce205, hcl205, hM205, hcc205, hfr205⟩ := Kd.R_elem HX205.out z36 (x24_5 : Int) (of_decide_eq_true (by first | (with_reducible assumption) | assumption)) (by have h_ : (x24_5 : Int) < ((x605002_5.length : Int) : Int) := of_decide_eq_true (by first | (with_reducible assumption) | assumption); first | exact h_ | (have e_ := (Kd.R_reads' HO_605002.out).1; omega) | simpa using h_)
            obtain rfl := k36_openM hM205
            have HP205 := Kd.R_seg HX205.out (x24_5 : Int) (of_decide_eq_true (by first | (with_reducible assumption) | assumption)) (by have h_ : (x24_5 : Int) < ((x605002_5.length : Int) : Int) := of_decide_eq_true (by first | (with_reducible assumption) | assumption); first | exact h_ | (have e_ := (Kd.R_reads' HO_605002.out).1; omega) | simpa using h_) (seg := [.int .i64 (-7)]) (j := 1) hcl205 hcc205 (show 2 ≤ 2 from by decide) (x' := (⟨(rd_T36 x605002_5 x24_5).f0, (-7)⟩ : S36)) (k36_mkM _ _ _ (⟨(rd_T36 x605002_5 x24_5).f0, (-7)⟩ : S36) ) (fun _ hk => hk)
            have hx205_1 := hcc205 1 _ rfl
            (try simp only [show (k36).sz = 2 from rfl, Nat.mul_one, Nat.add_zero] at hx205_1)
            have hf205_1 := hfr205 1
            (try simp only [show (k36).sz = 2 from rfl, Nat.mul_one, Nat.add_zero] at hf205_1)
            clear hcl205 hcc205 hfr205 hM205
            go_wp2_with (first | ((with_reducible refine gate_store (t := 3) (p := 159) rfl ?_); refine store_event (t := 3) (p := 159) (v := ?vo_w206) (w1 := (wr.setCell ⟨go194, (x24_5 : Int).toNat * 2 + 1, none⟩ (.int .i64 (-7)))) ?hg ?ho ?hn ?hr ?_; (case ho => rfl); (case hg => rfl); (case hn => rfl); (case hr => first | (go_simp; done) | (go_simp; rfl)); intro w206 hw; have hg : wr.grownBy w206 (some go194) := (by rw [hw]; exact HP205.2); have hp_ : Kd.R k36 36 w206 w.heap.size (fun k_ => some k_ ≠ (u551002 : Value).ownBlock ∧ some k_ ≠ (u579002 : Value).ownBlock ∧ some k_ ≠ (u604002 : Value).ownBlock) (.slice (some ⟨go194, 0, none⟩) x605002_5.length co204) y647 := (by rw [hw, Ny647.out]; exact HP205.1); clear HP205; replace HO_551001 := aM (Kd.R_over' (v := (.slice (some ⟨go194, 0, none⟩) x605002_5.length co204)) (kr HO_551001) (Kd.R_typed HO_605002.out) (by decide) hg); replace HO_551002 := aM (Kd.R_after (v := (.slice (some ⟨go194, 0, none⟩) x605002_5.length co204)) (v1 := (.slice (some ⟨go194, 0, none⟩) x605002_5.length co204)) (ok := (fun k_ => some k_ ≠ (u579002 : Value).ownBlock ∧ some k_ ≠ (u604002 : Value).ownBlock)) (by (with_reducible repeat (first | apply Kd.R_alloc | apply Kd.R_drewN | apply Kd.R_drew)); exact Kd.R_mono HO_551002.out (fun _ hk => ⟨⟨hk.1, hk.2.1⟩, hk.2.2⟩)) hg (.inl rfl)); replace HO_579001 := aM (Kd.R_over' (v := (.slice (some ⟨go194, 0, none⟩) x605002_5.length co204)) (kr HO_579001) (Kd.R_typed HO_605002.out) (by decide) hg); replace HO_579002 := aM (Kd.R_after (v := (.slice (some ⟨go194, 0, none⟩) x605002_5.length co204)) (v1 := (.slice (some ⟨go194, 0, none⟩) x605002_5.length co204)) (ok := (fun k_ => some k_ ≠ (u551002 : Value).ownBlock ∧ some k_ ≠ (u604002 : Value).ownBlock)) (by (with_reducible repeat (first | apply Kd.R_alloc | apply Kd.R_drewN | apply Kd.R_drew)); exact Kd.R_mono HO_579002.out (fun _ hk => ⟨⟨hk.1, hk.2.1⟩, hk.2.2⟩)) hg (.inl rfl)); replace HO_588001 := aM (Kd.R_over' (v := (.slice (some ⟨go194, 0, none⟩) x605002_5.length co204)) (kr HO_588001) (Kd.R_typed HO_605002.out) (by decide) hg); replace HO_588002 := aM (Kd.R_over' (v := (.slice (some ⟨go194, 0, none⟩) x605002_5.length co204)) (kr HO_588002) (Kd.R_typed HO_605002.out) (by decide) hg); replace HO_604001 := aM (Kd.R_over' (v := (.slice (some ⟨go194, 0, none⟩) x605002_5.length co204)) (kr HO_604001) (Kd.R_typed HO_605002.out) (by decide) hg); replace HO_604002 := aM (Kd.R_after (v := (.slice (some ⟨go194, 0, none⟩) x605002_5.length co204)) (v1 := (.slice (some ⟨go194, 0, none⟩) x605002_5.length co204)) (ok := (fun k_ => some k_ ≠ (u551002 : Value).ownBlock ∧ some k_ ≠ (u579002 : Value).ownBlock)) (by (with_reducible repeat (first | apply Kd.R_alloc | apply Kd.R_drewN | apply Kd.R_drew)); exact Kd.R_mono HO_604002.out (fun _ hk => ⟨⟨hk.1, hk.2.1⟩, hk.2.2⟩)) hg (.inl rfl)); replace HO_605001 := aM (Kd.R_over' (v := (.slice (some ⟨go194, 0, none⟩) x605002_5.length co204)) (kr HO_605001) (Kd.R_typed HO_605002.out) (by decide) hg); replace HO_621001 := aM (Kd.R_over' (v := (.slice (some ⟨go194, 0, none⟩) x605002_5.length co204)) (kr HO_621001) (Kd.R_typed HO_605002.out) (by decide) hg); replace HO_621002 := aM (Kd.R_over' (v := (.slice (some ⟨go194, 0, none⟩) x605002_5.length co204)) (kr HO_621002) (Kd.R_typed HO_605002.out) (by decide) hg); replace HO_622001 := aM (Kd.R_over' (v := (.slice (some ⟨go194, 0, none⟩) x605002_5.length co204)) (kr HO_622001) (Kd.R_typed HO_605002.out) (by decide) hg); replace HO_622002 := aM (Kd.R_over' (v := (.slice (some ⟨go194, 0, none⟩) x605002_5.length co204)) (kr HO_622002) (Kd.R_typed HO_605002.out) (by decide) hg); replace BK538 := aM (blk_grown (kb BK538) hg (Kd.R_ne HO_605002.out BK538.out (by decide))); replace BK539 := aM (blk_grown (kb BK539) hg (Kd.R_ne HO_605002.out BK539.out (by decide))); replace BK550 := aM (blk_grown (kb BK550) hg (Kd.R_ne HO_605002.out BK550.out (by decide))); replace BK578 := aM (blk_grown (kb BK578) hg (Kd.R_ne HO_605002.out BK578.out (by decide))); replace BK587 := aM (blk_grown (kb BK587) hg (Kd.R_ne HO_605002.out BK587.out (by decide))); replace BK603 := aM (blk_grown (kb BK603) hg (Kd.R_ne HO_605002.out BK603.out (by decide))); replace BK604 := aM (blk_grown (kb BK604) hg (Kd.R_ne HO_605002.out BK604.out (by decide))); replace BK620 := aM (blk_grown (kb BK620) hg (Kd.R_ne HO_605002.out BK620.out (by decide))); replace BK621 := aM (blk_grown (kb BK621) hg (Kd.R_ne HO_605002.out BK621.out (by decide))); replace HO_605002 := aM (hp_); replace HB := aM ((by rw [hw]; exact below_set (HB.out) GB194.out : Below w.heap.size w w206)); clear hg hw hp_))
            go_roundg k5
            case measure => have := HJ3.out; have := HJ27.out; have := HJ69.out; have := HK4.out; have := HK5.out; omega
            case rel => exact ⟨(wrap64 (x24_5 + 1)), (x551002_5), (x579002_5), (x604002_5), (y647), (u551002), (u579002), (u604002), (.slice (some ⟨go194, 0, none⟩) x605002_5.length co204), (by first | rfl | (simp; done) | (simp [*]; done)), H', ⟨by have := HJ3.out; have := HJ27.out; have := HJ69.out; have := HK4.out; have := HK5.out; omega⟩, ⟨kr HO_551001⟩, ⟨by (with_reducible repeat (first | apply Kd.R_alloc | apply Kd.R_drewN | apply Kd.R_drew)); exact Kd.R_mono HO_551002.out (fun _ hk => ⟨hk.1.1, ⟨hk.1.2, hk.2⟩⟩)⟩, ⟨kr HO_579001⟩, ⟨by (with_reducible repeat (first | apply Kd.R_alloc | apply Kd.R_drewN | apply Kd.R_drew)); exact Kd.R_mono HO_579002.out (fun _ hk => ⟨hk.1.1, ⟨hk.1.2, hk.2⟩⟩)⟩, ⟨kr HO_588001⟩, ⟨kr HO_588002⟩, ⟨kr HO_604001⟩, ⟨by (with_reducible repeat (first | apply Kd.R_alloc | apply Kd.R_drewN | apply Kd.R_drew)); exact Kd.R_mono HO_604002.out (fun _ hk => ⟨hk.1.1, ⟨hk.1.2, hk.2⟩⟩)⟩, ⟨kr HO_605001⟩, ⟨kr HO_605002⟩, ⟨kr HO_621001⟩, ⟨kr HO_621002⟩, ⟨kr HO_622001⟩, ⟨kr HO_622002⟩, ⟨kb BK538⟩, ⟨kb BK539⟩, ⟨kb BK550⟩, ⟨kb BK578⟩, ⟨kb BK587⟩, ⟨kb BK603⟩, ⟨kb BK604⟩, ⟨kb BK620⟩, ⟨kb BK621⟩, ⟨kl HB⟩⟩
           rw [if_neg c192] at H
           have c192b0 : decide (x24_5 < (x605002_5.length : Int)) = false := decide_eq_false c192
           clear c192
           by_cases c207 : x22_69 = true
           rotate_left
           ·replace c207 := Bool.eq_false_iff.mpr c207
            subst c207
            have H1 : (some false) = some r := by rw [if_neg (show ¬ (false = true) by decide)] at H; exact H
            clear H
            have H := H1
            clear H1
            exact absurd (H.trans (congrArg some hT.out)) (by decide)
           subst c207
           have H1 : ((lw_told.f k5 t543 x551001_4 x551002_5).bind fun bt648 => ((rf_Same.f k5 bt648.1 bt648.2.1 bt648.2.2 a0_0 l0_1 l0_2).bind fun t655 => (if t655 = true then ((lw_awake.f k5).bind fun t656 => (some t656)) else (some false)))) = some r := by rw [if_pos rfl] at H; exact H
           clear H
           have H := H1
           clear H1
           replace H := Option.bind_eq_some_iff.mp H
           obtain ⟨⟨t648, t649, t652⟩, A2080, H⟩ := H
           replace H : ((rf_Same.f k5 t648 t649 t652 a0_0 l0_1 l0_2).bind fun t655 => (if t655 = true then ((lw_awake.f k5).bind fun t656 => (some t656)) else (some false))) = some r := H
           have A208 := aM A2080
           clear A2080
           replace H := Option.bind_eq_some_iff.mp H
           obtain ⟨t655, A2090, H⟩ := H
           replace H : (if t655 = true then ((lw_awake.f k5).bind fun t656 => (some t656)) else (some false)) = some r := H
           have A209 := aM A2090
           clear A2090
           by_cases c210 : t655 = true
           rotate_left
           ·replace c210 := Bool.eq_false_iff.mpr c210
            subst c210
            have H1 : (some false) = some r := by rw [if_neg (show ¬ (false = true) by decide)] at H; exact H
            clear H
            have H := H1
            clear H1
            exact absurd (H.trans (congrArg some hT.out)) (by decide)
           subst c210
           have H1 : ((lw_awake.f k5).bind fun t656 => (some t656)) = some r := by rw [if_pos rfl] at H; exact H
           clear H
           have H := H1
           clear H1
           replace H := Option.bind_eq_some_iff.mp H
           obtain ⟨t656, A2110, H⟩ := H
           replace H : (some t656) = some r := H
           have A211 := aM A2110
           clear A2110
           obtain rfl := Option.some.inj H
           have hnb212 := NB604_538.out
           have hnc212 := NB538_604.out
           have hnb213 := NB604_539.out
           have hnc213 := NB539_604.out
           have hnb214 := NB604_550.out
           have hnc214 := NB550_604.out
           have hnb215 := NB604_578.out
           have hnc215 := NB578_604.out
           have hnb216 := NB604_587.out
           have hnc216 := NB587_604.out
           have hnb217 := NB604_603.out
           have hnc217 := NB603_604.out
           have hnb218 := NB604_620.out
           have hnc218 := NB620_604.out
           have hnb219 := NB604_621.out
           have hnc219 := NB621_604.out
           have hcz220_0 : wr.cell? ⟨gb604, 0, none⟩ = some (.bool t595) := bc BK604 0
           have hcz220_1 : wr.cell? ⟨gb604, 1, none⟩ = some (u605001) := bc BK604 1
           have hcz220_2 : wr.cell? ⟨gb604, 2, none⟩ = some (u605002) := bc BK604 2
           have hfz220_0 := blk_frozen BK604.out 0
           have hfz220_1 := blk_frozen BK604.out 1
           have hfz220_2 := blk_frozen BK604.out 2
           obtain ⟨Ao221, co221, eo221⟩ := Kd.R_slice HO_605002.out
           subst eo221
           try go_wp2
           replace HO_551001 := aM (Kd.R_drew HO_551001.out)
           replace HO_551002 := aM (Kd.R_drew HO_551002.out)
           replace HO_579001 := aM (Kd.R_drew HO_579001.out)
           replace HO_579002 := aM (Kd.R_drew HO_579002.out)
           replace HO_588001 := aM (Kd.R_drew HO_588001.out)
           replace HO_588002 := aM (Kd.R_drew HO_588002.out)
           replace HO_604001 := aM (Kd.R_drew HO_604001.out)
           replace HO_604002 := aM (Kd.R_drew HO_604002.out)
           replace HO_605001 := aM (Kd.R_drew HO_605001.out)
           replace HO_605002 := aM (Kd.R_drew HO_605002.out)
           replace HO_621001 := aM (Kd.R_drew HO_621001.out)
           replace HO_621002 := aM (Kd.R_drew HO_621002.out)
           replace HO_622001 := aM (Kd.R_drew HO_622001.out)
           replace HO_622002 := aM (Kd.R_drew HO_622002.out)
           replace BK538 := aM (blk_drew BK538.out)
           replace BK539 := aM (blk_drew BK539.out)
           replace BK550 := aM (blk_drew BK550.out)
           replace BK578 := aM (blk_drew BK578.out)
           replace BK587 := aM (blk_drew BK587.out)
           replace BK603 := aM (blk_drew BK603.out)
           replace BK604 := aM (blk_drew BK604.out)
           replace BK620 := aM (blk_drew BK620.out)
           replace BK621 := aM (blk_drew BK621.out)
           replace HB := aM (below_drew1 HB.out)
           obtain ⟨Ao223, co223, eo223⟩ := Kd.R_slice HO_551001.out
           (first | subst eo223 | (injection eo223 with f1_ f2_ f3_; have f4_ := f1_.symm; have f5_ := f3_.symm; clear f1_ f2_ f3_; subst f4_; subst f5_))
           obtain ⟨Ao224, co224, eo224⟩ := Kd.R_slice HO_551002.out
           (first | subst eo224 | (injection eo224 with f1_ f2_ f3_; have f4_ := f1_.symm; have f5_ := f3_.symm; clear f1_ f2_ f3_; subst f4_; subst f5_))
           refine start_ (n := 11) (S := fun w' => w'.cell? ⟨gb550, 0, none⟩ = some (.bool t543) ∧ w'.cell? ⟨gb550, 1, none⟩ = some (.slice Ao223 x551001_4.length co223) ∧ w'.cell? ⟨gb550, 2, none⟩ = some (.slice Ao224 x551002_5.length co224) ∧ w'.cell? ⟨gb538, 0, none⟩ = some (.bool a0_0) ∧ w'.cell? ⟨gb538, 1, none⟩ = some (.slice A0_1 l0_1.length c0_1) ∧ w'.cell? ⟨gb538, 2, none⟩ = some (.slice A0_2 l0_2.length c0_2)) (ds := []) #[N,N,N,N,N,N,N,N,N,N,N] (by kernel_rfl) rfl rfl ⟨bc BK550 0, bc BK550 1, bc BK550 2, bc BK538 0, bc BK538 1, bc BK538 2⟩ (fun hHeld => ?_); refine with_tabW lw_LeafTells.tab21 lw_LeafTells.bits21 (fun HT_ HW_ => ?_)
           generalize wr.drew = w222 at HO_551001 HO_551002 HO_579001 HO_579002 HO_588001 HO_588002 HO_604001 HO_604002 HO_605001 HO_605002 HO_621001 HO_621002 HO_622001 HO_622002 BK538 BK539 BK550 BK578 BK587 BK603 BK604 BK620 BK621 HB hHeld ⊢
           refine pure_ (i := 0) (N := some 160) (v := ?_) (a' := ?_) #[Y,N,N,N,N,N,N,N,N,N,N] rfl rfl (any_of HT_.out (by kernel_rfl)) (fun _ _ _ h => h) (Or.inl ⟨by rfl, ?_⟩) ?_ ?_
           rotate_left
           ·intro w'
            go_simp
            with_reducible rfl
           rotate_left
           ·simp only [Act.put, List.setIfInBounds_toArray, List.set_cons_zero, List.set_cons_succ, i64_w, i32_w]
            rfl
           refine pure_ (i := 1) (N := some 161) (v := ?_) (a' := ?_) #[Y,Y,N,N,N,N,N,N,N,N,N] rfl rfl (any_of HT_.out (by kernel_rfl)) (fun _ _ _ h => h) (Or.inl ⟨by rfl, ?_⟩) ?_ ?_
           rotate_left
           ·intro w'
            go_simp
            with_reducible rfl
           rotate_left
           ·simp only [Act.put, List.setIfInBounds_toArray, List.set_cons_zero, List.set_cons_succ, i64_w, i32_w]
            rfl
           refine take_ (i := 2) (N := some 162) (v := ?_) (a' := ?_) #[Y,Y,Y,N,N,N,N,N,N,N,N] rfl rfl (take_ofW HT_.out HW_.out (by kernel_rfl)) (fun _ _ _ h => h) (Or.inl ⟨by rfl, ?_⟩) hHeld ?_ ?_
           rotate_left
           ·rintro w' ⟨s0, s1, s2, s3, s4, s5⟩
            go_simp
            with_reducible rfl
           rotate_left
           ·simp only [Act.put, List.setIfInBounds_toArray, List.set_cons_zero, List.set_cons_succ, i64_w, i32_w]
            rfl
           refine take_ (i := 4) (N := some 164) (v := ?_) (a' := ?_) #[Y,Y,Y,N,Y,N,N,N,N,N,N] rfl rfl (take_ofW HT_.out HW_.out (by kernel_rfl)) (fun _ _ _ h => h) (Or.inl ⟨by rfl, ?_⟩) hHeld ?_ ?_
           rotate_left
           ·rintro w' ⟨s0, s1, s2, s3, s4, s5⟩
            go_simp
            with_reducible rfl
           rotate_left
           ·simp only [Act.put, List.setIfInBounds_toArray, List.set_cons_zero, List.set_cons_succ, i64_w, i32_w]
            rfl
           refine one_ (i := 3) (N := some 163) #[Y,Y,Y,Y,Y,N,N,N,N,N,N] rfl rfl (one_of HT_.out (by kernel_rfl)) (by decide) (fun K hK => ?_)
           refine goes_ Try.func28 (by kernel_rfl) rfl #[.agg #[.bool t543, .slice Ao223 x551001_4.length co223, .slice Ao224 x551002_5.length co224]] (by rfl) rfl rfl (by (try simp only [List.map_toArray, List.map_cons, List.map_nil]); first | done | rfl | (simp only [List.length_drop, List.length_take]; rfl)) ?_
           with_reducible refine (lw_told.calls k5 t543 _ _ x551001_4 _ _ x551002_5 t648 t649 t652 _ ?side1 ?side2 ?side3 ?side4 A208.out).mono ?_
           (case side1 => exact kc (Kd.R_reads' HO_551001.out).2.2)
           (case side2 => exact (Kd.R_reads' HO_551001.out).2.1)
           (case side3 => exact kc (Kd.R_reads' HO_551002.out).2.2)
           (case side4 => exact (Kd.R_reads' HO_551002.out).2.1)
           rintro e w225 ⟨v650, v653, rfl, ho0, ho1, hb⟩
           refine ⟨_, rfl, ?_⟩
           replace HO_551001 := rb HO_551001 hb
           replace HO_551002 := rb HO_551002 hb
           replace HO_579001 := rb HO_579001 hb
           replace HO_579002 := rb HO_579002 hb
           replace HO_604001 := rb HO_604001 hb
           replace HO_604002 := rb HO_604002 hb
           replace HO_605001 := rb HO_605001 hb
           replace HO_605002 := rb HO_605002 hb
           have HO651 := aM (Kd.R_lower (Kd.R_new' (Kd.R_new' (Kd.R_new' ho0 (Kd.R_lt (kr HO_588001))) (Kd.R_lt (kr HO_621001))) (Kd.R_lt (kr HO_622001))) (below_size (kl HB)))
           replace HO_588001 := aM (Kd.R_elder' (kr HO_588001) (Kd.R_base ho0) hb)
           replace HO_621001 := aM (Kd.R_elder' (kr HO_621001) (Kd.R_base ho0) hb)
           replace HO_622001 := aM (Kd.R_elder' (kr HO_622001) (Kd.R_base ho0) hb)
           have HO654 := aM (Kd.R_lower (Kd.R_new' (Kd.R_new' (Kd.R_new' ho1 (Kd.R_lt (kr HO_588002))) (Kd.R_lt (kr HO_621002))) (Kd.R_lt (kr HO_622002))) (below_size (kl HB)))
           replace HO_588002 := aM (Kd.R_elder' (kr HO_588002) (Kd.R_base ho1) hb)
           replace HO_621002 := aM (Kd.R_elder' (kr HO_621002) (Kd.R_base ho1) hb)
           replace HO_622002 := aM (Kd.R_elder' (kr HO_622002) (Kd.R_base ho1) hb)
           replace BK538 := bb BK538 hb
           replace BK539 := bb BK539 hb
           replace BK550 := bb BK550 hb
           replace BK578 := bb BK578 hb
           replace BK587 := bb BK587 hb
           replace BK603 := bb BK603 hb
           replace BK604 := bb BK604 hb
           replace BK620 := bb BK620 hb
           replace BK621 := bb BK621 hb
           replace HB := aM (below_step (kl HB) hb)
           (try clear hb)
           (try clear hb2)
           (try clear hk)
           (try clear hi)
           (try clear ho0)
           (try clear ho1)
           obtain ⟨Ao226, co226, eo226⟩ := Kd.R_slice HO651.out
           (first | subst eo226 | (injection eo226 with f1_ f2_ f3_; have f4_ := f1_.symm; have f5_ := f3_.symm; clear f1_ f2_ f3_; subst f4_; subst f5_))
           obtain ⟨Ao227, co227, eo227⟩ := Kd.R_slice HO654.out
           (first | subst eo227 | (injection eo227 with f1_ f2_ f3_; have f4_ := f1_.symm; have f5_ := f3_.symm; clear f1_ f2_ f3_; subst f4_; subst f5_))
           refine hK.out _ _ ⟨bc BK550 0, bc BK550 1, bc BK550 2, bc BK538 0, bc BK538 1, bc BK538 2⟩ (fun hHeld => ?_)
           clear hK K
           refine norm_ (a' := ?_) ?_ ?_
           rotate_left
           ·show Act.put _ (some 163) _ = _
            simp only [Act.put, List.setIfInBounds_toArray, List.set_cons_zero, List.set_cons_succ, i64_w, i32_w]
            rfl
           refine one_ (i := 5) (N := some 165) #[Y,Y,Y,Y,Y,Y,N,N,N,N,N] rfl rfl (one_of HT_.out (by kernel_rfl)) (by decide) (fun K hK => ?_)
           refine goes_ Try.func24 (by kernel_rfl) rfl #[.agg #[.bool t648, .slice Ao226 t649.length co226, .slice Ao227 t652.length co227], .agg #[.bool a0_0, .slice A0_1 l0_1.length c0_1, .slice A0_2 l0_2.length c0_2]] (by rfl) rfl rfl (by (try simp only [List.map_toArray, List.map_cons, List.map_nil]); first | done | rfl | (simp only [List.length_drop, List.length_take]; rfl)) ?_
           with_reducible refine (rf_Same.calls k5 t648 _ _ t649 _ _ t652 a0_0 _ _ l0_1 _ _ l0_2 true _ ?side1 ?side2 ?side3 ?side4 ?side5 ?side6 ?side7 ?side8 A209.out).mono ?_
           (case side1 => exact kc (Kd.R_reads' HO651.out).2.2)
           (case side2 => exact (Kd.R_reads' HO651.out).2.1)
           (case side3 => exact kc (Kd.R_reads' HO654.out).2.2)
           (case side4 => exact (Kd.R_reads' HO654.out).2.1)
           (case side5 => exact kc (Kd.C_below HR0_1.out HB.out))
           (case side6 => exact HC0_1.out)
           (case side7 => exact kc (Kd.C_below HR0_2.out HB.out))
           (case side8 => exact HC0_2.out)
           rintro e w228 ⟨rfl, hb⟩
           refine ⟨_, rfl, ?_⟩
           replace HO_551001 := rb HO_551001 hb
           replace HO_551002 := rb HO_551002 hb
           replace HO_579001 := rb HO_579001 hb
           replace HO_579002 := rb HO_579002 hb
           replace HO_588001 := rb HO_588001 hb
           replace HO_588002 := rb HO_588002 hb
           replace HO_604001 := rb HO_604001 hb
           replace HO_604002 := rb HO_604002 hb
           replace HO_605001 := rb HO_605001 hb
           replace HO_605002 := rb HO_605002 hb
           replace HO_621001 := rb HO_621001 hb
           replace HO_621002 := rb HO_621002 hb
           replace HO_622001 := rb HO_622001 hb
           replace HO_622002 := rb HO_622002 hb
           replace HO651 := rb HO651 hb
           replace HO654 := rb HO654 hb
           replace BK538 := bb BK538 hb
           replace BK539 := bb BK539 hb
           replace BK550 := bb BK550 hb
           replace BK578 := bb BK578 hb
           replace BK587 := bb BK587 hb
           replace BK603 := bb BK603 hb
           replace BK604 := bb BK604 hb
           replace BK620 := bb BK620 hb
           replace BK621 := bb BK621 hb
           replace HB := aM (below_step (kl HB) hb)
           (try clear hb)
           (try clear hb2)
           (try clear hk)
           (try clear hi)
           refine hK.out _ _ ⟨bc BK550 0, bc BK550 1, bc BK550 2, bc BK538 0, bc BK538 1, bc BK538 2⟩ (fun hHeld => ?_)
           clear hK K
           refine norm_ (a' := ?_) ?_ ?_
           rotate_left
           ·show Act.put _ (some 165) _ = _
            simp only [Act.put, List.setIfInBounds_toArray, List.set_cons_zero, List.set_cons_succ, i64_w, i32_w]
            rfl
           refine pure_ (i := 6) (N := some 166) (v := ?_) (a' := ?_) #[Y,Y,Y,Y,Y,Y,Y,N,N,N,N] rfl rfl (any_of HT_.out (by kernel_rfl)) (fun _ _ _ h => h) (Or.inl ⟨by rfl, ?_⟩) ?_ ?_
           rotate_left
           ·intro w'
            go_simp
            with_reducible rfl
           rotate_left
           ·simp only [Act.put, List.setIfInBounds_toArray, List.set_cons_zero, List.set_cons_succ, i64_w, i32_w]
            rfl
           refine pure_ (i := 7) (N := some 167) (v := ?_) (a' := ?_) #[Y,Y,Y,Y,Y,Y,Y,Y,N,N,N] rfl rfl (any_of HT_.out (by kernel_rfl)) (fun _ _ _ h => h) (Or.inl ⟨by rfl, ?_⟩) ?_ ?_
           rotate_left
           ·intro w'
            go_simp
            with_reducible rfl
           rotate_left
           ·simp only [Act.put, List.setIfInBounds_toArray, List.set_cons_zero, List.set_cons_succ, i64_w, i32_w]
            rfl
           refine one_ (i := 8) (N := some 168) #[Y,Y,Y,Y,Y,Y,Y,Y,Y,N,N] rfl rfl (one_of HT_.out (by kernel_rfl)) (by decide) (fun K hK => ?_)
           refine goes_ Try.func11 (by kernel_rfl) rfl #[] (by rfl) rfl rfl (by (try simp only [List.map_toArray, List.map_cons, List.map_nil]); first | done | rfl | (simp only [List.length_drop, List.length_take]; rfl)) ?_
           with_reducible refine (lw_awake.calls k5  t656 _ A211.out).mono ?_
           rintro e w229 ⟨rfl, hb⟩
           refine ⟨_, rfl, ?_⟩
           replace HO_551001 := rb HO_551001 hb
           replace HO_551002 := rb HO_551002 hb
           replace HO_579001 := rb HO_579001 hb
           replace HO_579002 := rb HO_579002 hb
           replace HO_588001 := rb HO_588001 hb
           replace HO_588002 := rb HO_588002 hb
           replace HO_604001 := rb HO_604001 hb
           replace HO_604002 := rb HO_604002 hb
           replace HO_605001 := rb HO_605001 hb
           replace HO_605002 := rb HO_605002 hb
           replace HO_621001 := rb HO_621001 hb
           replace HO_621002 := rb HO_621002 hb
           replace HO_622001 := rb HO_622001 hb
           replace HO_622002 := rb HO_622002 hb
           replace HO651 := rb HO651 hb
           replace HO654 := rb HO654 hb
           replace BK538 := bb BK538 hb
           replace BK539 := bb BK539 hb
           replace BK550 := bb BK550 hb
           replace BK578 := bb BK578 hb
           replace BK587 := bb BK587 hb
           replace BK603 := bb BK603 hb
           replace BK604 := bb BK604 hb
           replace BK620 := bb BK620 hb
           replace BK621 := bb BK621 hb
           replace HB := aM (below_step (kl HB) hb)
           (try clear hb)
           (try clear hb2)
           (try clear hk)
           (try clear hi)
           refine hK.out _ _ ⟨bc BK550 0, bc BK550 1, bc BK550 2, bc BK538 0, bc BK538 1, bc BK538 2⟩ (fun hHeld => ?_)
           clear hK K
           refine norm_ (a' := ?_) ?_ ?_
           rotate_left
           ·show Act.put _ (some 168) _ = _
            simp only [Act.put, List.setIfInBounds_toArray, List.set_cons_zero, List.set_cons_succ, i64_w, i32_w]
            rfl
           refine pure_ (i := 9) (N := some 169) (v := ?_) (a' := ?_) #[Y,Y,Y,Y,Y,Y,Y,Y,Y,Y,N] rfl rfl (any_of HT_.out (by kernel_rfl)) (fun _ _ _ h => h) (Or.inl ⟨by rfl, ?_⟩) ?_ ?_
           rotate_left
           ·intro w'
            go_simp
            with_reducible rfl
           rotate_left
           ·simp only [Act.put, List.setIfInBounds_toArray, List.set_cons_zero, List.set_cons_succ, i64_w, i32_w]
            rfl
           refine pure_ (i := 10) (N := some 6) (v := ?_) (a' := ?_) #[Y,Y,Y,Y,Y,Y,Y,Y,Y,Y,Y] rfl rfl (any_of HT_.out (by kernel_rfl)) (fun _ _ _ h => h) (Or.inl ⟨by rfl, ?_⟩) ?_ ?_
           rotate_left
           ·intro w'
            go_simp
            with_reducible rfl
           rotate_left
           ·simp only [Act.put, List.setIfInBounds_toArray, List.set_cons_zero, List.set_cons_succ, i64_w, i32_w]
            rfl
           refine done_ (done_of HT_.out (by kernel_rfl)) ?_
           try go_wp2
           go_ret
           exact ⟨by first | rfl | (simp [errW_none, errW_some] <;> rfl) | (simp [*, errW_none, errW_some] <;> rfl), kl HB⟩
end Go.Proofs.Ytfbaejhjppikpaa.P
namespace Go.Proofs.Ytfbaejhjppikpaa.P
open Go.RowKit Go.Proofs.YtfbaejhjppikpaaW.PrintWords Go.Proofs.YtfbaejhjppikpaaW.PrintLast Go.Proofs.YtfbaejhjppikpaaW.PrintMore
open Go.Proofs.YtfbaejhjppikpaaB
theorem encode_tells (a : Bool) (l : List S47) (m : List S36) (h : Small l m) : leaf_Encode.f a l m = some (if mayB a l m = true then (if decide (sizeN l m ≤ 254) = true then (strOfNums (encN a l m), 0) else (⟨#[]⟩, 40)) else (⟨#[]⟩, 4)) := by
  unfold leaf_Encode.f
  rw [if_pos (smallB_of l m h)]
theorem decode_tells (s : ByteArray) (h : s.size ≤ 1000000) : leaf_Decode.f s = some (decodeN s) := by
  unfold leaf_Decode.f
  rw [if_pos (by omega)]
theorem tells_end (a : Bool) (l : List S75) (m : List S76) (hl : l.length ≤ 1000) (hm : m.length ≤ 1000) (b : Bool) (P : List S47) : ∀ (d i k : Nat) (Q : List S36), i + d = Q.length → Q.length ≤ 1000 → 7000 ≤ k →
    lw_LeafTells.l1 (d + (k + 1)) true (i : Int) a l m a (l.map toE) (m.map toB) b P Q = some true := by
  intro d
  induction d with
  | zero =>
    intro i k Q h hq hk
    rw [show 0 + (k + 1) = k + 1 from by omega]
    simp only [lw_LeafTells.l1]
    rw [if_neg (by omega), if_pos trivial, told_tells a _ _ (by rw [List.length_map]; omega) (by rw [List.length_map]; omega) k (by omega), map_ofE, map_ofB]
    simp only [Option.bind_some]
    rw [refSame_tells a a l l m m hl hm k (by omega)]
    simp only [Option.bind_some]
    rw [if_pos (by simp), awake_tells k (by omega)]; rfl
  | succ d ih =>
    intro i k Q h hq hk
    obtain ⟨q, hqq⟩ : ∃ q, q = d + (k + 1) := ⟨_, rfl⟩
    rw [show d + 1 + (k + 1) = q + 1 from by omega]
    simp only [lw_LeafTells.l1]
    rw [if_pos (by omega), if_pos (by omega), wrap_nat i (by omega), hqq]
    exact ih (i + 1) k _ (by rw [List.length_set]; omega) (by rw [List.length_set]; omega) hk
theorem tells_l0 (a : Bool) (l : List S75) (m : List S76) (hl : l.length ≤ 1000) (hm : m.length ≤ 1000) (p : Bool) (P2 : List S36) (b : Bool) (Q1 : List S47) (Q2 : List S36) (hQ : Q2.length ≤ 1000) : ∀ (d i k : Nat) (P : List S47), i + d = P.length → P.length ≤ 1000 → 9000 ≤ k →
    lw_LeafTells.l0 (d + (k + 1)) true (i : Int) a l m a (l.map toE) (m.map toB) p P P2 b Q1 Q2 = some true := by
  intro d
  induction d with
  | zero =>
    intro i k P h hp hk
    rw [show 0 + (k + 1) = k + 1 from by omega]
    simp only [lw_LeafTells.l0]
    rw [if_neg (by omega)]
    obtain ⟨q, hq⟩ : ∃ q, k = Q2.length + (q + 1) := ⟨k - Q2.length - 1, by omega⟩
    rw [hq]
    exact tells_end a l m hl hm b Q1 Q2.length 0 q Q2 (by omega) hQ (by omega)
  | succ d ih =>
    intro i k P h hp hk
    obtain ⟨q, hqq⟩ : ∃ q, q = d + (k + 1) := ⟨_, rfl⟩
    rw [show d + 1 + (k + 1) = q + 1 from by omega]
    simp only [lw_LeafTells.l0]
    rw [if_pos (by omega), if_pos (by omega), wrap_nat i (by omega), hqq]
    exact ih (i + 1) k _ (by rw [List.length_set]; omega) (by rw [List.length_set]; omega) hk
theorem tells_j2 (a : Bool) (l : List S75) (m : List S76) (hl : l.length ≤ 1000) (hm : m.length ≤ 1000) (p : Bool) (P : List S47) (P2 : List S36) (b : Bool) (Q1 : List S47) (Q2 : List S36) (hP : P.length ≤ 1000) (hQ : Q2.length ≤ 1000) (k : Nat) (hk : 12000 ≤ k) :
    lw_LeafTells.j2 k true a l m a (l.map toE) (m.map toB) p P P2 b Q1 Q2 = some true := by
  obtain ⟨q, hq⟩ : ∃ q, k = (P.length + (q + 1)) + 1 := ⟨k - P.length - 2, by omega⟩
  rw [hq]
  simp only [lw_LeafTells.j2]
  exact tells_l0 a l m hl hm p P2 b Q1 Q2 hQ P.length 0 q P (by omega) hP (by omega)
theorem ofE_inj {x y : S75} (h : toE x = toE y) : x = y := by
  cases x; cases y; simp only [toE, S47.mk.injEq] at h; simp only [S75.mk.injEq]; exact h
theorem ofB_inj {x y : S76} (h : toB x = toB y) : x = y := by
  cases x; cases y; simp only [toB, S36.mk.injEq] at h; simp only [S76.mk.injEq]; exact h
theorem same_both (a b : Bool) (l l' : List S75) (m m' : List S76) : sameN a (l.map toE) (m.map toB) b (l'.map toE) (m'.map toB) = decide (a = b ∧ l = l' ∧ m = m') := by
  unfold sameN
  have h1 : l.map toE = l'.map toE ↔ l = l' := ⟨fun h => (List.map_inj_right (fun _ _ => ofE_inj)).1 h, fun h => by rw [h]⟩
  have h2 : m.map toB = m'.map toB ↔ m = m' := ⟨fun h => (List.map_inj_right (fun _ _ => ofB_inj)).1 h, fun h => by rw [h]⟩
  exact decide_eq_decide.2 (by rw [h1, h2])
theorem decoded_small (s : ByteArray) : (decodeN s).2.1.length ≤ 1000 ∧ (decodeN s).2.2.1.length ≤ 1000 := by
  by_cases h : (decodeN s).2.2.2 = 0
  · obtain ⟨_, _, hS, _⟩ := encode_decode s (decodeN s).1 (decodeN s).2.1 (decodeN s).2.2.1 (by rw [← h])
    exact ⟨hS.l_len, hS.m_len⟩
  · obtain ⟨_, h1, h2⟩ := decode_refused s h
    rw [h1, h2]; simp
theorem split_both (a : Bool) (l : List S75) (m : List S76) (hS : Small (l.map toE) (m.map toB)) (k : Nat) (hk : 8000 ≤ k) : ∃ (p : Bool) (P : List S47) (P2 : List S36) (b : Bool) (Q : List S47) (Q2 : List S36) (c : Int), P.length ≤ 1000 ∧ P2.length ≤ 1000 ∧ Q.length ≤ 1000 ∧ Q2.length ≤ 1000 ∧
    leaf_Split.f k a (l.map toE) (m.map toB) = some (p, P, P2, b, Q, Q2, c) ∧ rf_Split.f k a l m = some (p, P.map ofE, P2.map ofB, b, Q.map ofE, Q2.map ofB, c) := by
  obtain ⟨r1, r2⟩ := refSplit_tells a l m hS k hk
  have h1 := hS.l_len
  have h2 := hS.m_len
  cases hc : canSplit a (l.map toE) (m.map toB) with
  | false => exact ⟨_, _, _, _, _, _, _, by simp, by simp, by simp, by simp, split_not a _ _ hS hc k (by omega), r1 hc⟩
  | true =>
    obtain ⟨b, hb, e⟩ := split_tells a _ _ hS hc k (by omega)
    obtain ⟨b', hb', e'⟩ := r2 hc
    rw [hb'.one hb] at e'
    refine ⟨_, _, _, _, _, _, _, ?_, ?_, ?_, ?_, e, ?_⟩
    · rw [List.length_take]; omega
    · rw [List.length_take]; omega
    · rw [List.length_drop]; omega
    · rw [List.length_drop]; omega
    · rw [e', ← List.map_take, ← List.map_take, ← List.map_drop, ← List.map_drop, map_ofE, map_ofE, map_ofB, map_ofB]
theorem tells_j1 (a : Bool) (l : List S75) (m : List S76) (s : ByteArray) (hs : s.size ≤ 1000) (hl : l.length ≤ 200) (hm : m.length ≤ 200) (hS : Small (l.map toE) (m.map toB)) (k : Nat) (hk : 14000 ≤ k) :
    lw_LeafTells.j1 (k + 1) s false a l m a (l.map toE) (m.map toB) = some true := by
  simp only [lw_LeafTells.j1, Bool.false_eq_true, if_false]
  rw [encode_tells a _ _ hS, refEncode_tells a l m hS k (by omega), decode_tells s (by omega), refDecode_tells s k (by omega)]
  simp only [Option.bind_some]
  obtain ⟨d1, d2⟩ := decoded_small s
  obtain ⟨p, P, P2, b, Q, Q2, c, p1, p2, q1, q2, e1, e2⟩ := split_both a l m hS k (by omega)
  rw [e1, e2]
  simp only [Option.bind_some]
  generalize decodeN s = R at *
  rw [if_pos trivial, if_pos trivial, told_tells _ _ _ d1 d2 k (by omega)]
  simp only [Option.bind_some]
  rw [refSame_tells _ _ _ _ _ _ (by rw [List.length_map]; exact d1) (by rw [List.length_map]; exact d2) k (by omega)]
  simp only [Option.bind_some]
  rw [if_pos (by simp), if_pos trivial, told_tells _ _ _ p1 p2 k (by omega)]
  simp only [Option.bind_some]
  rw [refSame_tells _ _ _ _ _ _ (by rw [List.length_map]; exact p1) (by rw [List.length_map]; exact p2) k (by omega)]
  simp only [Option.bind_some]
  rw [if_pos (by simp), told_tells _ _ _ q1 q2 k (by omega)]
  simp only [Option.bind_some]
  rw [refSame_tells _ _ _ _ _ _ (by rw [List.length_map]; exact q1) (by rw [List.length_map]; exact q2) k (by omega)]
  simp only [Option.bind_some]
  rw [if_pos (by simp), show (c == c) = true from by simp]
  exact tells_j2 a l m (by omega) (by omega) p P P2 b Q Q2 p1 q2 k (by omega)
theorem tells_j0 (a : Bool) (l : List S75) (m : List S76) (a' : Bool) (l' : List S75) (m' : List S76) (s : ByteArray) (hs : s.size ≤ 1000) (hl : l.length ≤ 200) (hm : m.length ≤ 200) (hS : Small (l.map toE) (m.map toB)) (hl' : l'.length ≤ 200) (hm' : m'.length ≤ 200) (k : Nat) (hk : 14000 ≤ k) :
    lw_LeafTells.j0 (k + 2) s false a l m a' l' m' = some true := by
  simp only [lw_LeafTells.j0, Bool.false_eq_true, if_false]
  rw [given_tells a l m (by omega) (by omega) (k + 1) (by omega)]
  simp only [Option.bind_some]
  rw [may_tells' a _ _ hS (k + 1) (by omega), refMay_tells a l m (by omega) (by omega) (k + 1) (by omega)]
  simp only [Option.bind_some]
  rw [if_neg (by simp), size_tells' a _ _ hS (k + 1) (by omega), refSize_tells a l m hS (k + 1) (by omega)]
  simp only [Option.bind_some]
  rw [if_pos trivial, fits_tells' a _ _ hS (k + 1) (by omega), refFits_tells a l m hS (k + 1) (by omega)]
  simp only [Option.bind_some]
  rw [if_neg (by simp), given_tells a' l' m' (by omega) (by omega) (k + 1) (by omega)]
  simp only [Option.bind_some]
  rw [same_tells _ _ _ _ _ _ (by rw [List.length_map]; omega) (by rw [List.length_map]; omega) (k + 1) (by omega), refSame_tells _ _ _ _ _ _ (by omega) (by omega) (k + 1) (by omega), same_both]
  simp only [Option.bind_some]
  rw [show ∀ c : Bool, (c != c) = false from fun c => by simp]
  exact tells_j1 a l m s hs hl hm hS k hk
theorem leafTells_pure (a : Bool) (l : List S75) (m : List S76) (a' : Bool) (l' : List S75) (m' : List S76) (s : ByteArray) : ∃ k, lw_LeafTells.f k a l m a' l' m' s = some true := by
  have HA := awake_tells
  obtain ⟨K, hK⟩ : ∃ K, K = 14000 := ⟨_, rfl⟩
  refine ⟨K + 2, ?_⟩
  have hstop : lw_LeafTells.j0 (K + 2) s true a l m a' l' m' = some true := by
    simp only [lw_LeafTells.j0, if_true]
    rw [HA (K + 1) (by omega)]; rfl
  unfold lw_LeafTells.f
  rw [large_tells a l m (K + 2) (by omega)]
  simp only [Option.bind_some]
  cases hL : largeB l m with
  | true => rw [if_pos rfl]; exact hstop
  | false =>
    rw [if_neg (by decide), large_tells a' l' m' (K + 2) (by omega)]
    simp only [Option.bind_some]
    cases hL' : largeB l' m' with
    | true => rw [if_pos rfl]; exact hstop
    | false =>
      rw [if_neg (by decide)]
      obtain ⟨h1, h2, h3, h4, hs⟩ := small_given l m hL
      obtain ⟨h1', h2', _, _, _⟩ := small_given l' m' hL'
      by_cases hk : (s.size : Int) > 1000
      · rw [decide_eq_true hk]; exact hstop
      rw [decide_eq_false hk]
      exact tells_j0 a l m a' l' m' s (by omega) h1 h2 hs h1' h2' K (by omega)
theorem leafTells_walk (a : Bool) (A : Option Addr) (c : Nat) (l : List S75) (A' : Option Addr) (c' : Nat) (m : List S76) (a2 : Bool) (A2 : Option Addr) (c2 : Nat) (l2 : List S75) (A2' : Option Addr) (c2' : Nat) (m2 : List S76) (s : ByteArray) (w : World) (hr : Kd.C k75 w A l.length l) (hc : l.length ≤ c) (hr' : Kd.C k76 w A' m.length m) (hc' : m.length ≤ c') (hr2 : Kd.C k75 w A2 l2.length l2) (hc2 : l2.length ≤ c2) (hr2' : Kd.C k76 w A2' m2.length m2) (hc2' : m2.length ≤ c2') (_ : s.size ≤ 140737488351232) :
    Calls Try.prog 6 #[.agg #[.bool a, .slice A l.length c, .slice A' m.length c'], .agg #[.bool a2, .slice A2 l2.length c2, .slice A2' m2.length c2'], .string s] w fun e w' => e = .returned (.bool true) ∧ Below w.heap.size w w' := by
  obtain ⟨k, hk⟩ := leafTells_pure a l m a2 l2 m2 s
  exact lw_LeafTells.calls k a A c l A' c' m a2 A2 c2 l2 A2' c2' m2 s true w hr hc hr' hc' hr2 hc2 hr2' hc2' hk ⟨rfl⟩
end Go.Proofs.Ytfbaejhjppikpaa.P
namespace Go.Proofs.YtfbaejhjppikpaaR
open Go.RowKit Go.Proofs.YtfbaejhjppikpaaW.PrintWords
open Go.Proofs.YtfbaejhjppikpaaW
section
variable {H : Type} {enc : TypeId × Value → H} {P : Program} {w : World} {spare : Nat → Bool} {held : Bool}
def Opens {α : Type} (enc : TypeId × Value → H) (P : Program) (w : World) (spare : Nat → Bool) (held : Bool) (t : TypeId) (d : Kd α) (Q : α → Prop) : Prop :=
  ∀ (fuel : Nat) (cs : List Value) (x : DataW H × List MemPlace), DataW.trod enc P w 0 spare held fuel t cs = some x → ∃ v : α, d.K w v cs ∧ Q v
theorem opens_int {t : TypeId} {k : IntKind} (ht : P.underlying t = some (.int k)) : Opens enc P w spare held t (Kd.int k) (fun n => (Lit.int k n).wf = true) := by
  intro fuel cs x h
  obtain ⟨n, rfl, rfl, hw⟩ := DataW.trod_int ht h
  exact ⟨n, rfl, hw⟩
theorem opens_bool {t : TypeId} (ht : P.underlying t = some .bool) : Opens enc P w spare held t Kd.bool (fun _ => True) := by
  intro fuel cs x h
  obtain ⟨n, rfl, rfl⟩ := DataW.trod_bool ht h
  exact ⟨n, rfl, trivial⟩
theorem opens_string {t : TypeId} (ht : P.underlying t = some .string) : Opens enc P w spare held t Kd.string (fun s => s.size ≤ maxLen) := by
  intro fuel cs x h
  obtain ⟨s, rfl, rfl, hs⟩ := DataW.trod_string ht h
  exact ⟨s, rfl, hs⟩
theorem add_add (a : Addr) (n m : Nat) : (a.add n).add m = a.add (n + m) := by
  unfold Addr.add
  by_cases h : n = 0
  · subst h; simp
  · by_cases h2 : m = 0
    · subst h2; simp [h]
    · have : n + m ≠ 0 := by omega
      simp [h, h2]; omega
theorem choose_list {α : Type} (p : Nat → α → Prop) : ∀ n, (∀ i, i < n → ∃ v, p i v) → ∃ l : List α, l.length = n ∧ ∀ i v, l[i]? = some v → p i v := by
  intro n
  induction n with
  | zero => intro _; exact ⟨[], rfl, fun i v h => by simp at h⟩
  | succ n ih =>
    intro h
    obtain ⟨l, hl, hp⟩ := ih (fun i hi => h i (by omega))
    obtain ⟨v, hv⟩ := h n (by omega)
    refine ⟨l ++ [v], by simp [hl], fun i u hu => ?_⟩
    rw [List.getElem?_append] at hu
    split at hu
    · exact hp i u hu
    · rename_i hn
      have : i = n := by
        rcases Nat.lt_or_ge (i - l.length) 1 with h1 | h1
        · omega
        · rw [List.getElem?_eq_none (by simpa using h1)] at hu; cases hu
      subst this
      simp [hl] at hu
      exact hu ▸ hv
theorem opens_slice {α : Type} {t e : TypeId} {d : Kd α} {Q : α → Prop} (ht : P.underlying t = some (.slice e)) (hs : P.cellsOf e = d.sz) (he : Opens enc P w spare held e d Q) :
    Opens enc P w spare held t (Kd.slice e d) (fun l => l.length ≤ maxLen ∧ ∀ x ∈ l, Q x) := by
  intro fuel cs x h
  rcases DataW.trod_slice ht h with ⟨rfl, rfl⟩ | ⟨a, len, cap, elems, rest, n, rfl, rfl, rfl, hb, hl, hc, hel, hget, _⟩
  · exact ⟨[], ⟨none, 0, rfl, Nat.le_refl _, Kd.C_nil d w⟩, by simp [maxLen], fun x hx => by simp at hx⟩
  · obtain ⟨l, hll, hlp⟩ := choose_list (fun i v => ∃ c, w.cells? 0 (a.add (i * d.sz)) d.sz = some c ∧ d.K w v c ∧ Q v) len (fun i hi => by
      have h1 := hget i hi
      have h2 : elems[i]? = some (elems[i]'(by omega)) := List.getElem?_eq_getElem (by omega)
      rw [h2, hs] at h1
      obtain ⟨c, hc1, hc2⟩ := Option.bind_eq_some_iff.1 h1
      obtain ⟨v, hv, hq⟩ := he _ _ _ hc2
      exact ⟨v, c, hc1, hv, hq⟩)
    refine ⟨l, ⟨some a, cap, by rw [hll], by omega, by rw [hll], by rw [hll]; unfold maxLen at hc; omega, fun hpos => ⟨a, rfl, fun j p hj => ?_⟩⟩, by rw [hll]; omega, fun y hy => ?_⟩
    · obtain ⟨c, hc1, hc2, _⟩ := hlp j p hj
      have hc3 := World.cells?_some hc1
      refine ⟨c, hc3.2.1, hc2, fun i u hu => ?_⟩
      have hi : i < d.sz := by
        have := (List.getElem?_eq_some_iff.1 hu).1
        rw [hc3.2.1] at this
        exact this
      rw [← add_add, hc3.2.2 i hi]
      exact hu
    · obtain ⟨i, hi⟩ := List.getElem?_of_mem hy
      obtain ⟨c, _, _, hq⟩ := hlp i y hi
      exact hq
def OpensFs {α : Type} (enc : TypeId × Value → H) (P : Program) (w : World) (spare : Nat → Bool) (held : Bool) (fs : List Field) (o : Nat) (d : Kd α) (Q : α → Prop) : Prop :=
  ∀ (fuel : Nat) (cs : List Value), cs.length = o + d.sz → (∀ f ∈ fs, ∃ x, DataW.trod enc P w 0 spare held fuel f.type ((cs.drop f.offset).take (P.cellsOf f.type)) = some x) → ∃ v : α, d.K w v (cs.drop o) ∧ Q v
theorem opensFs_one {α : Type} {f : Field} {o : Nat} {d : Kd α} {Q : α → Prop} (ho : f.offset = o) (hs : P.cellsOf f.type = d.sz) (he : Opens enc P w spare held f.type d Q) : OpensFs enc P w spare held [f] o d Q := by
  intro fuel cs hl h
  obtain ⟨x, hx⟩ := h f (List.mem_singleton.2 rfl)
  rw [ho, hs, List.take_of_length_le (by simp; omega)] at hx
  exact he _ _ _ hx
theorem opensFs_cons {α β : Type} {f : Field} {fs : List Field} {o : Nat} {d : Kd α} {d' : Kd β} {Q : α → Prop} {Q' : β → Prop} (ho : f.offset = o) (hs : P.cellsOf f.type = d.sz) (he : Opens enc P w spare held f.type d Q) (hr : OpensFs enc P w spare held fs (o + d.sz) d' Q') :
    OpensFs enc P w spare held (f :: fs) o (Kd.pair d d') (fun z => Q z.1 ∧ Q' z.2) := by
  intro fuel cs hl h
  have hl' : cs.length = o + (d.sz + d'.sz) := hl
  obtain ⟨x, hx⟩ := h f (List.mem_cons_self ..)
  rw [ho, hs] at hx
  obtain ⟨v, hv, hq⟩ := he _ _ _ hx
  obtain ⟨v', hv', hq'⟩ := hr fuel cs (by omega) (fun g hg => h g (List.mem_cons_of_mem _ hg))
  refine ⟨(v, v'), ⟨(cs.drop o).take d.sz, cs.drop (o + d.sz), ?_, hv, hv'⟩, hq, hq'⟩
  rw [← List.drop_drop, List.take_append_drop]
theorem opens_struct {α β : Type} {t : TypeId} {fs : Array Field} {d : Kd α} {Q : α → Prop} (ht : P.underlying t = some (.struct fs)) (hs : P.cellsOf t = d.sz) (he : OpensFs enc P w spare held fs.toList 0 d Q) (g : α → β) (f : β → α) (hfg : ∀ a, f (g a) = a) :
    Opens enc P w spare held t (Kd.iso d f) (fun b => Q (f b)) := by
  intro fuel cs x h
  obtain ⟨xs, n, rfl, rfl, hl, hn, hget⟩ := DataW.trod_struct ht h
  obtain ⟨v, hv, hq⟩ := he n cs (by omega) (fun fd hfd => by
    obtain ⟨i, hi⟩ := List.getElem?_of_mem hfd
    have h1 := hget i fd (by simpa using hi)
    have hlt : i < xs.length := by
      have := (List.getElem?_eq_some_iff.1 hi).1
      simp at this
      omega
    rw [List.getElem?_eq_getElem hlt] at h1
    exact ⟨_, h1⟩)
  exact ⟨g v, by show d.K w (f (g v)) cs; rw [hfg]; exact hv, by show Q (f (g v)); rw [hfg]; exact hq⟩
end
end Go.Proofs.YtfbaejhjppikpaaR
namespace Go.Proofs.Ytfbaejhjppikpaa.P
open Go.RowKit Go.Proofs.YtfbaejhjppikpaaW.PrintWords Go.Proofs.YtfbaejhjppikpaaR
def kN : Kd (Bool × (List S75 × List S76)) := Kd.pair Kd.bool (Kd.pair (Kd.slice 75 k75) (Kd.slice 76 k76))
section
variable {H : Type} {enc : TypeId × Value → H} {w : World}
theorem open75 : ∃ Q, Opens enc Try.prog w (fun _ => true) true 75 k75 Q :=
  ⟨_, opens_struct (g := fun z => (⟨z.1, z.2⟩ : S75)) Try.underlying75 (by kernel_rfl) (opensFs_cons rfl (by kernel_rfl) (opens_string Try.underlying9) (opensFs_one rfl (by kernel_rfl) (opens_string Try.underlying9))) _ (fun _ => rfl)⟩
theorem open76 : ∃ Q, Opens enc Try.prog w (fun _ => true) true 76 k76 Q :=
  ⟨_, opens_struct (g := fun z => (⟨z.1, z.2⟩ : S76)) Try.underlying76 (by kernel_rfl) (opensFs_cons rfl (by kernel_rfl) (opens_string Try.underlying9) (opensFs_one rfl (by kernel_rfl) (opens_int Try.underlying3))) _ (fun _ => rfl)⟩
theorem openN : ∃ Q, Opens enc Try.prog w (fun _ => true) true 25 (Kd.iso kN id) Q := by
  obtain ⟨Q1, h1⟩ := open75 (enc := enc) (w := w)
  obtain ⟨Q2, h2⟩ := open76 (enc := enc) (w := w)
  exact ⟨_, opens_struct (g := id) Try.underlying25 (by kernel_rfl) (opensFs_cons rfl (by kernel_rfl) (opens_bool Try.underlying4) (opensFs_cons rfl (by kernel_rfl) (opens_slice Try.underlying22 (by kernel_rfl) h1) (opensFs_one rfl (by kernel_rfl) (opens_slice Try.underlying23 (by kernel_rfl) h2)))) id (fun _ => rfl)⟩
theorem argN {v : Value} {d : DataW H} {p : List MemPlace} (hv : ∃ cs, v = .agg cs ∧ cs.size = Try.prog.cellsOf 25) (h : DataW.Trod enc Try.prog w 0 (fun _ => true) true 25 v d p) :
    ∃ (a : Bool) (A : Option Addr) (c : Nat) (l : List S75) (A' : Option Addr) (c' : Nat) (m : List S76), v = .agg #[.bool a, .slice A l.length c, .slice A' m.length c'] ∧ l.length ≤ c ∧ Kd.C k75 w A l.length l ∧ m.length ≤ c' ∧ Kd.C k76 w A' m.length m := by
  obtain ⟨cs, rfl, _⟩ := hv
  obtain ⟨fuel, hf⟩ := h
  obtain ⟨Q, ho⟩ := openN (enc := enc) (w := w)
  obtain ⟨⟨a, l, m⟩, hK, _⟩ := ho _ _ _ hf
  obtain ⟨_, _, e, rfl, _, _, rfl, ⟨A, c, rfl, hl, hC⟩, ⟨A', c', rfl, hm, hC'⟩⟩ := hK
  refine ⟨a, A, c, l, A', c', m, ?_, hl, hC, hm, hC'⟩
  have e2 : cs.toList = [.bool a, .slice A l.length c, .slice A' m.length c'] := e
  rw [show cs = #[.bool a, .slice A l.length c, .slice A' m.length c'] from by rw [← e2]]
end
end Go.Proofs.Ytfbaejhjppikpaa.P
namespace Go.Proofs.YtfbaejhjppikpaaW.PrintWords
open Go.ChangeShapes Go.WideShapes
end Go.Proofs.YtfbaejhjppikpaaW.PrintWords
