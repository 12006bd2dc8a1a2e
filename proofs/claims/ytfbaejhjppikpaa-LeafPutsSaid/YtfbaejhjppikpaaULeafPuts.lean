import Derived.Test.YtfbaejhjppikpaaUKeys
import Derived.IntWalk
import Derived.Outline
import Derived.WalkSpells
/- The walk of LeafPuts, by hand: the values are known ahead of it. -/
namespace Go.Proofs.Ytfbaejhjppikpaa.P
open Go.RowKit Go.Proofs.YtfbaejhjppikpaaW.PrintWords Go.Proofs.YtfbaejhjppikpaaW.PrintLast Go.Proofs.YtfbaejhjppikpaaW.PrintMore
attribute [local go_sem] Go.Proofs.YtfbaejhjppikpaaB.less_swap Go.Proofs.YtfbaejhjppikpaaB.less_or
set_option linter.unusedVariables false
set_option linter.unusedSimpArgs false

def PutsRel (A1 : Option Addr) (c1 : Nat) (A2 : Option Addr) (c2 : Nat) (vb : Value) (E : List S47) (M : List S36) (AP : Option Addr) (P : List S47) (AD : Option Addr) (D : List S47) (AB : Option Addr) (B : Nat) (w : World) (v : Value) (wr : World) : Prop :=
  ∃ i : Nat, v = .int .i64 i ∧ 1 ≤ i ∧ i ≤ P.length ∧ Aside0 (wr.heap[B]? = some (.cells #[vb, .slice A1 E.length c1, .slice A2 M.length c2] 31 (0, 0))) ∧ Aside0 (Kd.C k47 wr AP P.length P) ∧ Aside0 (Kd.C k47 wr AD D.length D) ∧ Aside0 (Kd.C k47 wr AB D.length D) ∧ Aside0 (Below w.heap.size w wr)

set_option maxHeartbeats 4000000 in
set_option maxRecDepth 100000 in
theorem puts_main_tt (A : Option Addr) (c : Nat) (l : List S75) (A' : Option Addr) (c' : Nat) (m : List S76) (key other val gv o1 o2 : ByteArray) (b1 b2 : Bool) (E P D : List S47) (M : List S36) (w : World) (hr : Kd.C k75 w A l.length l) (hc : l.length ≤ c) (hr' : Kd.C k76 w A' m.length m) (hc' : m.length ≤ c')
    (hk1 : ¬ ((key.size : Int) > 300)) (hk2 : ¬ ((other.size : Int) > 300)) (hk3 : ¬ ((val.size : Int) > 300))
    (HL : Aside0 (callboardlaw06_large.f 8000 true l m = some false)) (HA : Aside0 (callboardlaw06_awake.f 8000 = some true)) (HGv : Aside0 (callboardlaw06_given.f 8000 true l m = some (true, E, M))) (HM : Aside0 (leaf_May.f 8000 true E M = some true))
    (HP : Aside0 (leaf_Put.f E key val = some P)) (HD : Aside0 (leaf_Del.f P key = some (D, true))) (HE : Aside0 (leaf_Del.f E key = some (D, true))) (HF1 : Aside0 (leaf_Find.f P key = some (val, true))) (HF2 : Aside0 (leaf_Find.f D key = some (gv, false))) (HF3 : Aside0 (leaf_Find.f P other = some (o1, b1))) (HF4 : Aside0 (leaf_Find.f E other = some (o2, b2)))
    (ho : (other.toList == key.toList) = true) (HLen : Aside0 (P.length = E.length)) (hPm : P.length ≤ 1000) (hP1 : 1 ≤ P.length) (HR : Aside0 (Rise P)) (HS : Aside0 (leaf_Same.f 8000 false D [] false D [] = some true)) :
    Calls Try.prog 9 #[.agg #[.bool true, .slice A l.length c, .slice A' m.length c'], .string key, .string other, .string val] w fun e w' => e = .returned (.bool true) ∧ Below w.heap.size w w' := by
  have hu25 := Try.underlying25
  have hu31 := Try.underlying31
  have hu47 := Try.underlying47
  have hd1 : decide ((300 : Int) < (key.size : Int)) = false := decide_eq_false (by omega)
  have hd2 : decide ((300 : Int) < (other.size : Int)) = false := decide_eq_false (by omega)
  have hd3 : decide ((300 : Int) < (val.size : Int)) = false := decide_eq_false (by omega)
  have HR0 := Aside0.mk hr
  have HR1 := Aside0.mk hr'
  have HB := Aside0.mk ((Below.refl w.heap.size w).alloc (Nat.le_refl _) (.cells #[.bool true, .slice A l.length c, .slice A' m.length c'] 25))
  have HG := Aside0.mk (blk_new w (.cells #[.bool true, .slice A l.length c, .slice A' m.length c'] 25))
  clear hr hr'
  have tok1 : True := trivial
  have tok2 : True := trivial
  have tok3 : True := trivial
  have tok4 : True := trivial
  have tok5 : True := trivial
  have tok6 : True := trivial
  go_enter Try.func9, Try.ntmps9
  go_wp2_with (first | (go_at_call 10; go_must (refine (callboardlaw06_large.calls 8000 _ _ _ _ _ _ _ _ _ (Kd.C_below HR0.out HB.out) hc (Kd.C_below HR1.out HB.out) hc' HL.out).mono ?_; rintro e w2 ⟨rfl, hb⟩; have HG2 := Aside0.mk (blk_below HG.out hb); have HB2 := Aside0.mk (below_step HB.out hb); clear hb; obtain ⟨hz0, hz1, hz2⟩ := box3 HG2.out)) | (go_at_call 11; go_must (refine (callboardlaw06_awake.calls 8000 _ _ HA.out).mono ?_; rintro e w3 ⟨rfl, hb⟩; have HG3 := Aside0.mk (blk_below HG2.out hb); have HB3 := Aside0.mk (below_step HB2.out hb); clear hb hz0 hz1 hz2; obtain ⟨hz0, hz1, hz2⟩ := box3 HG3.out)) | (go_at_call 12; go_must (refine (callboardlaw06_given.calls 8000 _ _ _ _ _ _ _ _ _ _ _ (Kd.C_below HR0.out HB3.out) hc (Kd.C_below HR1.out HB3.out) hc' HGv.out).mono ?_; rintro e w4 ⟨v1, v2, rfl, hq1, hq2, hb⟩; have HB4 := Aside0.mk (below_step HB3.out hb); obtain ⟨A1, c1, rfl, hc1, hq1⟩ := Kd.R_reads hq1; obtain ⟨A2, c2, rfl, hc2, hq2⟩ := Kd.R_reads hq2; have HE4 := Aside0.mk hq1; have HM4 := Aside0.mk hq2; clear hb hz0 hz1 hz2 hq1 hq2)) | (go_at_call 13; go_must (refine (leaf_May.calls 8000 _ _ _ _ _ _ _ _ _ (Kd.C_alloc HE4.out _) hc1 (Kd.C_alloc HM4.out _) hc2 HM.out).mono ?_; rintro e w5 ⟨rfl, hb⟩; have HE5 := Aside0.mk (Kd.C_below (Kd.C_alloc HE4.out _) hb); have HX5 := Aside0.mk (blk_below (blk_new w4 _) hb); have HB5 := Aside0.mk (below_step (below_alloc HB4.out _) hb); clear hb; obtain ⟨hy0, hy1, hy2⟩ := box3 HX5.out)) | (go_at_call 31; go_must (refine (leaf_Put.calls _ _ _ _ _ _ _ HE5.out hc1 HP.out).mono ?_; rintro e w6 ⟨vp, rfl, hq, hb⟩; obtain ⟨AP, cp, rfl, hcp, hq⟩ := Kd.R_reads hq; have HP6 := Aside0.mk hq; clear hq; have HE6 := Aside0.mk (Kd.C_below HE5.out hb); have HX6 := Aside0.mk (blk_below HX5.out hb); have HB6 := Aside0.mk (below_step HB5.out hb); clear hb hy0 hy1 hy2; obtain ⟨hy0, hy1, hy2⟩ := box3 HX6.out)) | (go_at_call 32; have _t := tok1; go_must (refine (leaf_Del.calls _ _ _ _ _ _ _ HP6.out hcp HD.out).mono ?_; rintro e w7 ⟨vd, rfl, hq, hb⟩; obtain ⟨AD, cd, rfl, hcd, hq⟩ := Kd.R_reads hq; have HD7 := Aside0.mk hq; clear hq _t tok1; have HE7 := Aside0.mk (Kd.C_below HE6.out hb); have HP7 := Aside0.mk (Kd.C_below HP6.out hb); have HX7 := Aside0.mk (blk_below HX6.out hb); have HB7 := Aside0.mk (below_step HB6.out hb); clear hb hy0 hy1 hy2; obtain ⟨hy0, hy1, hy2⟩ := box3 HX7.out)) | (go_at_call 32; have _t := tok2; go_must (refine (leaf_Del.calls _ _ _ _ _ _ _ HE7.out hc1 HE.out).mono ?_; rintro e w8 ⟨vb, rfl, hq, hb⟩; obtain ⟨AB, cb, rfl, hcb, hq⟩ := Kd.R_reads hq; have HQ8 := Aside0.mk hq; clear hq _t tok2; have HE8 := Aside0.mk (Kd.C_below HE7.out hb); have HP8 := Aside0.mk (Kd.C_below HP7.out hb); have HD8 := Aside0.mk (Kd.C_below HD7.out hb); have HX8 := Aside0.mk (blk_below HX7.out hb); have HB8 := Aside0.mk (below_step HB7.out hb); clear hb hy0 hy1 hy2; obtain ⟨hy0, hy1, hy2⟩ := box3 HX8.out)) | (go_at_call 29; have _t := tok3; go_must (refine (leaf_Find.calls _ _ _ _ _ _ _ HP8.out hcp HF1.out).mono ?_; rintro e w9 ⟨rfl, hb⟩; clear _t tok3; have HE9 := Aside0.mk (Kd.C_below HE8.out hb); have HP9 := Aside0.mk (Kd.C_below HP8.out hb); have HD9 := Aside0.mk (Kd.C_below HD8.out hb); have HQ9 := Aside0.mk (Kd.C_below HQ8.out hb); have HX9 := Aside0.mk (blk_below HX8.out hb); have HB9 := Aside0.mk (below_step HB8.out hb); clear hb hy0 hy1 hy2; obtain ⟨hy0, hy1, hy2⟩ := box3 HX9.out)) | (go_at_call 29; have _t := tok4; go_must (refine (leaf_Find.calls _ _ _ _ _ _ _ HD9.out hcd HF2.out).mono ?_; rintro e w10 ⟨rfl, hb⟩; clear _t tok4; have HE10 := Aside0.mk (Kd.C_below HE9.out hb); have HP10 := Aside0.mk (Kd.C_below HP9.out hb); have HD10 := Aside0.mk (Kd.C_below HD9.out hb); have HQ10 := Aside0.mk (Kd.C_below HQ9.out hb); have HX10 := Aside0.mk (blk_below HX9.out hb); have HB10 := Aside0.mk (below_step HB9.out hb); clear hb hy0 hy1 hy2; obtain ⟨hy0, hy1, hy2⟩ := box3 HX10.out)) | (go_at_call 29; have _t := tok5; go_must (refine (leaf_Find.calls _ _ _ _ _ _ _ HP10.out hcp HF3.out).mono ?_; rintro e w11 ⟨rfl, hb⟩; clear _t tok5; have HE11 := Aside0.mk (Kd.C_below HE10.out hb); have HP11 := Aside0.mk (Kd.C_below HP10.out hb); have HD11 := Aside0.mk (Kd.C_below HD10.out hb); have HQ11 := Aside0.mk (Kd.C_below HQ10.out hb); have HX11 := Aside0.mk (blk_below HX10.out hb); have HB11 := Aside0.mk (below_step HB10.out hb); clear hb hy0 hy1 hy2; obtain ⟨hy0, hy1, hy2⟩ := box3 HX11.out)) | (go_at_call 29; have _t := tok6; go_must (refine (leaf_Find.calls _ _ _ _ _ _ _ HE11.out hc1 HF4.out).mono ?_; rintro e w12 ⟨rfl, hb⟩; clear _t tok6; have HE12 := Aside0.mk (Kd.C_below HE11.out hb); have HP12 := Aside0.mk (Kd.C_below HP11.out hb); have HD12 := Aside0.mk (Kd.C_below HD11.out hb); have HQ12 := Aside0.mk (Kd.C_below HQ11.out hb); have HX12 := Aside0.mk (blk_below HX11.out hb); have HB12 := Aside0.mk (below_step HB11.out hb); clear hb hy0 hy1 hy2; obtain ⟨hy0, hy1, hy2⟩ := box3 HX12.out)))
  go_loopw [23] (fun v23 wr => PutsRel A1 c1 A2 c2 (.bool true) E M AP P AD D AB w4.heap.size w v23 wr) (fun v23 _ => P.length - (intOf v23).toNat)
  case atStart =>
    unfold PutsRel
    exact ⟨1, rfl, Nat.le_refl _, hP1, HX12, HP12, HD12, HQ12, HB12⟩
  case round =>
    obtain ⟨i, rfl, hi1, hile, HXr, HPr, HDr, HQr, HBr⟩ := hrel
    clear hy0 hy1 hy2
    obtain ⟨hy0, hy1, hy2⟩ := box3 HXr.out
    by_cases hlt : i < P.length
    · have g1 : 0 ≤ (((i - 1 : Nat)) : Int) := by omega
      have g2 : (((i - 1 : Nat)) : Int) < (P.length : Int) := by omega
      have g3 : 0 ≤ ((i : Nat) : Int) := by omega
      have g4 : ((i : Nat) : Int) < (P.length : Int) := by omega
      obtain ⟨ad, e, hx0, hx1⟩ := at_T47 HPr.out _ g1 g2
      cases e
      obtain ⟨ad2, e, hu0, hu1⟩ := at_T47 HPr.out _ g3 g4
      cases e
      simp only [Int.toNat_natCast] at hx0 hx1 hu0 hu1
      have hless : Op.bytesLess (rd_T47 P ((i - 1 : Nat) : Int)).f0.toList (rd_T47 P ((i : Nat) : Int)).f0.toList = true := by
        rw [rdE7 P i hlt, rdE7 P (i - 1) (by omega)]
        exact (List.pairwise_iff_getElem.1 HR.out) (i - 1) i (by omega) hlt (by omega)
      have hwp : IntKind.i64.wrap ((i : Int) - 1) = ((i - 1 : Nat) : Int) := by rw [IntKind.wrap_i64]; omega
      go_wp2
      go_region
      go_wp2
      go_roundw
      case rel =>
        unfold PutsRel
        exact ⟨i + 1, by go_num, by omega, by omega, ⟨HXr.out⟩, ⟨HPr.out⟩, ⟨HDr.out⟩, ⟨HQr.out⟩, ⟨HBr.out.drew⟩⟩
      case measure => simp [intOf]; omega
    · have hlen := HLen.out
      have hw0 : IntKind.i64.wrap ((E.length : Int)) = (E.length : Int) := by rw [IntKind.wrap_i64]; omega
      go_wp2_with (go_at_call 17; go_must (refine (leaf_Same.calls 8000 false _ _ D none 0 ([] : List S36) false _ _ D none 0 ([] : List S36) true _ HDr.out hcd (Kd.C_nil _ _) (Nat.le_refl _) HQr.out hcb (Kd.C_nil _ _) (Nat.le_refl _) HS.out).mono ?_; rintro e w20 ⟨rfl, hb⟩; have HB20 := Aside0.mk (below_step HBr.out hb); clear hb))
      go_ret
      exact ⟨rfl, HB20.out⟩

set_option maxHeartbeats 4000000 in
set_option maxRecDepth 100000 in
theorem puts_main_tf (A : Option Addr) (c : Nat) (l : List S75) (A' : Option Addr) (c' : Nat) (m : List S76) (key other val gv o1 o2 : ByteArray) (b1 b2 : Bool) (E P D : List S47) (M : List S36) (w : World) (hr : Kd.C k75 w A l.length l) (hc : l.length ≤ c) (hr' : Kd.C k76 w A' m.length m) (hc' : m.length ≤ c')
    (hk1 : ¬ ((key.size : Int) > 300)) (hk2 : ¬ ((other.size : Int) > 300)) (hk3 : ¬ ((val.size : Int) > 300))
    (HL : Aside0 (callboardlaw06_large.f 8000 true l m = some false)) (HA : Aside0 (callboardlaw06_awake.f 8000 = some true)) (HGv : Aside0 (callboardlaw06_given.f 8000 true l m = some (true, E, M))) (HM : Aside0 (leaf_May.f 8000 true E M = some true))
    (HP : Aside0 (leaf_Put.f E key val = some P)) (HD : Aside0 (leaf_Del.f P key = some (D, true))) (HE : Aside0 (leaf_Del.f E key = some (D, true))) (HF1 : Aside0 (leaf_Find.f P key = some (val, true))) (HF2 : Aside0 (leaf_Find.f D key = some (gv, false))) (HF3 : Aside0 (leaf_Find.f P other = some (o1, b1))) (HF4 : Aside0 (leaf_Find.f E other = some (o1, b1)))
    (ho : (other.toList == key.toList) = false) (HLen : Aside0 (P.length = E.length)) (hPm : P.length ≤ 1000) (hP1 : 1 ≤ P.length) (HR : Aside0 (Rise P)) (HS : Aside0 (leaf_Same.f 8000 false D [] false D [] = some true)) :
    Calls Try.prog 9 #[.agg #[.bool true, .slice A l.length c, .slice A' m.length c'], .string key, .string other, .string val] w fun e w' => e = .returned (.bool true) ∧ Below w.heap.size w w' := by
  have hu25 := Try.underlying25
  have hu31 := Try.underlying31
  have hu47 := Try.underlying47
  have hd1 : decide ((300 : Int) < (key.size : Int)) = false := decide_eq_false (by omega)
  have hd2 : decide ((300 : Int) < (other.size : Int)) = false := decide_eq_false (by omega)
  have hd3 : decide ((300 : Int) < (val.size : Int)) = false := decide_eq_false (by omega)
  have HR0 := Aside0.mk hr
  have HR1 := Aside0.mk hr'
  have HB := Aside0.mk ((Below.refl w.heap.size w).alloc (Nat.le_refl _) (.cells #[.bool true, .slice A l.length c, .slice A' m.length c'] 25))
  have HG := Aside0.mk (blk_new w (.cells #[.bool true, .slice A l.length c, .slice A' m.length c'] 25))
  clear hr hr'
  have tok1 : True := trivial
  have tok2 : True := trivial
  have tok3 : True := trivial
  have tok4 : True := trivial
  have tok5 : True := trivial
  have tok6 : True := trivial
  go_enter Try.func9, Try.ntmps9
  go_wp2_with (first | (go_at_call 10; go_must (refine (callboardlaw06_large.calls 8000 _ _ _ _ _ _ _ _ _ (Kd.C_below HR0.out HB.out) hc (Kd.C_below HR1.out HB.out) hc' HL.out).mono ?_; rintro e w2 ⟨rfl, hb⟩; have HG2 := Aside0.mk (blk_below HG.out hb); have HB2 := Aside0.mk (below_step HB.out hb); clear hb; obtain ⟨hz0, hz1, hz2⟩ := box3 HG2.out)) | (go_at_call 11; go_must (refine (callboardlaw06_awake.calls 8000 _ _ HA.out).mono ?_; rintro e w3 ⟨rfl, hb⟩; have HG3 := Aside0.mk (blk_below HG2.out hb); have HB3 := Aside0.mk (below_step HB2.out hb); clear hb hz0 hz1 hz2; obtain ⟨hz0, hz1, hz2⟩ := box3 HG3.out)) | (go_at_call 12; go_must (refine (callboardlaw06_given.calls 8000 _ _ _ _ _ _ _ _ _ _ _ (Kd.C_below HR0.out HB3.out) hc (Kd.C_below HR1.out HB3.out) hc' HGv.out).mono ?_; rintro e w4 ⟨v1, v2, rfl, hq1, hq2, hb⟩; have HB4 := Aside0.mk (below_step HB3.out hb); obtain ⟨A1, c1, rfl, hc1, hq1⟩ := Kd.R_reads hq1; obtain ⟨A2, c2, rfl, hc2, hq2⟩ := Kd.R_reads hq2; have HE4 := Aside0.mk hq1; have HM4 := Aside0.mk hq2; clear hb hz0 hz1 hz2 hq1 hq2)) | (go_at_call 13; go_must (refine (leaf_May.calls 8000 _ _ _ _ _ _ _ _ _ (Kd.C_alloc HE4.out _) hc1 (Kd.C_alloc HM4.out _) hc2 HM.out).mono ?_; rintro e w5 ⟨rfl, hb⟩; have HE5 := Aside0.mk (Kd.C_below (Kd.C_alloc HE4.out _) hb); have HX5 := Aside0.mk (blk_below (blk_new w4 _) hb); have HB5 := Aside0.mk (below_step (below_alloc HB4.out _) hb); clear hb; obtain ⟨hy0, hy1, hy2⟩ := box3 HX5.out)) | (go_at_call 31; go_must (refine (leaf_Put.calls _ _ _ _ _ _ _ HE5.out hc1 HP.out).mono ?_; rintro e w6 ⟨vp, rfl, hq, hb⟩; obtain ⟨AP, cp, rfl, hcp, hq⟩ := Kd.R_reads hq; have HP6 := Aside0.mk hq; clear hq; have HE6 := Aside0.mk (Kd.C_below HE5.out hb); have HX6 := Aside0.mk (blk_below HX5.out hb); have HB6 := Aside0.mk (below_step HB5.out hb); clear hb hy0 hy1 hy2; obtain ⟨hy0, hy1, hy2⟩ := box3 HX6.out)) | (go_at_call 32; have _t := tok1; go_must (refine (leaf_Del.calls _ _ _ _ _ _ _ HP6.out hcp HD.out).mono ?_; rintro e w7 ⟨vd, rfl, hq, hb⟩; obtain ⟨AD, cd, rfl, hcd, hq⟩ := Kd.R_reads hq; have HD7 := Aside0.mk hq; clear hq _t tok1; have HE7 := Aside0.mk (Kd.C_below HE6.out hb); have HP7 := Aside0.mk (Kd.C_below HP6.out hb); have HX7 := Aside0.mk (blk_below HX6.out hb); have HB7 := Aside0.mk (below_step HB6.out hb); clear hb hy0 hy1 hy2; obtain ⟨hy0, hy1, hy2⟩ := box3 HX7.out)) | (go_at_call 32; have _t := tok2; go_must (refine (leaf_Del.calls _ _ _ _ _ _ _ HE7.out hc1 HE.out).mono ?_; rintro e w8 ⟨vb, rfl, hq, hb⟩; obtain ⟨AB, cb, rfl, hcb, hq⟩ := Kd.R_reads hq; have HQ8 := Aside0.mk hq; clear hq _t tok2; have HE8 := Aside0.mk (Kd.C_below HE7.out hb); have HP8 := Aside0.mk (Kd.C_below HP7.out hb); have HD8 := Aside0.mk (Kd.C_below HD7.out hb); have HX8 := Aside0.mk (blk_below HX7.out hb); have HB8 := Aside0.mk (below_step HB7.out hb); clear hb hy0 hy1 hy2; obtain ⟨hy0, hy1, hy2⟩ := box3 HX8.out)) | (go_at_call 29; have _t := tok3; go_must (refine (leaf_Find.calls _ _ _ _ _ _ _ HP8.out hcp HF1.out).mono ?_; rintro e w9 ⟨rfl, hb⟩; clear _t tok3; have HE9 := Aside0.mk (Kd.C_below HE8.out hb); have HP9 := Aside0.mk (Kd.C_below HP8.out hb); have HD9 := Aside0.mk (Kd.C_below HD8.out hb); have HQ9 := Aside0.mk (Kd.C_below HQ8.out hb); have HX9 := Aside0.mk (blk_below HX8.out hb); have HB9 := Aside0.mk (below_step HB8.out hb); clear hb hy0 hy1 hy2; obtain ⟨hy0, hy1, hy2⟩ := box3 HX9.out)) | (go_at_call 29; have _t := tok4; go_must (refine (leaf_Find.calls _ _ _ _ _ _ _ HD9.out hcd HF2.out).mono ?_; rintro e w10 ⟨rfl, hb⟩; clear _t tok4; have HE10 := Aside0.mk (Kd.C_below HE9.out hb); have HP10 := Aside0.mk (Kd.C_below HP9.out hb); have HD10 := Aside0.mk (Kd.C_below HD9.out hb); have HQ10 := Aside0.mk (Kd.C_below HQ9.out hb); have HX10 := Aside0.mk (blk_below HX9.out hb); have HB10 := Aside0.mk (below_step HB9.out hb); clear hb hy0 hy1 hy2; obtain ⟨hy0, hy1, hy2⟩ := box3 HX10.out)) | (go_at_call 29; have _t := tok5; go_must (refine (leaf_Find.calls _ _ _ _ _ _ _ HP10.out hcp HF3.out).mono ?_; rintro e w11 ⟨rfl, hb⟩; clear _t tok5; have HE11 := Aside0.mk (Kd.C_below HE10.out hb); have HP11 := Aside0.mk (Kd.C_below HP10.out hb); have HD11 := Aside0.mk (Kd.C_below HD10.out hb); have HQ11 := Aside0.mk (Kd.C_below HQ10.out hb); have HX11 := Aside0.mk (blk_below HX10.out hb); have HB11 := Aside0.mk (below_step HB10.out hb); clear hb hy0 hy1 hy2; obtain ⟨hy0, hy1, hy2⟩ := box3 HX11.out)) | (go_at_call 29; have _t := tok6; go_must (refine (leaf_Find.calls _ _ _ _ _ _ _ HE11.out hc1 HF4.out).mono ?_; rintro e w12 ⟨rfl, hb⟩; clear _t tok6; have HE12 := Aside0.mk (Kd.C_below HE11.out hb); have HP12 := Aside0.mk (Kd.C_below HP11.out hb); have HD12 := Aside0.mk (Kd.C_below HD11.out hb); have HQ12 := Aside0.mk (Kd.C_below HQ11.out hb); have HX12 := Aside0.mk (blk_below HX11.out hb); have HB12 := Aside0.mk (below_step HB11.out hb); clear hb hy0 hy1 hy2; obtain ⟨hy0, hy1, hy2⟩ := box3 HX12.out)))
  go_loopw [23] (fun v23 wr => PutsRel A1 c1 A2 c2 (.bool true) E M AP P AD D AB w4.heap.size w v23 wr) (fun v23 _ => P.length - (intOf v23).toNat)
  case atStart =>
    unfold PutsRel
    exact ⟨1, rfl, Nat.le_refl _, hP1, HX12, HP12, HD12, HQ12, HB12⟩
  case round =>
    obtain ⟨i, rfl, hi1, hile, HXr, HPr, HDr, HQr, HBr⟩ := hrel
    clear hy0 hy1 hy2
    obtain ⟨hy0, hy1, hy2⟩ := box3 HXr.out
    by_cases hlt : i < P.length
    · have g1 : 0 ≤ (((i - 1 : Nat)) : Int) := by omega
      have g2 : (((i - 1 : Nat)) : Int) < (P.length : Int) := by omega
      have g3 : 0 ≤ ((i : Nat) : Int) := by omega
      have g4 : ((i : Nat) : Int) < (P.length : Int) := by omega
      obtain ⟨ad, e, hx0, hx1⟩ := at_T47 HPr.out _ g1 g2
      cases e
      obtain ⟨ad2, e, hu0, hu1⟩ := at_T47 HPr.out _ g3 g4
      cases e
      simp only [Int.toNat_natCast] at hx0 hx1 hu0 hu1
      have hless : Op.bytesLess (rd_T47 P ((i - 1 : Nat) : Int)).f0.toList (rd_T47 P ((i : Nat) : Int)).f0.toList = true := by
        rw [rdE7 P i hlt, rdE7 P (i - 1) (by omega)]
        exact (List.pairwise_iff_getElem.1 HR.out) (i - 1) i (by omega) hlt (by omega)
      have hwp : IntKind.i64.wrap ((i : Int) - 1) = ((i - 1 : Nat) : Int) := by rw [IntKind.wrap_i64]; omega
      go_wp2
      go_region
      go_wp2
      go_roundw
      case rel =>
        unfold PutsRel
        exact ⟨i + 1, by go_num, by omega, by omega, ⟨HXr.out⟩, ⟨HPr.out⟩, ⟨HDr.out⟩, ⟨HQr.out⟩, ⟨HBr.out.drew⟩⟩
      case measure => simp [intOf]; omega
    · have hlen := HLen.out
      have hw0 : IntKind.i64.wrap ((E.length : Int)) = (E.length : Int) := by rw [IntKind.wrap_i64]; omega
      go_wp2_with (go_at_call 17; go_must (refine (leaf_Same.calls 8000 false _ _ D none 0 ([] : List S36) false _ _ D none 0 ([] : List S36) true _ HDr.out hcd (Kd.C_nil _ _) (Nat.le_refl _) HQr.out hcb (Kd.C_nil _ _) (Nat.le_refl _) HS.out).mono ?_; rintro e w20 ⟨rfl, hb⟩; have HB20 := Aside0.mk (below_step HBr.out hb); clear hb))
      go_ret
      exact ⟨rfl, HB20.out⟩

set_option maxHeartbeats 4000000 in
set_option maxRecDepth 100000 in
theorem puts_main_ft (A : Option Addr) (c : Nat) (l : List S75) (A' : Option Addr) (c' : Nat) (m : List S76) (key other val gv o1 o2 : ByteArray) (b1 b2 : Bool) (E P D : List S47) (M : List S36) (w : World) (hr : Kd.C k75 w A l.length l) (hc : l.length ≤ c) (hr' : Kd.C k76 w A' m.length m) (hc' : m.length ≤ c')
    (hk1 : ¬ ((key.size : Int) > 300)) (hk2 : ¬ ((other.size : Int) > 300)) (hk3 : ¬ ((val.size : Int) > 300))
    (HL : Aside0 (callboardlaw06_large.f 8000 true l m = some false)) (HA : Aside0 (callboardlaw06_awake.f 8000 = some true)) (HGv : Aside0 (callboardlaw06_given.f 8000 true l m = some (true, E, M))) (HM : Aside0 (leaf_May.f 8000 true E M = some true))
    (HP : Aside0 (leaf_Put.f E key val = some P)) (HD : Aside0 (leaf_Del.f P key = some (D, true))) (HE : Aside0 (leaf_Del.f E key = some (D, false))) (HF1 : Aside0 (leaf_Find.f P key = some (val, true))) (HF2 : Aside0 (leaf_Find.f D key = some (gv, false))) (HF3 : Aside0 (leaf_Find.f P other = some (o1, b1))) (HF4 : Aside0 (leaf_Find.f E other = some (o2, b2)))
    (ho : (other.toList == key.toList) = true) (HLen : Aside0 (P.length = E.length + 1)) (hPm : P.length ≤ 1000) (hP1 : 1 ≤ P.length) (HR : Aside0 (Rise P)) (HS : Aside0 (leaf_Same.f 8000 false D [] false D [] = some true)) :
    Calls Try.prog 9 #[.agg #[.bool true, .slice A l.length c, .slice A' m.length c'], .string key, .string other, .string val] w fun e w' => e = .returned (.bool true) ∧ Below w.heap.size w w' := by
  have hu25 := Try.underlying25
  have hu31 := Try.underlying31
  have hu47 := Try.underlying47
  have hd1 : decide ((300 : Int) < (key.size : Int)) = false := decide_eq_false (by omega)
  have hd2 : decide ((300 : Int) < (other.size : Int)) = false := decide_eq_false (by omega)
  have hd3 : decide ((300 : Int) < (val.size : Int)) = false := decide_eq_false (by omega)
  have HR0 := Aside0.mk hr
  have HR1 := Aside0.mk hr'
  have HB := Aside0.mk ((Below.refl w.heap.size w).alloc (Nat.le_refl _) (.cells #[.bool true, .slice A l.length c, .slice A' m.length c'] 25))
  have HG := Aside0.mk (blk_new w (.cells #[.bool true, .slice A l.length c, .slice A' m.length c'] 25))
  clear hr hr'
  have tok1 : True := trivial
  have tok2 : True := trivial
  have tok3 : True := trivial
  have tok4 : True := trivial
  have tok5 : True := trivial
  have tok6 : True := trivial
  go_enter Try.func9, Try.ntmps9
  go_wp2_with (first | (go_at_call 10; go_must (refine (callboardlaw06_large.calls 8000 _ _ _ _ _ _ _ _ _ (Kd.C_below HR0.out HB.out) hc (Kd.C_below HR1.out HB.out) hc' HL.out).mono ?_; rintro e w2 ⟨rfl, hb⟩; have HG2 := Aside0.mk (blk_below HG.out hb); have HB2 := Aside0.mk (below_step HB.out hb); clear hb; obtain ⟨hz0, hz1, hz2⟩ := box3 HG2.out)) | (go_at_call 11; go_must (refine (callboardlaw06_awake.calls 8000 _ _ HA.out).mono ?_; rintro e w3 ⟨rfl, hb⟩; have HG3 := Aside0.mk (blk_below HG2.out hb); have HB3 := Aside0.mk (below_step HB2.out hb); clear hb hz0 hz1 hz2; obtain ⟨hz0, hz1, hz2⟩ := box3 HG3.out)) | (go_at_call 12; go_must (refine (callboardlaw06_given.calls 8000 _ _ _ _ _ _ _ _ _ _ _ (Kd.C_below HR0.out HB3.out) hc (Kd.C_below HR1.out HB3.out) hc' HGv.out).mono ?_; rintro e w4 ⟨v1, v2, rfl, hq1, hq2, hb⟩; have HB4 := Aside0.mk (below_step HB3.out hb); obtain ⟨A1, c1, rfl, hc1, hq1⟩ := Kd.R_reads hq1; obtain ⟨A2, c2, rfl, hc2, hq2⟩ := Kd.R_reads hq2; have HE4 := Aside0.mk hq1; have HM4 := Aside0.mk hq2; clear hb hz0 hz1 hz2 hq1 hq2)) | (go_at_call 13; go_must (refine (leaf_May.calls 8000 _ _ _ _ _ _ _ _ _ (Kd.C_alloc HE4.out _) hc1 (Kd.C_alloc HM4.out _) hc2 HM.out).mono ?_; rintro e w5 ⟨rfl, hb⟩; have HE5 := Aside0.mk (Kd.C_below (Kd.C_alloc HE4.out _) hb); have HX5 := Aside0.mk (blk_below (blk_new w4 _) hb); have HB5 := Aside0.mk (below_step (below_alloc HB4.out _) hb); clear hb; obtain ⟨hy0, hy1, hy2⟩ := box3 HX5.out)) | (go_at_call 31; go_must (refine (leaf_Put.calls _ _ _ _ _ _ _ HE5.out hc1 HP.out).mono ?_; rintro e w6 ⟨vp, rfl, hq, hb⟩; obtain ⟨AP, cp, rfl, hcp, hq⟩ := Kd.R_reads hq; have HP6 := Aside0.mk hq; clear hq; have HE6 := Aside0.mk (Kd.C_below HE5.out hb); have HX6 := Aside0.mk (blk_below HX5.out hb); have HB6 := Aside0.mk (below_step HB5.out hb); clear hb hy0 hy1 hy2; obtain ⟨hy0, hy1, hy2⟩ := box3 HX6.out)) | (go_at_call 32; have _t := tok1; go_must (refine (leaf_Del.calls _ _ _ _ _ _ _ HP6.out hcp HD.out).mono ?_; rintro e w7 ⟨vd, rfl, hq, hb⟩; obtain ⟨AD, cd, rfl, hcd, hq⟩ := Kd.R_reads hq; have HD7 := Aside0.mk hq; clear hq _t tok1; have HE7 := Aside0.mk (Kd.C_below HE6.out hb); have HP7 := Aside0.mk (Kd.C_below HP6.out hb); have HX7 := Aside0.mk (blk_below HX6.out hb); have HB7 := Aside0.mk (below_step HB6.out hb); clear hb hy0 hy1 hy2; obtain ⟨hy0, hy1, hy2⟩ := box3 HX7.out)) | (go_at_call 32; have _t := tok2; go_must (refine (leaf_Del.calls _ _ _ _ _ _ _ HE7.out hc1 HE.out).mono ?_; rintro e w8 ⟨vb, rfl, hq, hb⟩; obtain ⟨AB, cb, rfl, hcb, hq⟩ := Kd.R_reads hq; have HQ8 := Aside0.mk hq; clear hq _t tok2; have HE8 := Aside0.mk (Kd.C_below HE7.out hb); have HP8 := Aside0.mk (Kd.C_below HP7.out hb); have HD8 := Aside0.mk (Kd.C_below HD7.out hb); have HX8 := Aside0.mk (blk_below HX7.out hb); have HB8 := Aside0.mk (below_step HB7.out hb); clear hb hy0 hy1 hy2; obtain ⟨hy0, hy1, hy2⟩ := box3 HX8.out)) | (go_at_call 29; have _t := tok3; go_must (refine (leaf_Find.calls _ _ _ _ _ _ _ HP8.out hcp HF1.out).mono ?_; rintro e w9 ⟨rfl, hb⟩; clear _t tok3; have HE9 := Aside0.mk (Kd.C_below HE8.out hb); have HP9 := Aside0.mk (Kd.C_below HP8.out hb); have HD9 := Aside0.mk (Kd.C_below HD8.out hb); have HQ9 := Aside0.mk (Kd.C_below HQ8.out hb); have HX9 := Aside0.mk (blk_below HX8.out hb); have HB9 := Aside0.mk (below_step HB8.out hb); clear hb hy0 hy1 hy2; obtain ⟨hy0, hy1, hy2⟩ := box3 HX9.out)) | (go_at_call 29; have _t := tok4; go_must (refine (leaf_Find.calls _ _ _ _ _ _ _ HD9.out hcd HF2.out).mono ?_; rintro e w10 ⟨rfl, hb⟩; clear _t tok4; have HE10 := Aside0.mk (Kd.C_below HE9.out hb); have HP10 := Aside0.mk (Kd.C_below HP9.out hb); have HD10 := Aside0.mk (Kd.C_below HD9.out hb); have HQ10 := Aside0.mk (Kd.C_below HQ9.out hb); have HX10 := Aside0.mk (blk_below HX9.out hb); have HB10 := Aside0.mk (below_step HB9.out hb); clear hb hy0 hy1 hy2; obtain ⟨hy0, hy1, hy2⟩ := box3 HX10.out)) | (go_at_call 29; have _t := tok5; go_must (refine (leaf_Find.calls _ _ _ _ _ _ _ HP10.out hcp HF3.out).mono ?_; rintro e w11 ⟨rfl, hb⟩; clear _t tok5; have HE11 := Aside0.mk (Kd.C_below HE10.out hb); have HP11 := Aside0.mk (Kd.C_below HP10.out hb); have HD11 := Aside0.mk (Kd.C_below HD10.out hb); have HQ11 := Aside0.mk (Kd.C_below HQ10.out hb); have HX11 := Aside0.mk (blk_below HX10.out hb); have HB11 := Aside0.mk (below_step HB10.out hb); clear hb hy0 hy1 hy2; obtain ⟨hy0, hy1, hy2⟩ := box3 HX11.out)) | (go_at_call 29; have _t := tok6; go_must (refine (leaf_Find.calls _ _ _ _ _ _ _ HE11.out hc1 HF4.out).mono ?_; rintro e w12 ⟨rfl, hb⟩; clear _t tok6; have HE12 := Aside0.mk (Kd.C_below HE11.out hb); have HP12 := Aside0.mk (Kd.C_below HP11.out hb); have HD12 := Aside0.mk (Kd.C_below HD11.out hb); have HQ12 := Aside0.mk (Kd.C_below HQ11.out hb); have HX12 := Aside0.mk (blk_below HX11.out hb); have HB12 := Aside0.mk (below_step HB11.out hb); clear hb hy0 hy1 hy2; obtain ⟨hy0, hy1, hy2⟩ := box3 HX12.out)))
  go_loopw [23] (fun v23 wr => PutsRel A1 c1 A2 c2 (.bool true) E M AP P AD D AB w4.heap.size w v23 wr) (fun v23 _ => P.length - (intOf v23).toNat)
  case atStart =>
    unfold PutsRel
    exact ⟨1, rfl, Nat.le_refl _, hP1, HX12, HP12, HD12, HQ12, HB12⟩
  case round =>
    obtain ⟨i, rfl, hi1, hile, HXr, HPr, HDr, HQr, HBr⟩ := hrel
    clear hy0 hy1 hy2
    obtain ⟨hy0, hy1, hy2⟩ := box3 HXr.out
    by_cases hlt : i < P.length
    · have g1 : 0 ≤ (((i - 1 : Nat)) : Int) := by omega
      have g2 : (((i - 1 : Nat)) : Int) < (P.length : Int) := by omega
      have g3 : 0 ≤ ((i : Nat) : Int) := by omega
      have g4 : ((i : Nat) : Int) < (P.length : Int) := by omega
      obtain ⟨ad, e, hx0, hx1⟩ := at_T47 HPr.out _ g1 g2
      cases e
      obtain ⟨ad2, e, hu0, hu1⟩ := at_T47 HPr.out _ g3 g4
      cases e
      simp only [Int.toNat_natCast] at hx0 hx1 hu0 hu1
      have hless : Op.bytesLess (rd_T47 P ((i - 1 : Nat) : Int)).f0.toList (rd_T47 P ((i : Nat) : Int)).f0.toList = true := by
        rw [rdE7 P i hlt, rdE7 P (i - 1) (by omega)]
        exact (List.pairwise_iff_getElem.1 HR.out) (i - 1) i (by omega) hlt (by omega)
      have hwp : IntKind.i64.wrap ((i : Int) - 1) = ((i - 1 : Nat) : Int) := by rw [IntKind.wrap_i64]; omega
      go_wp2
      go_region
      go_wp2
      go_roundw
      case rel =>
        unfold PutsRel
        exact ⟨i + 1, by go_num, by omega, by omega, ⟨HXr.out⟩, ⟨HPr.out⟩, ⟨HDr.out⟩, ⟨HQr.out⟩, ⟨HBr.out.drew⟩⟩
      case measure => simp [intOf]; omega
    · have hlen := HLen.out
      have hw0 : IntKind.i64.wrap ((E.length : Int) + 1) = (E.length : Int) + 1 := by rw [IntKind.wrap_i64]; omega
      go_wp2_with (go_at_call 17; go_must (refine (leaf_Same.calls 8000 false _ _ D none 0 ([] : List S36) false _ _ D none 0 ([] : List S36) true _ HDr.out hcd (Kd.C_nil _ _) (Nat.le_refl _) HQr.out hcb (Kd.C_nil _ _) (Nat.le_refl _) HS.out).mono ?_; rintro e w20 ⟨rfl, hb⟩; have HB20 := Aside0.mk (below_step HBr.out hb); clear hb))
      go_ret
      exact ⟨rfl, HB20.out⟩

set_option maxHeartbeats 4000000 in
set_option maxRecDepth 100000 in
theorem puts_main_ff (A : Option Addr) (c : Nat) (l : List S75) (A' : Option Addr) (c' : Nat) (m : List S76) (key other val gv o1 o2 : ByteArray) (b1 b2 : Bool) (E P D : List S47) (M : List S36) (w : World) (hr : Kd.C k75 w A l.length l) (hc : l.length ≤ c) (hr' : Kd.C k76 w A' m.length m) (hc' : m.length ≤ c')
    (hk1 : ¬ ((key.size : Int) > 300)) (hk2 : ¬ ((other.size : Int) > 300)) (hk3 : ¬ ((val.size : Int) > 300))
    (HL : Aside0 (callboardlaw06_large.f 8000 true l m = some false)) (HA : Aside0 (callboardlaw06_awake.f 8000 = some true)) (HGv : Aside0 (callboardlaw06_given.f 8000 true l m = some (true, E, M))) (HM : Aside0 (leaf_May.f 8000 true E M = some true))
    (HP : Aside0 (leaf_Put.f E key val = some P)) (HD : Aside0 (leaf_Del.f P key = some (D, true))) (HE : Aside0 (leaf_Del.f E key = some (D, false))) (HF1 : Aside0 (leaf_Find.f P key = some (val, true))) (HF2 : Aside0 (leaf_Find.f D key = some (gv, false))) (HF3 : Aside0 (leaf_Find.f P other = some (o1, b1))) (HF4 : Aside0 (leaf_Find.f E other = some (o1, b1)))
    (ho : (other.toList == key.toList) = false) (HLen : Aside0 (P.length = E.length + 1)) (hPm : P.length ≤ 1000) (hP1 : 1 ≤ P.length) (HR : Aside0 (Rise P)) (HS : Aside0 (leaf_Same.f 8000 false D [] false D [] = some true)) :
    Calls Try.prog 9 #[.agg #[.bool true, .slice A l.length c, .slice A' m.length c'], .string key, .string other, .string val] w fun e w' => e = .returned (.bool true) ∧ Below w.heap.size w w' := by
  have hu25 := Try.underlying25
  have hu31 := Try.underlying31
  have hu47 := Try.underlying47
  have hd1 : decide ((300 : Int) < (key.size : Int)) = false := decide_eq_false (by omega)
  have hd2 : decide ((300 : Int) < (other.size : Int)) = false := decide_eq_false (by omega)
  have hd3 : decide ((300 : Int) < (val.size : Int)) = false := decide_eq_false (by omega)
  have HR0 := Aside0.mk hr
  have HR1 := Aside0.mk hr'
  have HB := Aside0.mk ((Below.refl w.heap.size w).alloc (Nat.le_refl _) (.cells #[.bool true, .slice A l.length c, .slice A' m.length c'] 25))
  have HG := Aside0.mk (blk_new w (.cells #[.bool true, .slice A l.length c, .slice A' m.length c'] 25))
  clear hr hr'
  have tok1 : True := trivial
  have tok2 : True := trivial
  have tok3 : True := trivial
  have tok4 : True := trivial
  have tok5 : True := trivial
  have tok6 : True := trivial
  go_enter Try.func9, Try.ntmps9
  go_wp2_with (first | (go_at_call 10; go_must (refine (callboardlaw06_large.calls 8000 _ _ _ _ _ _ _ _ _ (Kd.C_below HR0.out HB.out) hc (Kd.C_below HR1.out HB.out) hc' HL.out).mono ?_; rintro e w2 ⟨rfl, hb⟩; have HG2 := Aside0.mk (blk_below HG.out hb); have HB2 := Aside0.mk (below_step HB.out hb); clear hb; obtain ⟨hz0, hz1, hz2⟩ := box3 HG2.out)) | (go_at_call 11; go_must (refine (callboardlaw06_awake.calls 8000 _ _ HA.out).mono ?_; rintro e w3 ⟨rfl, hb⟩; have HG3 := Aside0.mk (blk_below HG2.out hb); have HB3 := Aside0.mk (below_step HB2.out hb); clear hb hz0 hz1 hz2; obtain ⟨hz0, hz1, hz2⟩ := box3 HG3.out)) | (go_at_call 12; go_must (refine (callboardlaw06_given.calls 8000 _ _ _ _ _ _ _ _ _ _ _ (Kd.C_below HR0.out HB3.out) hc (Kd.C_below HR1.out HB3.out) hc' HGv.out).mono ?_; rintro e w4 ⟨v1, v2, rfl, hq1, hq2, hb⟩; have HB4 := Aside0.mk (below_step HB3.out hb); obtain ⟨A1, c1, rfl, hc1, hq1⟩ := Kd.R_reads hq1; obtain ⟨A2, c2, rfl, hc2, hq2⟩ := Kd.R_reads hq2; have HE4 := Aside0.mk hq1; have HM4 := Aside0.mk hq2; clear hb hz0 hz1 hz2 hq1 hq2)) | (go_at_call 13; go_must (refine (leaf_May.calls 8000 _ _ _ _ _ _ _ _ _ (Kd.C_alloc HE4.out _) hc1 (Kd.C_alloc HM4.out _) hc2 HM.out).mono ?_; rintro e w5 ⟨rfl, hb⟩; have HE5 := Aside0.mk (Kd.C_below (Kd.C_alloc HE4.out _) hb); have HX5 := Aside0.mk (blk_below (blk_new w4 _) hb); have HB5 := Aside0.mk (below_step (below_alloc HB4.out _) hb); clear hb; obtain ⟨hy0, hy1, hy2⟩ := box3 HX5.out)) | (go_at_call 31; go_must (refine (leaf_Put.calls _ _ _ _ _ _ _ HE5.out hc1 HP.out).mono ?_; rintro e w6 ⟨vp, rfl, hq, hb⟩; obtain ⟨AP, cp, rfl, hcp, hq⟩ := Kd.R_reads hq; have HP6 := Aside0.mk hq; clear hq; have HE6 := Aside0.mk (Kd.C_below HE5.out hb); have HX6 := Aside0.mk (blk_below HX5.out hb); have HB6 := Aside0.mk (below_step HB5.out hb); clear hb hy0 hy1 hy2; obtain ⟨hy0, hy1, hy2⟩ := box3 HX6.out)) | (go_at_call 32; have _t := tok1; go_must (refine (leaf_Del.calls _ _ _ _ _ _ _ HP6.out hcp HD.out).mono ?_; rintro e w7 ⟨vd, rfl, hq, hb⟩; obtain ⟨AD, cd, rfl, hcd, hq⟩ := Kd.R_reads hq; have HD7 := Aside0.mk hq; clear hq _t tok1; have HE7 := Aside0.mk (Kd.C_below HE6.out hb); have HP7 := Aside0.mk (Kd.C_below HP6.out hb); have HX7 := Aside0.mk (blk_below HX6.out hb); have HB7 := Aside0.mk (below_step HB6.out hb); clear hb hy0 hy1 hy2; obtain ⟨hy0, hy1, hy2⟩ := box3 HX7.out)) | (go_at_call 32; have _t := tok2; go_must (refine (leaf_Del.calls _ _ _ _ _ _ _ HE7.out hc1 HE.out).mono ?_; rintro e w8 ⟨vb, rfl, hq, hb⟩; obtain ⟨AB, cb, rfl, hcb, hq⟩ := Kd.R_reads hq; have HQ8 := Aside0.mk hq; clear hq _t tok2; have HE8 := Aside0.mk (Kd.C_below HE7.out hb); have HP8 := Aside0.mk (Kd.C_below HP7.out hb); have HD8 := Aside0.mk (Kd.C_below HD7.out hb); have HX8 := Aside0.mk (blk_below HX7.out hb); have HB8 := Aside0.mk (below_step HB7.out hb); clear hb hy0 hy1 hy2; obtain ⟨hy0, hy1, hy2⟩ := box3 HX8.out)) | (go_at_call 29; have _t := tok3; go_must (refine (leaf_Find.calls _ _ _ _ _ _ _ HP8.out hcp HF1.out).mono ?_; rintro e w9 ⟨rfl, hb⟩; clear _t tok3; have HE9 := Aside0.mk (Kd.C_below HE8.out hb); have HP9 := Aside0.mk (Kd.C_below HP8.out hb); have HD9 := Aside0.mk (Kd.C_below HD8.out hb); have HQ9 := Aside0.mk (Kd.C_below HQ8.out hb); have HX9 := Aside0.mk (blk_below HX8.out hb); have HB9 := Aside0.mk (below_step HB8.out hb); clear hb hy0 hy1 hy2; obtain ⟨hy0, hy1, hy2⟩ := box3 HX9.out)) | (go_at_call 29; have _t := tok4; go_must (refine (leaf_Find.calls _ _ _ _ _ _ _ HD9.out hcd HF2.out).mono ?_; rintro e w10 ⟨rfl, hb⟩; clear _t tok4; have HE10 := Aside0.mk (Kd.C_below HE9.out hb); have HP10 := Aside0.mk (Kd.C_below HP9.out hb); have HD10 := Aside0.mk (Kd.C_below HD9.out hb); have HQ10 := Aside0.mk (Kd.C_below HQ9.out hb); have HX10 := Aside0.mk (blk_below HX9.out hb); have HB10 := Aside0.mk (below_step HB9.out hb); clear hb hy0 hy1 hy2; obtain ⟨hy0, hy1, hy2⟩ := box3 HX10.out)) | (go_at_call 29; have _t := tok5; go_must (refine (leaf_Find.calls _ _ _ _ _ _ _ HP10.out hcp HF3.out).mono ?_; rintro e w11 ⟨rfl, hb⟩; clear _t tok5; have HE11 := Aside0.mk (Kd.C_below HE10.out hb); have HP11 := Aside0.mk (Kd.C_below HP10.out hb); have HD11 := Aside0.mk (Kd.C_below HD10.out hb); have HQ11 := Aside0.mk (Kd.C_below HQ10.out hb); have HX11 := Aside0.mk (blk_below HX10.out hb); have HB11 := Aside0.mk (below_step HB10.out hb); clear hb hy0 hy1 hy2; obtain ⟨hy0, hy1, hy2⟩ := box3 HX11.out)) | (go_at_call 29; have _t := tok6; go_must (refine (leaf_Find.calls _ _ _ _ _ _ _ HE11.out hc1 HF4.out).mono ?_; rintro e w12 ⟨rfl, hb⟩; clear _t tok6; have HE12 := Aside0.mk (Kd.C_below HE11.out hb); have HP12 := Aside0.mk (Kd.C_below HP11.out hb); have HD12 := Aside0.mk (Kd.C_below HD11.out hb); have HQ12 := Aside0.mk (Kd.C_below HQ11.out hb); have HX12 := Aside0.mk (blk_below HX11.out hb); have HB12 := Aside0.mk (below_step HB11.out hb); clear hb hy0 hy1 hy2; obtain ⟨hy0, hy1, hy2⟩ := box3 HX12.out)))
  go_loopw [23] (fun v23 wr => PutsRel A1 c1 A2 c2 (.bool true) E M AP P AD D AB w4.heap.size w v23 wr) (fun v23 _ => P.length - (intOf v23).toNat)
  case atStart =>
    unfold PutsRel
    exact ⟨1, rfl, Nat.le_refl _, hP1, HX12, HP12, HD12, HQ12, HB12⟩
  case round =>
    obtain ⟨i, rfl, hi1, hile, HXr, HPr, HDr, HQr, HBr⟩ := hrel
    clear hy0 hy1 hy2
    obtain ⟨hy0, hy1, hy2⟩ := box3 HXr.out
    by_cases hlt : i < P.length
    · have g1 : 0 ≤ (((i - 1 : Nat)) : Int) := by omega
      have g2 : (((i - 1 : Nat)) : Int) < (P.length : Int) := by omega
      have g3 : 0 ≤ ((i : Nat) : Int) := by omega
      have g4 : ((i : Nat) : Int) < (P.length : Int) := by omega
      obtain ⟨ad, e, hx0, hx1⟩ := at_T47 HPr.out _ g1 g2
      cases e
      obtain ⟨ad2, e, hu0, hu1⟩ := at_T47 HPr.out _ g3 g4
      cases e
      simp only [Int.toNat_natCast] at hx0 hx1 hu0 hu1
      have hless : Op.bytesLess (rd_T47 P ((i - 1 : Nat) : Int)).f0.toList (rd_T47 P ((i : Nat) : Int)).f0.toList = true := by
        rw [rdE7 P i hlt, rdE7 P (i - 1) (by omega)]
        exact (List.pairwise_iff_getElem.1 HR.out) (i - 1) i (by omega) hlt (by omega)
      have hwp : IntKind.i64.wrap ((i : Int) - 1) = ((i - 1 : Nat) : Int) := by rw [IntKind.wrap_i64]; omega
      go_wp2
      go_region
      go_wp2
      go_roundw
      case rel =>
        unfold PutsRel
        exact ⟨i + 1, by go_num, by omega, by omega, ⟨HXr.out⟩, ⟨HPr.out⟩, ⟨HDr.out⟩, ⟨HQr.out⟩, ⟨HBr.out.drew⟩⟩
      case measure => simp [intOf]; omega
    · have hlen := HLen.out
      have hw0 : IntKind.i64.wrap ((E.length : Int) + 1) = (E.length : Int) + 1 := by rw [IntKind.wrap_i64]; omega
      go_wp2_with (go_at_call 17; go_must (refine (leaf_Same.calls 8000 false _ _ D none 0 ([] : List S36) false _ _ D none 0 ([] : List S36) true _ HDr.out hcd (Kd.C_nil _ _) (Nat.le_refl _) HQr.out hcb (Kd.C_nil _ _) (Nat.le_refl _) HS.out).mono ?_; rintro e w20 ⟨rfl, hb⟩; have HB20 := Aside0.mk (below_step HBr.out hb); clear hb))
      go_ret
      exact ⟨rfl, HB20.out⟩

set_option maxHeartbeats 4000000 in
set_option maxRecDepth 100000 in
theorem puts_stop_large (a : Bool) (A : Option Addr) (c : Nat) (l : List S75) (A' : Option Addr) (c' : Nat) (m : List S76) (key other val : ByteArray) (w : World) (hr : Kd.C k75 w A l.length l) (hc : l.length ≤ c) (hr' : Kd.C k76 w A' m.length m) (hc' : m.length ≤ c')
    (HL : Aside0 (callboardlaw06_large.f 8000 a l m = some true)) (HA : Aside0 (callboardlaw06_awake.f 8000 = some true))  :
    Calls Try.prog 9 #[.agg #[.bool a, .slice A l.length c, .slice A' m.length c'], .string key, .string other, .string val] w fun e w' => e = .returned (.bool true) ∧ Below w.heap.size w w' := by
  have hu25 := Try.underlying25
  have HR0 := Aside0.mk hr
  have HR1 := Aside0.mk hr'
  have HB := Aside0.mk ((Below.refl w.heap.size w).alloc (Nat.le_refl _) (.cells #[.bool a, .slice A l.length c, .slice A' m.length c'] 25))
  clear hr hr'
  go_enter Try.func9, Try.ntmps9
  go_wp2_with (first | (go_at_call 10; go_must (refine (callboardlaw06_large.calls 8000 _ _ _ _ _ _ _ _ _ (Kd.C_below HR0.out HB.out) hc (Kd.C_below HR1.out HB.out) hc' HL.out).mono ?_; rintro e w2 ⟨rfl, hb⟩; have HB2 := Aside0.mk (below_step HB.out hb); clear hb)) | (go_at_call 11; go_must (refine (callboardlaw06_awake.calls 8000 _ _ HA.out).mono ?_; rintro e w3 ⟨rfl, hb⟩; have HB3 := Aside0.mk (below_step HB2.out hb); clear hb)))
  go_ret
  exact ⟨rfl, HB3.out⟩

set_option maxHeartbeats 4000000 in
set_option maxRecDepth 100000 in
theorem puts_stop_key (a : Bool) (A : Option Addr) (c : Nat) (l : List S75) (A' : Option Addr) (c' : Nat) (m : List S76) (key other val : ByteArray) (w : World) (hr : Kd.C k75 w A l.length l) (hc : l.length ≤ c) (hr' : Kd.C k76 w A' m.length m) (hc' : m.length ≤ c')
    (HL : Aside0 (callboardlaw06_large.f 8000 a l m = some false)) (HA : Aside0 (callboardlaw06_awake.f 8000 = some true)) (hk : decide ((300 : Int) < (key.size : Int)) = true) :
    Calls Try.prog 9 #[.agg #[.bool a, .slice A l.length c, .slice A' m.length c'], .string key, .string other, .string val] w fun e w' => e = .returned (.bool true) ∧ Below w.heap.size w w' := by
  have hu25 := Try.underlying25
  have HR0 := Aside0.mk hr
  have HR1 := Aside0.mk hr'
  have HB := Aside0.mk ((Below.refl w.heap.size w).alloc (Nat.le_refl _) (.cells #[.bool a, .slice A l.length c, .slice A' m.length c'] 25))
  clear hr hr'
  go_enter Try.func9, Try.ntmps9
  go_wp2_with (first | (go_at_call 10; go_must (refine (callboardlaw06_large.calls 8000 _ _ _ _ _ _ _ _ _ (Kd.C_below HR0.out HB.out) hc (Kd.C_below HR1.out HB.out) hc' HL.out).mono ?_; rintro e w2 ⟨rfl, hb⟩; have HB2 := Aside0.mk (below_step HB.out hb); clear hb)) | (go_at_call 11; go_must (refine (callboardlaw06_awake.calls 8000 _ _ HA.out).mono ?_; rintro e w3 ⟨rfl, hb⟩; have HB3 := Aside0.mk (below_step HB2.out hb); clear hb)))
  go_ret
  exact ⟨rfl, HB3.out⟩

set_option maxHeartbeats 4000000 in
set_option maxRecDepth 100000 in
theorem puts_stop_other (a : Bool) (A : Option Addr) (c : Nat) (l : List S75) (A' : Option Addr) (c' : Nat) (m : List S76) (key other val : ByteArray) (w : World) (hr : Kd.C k75 w A l.length l) (hc : l.length ≤ c) (hr' : Kd.C k76 w A' m.length m) (hc' : m.length ≤ c')
    (HL : Aside0 (callboardlaw06_large.f 8000 a l m = some false)) (HA : Aside0 (callboardlaw06_awake.f 8000 = some true)) (hk0 : decide ((300 : Int) < (key.size : Int)) = false) (hk : decide ((300 : Int) < (other.size : Int)) = true) :
    Calls Try.prog 9 #[.agg #[.bool a, .slice A l.length c, .slice A' m.length c'], .string key, .string other, .string val] w fun e w' => e = .returned (.bool true) ∧ Below w.heap.size w w' := by
  have hu25 := Try.underlying25
  have HR0 := Aside0.mk hr
  have HR1 := Aside0.mk hr'
  have HB := Aside0.mk ((Below.refl w.heap.size w).alloc (Nat.le_refl _) (.cells #[.bool a, .slice A l.length c, .slice A' m.length c'] 25))
  clear hr hr'
  go_enter Try.func9, Try.ntmps9
  go_wp2_with (first | (go_at_call 10; go_must (refine (callboardlaw06_large.calls 8000 _ _ _ _ _ _ _ _ _ (Kd.C_below HR0.out HB.out) hc (Kd.C_below HR1.out HB.out) hc' HL.out).mono ?_; rintro e w2 ⟨rfl, hb⟩; have HB2 := Aside0.mk (below_step HB.out hb); clear hb)) | (go_at_call 11; go_must (refine (callboardlaw06_awake.calls 8000 _ _ HA.out).mono ?_; rintro e w3 ⟨rfl, hb⟩; have HB3 := Aside0.mk (below_step HB2.out hb); clear hb)))
  go_ret
  exact ⟨rfl, HB3.out⟩

set_option maxHeartbeats 4000000 in
set_option maxRecDepth 100000 in
theorem puts_stop_val (a : Bool) (A : Option Addr) (c : Nat) (l : List S75) (A' : Option Addr) (c' : Nat) (m : List S76) (key other val : ByteArray) (w : World) (hr : Kd.C k75 w A l.length l) (hc : l.length ≤ c) (hr' : Kd.C k76 w A' m.length m) (hc' : m.length ≤ c')
    (HL : Aside0 (callboardlaw06_large.f 8000 a l m = some false)) (HA : Aside0 (callboardlaw06_awake.f 8000 = some true)) (hk0 : decide ((300 : Int) < (key.size : Int)) = false) (hk1 : decide ((300 : Int) < (other.size : Int)) = false) (hk : decide ((300 : Int) < (val.size : Int)) = true) :
    Calls Try.prog 9 #[.agg #[.bool a, .slice A l.length c, .slice A' m.length c'], .string key, .string other, .string val] w fun e w' => e = .returned (.bool true) ∧ Below w.heap.size w w' := by
  have hu25 := Try.underlying25
  have HR0 := Aside0.mk hr
  have HR1 := Aside0.mk hr'
  have HB := Aside0.mk ((Below.refl w.heap.size w).alloc (Nat.le_refl _) (.cells #[.bool a, .slice A l.length c, .slice A' m.length c'] 25))
  clear hr hr'
  go_enter Try.func9, Try.ntmps9
  go_wp2_with (first | (go_at_call 10; go_must (refine (callboardlaw06_large.calls 8000 _ _ _ _ _ _ _ _ _ (Kd.C_below HR0.out HB.out) hc (Kd.C_below HR1.out HB.out) hc' HL.out).mono ?_; rintro e w2 ⟨rfl, hb⟩; have HB2 := Aside0.mk (below_step HB.out hb); clear hb)) | (go_at_call 11; go_must (refine (callboardlaw06_awake.calls 8000 _ _ HA.out).mono ?_; rintro e w3 ⟨rfl, hb⟩; have HB3 := Aside0.mk (below_step HB2.out hb); clear hb)))
  go_ret
  exact ⟨rfl, HB3.out⟩

set_option maxHeartbeats 4000000 in
set_option maxRecDepth 100000 in
theorem puts_not_may (A : Option Addr) (c : Nat) (l : List S75) (A' : Option Addr) (c' : Nat) (m : List S76) (key other val : ByteArray) (E : List S47) (M : List S36) (w : World) (hr : Kd.C k75 w A l.length l) (hc : l.length ≤ c) (hr' : Kd.C k76 w A' m.length m) (hc' : m.length ≤ c')
    (hk1 : ¬ ((key.size : Int) > 300)) (hk2 : ¬ ((other.size : Int) > 300)) (hk3 : ¬ ((val.size : Int) > 300))
    (HL : Aside0 (callboardlaw06_large.f 8000 true l m = some false)) (HA : Aside0 (callboardlaw06_awake.f 8000 = some true)) (HGv : Aside0 (callboardlaw06_given.f 8000 true l m = some (true, E, M))) (HM : Aside0 (leaf_May.f 8000 true E M = some false)) :
    Calls Try.prog 9 #[.agg #[.bool true, .slice A l.length c, .slice A' m.length c'], .string key, .string other, .string val] w fun e w' => e = .returned (.bool true) ∧ Below w.heap.size w w' := by
  have hu25 := Try.underlying25
  have hu31 := Try.underlying31
  have hd1 : decide ((300 : Int) < (key.size : Int)) = false := decide_eq_false (by omega)
  have hd2 : decide ((300 : Int) < (other.size : Int)) = false := decide_eq_false (by omega)
  have hd3 : decide ((300 : Int) < (val.size : Int)) = false := decide_eq_false (by omega)
  have HR0 := Aside0.mk hr
  have HR1 := Aside0.mk hr'
  have HB := Aside0.mk ((Below.refl w.heap.size w).alloc (Nat.le_refl _) (.cells #[.bool true, .slice A l.length c, .slice A' m.length c'] 25))
  have HG := Aside0.mk (blk_new w (.cells #[.bool true, .slice A l.length c, .slice A' m.length c'] 25))
  clear hr hr'
  go_enter Try.func9, Try.ntmps9
  go_wp2_with (first | (go_at_call 10; go_must (refine (callboardlaw06_large.calls 8000 _ _ _ _ _ _ _ _ _ (Kd.C_below HR0.out HB.out) hc (Kd.C_below HR1.out HB.out) hc' HL.out).mono ?_; rintro e w2 ⟨rfl, hb⟩; have HG2 := Aside0.mk (blk_below HG.out hb); have HB2 := Aside0.mk (below_step HB.out hb); clear hb; obtain ⟨hz0, hz1, hz2⟩ := box3 HG2.out)) | (go_at_call 11; go_must (refine (callboardlaw06_awake.calls 8000 _ _ HA.out).mono ?_; rintro e w3 ⟨rfl, hb⟩; have HG3 := Aside0.mk (blk_below HG2.out hb); have HB3 := Aside0.mk (below_step HB2.out hb); clear hb hz0 hz1 hz2; obtain ⟨hz0, hz1, hz2⟩ := box3 HG3.out)) | (go_at_call 12; go_must (refine (callboardlaw06_given.calls 8000 _ _ _ _ _ _ _ _ _ _ _ (Kd.C_below HR0.out HB3.out) hc (Kd.C_below HR1.out HB3.out) hc' HGv.out).mono ?_; rintro e w4 ⟨v1, v2, rfl, hq1, hq2, hb⟩; have HB4 := Aside0.mk (below_step HB3.out hb); obtain ⟨A1, c1, rfl, hc1, hq1⟩ := Kd.R_reads hq1; obtain ⟨A2, c2, rfl, hc2, hq2⟩ := Kd.R_reads hq2; have HE4 := Aside0.mk hq1; have HM4 := Aside0.mk hq2; clear hb hz0 hz1 hz2 hq1 hq2)) | (go_at_call 13; go_must (refine (leaf_May.calls 8000 _ _ _ _ _ _ _ _ _ (Kd.C_alloc HE4.out _) hc1 (Kd.C_alloc HM4.out _) hc2 HM.out).mono ?_; rintro e w5 ⟨rfl, hb⟩; have HX5 := Aside0.mk (blk_below (blk_new w4 _) hb); have HB5 := Aside0.mk (below_step (below_alloc HB4.out _) hb); clear hb; obtain ⟨hy0, hy1, hy2⟩ := box3 HX5.out)))
  go_ret
  exact ⟨rfl, HB5.out⟩

set_option maxHeartbeats 4000000 in
set_option maxRecDepth 100000 in
theorem puts_not_leaf (A : Option Addr) (c : Nat) (l : List S75) (A' : Option Addr) (c' : Nat) (m : List S76) (key other val : ByteArray) (E : List S47) (M : List S36) (w : World) (hr : Kd.C k75 w A l.length l) (hc : l.length ≤ c) (hr' : Kd.C k76 w A' m.length m) (hc' : m.length ≤ c')
    (hk1 : ¬ ((key.size : Int) > 300)) (hk2 : ¬ ((other.size : Int) > 300)) (hk3 : ¬ ((val.size : Int) > 300))
    (HL : Aside0 (callboardlaw06_large.f 8000 false l m = some false)) (HA : Aside0 (callboardlaw06_awake.f 8000 = some true)) (HGv : Aside0 (callboardlaw06_given.f 8000 false l m = some (false, E, M))) (HM : Aside0 (leaf_May.f 8000 false E M = some true)) :
    Calls Try.prog 9 #[.agg #[.bool false, .slice A l.length c, .slice A' m.length c'], .string key, .string other, .string val] w fun e w' => e = .returned (.bool true) ∧ Below w.heap.size w w' := by
  have hu25 := Try.underlying25
  have hu31 := Try.underlying31
  have hd1 : decide ((300 : Int) < (key.size : Int)) = false := decide_eq_false (by omega)
  have hd2 : decide ((300 : Int) < (other.size : Int)) = false := decide_eq_false (by omega)
  have hd3 : decide ((300 : Int) < (val.size : Int)) = false := decide_eq_false (by omega)
  have HR0 := Aside0.mk hr
  have HR1 := Aside0.mk hr'
  have HB := Aside0.mk ((Below.refl w.heap.size w).alloc (Nat.le_refl _) (.cells #[.bool false, .slice A l.length c, .slice A' m.length c'] 25))
  have HG := Aside0.mk (blk_new w (.cells #[.bool false, .slice A l.length c, .slice A' m.length c'] 25))
  clear hr hr'
  go_enter Try.func9, Try.ntmps9
  go_wp2_with (first | (go_at_call 10; go_must (refine (callboardlaw06_large.calls 8000 _ _ _ _ _ _ _ _ _ (Kd.C_below HR0.out HB.out) hc (Kd.C_below HR1.out HB.out) hc' HL.out).mono ?_; rintro e w2 ⟨rfl, hb⟩; have HG2 := Aside0.mk (blk_below HG.out hb); have HB2 := Aside0.mk (below_step HB.out hb); clear hb; obtain ⟨hz0, hz1, hz2⟩ := box3 HG2.out)) | (go_at_call 11; go_must (refine (callboardlaw06_awake.calls 8000 _ _ HA.out).mono ?_; rintro e w3 ⟨rfl, hb⟩; have HG3 := Aside0.mk (blk_below HG2.out hb); have HB3 := Aside0.mk (below_step HB2.out hb); clear hb hz0 hz1 hz2; obtain ⟨hz0, hz1, hz2⟩ := box3 HG3.out)) | (go_at_call 12; go_must (refine (callboardlaw06_given.calls 8000 _ _ _ _ _ _ _ _ _ _ _ (Kd.C_below HR0.out HB3.out) hc (Kd.C_below HR1.out HB3.out) hc' HGv.out).mono ?_; rintro e w4 ⟨v1, v2, rfl, hq1, hq2, hb⟩; have HB4 := Aside0.mk (below_step HB3.out hb); obtain ⟨A1, c1, rfl, hc1, hq1⟩ := Kd.R_reads hq1; obtain ⟨A2, c2, rfl, hc2, hq2⟩ := Kd.R_reads hq2; have HE4 := Aside0.mk hq1; have HM4 := Aside0.mk hq2; clear hb hz0 hz1 hz2 hq1 hq2)) | (go_at_call 13; go_must (refine (leaf_May.calls 8000 _ _ _ _ _ _ _ _ _ (Kd.C_alloc HE4.out _) hc1 (Kd.C_alloc HM4.out _) hc2 HM.out).mono ?_; rintro e w5 ⟨rfl, hb⟩; have HX5 := Aside0.mk (blk_below (blk_new w4 _) hb); have HB5 := Aside0.mk (below_step (below_alloc HB4.out _) hb); clear hb; obtain ⟨hy0, hy1, hy2⟩ := box3 HX5.out)))
  go_ret
  exact ⟨rfl, HB5.out⟩

set_option maxHeartbeats 4000000 in
set_option maxRecDepth 100000 in
theorem puts_not_both (A : Option Addr) (c : Nat) (l : List S75) (A' : Option Addr) (c' : Nat) (m : List S76) (key other val : ByteArray) (E : List S47) (M : List S36) (w : World) (hr : Kd.C k75 w A l.length l) (hc : l.length ≤ c) (hr' : Kd.C k76 w A' m.length m) (hc' : m.length ≤ c')
    (hk1 : ¬ ((key.size : Int) > 300)) (hk2 : ¬ ((other.size : Int) > 300)) (hk3 : ¬ ((val.size : Int) > 300))
    (HL : Aside0 (callboardlaw06_large.f 8000 false l m = some false)) (HA : Aside0 (callboardlaw06_awake.f 8000 = some true)) (HGv : Aside0 (callboardlaw06_given.f 8000 false l m = some (false, E, M))) (HM : Aside0 (leaf_May.f 8000 false E M = some false)) :
    Calls Try.prog 9 #[.agg #[.bool false, .slice A l.length c, .slice A' m.length c'], .string key, .string other, .string val] w fun e w' => e = .returned (.bool true) ∧ Below w.heap.size w w' := by
  have hu25 := Try.underlying25
  have hu31 := Try.underlying31
  have hd1 : decide ((300 : Int) < (key.size : Int)) = false := decide_eq_false (by omega)
  have hd2 : decide ((300 : Int) < (other.size : Int)) = false := decide_eq_false (by omega)
  have hd3 : decide ((300 : Int) < (val.size : Int)) = false := decide_eq_false (by omega)
  have HR0 := Aside0.mk hr
  have HR1 := Aside0.mk hr'
  have HB := Aside0.mk ((Below.refl w.heap.size w).alloc (Nat.le_refl _) (.cells #[.bool false, .slice A l.length c, .slice A' m.length c'] 25))
  have HG := Aside0.mk (blk_new w (.cells #[.bool false, .slice A l.length c, .slice A' m.length c'] 25))
  clear hr hr'
  go_enter Try.func9, Try.ntmps9
  go_wp2_with (first | (go_at_call 10; go_must (refine (callboardlaw06_large.calls 8000 _ _ _ _ _ _ _ _ _ (Kd.C_below HR0.out HB.out) hc (Kd.C_below HR1.out HB.out) hc' HL.out).mono ?_; rintro e w2 ⟨rfl, hb⟩; have HG2 := Aside0.mk (blk_below HG.out hb); have HB2 := Aside0.mk (below_step HB.out hb); clear hb; obtain ⟨hz0, hz1, hz2⟩ := box3 HG2.out)) | (go_at_call 11; go_must (refine (callboardlaw06_awake.calls 8000 _ _ HA.out).mono ?_; rintro e w3 ⟨rfl, hb⟩; have HG3 := Aside0.mk (blk_below HG2.out hb); have HB3 := Aside0.mk (below_step HB2.out hb); clear hb hz0 hz1 hz2; obtain ⟨hz0, hz1, hz2⟩ := box3 HG3.out)) | (go_at_call 12; go_must (refine (callboardlaw06_given.calls 8000 _ _ _ _ _ _ _ _ _ _ _ (Kd.C_below HR0.out HB3.out) hc (Kd.C_below HR1.out HB3.out) hc' HGv.out).mono ?_; rintro e w4 ⟨v1, v2, rfl, hq1, hq2, hb⟩; have HB4 := Aside0.mk (below_step HB3.out hb); obtain ⟨A1, c1, rfl, hc1, hq1⟩ := Kd.R_reads hq1; obtain ⟨A2, c2, rfl, hc2, hq2⟩ := Kd.R_reads hq2; have HE4 := Aside0.mk hq1; have HM4 := Aside0.mk hq2; clear hb hz0 hz1 hz2 hq1 hq2)) | (go_at_call 13; go_must (refine (leaf_May.calls 8000 _ _ _ _ _ _ _ _ _ (Kd.C_alloc HE4.out _) hc1 (Kd.C_alloc HM4.out _) hc2 HM.out).mono ?_; rintro e w5 ⟨rfl, hb⟩; have HX5 := Aside0.mk (blk_below (blk_new w4 _) hb); have HB5 := Aside0.mk (below_step (below_alloc HB4.out _) hb); clear hb; obtain ⟨hy0, hy1, hy2⟩ := box3 HX5.out)))
  go_ret
  exact ⟨rfl, HB5.out⟩
theorem may_sides {a : Bool} {l : List S47} {m : List S36} (h : mayB a l m = true) : (if a then m = [] else l = []) ∧ allFrom (okE l) 0 l.length = true ∧ allFrom (okB m) 0 m.length = true := by
  unfold mayB at h
  simp only [Bool.and_eq_true] at h
  refine ⟨?_, h.2⟩
  cases a
  · simpa using h.1
  · simpa using h.1
theorem putE_tells (E : List S47) (k v : ByteArray) (h : E.length ≤ 1000) : leaf_Put.f E k v = some (putE E k v) := by unfold leaf_Put.f; rw [if_pos (by omega)]
theorem delE_tells (E : List S47) (k : ByteArray) (h : E.length ≤ 1000) : leaf_Del.f E k = some (delE E k, isE E k) := by unfold leaf_Del.f; rw [if_pos (by omega)]
theorem delE_len (M : List S47) (k : ByteArray) : (delE M k).length ≤ M.length := by
  unfold delE
  split
  · simp only [List.length_append, List.length_take, List.length_drop]; omega
  · exact Nat.le_refl _
/-- The call, whatever the node and the keys. -/
theorem leafPuts_walk (a : Bool) (A : Option Addr) (c : Nat) (l : List S75) (A' : Option Addr) (c' : Nat) (m : List S76) (key other val : ByteArray) (w : World) (hr : Kd.C k75 w A l.length l) (hc : l.length ≤ c) (hr' : Kd.C k76 w A' m.length m) (hc' : m.length ≤ c') (_ : key.size ≤ 140737488351232) (_ : other.size ≤ 140737488351232) (_ : val.size ≤ 140737488351232) :
    Calls Try.prog 9 #[.agg #[.bool a, .slice A l.length c, .slice A' m.length c'], .string key, .string other, .string val] w fun e w' => e = .returned (.bool true) ∧ Below w.heap.size w w' := by
  have HA := Aside0.mk (awake_tells 8000 (by omega))
  have hl := large_tells a l m 8000 (by omega)
  by_cases hL : largeB l m = true
  · rw [hL] at hl; exact puts_stop_large a A c l A' c' m key other val w hr hc hr' hc' ⟨hl⟩ HA
  rw [show largeB l m = false from by simpa using hL] at hl
  by_cases hK : (300 : Int) < (key.size : Int)
  · exact puts_stop_key a A c l A' c' m key other val w hr hc hr' hc' ⟨hl⟩ HA (decide_eq_true hK)
  by_cases hO : (300 : Int) < (other.size : Int)
  · exact puts_stop_other a A c l A' c' m key other val w hr hc hr' hc' ⟨hl⟩ HA (decide_eq_false hK) (decide_eq_true hO)
  by_cases hV : (300 : Int) < (val.size : Int)
  · exact puts_stop_val a A c l A' c' m key other val w hr hc hr' hc' ⟨hl⟩ HA (decide_eq_false hK) (decide_eq_false hO) (decide_eq_true hV)
  obtain ⟨h1, h2, h3, h4, hs⟩ := small_given l m (by simpa using hL)
  have hg := given_tells a l m (by omega) (by omega) 8000 (by omega)
  have hm := may_tells' a _ _ hs 8000 (by omega)
  cases a with
  | false =>
    cases hM : mayB false (l.map toE) (m.map toB) with
    | true => rw [hM] at hm; exact puts_not_leaf A c l A' c' m key other val _ _ w hr hc hr' hc' hK hO hV ⟨hl⟩ HA ⟨hg⟩ ⟨hm⟩
    | false => rw [hM] at hm; exact puts_not_both A c l A' c' m key other val _ _ w hr hc hr' hc' hK hO hV ⟨hl⟩ HA ⟨hg⟩ ⟨hm⟩
  | true =>
    cases hM : mayB true (l.map toE) (m.map toB) with
    | false => rw [hM] at hm; exact puts_not_may A c l A' c' m key other val _ _ w hr hc hr' hc' hK hO hV ⟨hl⟩ HA ⟨hg⟩ ⟨hm⟩
    | true =>
      rw [hM] at hm
      have hlen : (l.map toE).length ≤ 200 := by rw [List.length_map]; exact h1
      have hrise := rise_of_okE _ (may_sides hM).2.1
      generalize l.map toE = E at hrise hlen hg hm
      obtain ⟨p1, p2, p3, p4, p5, p6, p7, p8⟩ := put_spec E key val hrise
      have hplen : (putE E key val).length ≤ 201 := by rw [p5]; split <;> omega
      have hpos : 1 ≤ (putE E key val).length := by have := isE_lt _ _ p2; omega
      have hdl := delE_len E key
      have e1 := putE_tells E key val (by omega)
      have e2 := delE_tells (putE E key val) key (by omega)
      rw [p2, p6] at e2
      have e3 := delE_tells E key (by omega)
      have e4 := find_tells (putE E key val) key (by omega)
      rw [p3] at e4
      have e5 := find_tells (delE E key) key (by omega)
      rw [p6] at p7
      rw [p7] at e5
      have e6 := find_tells (putE E key val) other (by omega)
      have e7 := find_tells E other (by omega)
      have e8 : leaf_Same.f 8000 false (delE E key) [] false (delE E key) [] = some true := by
        rw [same_tells false _ [] false _ [] (by omega) (by simp) 8000 (by omega)]; simp [sameN]
      cases ho : (other.toList == key.toList) with
      | true =>
        cases hI : isE E key with
        | true =>
          rw [hI] at e3 p5
          exact puts_main_tt A c l A' c' m key other val _ _ _ _ _ E _ _ _ w hr hc hr' hc' hK hO hV ⟨hl⟩ HA ⟨hg⟩ ⟨hm⟩ ⟨e1⟩ ⟨e2⟩ ⟨e3⟩ ⟨e4⟩ ⟨e5⟩ ⟨e6⟩ ⟨e7⟩ ho ⟨p5⟩ (by omega) hpos ⟨p1⟩ ⟨e8⟩
        | false =>
          rw [hI] at e3 p5
          exact puts_main_ft A c l A' c' m key other val _ _ _ _ _ E _ _ _ w hr hc hr' hc' hK hO hV ⟨hl⟩ HA ⟨hg⟩ ⟨hm⟩ ⟨e1⟩ ⟨e2⟩ ⟨e3⟩ ⟨e4⟩ ⟨e5⟩ ⟨e6⟩ ⟨e7⟩ ho ⟨p5⟩ (by omega) hpos ⟨p1⟩ ⟨e8⟩
      | false =>
        have hne : other ≠ key := fun e => by rw [e] at ho; simp at ho
        rw [p4 other hne] at e6
        cases hI : isE E key with
        | true =>
          rw [hI] at e3 p5
          exact puts_main_tf A c l A' c' m key other val _ _ ⟨#[]⟩ _ false E _ _ _ w hr hc hr' hc' hK hO hV ⟨hl⟩ HA ⟨hg⟩ ⟨hm⟩ ⟨e1⟩ ⟨e2⟩ ⟨e3⟩ ⟨e4⟩ ⟨e5⟩ ⟨e6⟩ ⟨e7⟩ ho ⟨p5⟩ (by omega) hpos ⟨p1⟩ ⟨e8⟩
        | false =>
          rw [hI] at e3 p5
          exact puts_main_ff A c l A' c' m key other val _ _ ⟨#[]⟩ _ false E _ _ _ w hr hc hr' hc' hK hO hV ⟨hl⟩ HA ⟨hg⟩ ⟨hm⟩ ⟨e1⟩ ⟨e2⟩ ⟨e3⟩ ⟨e4⟩ ⟨e5⟩ ⟨e6⟩ ⟨e7⟩ ho ⟨p5⟩ (by omega) hpos ⟨p1⟩ ⟨e8⟩
end Go.Proofs.Ytfbaejhjppikpaa.P
