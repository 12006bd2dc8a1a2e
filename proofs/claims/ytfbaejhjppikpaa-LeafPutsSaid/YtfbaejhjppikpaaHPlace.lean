import Derived.Test.YtfbaejhjppikpaaHBs
import Derived.IntWalk
import Derived.Outline
namespace Go.Proofs.Ytfbaejhjppikpaa.P
open Go.RowKit Go.Proofs.YtfbaejhjppikpaaW.PrintWords Go.Proofs.YtfbaejhjppikpaaW.PrintLast Go.Proofs.YtfbaejhjppikpaaW.PrintMore
set_option linter.unusedVariables false
set_option linter.unusedSimpArgs false

/-- How the branch at place h stands to the key. -/
def cmpB (l : List S36) (key : ByteArray) (h : Nat) : Int := Lib.compareBytes (rd_T36 l (h : Int)).f0.data.toList key.data.toList
def lessB (l : List S36) (key : ByteArray) (h : Nat) : Bool := decide (cmpB l key h < 0)
def atB (l : List S36) (key : ByteArray) : Nat := bsAt (lessB l key) l.length 0 l.length
def isB (l : List S36) (key : ByteArray) : Bool := decide (atB l key < l.length) && decide (cmpB l key (atB l key) = 0)
def placeB (l : List S36) (key : ByteArray) : Int := if isB l key then (atB l key : Int) else max 0 ((atB l key : Int) - 1)

theorem cmpB40 (l : List S36) (key : ByteArray) (h : Nat) (w : World) :
    Calls Try.prog 40 #[.agg #[.string (rd_T36 l (h : Int)).f0, .int .i64 (rd_T36 l (h : Int)).f1], .string key] w fun e w' => e = .returned (.int .i64 (cmpB l key h)) ∧ Below w.heap.size w w' :=
  cmp40 _ _ _ _

set_option maxHeartbeats 2000000 in
set_option maxRecDepth 100000 in
theorem search39 (A0 : Option Addr) (c0 : Nat) (l0 : List S36) (key : ByteArray) (w : World) (hr0 : Kd.C k36 w A0 l0.length l0) (hc0 : l0.length ≤ c0) (hlen : l0.length ≤ 1000000000000) :
    Calls Try.prog 39 #[.slice A0 l0.length c0, .string key, .func (.func 40) #[] #[]] w fun e w' => e = .returned (.tuple #[.int .i64 (atB l0 key), .bool (isB l0 key)]) ∧ Below w.heap.size w w' := by
  have hu36 := Try.underlying36
  have hm : l0.length ≤ 9223372036854775807 := hr0.2.1
  have HR := Aside0.mk hr0
  clear hr0
  have HB := Aside0.mk (Below.refl w.heap.size w)
  go_enter Try.func39, Try.ntmps39
  go_wp2
  go_loopw [9, 10] (fun v9 v10 w' => ∃ i j : Nat, v9 = .int .i64 i ∧ v10 = .int .i64 j ∧ i ≤ j ∧ j ≤ l0.length ∧ Aside0 (bsAt (lessB l0 key) (j - i) i j = atB l0 key) ∧ Aside0 (Below w.heap.size w w')) (fun v9 v10 _ => (intOf v10 - intOf v9).toNat)
  case atStart => exact ⟨0, l0.length, rfl, rfl, Nat.zero_le _, Nat.le_refl _, ⟨rfl⟩, ⟨HB.out⟩⟩
  case round =>
    obtain ⟨i, j, rfl, rfl, hij, hj, HG, HB⟩ := hrel
    have hle : i + j ≤ 2000000000000 := by omega
    by_cases hlt : i < j
    · have h1 : 0 ≤ (((i + j) / 2 : Nat) : Int) := by omega
      have h2 : (((i + j) / 2 : Nat) : Int) < (l0.length : Int) := by omega
      obtain ⟨ad, e, hx0, hx1⟩ := at_T36 HR.out _ h1 h2
      cases e
      replace hx0 := (HB.out.cell (World.block_lt_of_cell? w _ hx0)).trans hx0
      replace hx1 := (HB.out.cell (World.block_lt_of_cell? w _ hx1)).trans hx1
      simp only [Int.toNat_natCast] at hx0 hx1
      have hs := bsAt_step (lessB l0 key) i j hlt
      rw [HG.out] at hs
      have HS := Aside0.mk hs
      clear hs HG
      by_cases hq : cmpB l0 key ((i + j) / 2) < 0
      · have hl : lessB l0 key ((i + j) / 2) = true := decide_eq_true hq
        rw [hl, if_pos rfl] at HS
        have HL := Aside0.mk hl
        clear hl
        have hd : decide (cmpB l0 key ((i + j) / 2) < 0) = true := decide_eq_true hq
        go_wp2_with (go_at_call 40; refine (cmpB40 l0 key ((i + j) / 2) _).mono ?_; rintro e w1 ⟨rfl, hb⟩; replace HB := Aside0.mk (below_step HB.out hb); clear hb)
        go_roundw
        case rel => exact ⟨(i + j) / 2 + 1, j, by go_num, rfl, by omega, hj, ⟨HS.out.symm⟩, ⟨HB.out⟩⟩
        case measure => simp [intOf]; omega
      · have hl : lessB l0 key ((i + j) / 2) = false := decide_eq_false hq
        rw [hl, if_neg (by decide)] at HS
        have HL := Aside0.mk hl
        clear hl
        have hd : decide (cmpB l0 key ((i + j) / 2) < 0) = false := decide_eq_false hq
        go_wp2_with (go_at_call 40; refine (cmpB40 l0 key ((i + j) / 2) _).mono ?_; rintro e w1 ⟨rfl, hb⟩; replace HB := Aside0.mk (below_step HB.out hb); clear hb)
        go_roundw
        case rel => exact ⟨i, (i + j) / 2, rfl, by go_num, by omega, by omega, ⟨HS.out.symm⟩, ⟨HB.out⟩⟩
        case measure => simp [intOf]; omega
    · have hi : atB l0 key = i := HG.out.symm.trans (bsAt_done _ _ _ _ hlt)
      by_cases hn : i < l0.length
      · have h1 : 0 ≤ ((i : Nat) : Int) := by omega
        have h2 : ((i : Nat) : Int) < (l0.length : Int) := by omega
        obtain ⟨ad, e, hx0, hx1⟩ := at_T36 HR.out _ h1 h2
        cases e
        replace hx0 := (HB.out.cell (World.block_lt_of_cell? w _ hx0)).trans hx0
        replace hx1 := (HB.out.cell (World.block_lt_of_cell? w _ hx1)).trans hx1
        simp only [Int.toNat_natCast] at hx0 hx1
        have HI := Aside0.mk hi
        clear hi HG
        go_wp2_with (go_at_call 40; refine (cmpB40 l0 key i _).mono ?_; rintro e w1 ⟨rfl, hb⟩; replace HB := Aside0.mk (below_step HB.out hb); clear hb)
        go_ret2
        refine ⟨?_, HB.out⟩
        have e2 : isB l0 key = (cmpB l0 key i == 0) := by
          unfold isB
          rw [HI.out, decide_eq_true hn, Bool.true_and]
          by_cases hz : cmpB l0 key i = 0 <;> simp [hz]
        rw [HI.out, e2]
        rfl
      · have HI := Aside0.mk hi
        clear hi HG
        go_wp2
        go_ret2
        refine ⟨?_, HB.out⟩
        have e2 : isB l0 key = false := by
          unfold isB
          rw [HI.out, decide_eq_false hn, Bool.false_and]
        rw [HI.out, e2]
        rfl

/-- leaf.Place: function 14 (by hand: it hands a function to the library's binary search). -/
def leaf_Place.f (l0 : List (S36)) (a1 : ByteArray) : Option (Int) := if l0.length ≤ 1000000000000 then some (placeB l0 a1) else none
set_option maxHeartbeats 2000000 in
set_option maxRecDepth 100000 in
theorem leaf_Place.calls (A0 : Option Addr) (c0 : Nat) (l0 : List (S36)) (a1 : ByteArray) (r : Int) (w : World) (hr0 : Kd.C k36 w A0 l0.length l0) (hc0 : l0.length ≤ c0) (h : leaf_Place.f l0 a1 = some r) :
    Calls Try.prog 14 #[.slice A0 l0.length c0, .string a1] w fun e w' => e = .returned (.int .i64 r) ∧ Below w.heap.size w w' := by
  unfold leaf_Place.f at h
  by_cases hl : l0.length ≤ 1000000000000
  · rw [if_pos hl] at h
    obtain rfl := Option.some.inj h
    have hb := bsAt_range (lessB l0 a1) l0.length 0 l0.length (Nat.zero_le _) (by omega)
    have h9 : atB l0 a1 ≤ l0.length := hb.2
    have hu36 := Try.underlying36
    have HR := Aside0.mk hr0
    clear hr0 hb h
    have HP := Aside0.mk (show placeB l0 a1 = if isB l0 a1 then (atB l0 a1 : Int) else max 0 ((atB l0 a1 : Int) - 1) from rfl)
    cases hi : isB l0 a1 with
    | true =>
      have HI := Aside0.mk hi
      clear hi
      go_enter Try.func14, Try.ntmps14
      go_wp2_with (go_at_call 39; refine (search39 _ _ _ _ _ HR.out hc0 hl).mono ?_; rw [HI.out]; rintro e w1 ⟨rfl, hb⟩)
      all_goals
        go_ret
        refine ⟨?_, by assumption⟩
        rw [HP.out, HI.out, if_pos rfl]
        first | rfl | (exact congrArg (fun z => Ending.returned (Value.int IntKind.i64 z)) (by omega))
    | false =>
      have HI := Aside0.mk hi
      clear hi
      go_enter Try.func14, Try.ntmps14
      go_wp2_with (go_at_call 39; refine (search39 _ _ _ _ _ HR.out hc0 hl).mono ?_; rw [HI.out]; rintro e w1 ⟨rfl, hb⟩)
      all_goals
        go_ret
        refine ⟨?_, by assumption⟩
        rw [HP.out, HI.out, if_neg (by decide)]
        first | rfl | (exact congrArg (fun z => Ending.returned (Value.int IntKind.i64 z)) (by omega))
  · rw [if_neg hl] at h
    cases h
end Go.Proofs.Ytfbaejhjppikpaa.P
