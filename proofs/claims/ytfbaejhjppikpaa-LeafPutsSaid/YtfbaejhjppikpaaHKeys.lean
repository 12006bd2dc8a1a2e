import Derived.Test.YtfbaejhjppikpaaHBs
import Derived.IntWalk
import Derived.Outline
import Derived.Test.YtfbaejhjppikpaaPx0
import Derived.WalkSpells
import Derived.Lib.SliceRun
import Derived.Laws.CopyRow
import Derived.Laws.CopyOwn
import Derived.Shelf.Spec.SlicesInsertGrow
import Derived.Deep.RegionLaw
import Derived.Lib.LazyBuf
namespace Go.Proofs.Ytfbaejhjppikpaa.P
open Go.RowKit Go.Proofs.YtfbaejhjppikpaaW.PrintWords Go.Proofs.YtfbaejhjppikpaaW.PrintLast Go.Proofs.YtfbaejhjppikpaaW.PrintMore
set_option linter.unusedVariables false
set_option linter.unusedSimpArgs false

/-- How the entry at place h stands to the key. -/
def cmpE (l : List S47) (key : ByteArray) (h : Nat) : Int := Lib.compareBytes (rd_T47 l (h : Int)).f0.data.toList key.data.toList
def lessE (l : List S47) (key : ByteArray) (h : Nat) : Bool := decide (cmpE l key h < 0)
def atE (l : List S47) (key : ByteArray) : Nat := bsAt (lessE l key) l.length 0 l.length
def isE (l : List S47) (key : ByteArray) : Bool := decide (atE l key < l.length) && decide (cmpE l key (atE l key) = 0)

set_option maxHeartbeats 1000000 in
theorem cmp58 (a : ByteArray) (p : ByteArray) (b : ByteArray) (w : World) :
    Calls Try.prog 58 #[.agg #[.string a, .string p], .string b] w fun e w' => e = .returned (.int .i64 (Lib.compareBytes a.data.toList b.data.toList)) ∧ Below w.heap.size w w' := by
  have hu47 := Try.underlying47
  go_enter Try.func58, Try.ntmps58
  go_wp2_with (go_at_call 41; refine (Compare41 _ _ _).mono ?_; rintro e w' ⟨rfl, rfl⟩)
  go_ret
  exact ⟨rfl, (Below.refl _ _).alloc (Nat.le_refl _) _⟩
theorem cmpE58 (l : List S47) (key : ByteArray) (h : Nat) (w : World) :
    Calls Try.prog 58 #[.agg #[.string (rd_T47 l (h : Int)).f0, .string (rd_T47 l (h : Int)).f1], .string key] w fun e w' => e = .returned (.int .i64 (cmpE l key h)) ∧ Below w.heap.size w w' :=
  cmp58 _ _ _ _

set_option maxHeartbeats 2000000 in
set_option maxRecDepth 100000 in
theorem search57 (A0 : Option Addr) (c0 : Nat) (l0 : List S47) (key : ByteArray) (w : World) (hr0 : Kd.C k47 w A0 l0.length l0) (hc0 : l0.length ≤ c0) (hlen : l0.length ≤ 1000000000000) :
    Calls Try.prog 57 #[.slice A0 l0.length c0, .string key, .func (.func 58) #[] #[]] w fun e w' => e = .returned (.tuple #[.int .i64 (atE l0 key), .bool (isE l0 key)]) ∧ Below w.heap.size w w' := by
  have hu47 := Try.underlying47
  have hm : l0.length ≤ 9223372036854775807 := hr0.2.1
  have HR := Aside0.mk hr0
  clear hr0
  have HB := Aside0.mk (Below.refl w.heap.size w)
  go_enter Try.func57, Try.ntmps57
  go_wp2
  go_loopw [9, 10] (fun v9 v10 w' => ∃ i j : Nat, v9 = .int .i64 i ∧ v10 = .int .i64 j ∧ i ≤ j ∧ j ≤ l0.length ∧ Aside0 (bsAt (lessE l0 key) (j - i) i j = atE l0 key) ∧ Aside0 (Below w.heap.size w w')) (fun v9 v10 _ => (intOf v10 - intOf v9).toNat)
  case atStart => exact ⟨0, l0.length, rfl, rfl, Nat.zero_le _, Nat.le_refl _, ⟨rfl⟩, ⟨HB.out⟩⟩
  case round =>
    obtain ⟨i, j, rfl, rfl, hij, hj, HG, HB⟩ := hrel
    have hle : i + j ≤ 2000000000000 := by omega
    by_cases hlt : i < j
    · have h1 : 0 ≤ (((i + j) / 2 : Nat) : Int) := by omega
      have h2 : (((i + j) / 2 : Nat) : Int) < (l0.length : Int) := by omega
      obtain ⟨ad, e, hx0, hx1⟩ := at_T47 HR.out _ h1 h2
      cases e
      replace hx0 := (HB.out.cell (World.block_lt_of_cell? w _ hx0)).trans hx0
      replace hx1 := (HB.out.cell (World.block_lt_of_cell? w _ hx1)).trans hx1
      simp only [Int.toNat_natCast] at hx0 hx1
      have hs := bsAt_step (lessE l0 key) i j hlt
      rw [HG.out] at hs
      have HS := Aside0.mk hs
      clear hs HG
      by_cases hq : cmpE l0 key ((i + j) / 2) < 0
      · have hl : lessE l0 key ((i + j) / 2) = true := decide_eq_true hq
        rw [hl, if_pos rfl] at HS
        have HL := Aside0.mk hl
        clear hl
        have hd : decide (cmpE l0 key ((i + j) / 2) < 0) = true := decide_eq_true hq
        go_wp2_with (go_at_call 58; refine (cmpE58 l0 key ((i + j) / 2) _).mono ?_; rintro e w1 ⟨rfl, hb⟩; replace HB := Aside0.mk (below_step HB.out hb); clear hb)
        go_roundw
        case rel => exact ⟨(i + j) / 2 + 1, j, by go_num, rfl, by omega, hj, ⟨HS.out.symm⟩, ⟨HB.out⟩⟩
        case measure => simp [intOf]; omega
      · have hl : lessE l0 key ((i + j) / 2) = false := decide_eq_false hq
        rw [hl, if_neg (by decide)] at HS
        have HL := Aside0.mk hl
        clear hl
        have hd : decide (cmpE l0 key ((i + j) / 2) < 0) = false := decide_eq_false hq
        go_wp2_with (go_at_call 58; refine (cmpE58 l0 key ((i + j) / 2) _).mono ?_; rintro e w1 ⟨rfl, hb⟩; replace HB := Aside0.mk (below_step HB.out hb); clear hb)
        go_roundw
        case rel => exact ⟨i, (i + j) / 2, rfl, by go_num, by omega, by omega, ⟨HS.out.symm⟩, ⟨HB.out⟩⟩
        case measure => simp [intOf]; omega
    · have hi : atE l0 key = i := HG.out.symm.trans (bsAt_done _ _ _ _ hlt)
      by_cases hn : i < l0.length
      · have h1 : 0 ≤ ((i : Nat) : Int) := by omega
        have h2 : ((i : Nat) : Int) < (l0.length : Int) := by omega
        obtain ⟨ad, e, hx0, hx1⟩ := at_T47 HR.out _ h1 h2
        cases e
        replace hx0 := (HB.out.cell (World.block_lt_of_cell? w _ hx0)).trans hx0
        replace hx1 := (HB.out.cell (World.block_lt_of_cell? w _ hx1)).trans hx1
        simp only [Int.toNat_natCast] at hx0 hx1
        have HI := Aside0.mk hi
        clear hi HG
        go_wp2_with (go_at_call 58; refine (cmpE58 l0 key i _).mono ?_; rintro e w1 ⟨rfl, hb⟩; replace HB := Aside0.mk (below_step HB.out hb); clear hb)
        go_ret2
        refine ⟨?_, HB.out⟩
        have e2 : isE l0 key = (cmpE l0 key i == 0) := by
          unfold isE
          rw [HI.out, decide_eq_true hn, Bool.true_and]
          by_cases hz : cmpE l0 key i = 0 <;> simp [hz]
        rw [HI.out, e2]
        rfl
      · have HI := Aside0.mk hi
        clear hi HG
        go_wp2
        go_ret2
        refine ⟨?_, HB.out⟩
        have e2 : isE l0 key = false := by
          unfold isE
          rw [HI.out, decide_eq_false hn, Bool.false_and]
        rw [HI.out, e2]
        rfl


/-- leaf.search: function 51 (by hand: it hands a function to the library's binary search). -/
def leaf_search.f (l0 : List (S47)) (a1 : ByteArray) : Option (Int × Bool) := if l0.length ≤ 1000000000000 then some ((atE l0 a1 : Int), isE l0 a1) else none
set_option maxHeartbeats 2000000 in
set_option maxRecDepth 100000 in
theorem leaf_search.calls (A0 : Option Addr) (c0 : Nat) (l0 : List (S47)) (a1 : ByteArray) (r1 : Int) (r2 : Bool) (w : World) (hr0 : Kd.C k47 w A0 l0.length l0) (hc0 : l0.length ≤ c0) (h : leaf_search.f l0 a1 = some (r1, r2)) :
    Calls Try.prog 51 #[.slice A0 l0.length c0, .string a1] w fun e w' => e = .returned (.tuple #[.int .i64 r1, .bool r2]) ∧ Below w.heap.size w w' := by
  unfold leaf_search.f at h
  by_cases hl : l0.length ≤ 1000000000000
  · rw [if_pos hl] at h
    simp only [Option.some.injEq, Prod.mk.injEq] at h
    obtain ⟨rfl, rfl⟩ := h
    have hu47 := Try.underlying47
    have HR := Aside0.mk hr0
    clear hr0
    go_enter Try.func51, Try.ntmps51
    go_wp2_with (go_at_call 57; refine (search57 _ _ _ _ _ HR.out hc0 hl).mono ?_; rintro e w1 ⟨rfl, hb⟩)
    go_ret2
    exact ⟨rfl, by assumption⟩
  · rw [if_neg hl] at h
    cases h
end Go.Proofs.Ytfbaejhjppikpaa.P
/- slices.Clone, of entries and of branches (by hand: it asks whether a slice is nil). -/
namespace Go.Proofs.Ytfbaejhjppikpaa.P
open Go.RowKit Go.Proofs.YtfbaejhjppikpaaW.PrintWords Go.Proofs.YtfbaejhjppikpaaW.PrintLast Go.Proofs.YtfbaejhjppikpaaW.PrintMore
set_option linter.unusedVariables false
set_option linter.unusedSimpArgs false

/-- slices.Clone: function 52. -/
def leaf_Entry_52.f (l0 : List (S47)) : Option ((List (S47))) := if l0.length ≤ 1000000000000 then some l0 else none
set_option maxHeartbeats 2000000 in
set_option maxRecDepth 100000 in
theorem leaf_Entry_52.calls (A0 : Option Addr) (c0 : Nat) (l0 : List (S47)) (r : List (S47)) (w : World) (hr0 : Kd.C k47 w A0 l0.length l0) (hc0 : l0.length ≤ c0) (h : leaf_Entry_52.f l0 = some r) :
    Calls Try.prog 52 #[.slice A0 l0.length c0] w fun e w' => ∃ v0_ : Value, e = .returned (v0_) ∧ Kd.R k47 47 w' w.heap.size (fun _ => True) v0_ r ∧ Below w.heap.size w w' := by
  unfold leaf_Entry_52.f at h
  by_cases hl : l0.length ≤ 1000000000000
  case neg => rw [if_neg hl] at h; cases h
  rw [if_pos hl] at h
  obtain rfl := Option.some.inj h
  have q28 : ∀ (w : World) (a : Option Addr) (n c n' c' : Nat), (binOp .eql 28 (.slice a n c) (.slice none n' c')).run Try.prog w = .ok (.bool a.isNone) w := fun w a n c n' c' => Lib.run_eql_slice_nil w _ _ a n c n' c' Try.underlying28
  cases A0 with
  | none =>
    have h0 : l0 = [] := by
      rcases Nat.eq_zero_or_pos l0.length with h0 | h0
      · exact List.eq_nil_of_length_eq_zero h0
      · obtain ⟨ad, h, _⟩ := hr0.2.2 h0
        cases h
    subst h0
    clear hr0 h
    go_enter Try.func52, Try.ntmps52
    go_wp2
    go_ret
    exact ⟨_, rfl, Kd.R_nil _ _ _ _ _, Below.refl _ _⟩
  | some A =>
    have HR := Aside0.mk hr0
    clear hr0 h
    have HB := Aside0.mk ((Below.refl w.heap.size w).alloc (Nat.le_refl _) (.cells #[] 47 (0, 0)))
    go_enter Try.func52, Try.ntmps52
    go_wp2_with (at_builtin; refine Kd.R_append_rows k47 (w0 := w) w.heap.size rfl (.tmp 5) (.tmp 6) 28 47 (.agg #[(.string ⟨#[]⟩), (.string ⟨#[]⟩)]) 32 rfl Try.underlying28 info47 rfl (by decide) (by omega) (.slice (some ⟨w.heap.size, 0, none⟩) 0 0) ([] : List (S47)) l0 _ _ _ (fun _ => True) (fun _ => False) rfl rfl ?aO ?aR (fun _ _ h => h) (fun _ h => h.elim) ?aF ?aB ?aS ?aL ?_)
    case aO => exact ⟨fun _ _ => trivial, [], World.ownsRow_made w #[] 0 (Nat.le_refl _) (Nat.zero_le _) (by simp), ⟨rfl, fun j p hj => by simp at hj⟩⟩
    case aR => exact Kd.C_below HR.out HB.out
    case aF => exact fun _ _ => trivial
    case aB => exact HB.out
    case aS => simp
    case aL => simp; omega
    intro v1 w1 ho hb hg hat
    go_wp2
    go_ret
    exact ⟨_, rfl, by simpa using ho, hb⟩
/-- slices.Clone: function 56. -/
def leaf_Branch_56.f (l0 : List (S36)) : Option ((List (S36))) := if l0.length ≤ 1000000000000 then some l0 else none
set_option maxHeartbeats 2000000 in
set_option maxRecDepth 100000 in
theorem leaf_Branch_56.calls (A0 : Option Addr) (c0 : Nat) (l0 : List (S36)) (r : List (S36)) (w : World) (hr0 : Kd.C k36 w A0 l0.length l0) (hc0 : l0.length ≤ c0) (h : leaf_Branch_56.f l0 = some r) :
    Calls Try.prog 56 #[.slice A0 l0.length c0] w fun e w' => ∃ v0_ : Value, e = .returned (v0_) ∧ Kd.R k36 36 w' w.heap.size (fun _ => True) v0_ r ∧ Below w.heap.size w w' := by
  unfold leaf_Branch_56.f at h
  by_cases hl : l0.length ≤ 1000000000000
  case neg => rw [if_neg hl] at h; cases h
  rw [if_pos hl] at h
  obtain rfl := Option.some.inj h
  have q29 : ∀ (w : World) (a : Option Addr) (n c n' c' : Nat), (binOp .eql 29 (.slice a n c) (.slice none n' c')).run Try.prog w = .ok (.bool a.isNone) w := fun w a n c n' c' => Lib.run_eql_slice_nil w _ _ a n c n' c' Try.underlying29
  cases A0 with
  | none =>
    have h0 : l0 = [] := by
      rcases Nat.eq_zero_or_pos l0.length with h0 | h0
      · exact List.eq_nil_of_length_eq_zero h0
      · obtain ⟨ad, h, _⟩ := hr0.2.2 h0
        cases h
    subst h0
    clear hr0 h
    go_enter Try.func56, Try.ntmps56
    go_wp2
    go_ret
    exact ⟨_, rfl, Kd.R_nil _ _ _ _ _, Below.refl _ _⟩
  | some A =>
    have HR := Aside0.mk hr0
    clear hr0 h
    have HB := Aside0.mk ((Below.refl w.heap.size w).alloc (Nat.le_refl _) (.cells #[] 36 (0, 0)))
    go_enter Try.func56, Try.ntmps56
    go_wp2_with (at_builtin; refine Kd.R_append_rows k36 (w0 := w) w.heap.size rfl (.tmp 5) (.tmp 6) 29 36 (.agg #[(.string ⟨#[]⟩), (.int .i64 0)]) 24 rfl Try.underlying29 info36 rfl (by decide) (by omega) (.slice (some ⟨w.heap.size, 0, none⟩) 0 0) ([] : List (S36)) l0 _ _ _ (fun _ => True) (fun _ => False) rfl rfl ?aO ?aR (fun _ _ h => h) (fun _ h => h.elim) ?aF ?aB ?aS ?aL ?_)
    case aO => exact ⟨fun _ _ => trivial, [], World.ownsRow_made w #[] 0 (Nat.le_refl _) (Nat.zero_le _) (by simp), ⟨rfl, fun j p hj => by simp at hj⟩⟩
    case aR => exact Kd.C_below HR.out HB.out
    case aF => exact fun _ _ => trivial
    case aB => exact HB.out
    case aS => simp
    case aL => simp; omega
    intro v1 w1 ho hb hg hat
    go_wp2
    go_ret
    exact ⟨_, rfl, by simpa using ho, hb⟩
end Go.Proofs.Ytfbaejhjppikpaa.P
/- A row of entries of the call's own, told as its cells. -/
namespace Go.Proofs.Ytfbaejhjppikpaa.P
open Go.RowKit Go.Proofs.YtfbaejhjppikpaaW.PrintWords Go.Proofs.YtfbaejhjppikpaaW.PrintLast Go.Proofs.YtfbaejhjppikpaaW.PrintMore
set_option linter.unusedVariables false
set_option linter.unusedSimpArgs false

def pairE (x : S47) : List Value := [.string x.f0, .string x.f1]
def cellsE (l : List S47) : List Value := l.flatMap pairE
theorem cellsE_len (l : List S47) : (cellsE l).length = l.length * 2 := by
  unfold cellsE
  induction l with
  | nil => rfl
  | cons x l ih => rw [List.flatMap_cons, List.length_append, ih]; simp [pairE]; omega
theorem cellsE_one (l : List S47) : ∀ v ∈ cellsE l, v.oneCell' = true := by
  intro v hv
  obtain ⟨x, _, hx⟩ := List.mem_flatMap.1 hv
  unfold pairE at hx
  rcases List.mem_cons.1 hx with rfl | hx
  · rfl
  · rcases List.mem_cons.1 hx with rfl | hx
    · rfl
    · cases hx
theorem cellsE_take (l : List S47) : ∀ i : Nat, (cellsE l).take (i * 2) = cellsE (l.take i) := by
  induction l with
  | nil => intro i; simp [cellsE]
  | cons x l ih =>
    intro i
    cases i with
    | zero => simp [cellsE]
    | succ i =>
      have := ih i
      simp only [cellsE, List.flatMap_cons, List.take_succ_cons, pairE] at this ⊢
      rw [show (i + 1) * 2 = i * 2 + 1 + 1 from by omega]
      simp only [List.cons_append, List.nil_append, List.take_succ_cons, this]
theorem cellsE_drop (l : List S47) : ∀ i : Nat, (cellsE l).drop (i * 2) = cellsE (l.drop i) := by
  induction l with
  | nil => intro i; simp [cellsE]
  | cons x l ih =>
    intro i
    cases i with
    | zero => simp [cellsE]
    | succ i =>
      have := ih i
      simp only [cellsE, List.flatMap_cons, List.drop_succ_cons, pairE] at this ⊢
      rw [show (i + 1) * 2 = i * 2 + 1 + 1 from by omega]
      simp only [List.cons_append, List.nil_append, List.drop_succ_cons, this]
theorem cellsE_append (l m : List S47) : cellsE (l ++ m) = cellsE l ++ cellsE m := by unfold cellsE; rw [List.flatMap_append]
theorem reps_cells {w : World} {base : Nat} {ok : Nat → Prop} : ∀ (l : List S47) (inner : List Value), Reps (k47.M w base ok) 2 l inner → inner = cellsE l := by
  intro l
  induction l with
  | nil => intro inner h; exact List.eq_nil_of_length_eq_zero (by simpa using h.1)
  | cons x l ih =>
    intro inner h
    have h0 := k47_openM (h.2 0 x rfl)
    have h1 := ih (inner.drop 2) ⟨by rw [List.length_drop, h.1]; simp; omega, fun j p hj => by
      have := h.2 (j + 1) p (by simpa using hj)
      rwa [List.drop_drop, show 2 + j * 2 = (j + 1) * 2 from by omega]⟩
    rw [← List.take_append_drop 2 inner, h1]
    simp only [Nat.zero_mul, List.drop_zero] at h0
    rw [h0]; rfl
theorem cells_reps (w : World) (base : Nat) (ok : Nat → Prop) (l : List S47) : Reps (k47.M w base ok) 2 l (cellsE l) := by
  refine ⟨cellsE_len l, fun j p hj => ?_⟩
  rw [cellsE_drop]
  obtain ⟨hlt, rfl⟩ := List.getElem?_eq_some_iff.1 hj
  rw [List.drop_eq_getElem_cons hlt]
  exact k47_mkM _ _ _ _
abbrev RowE (w : World) (base : Nat) (v : Value) (xs : List S47) : Prop := Kd.R k47 47 w base (fun _ => True) v xs
theorem rowE_own {w : World} {base : Nat} {v : Value} {xs : List S47} (h : RowE w base v xs) : w.ownsRow base 47 2 v xs.length (cellsE xs) := by
  obtain ⟨_, inner, ho, hr⟩ := h
  rw [← reps_cells xs inner hr]; exact ho
theorem own_rowE {w : World} {base n : Nat} {v : Value} {xs : List S47} (hn : xs.length = n) (h : w.ownsRow base 47 2 v n (cellsE xs)) : RowE w base v xs := by
  subst hn
  exact ⟨fun _ _ => trivial, cellsE xs, h, cells_reps _ _ _ _⟩
/-- copy, into a row, whatever the element's size. -/
theorem run_copy_rows {P : Program} (w : World) (dT sT ty elem : TypeId) (sz : Nat) (g o dLen dCap : Nat) (a : Addr) (sLen sCap : Nat) (cur : Array Value) (t : TypeId) (cs : List Value)
    (hu : P.underlying dT = some (.slice elem)) (hs : (P.info? elem).map (·.size) = some sz)
    (hg : w.heap[g]? = some (.cells cur t (0, 0))) (hn : cs.length = Nat.min sLen dLen * sz)
    (hsrc : ∀ j v, cs[j]? = some v → w.cell? (a.add j) = some v) (hfit : o + cs.length ≤ cur.size) (h1 : ∀ v ∈ cs, v.oneCell' = true) :
    (Builtin.copy_ #[dT, sT] ty #[.slice (some ⟨g, o, none⟩) dLen dCap, .slice (some a) sLen sCap]).run P w =
      .ok (goInt (Nat.min sLen dLen)) (w.setRow g (cur.toList.take o ++ cs ++ cur.toList.drop (o + cs.length)).toArray) := by
  have hl := run_loadCells_list (P := P) w a cs hsrc
  have hst := run_storeCells_at P g o t cs 0 cur w hg (by simpa using hfit) h1
  cases hq : P.info? elem with
  | none => simp [hq] at hs
  | some i =>
    have hi : i.size = sz := by simpa [hq] using hs
    simp [Builtin.copy_, run_underlying hu, Builtin.lenOf, Builtin.firstCells, sizeOf, typeInfo, hq, hi, ← hn, hl, hst]
/-- The two copies of an insertion: what the row holds then. -/
theorem shift_cells (cur : List Value) (C x : List Value) (n i c : Nat) (hc : cur.length = c * 2) (hn : n + 1 ≤ c) (hi : i ≤ n) (hC : cur.take (n * 2) = C) (hx : x.length = 2) :
    let cur1 := cur.take ((i + 1) * 2) ++ C.drop (i * 2) ++ cur.drop ((i + 1) * 2 + (C.drop (i * 2)).length)
    let cur2 := cur1.take (i * 2) ++ x ++ cur1.drop (i * 2 + x.length)
    cur1.length = c * 2 ∧ cur2.length = c * 2 ∧ cur2.take ((n + 1) * 2) = C.take (i * 2) ++ x ++ C.drop (i * 2) := by
  have hl : C.length = n * 2 := by rw [← hC, List.length_take]; omega
  have hd : (C.drop (i * 2)).length = n * 2 - i * 2 := by rw [List.length_drop, hl]
  intro cur1 cur2
  have h1 : cur1.length = c * 2 := by simp only [cur1, List.length_append, List.length_take, List.length_drop, hc, hl]; omega
  have h2 : cur2.length = c * 2 := by simp only [cur2, List.length_append, List.length_take, List.length_drop, h1, hx]; omega
  refine ⟨h1, h2, ?_⟩
  have e1 : cur1.take (i * 2) = C.take (i * 2) := by
    simp only [cur1]
    rw [List.append_assoc, List.take_append_of_le_length (by rw [List.length_take]; omega), List.take_take, ← hC, List.take_take]
    congr 1
    omega
  have e2 : cur1.drop (i * 2 + x.length) = C.drop (i * 2) ++ cur.drop ((i + 1) * 2 + (C.drop (i * 2)).length) := by
    simp only [cur1]
    rw [List.append_assoc, List.drop_append_of_le_length (by rw [List.length_take]; omega), List.drop_of_length_le (by rw [List.length_take]; omega), List.nil_append]
  simp only [cur2]
  rw [e1, e2, ← List.append_assoc]
  refine (List.take_append_of_le_length (by simp only [List.length_append, List.length_take, hl, hd, hx]; omega)).trans ?_
  exact List.take_of_length_le (by simp only [List.length_append, List.length_take, hl, hd, hx]; omega)
end Go.Proofs.Ytfbaejhjppikpaa.P
/- slices.Insert, of one entry (by hand: it asks whether slices overlap). -/
namespace Go.Proofs.Ytfbaejhjppikpaa.P
open Go.RowKit Go.Proofs.YtfbaejhjppikpaaW.PrintWords Go.Proofs.YtfbaejhjppikpaaW.PrintLast Go.Proofs.YtfbaejhjppikpaaW.PrintMore
set_option linter.unusedVariables false
set_option linter.unusedSimpArgs false

set_option maxHeartbeats 4000000 in
set_option maxRecDepth 100000 in
/-- There is room, and it is not the end: in place. -/
theorem insert_shift (b n c i g : Nat) (cur : Array Value) (C : List Value) (x : S47) (w : World) (hi : i < n) (hn : n + 1 ≤ c) (hc63 : c ≤ 9223372036854775807) (hgb : g ≠ b)
    (hb : w.heap[b]? = some (.cells cur 47 (0, 0))) (hcur : cur.size = c * 2) (hC : cur.toList.take (n * 2) = C) (hg : w.heap[g]? = some (.cells (pairE x).toArray 47 (0, 0))) (h1C : ∀ v ∈ C, v.oneCell' = true) :
    Calls Try.prog 53 #[.slice (some ⟨b, 0, none⟩) n c, .int .i64 i, .slice (some ⟨g, 0, none⟩) 1 1] w fun e w' =>
      e = .returned (.slice (some ⟨b, 0, none⟩) (n + 1) c) ∧ ∃ cur1 cur2 : Array Value, w' = (w.drew.setRow b cur1).setRow b cur2 ∧ cur2.size = c * 2 ∧ cur2.toList.take ((n + 1) * 2) = C.take (i * 2) ++ pairE x ++ C.drop (i * 2) := by
  obtain ⟨k1, k2, k3⟩ := shift_cells cur.toList C (pairE x) n i c (by rw [Array.length_toList]; exact hcur) hn (by omega) hC rfl
  have hl : C.length = n * 2 := by rw [← hC, List.length_take, Array.length_toList]; omega
  have hd : (C.drop (i * 2)).length = n * 2 - i * 2 := by rw [List.length_drop, hl]
  obtain ⟨cur1, hcur1⟩ : ∃ cur1 : Array Value, cur1 = (cur.toList.take ((i + 1) * 2) ++ C.drop (i * 2) ++ cur.toList.drop ((i + 1) * 2 + (C.drop (i * 2)).length)).toArray := ⟨_, rfl⟩
  obtain ⟨cur2, hcur2⟩ : ∃ cur2 : Array Value, cur2 = (cur1.toList.take (i * 2) ++ pairE x ++ cur1.toList.drop (i * 2 + (pairE x).length)).toArray := ⟨_, rfl⟩
  have hs : (Try.prog.info? 47).map (·.size) = some 2 := by have := info47; revert this; cases Try.prog.info? 47 with
    | none => intro h; cases h
    | some q => intro h; simp at h ⊢; exact h.2.1
  have hov : ∀ lb cb, (callFunc 59 #[.slice (some ⟨g, 0, none⟩) 1 1, .slice (some ⟨b, (i + 1) * 2, none⟩) lb cb]).run Try.prog w = .ok (.value (.bool false)) w := fun lb cb => by
    rw [run_callFunc_extern Try.func59 (by kernel_rfl) (by kernel_rfl) (by kernel_rfl) (e := Extern.SlicesOverlaps.overlaps #[28, 28] #[4]) (by kernel_rfl),
      Lib.run_overlaps_apart w 28 4 47 Try.underlying28 2 (fun w => Try.sizeOf47 w) ⟨g, 0, none⟩ ⟨b, (i + 1) * 2, none⟩ 1 1 lb cb hgb 47 47 2 (c * 2) (by simp [World.shape?, hg, pairE]) (by simp [World.shape?, hb, hcur]) (by omega) (by simp [World.frozen?, hg]) (by simp [World.frozen?, hg])]
    rfl
  have hcp1 : ∀ ty dc sc, (Builtin.copy_ #[28, 28] ty #[.slice (some ⟨b, (i + 1) * 2, none⟩) (n - i) dc, .slice (some ⟨b, i * 2, none⟩) (n + 1 - i) sc]).run Try.prog w.drew = .ok (goInt (Nat.min (n + 1 - i) (n - i))) (w.drew.setRow b cur1) := fun ty dc sc => by
    rw [hcur1]
    refine run_copy_rows w.drew 28 28 ty 47 2 b ((i + 1) * 2) (n - i) dc ⟨b, i * 2, none⟩ (n + 1 - i) sc cur 47 (C.drop (i * 2)) Try.underlying28 hs hb ?_ ?_ ?_ (fun v hv => h1C v (List.mem_of_mem_drop hv))
    · rw [hd]; simp only [Nat.min_def]; split <;> omega
    · intro j v hj
      rw [List.getElem?_drop, ← hC, List.getElem?_take] at hj
      split at hj
      · rw [Addr.add_lit, blk_cell (w := w.drew) hb]; rw [← hj, Array.getElem?_toList]
      · cases hj
    · rw [hd, hcur]; omega
  have hb1 : (w.drew.setRow b cur1).heap[b]? = some (.cells cur1 47 (0, 0)) := setRow_heap w.drew b cur cur1 47 (0, 0) hb
  have hg1 : (w.drew.setRow b cur1).heap[g]? = some (.cells (pairE x).toArray 47 (0, 0)) := (setRow_other w.drew b g cur1 hgb).trans hg
  have hcp2 : ∀ ty dc, (Builtin.copy_ #[28, 28] ty #[.slice (some ⟨b, i * 2, none⟩) (n + 1 - i) dc, .slice (some ⟨g, 0, none⟩) 1 1]).run Try.prog (w.drew.setRow b cur1) = .ok (goInt (Nat.min 1 (n + 1 - i))) ((w.drew.setRow b cur1).setRow b cur2) := fun ty dc => by
    rw [hcur2]
    refine run_copy_rows _ 28 28 ty 47 2 b (i * 2) (n + 1 - i) dc ⟨g, 0, none⟩ 1 1 cur1 47 (pairE x) Try.underlying28 hs hb1 ?_ ?_ ?_ (fun v hv => by unfold pairE at hv; rcases List.mem_cons.1 hv with rfl | hv; rfl; rcases List.mem_cons.1 hv with rfl | hv; rfl; cases hv)
    · simp only [Nat.min_def]; split <;> (simp [pairE]; try omega)
    · intro j v hj
      rw [Addr.add_lit, blk_cell hg1, Nat.zero_add, ← hj, List.getElem?_toArray]
    · have : cur1.size = c * 2 := by rw [← Array.length_toList, hcur1]; exact k1
      rw [this]; simp [pairE]; omega
  have hz2 : ¬ ((i : Int) = (n : Int)) := by omega
  have hw1 : IntKind.i64.wrap ((i : Int) + 1) = (i : Int) + 1 := by rw [IntKind.wrap_i64]; omega
  have hw2 : IntKind.i64.wrap ((n : Int) + 1) = (n : Int) + 1 := by rw [IntKind.wrap_i64]; omega
  have htn : ((i : Int) + 1).toNat = i + 1 := by omega
  have htn2 : ((n : Int) + 1).toNat = n + 1 := by omega
  have e2 : cur2.size = c * 2 := by rw [← Array.length_toList, hcur2]; simp only [List.toList_toArray]; rw [hcur1]; exact k2
  have e3 : cur2.toList.take ((n + 1) * 2) = C.take (i * 2) ++ pairE x ++ C.drop (i * 2) := by rw [hcur2, hcur1]; exact k3
  have hle : ¬ ((c : Int) < (n : Int) + 1) := by omega
  have hb2 : ¬ (c = i + 1) := by omega
  have hb4 : ¬ (c = i) := by omega
  have hin : i ≤ n := by omega
  have hin1 : i ≤ n + 1 := by omega
  have hp1 : (0 : Int) ≤ (i : Int) + 1 := by omega
  have hp2 : (i : Int) ≤ (n : Int) + 1 := by omega
  have mixed : Try.prog.follows Departure.mixedOrders = true := by kernel_rfl
  have HX := Aside0.mk (And.intro e2 e3)
  have HC := Aside0.mk hcp1
  have HD := Aside0.mk hcp2
  clear e2 e3 hcp1 hcp2 hcur1 hcur2 k1 k2 k3 hb hg hb1 hg1 hC hcur h1C hl hd
  go_enter Try.func53, Try.ntmps53
  go_wp2_with (simp only [hov])
  go_region_law_o (refine step_copy_runI rfl _ _ 28 28 rfl (.slice (some ⟨b, (i + 1) * 2, none⟩) (n - i) (c - (i + 1))) (.slice (some ⟨b, i * 2, none⟩) (n + 1 - i) (c - i)) (by simp [Act.eval, Act.put]) (by simp [Act.eval, Act.put]) (HC.out 3 (c - (i + 1)) (c - i)) ?_)
  go_wp2_with ((with_reducible refine gate_builtin (b := .copy) (xs := #[.tmp 80, .tmp 81]) rfl ?_); go_must (refine wpList_copy_runI _ rfl _ _ 28 28 rfl (.slice (some ⟨b, i * 2, none⟩) (n + 1 - i) (c - i)) (.slice (some ⟨g, 0, none⟩) 1 1) rfl rfl (HD.out 3 (c - i)) ?_))
  go_ret
  exact ⟨rfl, cur1, cur2, rfl, HX.out⟩
theorem zeroCells_len (z : Array Value) (n : Nat) : (Builtin.zeroCells z n).size = n * z.size := by simp [Builtin.zeroCells]
theorem grow_cells (row : List Value) (C x : List Value) (n i G : Nat) (hr : row.length = G * 2) (hn : n + 1 ≤ G) (hi : i ≤ n) (hl : C.length = n * 2) (hC : row.take (i * 2) = C.take (i * 2)) (hx : x.length = 2) :
    let cur1 := row.take (i * 2) ++ x ++ row.drop (i * 2 + x.length)
    let cur2 := cur1.take ((i + 1) * 2) ++ C.drop (i * 2) ++ cur1.drop ((i + 1) * 2 + (C.drop (i * 2)).length)
    cur1.length = G * 2 ∧ cur2.length = G * 2 ∧ cur2.take ((n + 1) * 2) = C.take (i * 2) ++ x ++ C.drop (i * 2) := by
  have hd : (C.drop (i * 2)).length = n * 2 - i * 2 := by rw [List.length_drop, hl]
  intro cur1 cur2
  have h1 : cur1.length = G * 2 := by simp only [cur1, List.length_append, List.length_take, List.length_drop, hr, hx]; omega
  have h2 : cur2.length = G * 2 := by simp only [cur2, List.length_append, List.length_take, List.length_drop, h1, hl]; omega
  refine ⟨h1, h2, ?_⟩
  have e1 : cur1.take ((i + 1) * 2) = C.take (i * 2) ++ x := by
    simp only [cur1]
    rw [hC]
    refine (List.take_append_of_le_length (by simp only [List.length_append, List.length_take, hl, hx]; omega)).trans ?_
    exact List.take_of_length_le (by simp only [List.length_append, List.length_take, hl, hx]; omega)
  simp only [cur2]
  rw [e1]
  refine (List.take_append_of_le_length (by simp only [List.length_append, List.length_take, hl, hd, hx]; omega)).trans ?_
  exact List.take_of_length_le (by simp only [List.length_append, List.length_take, hl, hd, hx]; omega)

set_option maxHeartbeats 4000000 in
set_option maxRecDepth 100000 in
/-- There is no room, and it is not the end: a new row. -/
theorem insert_grow (b n c i g : Nat) (cur : Array Value) (C : List Value) (x : S47) (w : World) (hi : i < n) (hnc : n ≤ c) (hn : c < n + 1) (hbig : (n + 1) * 32 ≤ 140737488355328)
    (hb : w.heap[b]? = some (.cells cur 47 (0, 0))) (hcur : cur.size = c * 2) (hC : cur.toList.take (n * 2) = C) (hg : w.heap[g]? = some (.cells (pairE x).toArray 47 (0, 0))) (h1C : ∀ v ∈ C, v.oneCell' = true) :
    Calls Try.prog 53 #[.slice (some ⟨b, 0, none⟩) n c, .int .i64 i, .slice (some ⟨g, 0, none⟩) 1 1] w fun e w' =>
      ∃ (G : Nat) (row cur1 cur2 : Array Value), e = .returned (.slice (some ⟨w.heap.size, 0, none⟩) (n + 1) G) ∧ n + 1 ≤ G ∧ G ≤ maxLen ∧ w' = (((w.alloc (.cells row 47 (0, 0))).drew.setRow w.heap.size cur1).drew).setRow w.heap.size cur2 ∧ cur2.size = G * 2 ∧ cur2.toList.take ((n + 1) * 2) = C.take (i * 2) ++ pairE x ++ C.drop (i * 2) := by
  have hl : C.length = n * 2 := by rw [← hC, List.length_take, Array.length_toList]; omega
  have hd : (C.drop (i * 2)).length = n * 2 - i * 2 := by rw [List.length_drop, hl]
  obtain ⟨i0, hi0, hzz⟩ := Option.map_eq_some_iff.1 info47
  simp only [Prod.mk.injEq] at hzz
  obtain ⟨hz0, hzs, hzb⟩ := hzz
  have hs : (Try.prog.info? 47).map (·.size) = some 2 := by rw [hi0]; simp [hzs]
  have hbw : b < w.heap.size := blk_lt hb
  have hgw : g < w.heap.size := blk_lt hg
  have hkk : (n : Int) + 1 - (i : Int) = ((n + 1 - i : Nat) : Int) := by omega
  have hik : i + (n + 1 - i) = n + 1 := by omega
  have hsrcC : ∀ (k : Nat) j v, (C.drop k)[j]? = some v → w.cell? ⟨b, k + j, none⟩ = some v := by
    intro k j v hj
    rw [List.getElem?_drop, ← hC, List.getElem?_take] at hj
    split at hj
    · rw [blk_cell hb, ← hj, Array.getElem?_toList]
    · cases hj
  have hold : (Builtin.firstCells i0.size i (.slice (some ⟨b, 0, none⟩) i c)).run Try.prog w.drew = .ok (C.take (i * 2)).toArray w.drew := by
    rw [hzs]
    refine run_firstCells_some w.drew 2 i ⟨b, 0, none⟩ i c (C.take (i * 2)) (by rw [List.length_take]; omega) (fun j v hj => ?_)
    rw [Addr.add_lit, List.getElem?_take] at *
    split at hj
    · exact hsrcC 0 j v (by simpa using hj)
    · cases hj
  obtain ⟨G, hG⟩ : ∃ G, G = grownCap w (n + 1) c 47 := ⟨_, rfl⟩
  obtain ⟨row, hrow⟩ : ∃ row : Array Value, row = (C.take (i * 2)).toArray ++ Builtin.zeroCells (Value.agg #[(.string ⟨#[]⟩), (.string ⟨#[]⟩)]).cells (n + 1 - i) ++ Builtin.zeroCells (Value.agg #[(.string ⟨#[]⟩), (.string ⟨#[]⟩)]).cells (G - (n + 1)) := ⟨_, rfl⟩
  have hrz : ∀ ty, (Builtin.append_ #[28, 3] ty #[.slice (some ⟨b, 0, none⟩) i c, .int .i64 ((n : Int) + 1 - (i : Int))]).run Try.prog w =
      .ok (.slice (some ⟨w.heap.size, 0, none⟩) (n + 1) G) (w.drew.alloc (.cells row 47)) := fun ty => by
    have h := Lib.run_append_grow_zeros w 28 3 ty 47 i0 _ .i64 .i64 Try.underlying28 Try.underlying3 hi0 hz0 (some ⟨b, 0, none⟩) i c (C.take (i * 2)) hold (n + 1 - i) (by omega) (by rw [hzs]; omega) (by omega) (by omega) (by rw [hzb]; omega) (by rw [hzb, hik]; exact growslice_fits hn hbig)
    rw [hik, ← hG, ← hrow] at h
    rw [hkk]
    exact h
  have hGn : n + 1 ≤ G := by rw [hG]; exact grownCap_ge w _ _ _
  have hGm : G ≤ maxLen := by rw [hG]; exact grownCap_le_maxLen w (n + 1) c 47 (by unfold maxLen; omega)
  have hz2 : (Value.agg #[(.string ⟨#[]⟩), (.string ⟨#[]⟩)]).cells.size = 2 := rfl
  have hrl : row.size = G * 2 := by rw [hrow]; simp only [Array.size_append, zeroCells_len, hz2, List.size_toArray, List.length_take, hl]; omega
  have hrt : row.toList.take (i * 2) = C.take (i * 2) := by
    rw [hrow]
    simp only [Array.toList_append, List.append_assoc]
    rw [List.take_append_of_le_length (by rw [List.length_take]; omega), List.take_take, Nat.min_self]
  obtain ⟨k1, k2, k3⟩ := grow_cells row.toList C (pairE x) n i G (by rw [Array.length_toList]; exact hrl) hGn (by omega) hl hrt rfl
  obtain ⟨cur1, hcur1⟩ : ∃ cur1 : Array Value, cur1 = (row.toList.take (i * 2) ++ pairE x ++ row.toList.drop (i * 2 + (pairE x).length)).toArray := ⟨_, rfl⟩
  obtain ⟨cur2, hcur2⟩ : ∃ cur2 : Array Value, cur2 = (cur1.toList.take ((i + 1) * 2) ++ C.drop (i * 2) ++ cur1.toList.drop ((i + 1) * 2 + (C.drop (i * 2)).length)).toArray := ⟨_, rfl⟩
  have hN : ((w.alloc (.cells row 47 (0, 0))).drew).heap[w.heap.size]? = some (.cells row 47 (0, 0)) := by
    show (w.heap.push (Obj.cells row 47 (0, 0)))[w.heap.size]? = _
    simp
  have hgN : ((w.alloc (.cells row 47 (0, 0))).drew).heap[g]? = some (.cells (pairE x).toArray 47 (0, 0)) := by
    show (w.heap.push (Obj.cells row 47 (0, 0)))[g]? = _
    rw [Array.getElem?_push_lt hgw, ← Array.getElem?_eq_getElem hgw]; exact hg
  have hbN : ((w.alloc (.cells row 47 (0, 0))).drew).heap[b]? = some (.cells cur 47 (0, 0)) := by
    show (w.heap.push (Obj.cells row 47 (0, 0)))[b]? = _
    rw [Array.getElem?_push_lt hbw, ← Array.getElem?_eq_getElem hbw]; exact hb
  have hcpA : ∀ ty dc, (Builtin.copy_ #[28, 28] ty #[.slice (some ⟨w.heap.size, i * 2, none⟩) (n + 1 - i) dc, .slice (some ⟨g, 0, none⟩) 1 1]).run Try.prog ((w.alloc (.cells row 47 (0, 0))).drew) = .ok (goInt (Nat.min 1 (n + 1 - i))) (((w.alloc (.cells row 47 (0, 0))).drew).setRow w.heap.size cur1) := fun ty dc => by
    rw [hcur1]
    refine run_copy_rows _ 28 28 ty 47 2 w.heap.size (i * 2) (n + 1 - i) dc ⟨g, 0, none⟩ 1 1 row 47 (pairE x) Try.underlying28 hs hN ?_ ?_ ?_ (fun v hv => by unfold pairE at hv; rcases List.mem_cons.1 hv with rfl | hv; rfl; rcases List.mem_cons.1 hv with rfl | hv; rfl; cases hv)
    · simp only [Nat.min_def]; split <;> (simp [pairE]; try omega)
    · intro j v hj
      rw [Addr.add_lit, blk_cell hgN, Nat.zero_add, ← hj, List.getElem?_toArray]
    · rw [hrl]; simp [pairE]; omega
  have hN1 : (((w.alloc (.cells row 47 (0, 0))).drew).setRow w.heap.size cur1).drew.heap[w.heap.size]? = some (.cells cur1 47 (0, 0)) := setRow_heap _ _ row cur1 47 (0, 0) hN
  have hbN1 : (((w.alloc (.cells row 47 (0, 0))).drew).setRow w.heap.size cur1).drew.heap[b]? = some (.cells cur 47 (0, 0)) := (setRow_other _ _ b cur1 (Nat.ne_of_lt hbw)).trans hbN
  have hcpB : ∀ ty dc sc, (Builtin.copy_ #[28, 28] ty #[.slice (some ⟨w.heap.size, (i + 1) * 2, none⟩) (n - i) dc, .slice (some ⟨b, i * 2, none⟩) (n - i) sc]).run Try.prog ((((w.alloc (.cells row 47 (0, 0))).drew).setRow w.heap.size cur1).drew) = .ok (goInt (Nat.min (n - i) (n - i))) (((((w.alloc (.cells row 47 (0, 0))).drew).setRow w.heap.size cur1).drew).setRow w.heap.size cur2) := fun ty dc sc => by
    rw [hcur2]
    refine run_copy_rows _ 28 28 ty 47 2 w.heap.size ((i + 1) * 2) (n - i) dc ⟨b, i * 2, none⟩ (n - i) sc cur1 47 (C.drop (i * 2)) Try.underlying28 hs hN1 ?_ ?_ ?_ (fun v hv => h1C v (List.mem_of_mem_drop hv))
    · rw [hd]; simp only [Nat.min_def]; split <;> omega
    · intro j v hj
      rw [Addr.add_lit, blk_cell hbN1]
      have := hsrcC (i * 2) j v hj
      rw [blk_cell hb] at this
      exact this
    · have : cur1.size = G * 2 := by rw [← Array.length_toList, hcur1]; exact k1
      rw [hd, this]; omega
  have hz2 : ¬ ((i : Int) = (n : Int)) := by omega
  have hw1 : IntKind.i64.wrap ((i : Int) + 1) = (i : Int) + 1 := by rw [IntKind.wrap_i64]; omega
  have hw2 : IntKind.i64.wrap ((n : Int) + 1) = (n : Int) + 1 := by rw [IntKind.wrap_i64]; omega
  have hw3 : IntKind.i64.wrap ((n : Int) + 1 - (i : Int)) = (n : Int) + 1 - (i : Int) := by rw [IntKind.wrap_i64]; omega
  have htn : ((i : Int) + 1).toNat = i + 1 := by omega
  have htn2 : ((n : Int) + 1).toNat = n + 1 := by omega
  have e2 : cur2.size = G * 2 := by rw [← Array.length_toList, hcur2]; simp only [List.toList_toArray]; rw [hcur1]; exact k2
  have e3 : cur2.toList.take ((n + 1) * 2) = C.take (i * 2) ++ pairE x ++ C.drop (i * 2) := by rw [hcur2, hcur1]; exact k3
  have hlt : (c : Int) < (n : Int) + 1 := by omega
  have hGi : ¬ (G = i) := by omega
  have hGim : ¬ (G = i + 1) := by omega
  have hci : ¬ (c = i) := by omega
  have hin : i ≤ n := by omega
  have hin1 : i ≤ n + 1 := by omega
  have hp1 : (0 : Int) ≤ (i : Int) + 1 := by omega
  have hp2 : (i : Int) ≤ (n : Int) + 1 := by omega
  have hp3 : (i : Int) ≤ (n : Int) := by omega
  have mixed : Try.prog.follows Departure.mixedOrders = true := by kernel_rfl
  have HX := Aside0.mk (And.intro e2 e3)
  have HZ := Aside0.mk hrz
  have HC := Aside0.mk hcpA
  have HD := Aside0.mk hcpB
  have HG := Aside0.mk (And.intro hGn hGm)
  clear e2 e3 hrz hcpA hcpB hcur1 hcur2 k1 k2 k3 hb hg hC hcur h1C hl hd hi0 hz0 hzs hzb hold hrow hrl hrt hN hgN hbN hN1 hbN1 hsrcC hkk hik hGn hGm hG
  go_enter Try.func53, Try.ntmps53
  go_wp2_with (first | ((with_reducible refine gate_builtin (b := .append) (xs := #[.tmp 34, .tmp 39]) rfl ?_); go_must (refine Lib.wpList_append_run _ rfl _ _ 28 3 rfl (.slice (some ⟨b, 0, none⟩) i c) (.int .i64 ((n : Int) + 1 - (i : Int))) rfl rfl _ _ (HZ.out _) ?_)) | ((with_reducible refine gate_builtin (b := .copy) (xs := #[.tmp 43, .tmp 44]) rfl ?_); go_must (refine wpList_copy_runI _ rfl _ _ 28 28 rfl (.slice (some ⟨w.heap.size, i * 2, none⟩) (n + 1 - i) (G - i)) (.slice (some ⟨g, 0, none⟩) 1 1) rfl rfl (HC.out 3 (G - i)) ?_)))
  go_region_law_o (refine step_copy_runI rfl _ _ 28 28 rfl (.slice (some ⟨w.heap.size, (i + 1) * 2, none⟩) (n - i) (G - (i + 1))) (.slice (some ⟨b, i * 2, none⟩) (n - i) (c - i)) (by simp [Act.eval, Act.put]) (by simp [Act.eval, Act.put]) (HD.out 3 (G - (i + 1)) (c - i)) ?_)
  go_wp2
  go_ret
  exact ⟨G, row, cur1, cur2, rfl, HG.out.1, HG.out.2, rfl, HX.out⟩
theorem pair_reads {w : World} {g : Nat} {x : S47} (hg : w.heap[g]? = some (.cells (pairE x).toArray 47 (0, 0))) : ReadsRow (fun (y : S47) cs => cs = pairE y) 2 w (some ⟨g, 0, none⟩) 1 [x] := by
  refine ⟨rfl, by decide, fun _ => ⟨_, rfl, fun j p hj => ?_⟩⟩
  obtain ⟨hlt, hp⟩ := List.getElem?_eq_some_iff.1 hj
  have h0 : j = 0 := by simpa using hlt
  subst h0
  simp only [List.getElem_cons_zero] at hp
  subst hp
  refine ⟨pairE x, rfl, rfl, fun i u hu => ?_⟩
  rw [Addr.add_lit, blk_cell hg, ← hu, List.getElem?_toArray]
  simp
set_option maxHeartbeats 4000000 in
set_option maxRecDepth 100000 in
/-- At the end: an append. -/
theorem insert_end (v : Value) (xs : List S47) (x : S47) (g : Nat) (w0 w : World) (hlen : xs.length ≤ 1000000000000) (HO : RowE w w0.heap.size v xs) (HB : Below w0.heap.size w0 w) (hg : w.heap[g]? = some (.cells (pairE x).toArray 47 (0, 0))) :
    Calls Try.prog 53 #[v, .int .i64 xs.length, .slice (some ⟨g, 0, none⟩) 1 1] w fun e w' => ∃ v', e = .returned v' ∧ RowE w' w0.heap.size v' (xs ++ [x]) ∧ Below w0.heap.size w0 w' := by
  obtain ⟨A, c, rfl⟩ := own_slice (rowE_own HO)
  have hw0 : (0 : Int) ≤ (xs.length : Int) := by omega
  have HR := Aside0.mk HO
  have HG := Aside0.mk (pair_reads hg)
  have HBB := Aside0.mk HB
  obtain ⟨n, hn⟩ : ∃ n, n = xs.length := ⟨_, rfl⟩
  rw [← hn] at hlen hw0 ⊢
  have HN := Aside0.mk hn
  clear HO hg HB hn
  cases A with
  | none =>
    go_enter Try.func53, Try.ntmps53
    go_wp2_with ((with_reducible refine gate_builtin (b := .append) (xs := #[.tmp 23, .tmp 24]) rfl ?_); go_must (refine Kd.R_append_rows k47 (w0 := w0) w0.heap.size rfl (.tmp 23) (.tmp 24) 28 47 (.agg #[(.string ⟨#[]⟩), (.string ⟨#[]⟩)]) 32 rfl Try.underlying28 info47 rfl (by decide) (by omega) (.slice none n c) xs [x] _ _ _ (fun _ => True) (fun _ => False) rfl rfl ?aO HG.out ?aK (fun _ h => h.elim) ?aF HBB.out HBB.out.size ?aL ?_; (case aO => rw [HN.out]; exact HR.out); (case aK => (rintro y cs rfl; exact k47_mkM _ _ _ _)); (case aF => exact fun _ _ => trivial); (case aL => rw [← HN.out]; omega); intro v1 w1 ho hb hg hat; have HO1 := Aside0.mk ho; have HB1 := Aside0.mk hb; clear ho hb hg hat))
    all_goals (go_ret; exact ⟨_, rfl, HO1.out, HB1.out⟩)
  | some ad =>
    go_enter Try.func53, Try.ntmps53
    go_wp2_with ((with_reducible refine gate_builtin (b := .append) (xs := #[.tmp 23, .tmp 24]) rfl ?_); go_must (refine Kd.R_append_rows k47 (w0 := w0) w0.heap.size rfl (.tmp 23) (.tmp 24) 28 47 (.agg #[(.string ⟨#[]⟩), (.string ⟨#[]⟩)]) 32 rfl Try.underlying28 info47 rfl (by decide) (by omega) (.slice (some ad) n c) xs [x] _ _ _ (fun _ => True) (fun _ => False) rfl rfl ?aO HG.out ?aK (fun _ h => h.elim) ?aF HBB.out HBB.out.size ?aL ?_; (case aO => rw [HN.out]; exact HR.out); (case aK => (rintro y cs rfl; exact k47_mkM _ _ _ _)); (case aF => exact fun _ _ => trivial); (case aL => rw [← HN.out]; omega); intro v1 w1 ho hb hg hat; have HO1 := Aside0.mk ho; have HB1 := Aside0.mk hb; clear ho hb hg hat))
    all_goals (go_ret; exact ⟨_, rfl, HO1.out, HB1.out⟩)
/-- slices.Insert of one entry, whatever the place. -/
theorem insert53 (v : Value) (xs : List S47) (x : S47) (i g : Nat) (w0 w : World) (hi : i ≤ xs.length) (hlen : xs.length ≤ 1000000000000) (HO : RowE w w0.heap.size v xs) (HB : Below w0.heap.size w0 w) (hg : w.heap[g]? = some (.cells (pairE x).toArray 47 (0, 0))) (hgb : some g ≠ v.ownBlock) :
    Calls Try.prog 53 #[v, .int .i64 i, .slice (some ⟨g, 0, none⟩) 1 1] w fun e w' => ∃ v', e = .returned v' ∧ RowE w' w0.heap.size v' (xs.take i ++ x :: xs.drop i) ∧ Below w0.heap.size w0 w' := by
  by_cases he : i = xs.length
  · subst he
    rw [List.take_of_length_le (Nat.le_refl _), List.drop_of_length_le (Nat.le_refl _)]
    exact insert_end v xs x g w0 w hlen HO HB hg
  · have hlt : i < xs.length := by omega
    have hcells : cellsE (xs.take i ++ x :: xs.drop i) = (cellsE xs).take (i * 2) ++ pairE x ++ (cellsE xs).drop (i * 2) := by
      rw [cellsE_take, cellsE_drop, cellsE_append]
      show cellsE (xs.take i) ++ (pairE x ++ cellsE (xs.drop i)) = _
      rw [List.append_assoc]
    have hlen2 : (xs.take i ++ x :: xs.drop i).length = xs.length + 1 := by simp only [List.length_append, List.length_cons, List.length_take, List.length_drop]; omega
    obtain ⟨_, ⟨rfl, h0⟩ | ⟨b, c, cur, rfl, hbb, hb, hnc, hcm, hcs, hct⟩⟩ := rowE_own HO
    · omega
    · by_cases hroom : xs.length + 1 ≤ c
      · refine (insert_shift b xs.length c i g cur (cellsE xs) x w hlt hroom (by unfold maxLen at hcm; omega) (by intro e; exact hgb (by rw [e]; rfl)) hb hcs hct hg (cellsE_one xs)).mono ?_
        rintro e w' ⟨rfl, cur1, cur2, rfl, hs2, ht2⟩
        refine ⟨_, rfl, own_rowE hlen2 ?_, below_setRow (below_setRow HB.drew hbb cur1) hbb cur2⟩
        rw [hcells]
        refine ⟨by rw [← hcells, cellsE_len, hlen2], Or.inr ⟨b, c, cur2, rfl, hbb, setRow_heap _ b cur1 cur2 47 (0, 0) (setRow_heap _ b cur cur1 47 (0, 0) hb), hroom, hcm, hs2, ht2⟩⟩
      · refine (insert_grow b xs.length c i g cur (cellsE xs) x w hlt hnc (by omega) (by omega) hb hcs hct hg (cellsE_one xs)).mono ?_
        rintro e w' ⟨G, row, cur1, cur2, rfl, hG1, hG2, rfl, hs2, ht2⟩
        have hsz : w0.heap.size ≤ w.heap.size := HB.size
        refine ⟨_, rfl, own_rowE hlen2 ?_, below_setRow (below_setRow (HB.alloc hsz _).drew hsz cur1).drew hsz cur2⟩
        rw [hcells]
        refine ⟨by rw [← hcells, cellsE_len, hlen2], Or.inr ⟨w.heap.size, G, cur2, rfl, hsz, setRow_heap _ _ cur1 cur2 47 (0, 0) (setRow_heap _ _ row cur1 47 (0, 0) (blk_new w _)), hG1, hG2, hs2, ht2⟩⟩
end Go.Proofs.Ytfbaejhjppikpaa.P
/- leaf.Put (by hand: Insert, Clone and the search are). -/
namespace Go.Proofs.Ytfbaejhjppikpaa.P
open Go.RowKit Go.Proofs.YtfbaejhjppikpaaW.PrintWords Go.Proofs.YtfbaejhjppikpaaW.PrintLast Go.Proofs.YtfbaejhjppikpaaW.PrintMore
set_option linter.unusedVariables false
set_option linter.unusedSimpArgs false

/-- The row with another value at a place. -/
def withVal (l : List S47) (i : Nat) (val : ByteArray) : List S47 := l.set i ⟨(rd_T47 l (i : Int)).f0, val⟩
/-- Entries with a key that has that. -/
def putE (l : List S47) (key val : ByteArray) : List S47 := if isE l key then withVal l (atE l key) val else l.take (atE l key) ++ ⟨key, val⟩ :: l.drop (atE l key)
theorem atE_le (l : List S47) (key : ByteArray) : atE l key ≤ l.length := (bsAt_range (lessE l key) l.length 0 l.length (Nat.zero_le _) (by omega)).2
theorem isE_lt (l : List S47) (key : ByteArray) (h : isE l key = true) : atE l key < l.length := by
  unfold isE at h
  simp only [Bool.and_eq_true, decide_eq_true_eq] at h
  exact h.1
theorem cellsE_set (l : List S47) (i : Nat) (val : ByteArray) (hi : i < l.length) : (cellsE l).set (i * 2 + 1) (.string val) = cellsE (withVal l i val) := by
  unfold withVal
  have hr : rd_T47 l (i : Int) = l[i] := by unfold rd_T47; simp [List.getD_eq_getElem?_getD, hi]
  rw [hr]
  clear hr
  induction l generalizing i with
  | nil => cases hi
  | cons x l ih =>
    cases i with
    | zero => simp [cellsE, pairE]
    | succ i =>
      have := ih i (by simpa using hi)
      simp only [List.getElem_cons_succ, List.set_cons_succ]
      simp only [cellsE, List.flatMap_cons, pairE] at this ⊢
      rw [show (i + 1) * 2 + 1 = i * 2 + 1 + 1 + 1 from by omega]
      simp only [List.cons_append, List.nil_append, List.set_cons_succ, this]
/-- A store of a value into a row of the call's own. -/
theorem rowE_put {w : World} {base n c b i : Nat} {xs : List S47} (h : RowE w base (.slice (some ⟨b, 0, none⟩) n c) xs) (hi : i < xs.length) (val : ByteArray) : RowE (w.setCell ⟨b, i * 2 + 1, none⟩ (.string val)) base (.slice (some ⟨b, 0, none⟩) n c) (withVal xs i val) ∧ base ≤ b ∧ (∃ old, w.cell? ⟨b, i * 2 + 1, none⟩ = some old) ∧ w.frozen? ⟨b, i * 2 + 1, none⟩ = false := by
  have ho := rowE_own h
  obtain ⟨hcl, ⟨e, _⟩ | ⟨g', cap, cur, e, hbb, hb, hnc, hcm, hcs, hct⟩⟩ := ho
  · simp at e
  simp only [Value.slice.injEq, Option.some.injEq, Addr.mk.injEq, and_true] at e
  obtain ⟨rfl, rfl, rfl⟩ := e
  have hlt : i * 2 + 1 < cur.size := by omega
  refine ⟨own_rowE (by unfold withVal; rw [List.length_set]) ⟨by rw [cellsE_len]; unfold withVal; rw [List.length_set], Or.inr ⟨b, c, cur.setIfInBounds (i * 2 + 1) (.string val), rfl, hbb, blk_put hb _ _ rfl, hnc, hcm, by simp [hcs], ?_⟩⟩, hbb, ⟨_, (blk_cell hb _).trans (Array.getElem?_eq_getElem hlt)⟩, blk_frozen hb _⟩
  rw [Array.toList_setIfInBounds, List.take_set, hct, cellsE_set xs i val hi]
theorem rowE_at {w : World} {base i : Nat} {v : Value} {xs : List S47} (h : RowE w base v xs) (hi : i < xs.length) : ∃ b c, v = .slice (some ⟨b, 0, none⟩) xs.length c ∧ xs.length ≤ c := by
  obtain ⟨hcl, ⟨e, h0⟩ | ⟨g', cap, cur, e, hbb, hb, hnc, hcm, hcs, hct⟩⟩ := rowE_own h
  · omega
  · exact ⟨g', cap, e, hnc⟩
theorem rowE_less {w : World} {b base : Nat} {v : Value} {xs : List S47} (h : RowE w b v xs) (hle : base ≤ b) : RowE w base v xs := own_rowE rfl (own_less (rowE_own h) hle)
theorem rowE_alloc {w : World} {base : Nat} {v : Value} {xs : List S47} (h : RowE w base v xs) (o : Obj) : RowE (w.alloc o) base v xs := own_rowE rfl (own_alloc (rowE_own h) o)
theorem rowE_block {w : World} {base : Nat} {v : Value} {xs : List S47} (h : RowE w base v xs) : some w.heap.size ≠ v.ownBlock := by
  obtain ⟨_, ⟨rfl, _⟩ | ⟨b, c, cur, rfl, _, hb, _⟩⟩ := rowE_own h
  · intro e; cases e
  · intro e
    have := blk_lt hb
    have e2 : w.heap.size = b := Option.some.inj e
    omega
/-- leaf.Put: function 31. -/
def leaf_Put.f (l0 : List (S47)) (a1 : ByteArray) (a2 : ByteArray) : Option ((List (S47))) := if l0.length ≤ 1000000000000 then some (putE l0 a1 a2) else none
set_option maxHeartbeats 4000000 in
set_option maxRecDepth 100000 in
theorem put_is (A0 : Option Addr) (c0 : Nat) (l0 : List (S47)) (a1 : ByteArray) (a2 : ByteArray) (w : World) (hr0 : Kd.C k47 w A0 l0.length l0) (hc0 : l0.length ≤ c0) (hl : l0.length ≤ 1000000000000) (hi : isE l0 a1 = true) :
    Calls Try.prog 31 #[.slice A0 l0.length c0, .string a1, .string a2] w fun e w' => ∃ v0_ : Value, e = .returned (v0_) ∧ Kd.R k47 47 w' w.heap.size (fun _ => True) v0_ (withVal l0 (atE l0 a1) a2) ∧ Below w.heap.size w w' := by
  have hlt := isE_lt l0 a1 hi
  obtain ⟨at_, hat_⟩ : ∃ at_, at_ = atE l0 a1 := ⟨_, rfl⟩
  have hs : leaf_search.f l0 a1 = some ((at_ : Int), true) := by unfold leaf_search.f; rw [if_pos hl, hi, hat_]
  have hcl : leaf_Entry_52.f l0 = some l0 := by unfold leaf_Entry_52.f; rw [if_pos hl]
  rw [← hat_] at hlt ⊢
  have HR := Aside0.mk hr0
  have HS := Aside0.mk hs
  have HC := Aside0.mk hcl
  have h1 : (0 : Int) ≤ (at_ : Int) := by omega
  have h2 : (at_ : Int) < (l0.length : Int) := by omega
  have hu47 := Try.underlying47
  clear hr0 hs hcl hi hat_
  go_enter Try.func31, Try.ntmps31
  go_wp2_with (first | (go_at_call 51; refine (leaf_search.calls _ _ _ _ _ _ _ HR.out hc0 HS.out).mono ?_; rintro e w1 ⟨rfl, hb⟩; have HB := Aside0.mk hb; clear hb) | (go_at_call 52; refine (leaf_Entry_52.calls _ _ _ _ w1 (Kd.C_below HR.out HB.out) hc0 HC.out).mono ?_; rintro e w2 ⟨v1, rfl, ho, hb⟩; obtain ⟨b, c, rfl, hbc⟩ := rowE_at ho hlt; obtain ⟨hp1, hp2, ⟨old, hp3⟩, hp4⟩ := rowE_put ho hlt a2; have HP := Aside0.mk hp1; have HQ := Aside0.mk hp2; have HB2 := Aside0.mk hb; clear hp1 hp2 ho hb))
  go_ret
  exact ⟨_, rfl, rowE_less HP.out HB.out.size, (below_step HB.out HB2.out).setCell (Nat.le_trans HB.out.size HQ.out) _⟩
set_option maxHeartbeats 4000000 in
set_option maxRecDepth 100000 in
theorem put_new (A0 : Option Addr) (c0 : Nat) (l0 : List (S47)) (a1 : ByteArray) (a2 : ByteArray) (w : World) (hr0 : Kd.C k47 w A0 l0.length l0) (hc0 : l0.length ≤ c0) (hl : l0.length ≤ 1000000000000) (hi : isE l0 a1 = false) :
    Calls Try.prog 31 #[.slice A0 l0.length c0, .string a1, .string a2] w fun e w' => ∃ v0_ : Value, e = .returned (v0_) ∧ Kd.R k47 47 w' w.heap.size (fun _ => True) v0_ (l0.take (atE l0 a1) ++ ⟨a1, a2⟩ :: l0.drop (atE l0 a1)) ∧ Below w.heap.size w w' := by
  have hle := atE_le l0 a1
  obtain ⟨at_, hat_⟩ : ∃ at_, at_ = atE l0 a1 := ⟨_, rfl⟩
  have hs : leaf_search.f l0 a1 = some ((at_ : Int), false) := by unfold leaf_search.f; rw [if_pos hl, hi, hat_]
  have hcl : leaf_Entry_52.f l0 = some l0 := by unfold leaf_Entry_52.f; rw [if_pos hl]
  rw [← hat_] at hle ⊢
  have HR := Aside0.mk hr0
  have HS := Aside0.mk hs
  have HC := Aside0.mk hcl
  have hu47 := Try.underlying47
  clear hr0 hs hcl hi hat_
  go_enter Try.func31, Try.ntmps31
  go_wp2_with (first | (go_at_call 51; refine (leaf_search.calls _ _ _ _ _ _ _ HR.out hc0 HS.out).mono ?_; rintro e w1 ⟨rfl, hb⟩; have HB := Aside0.mk hb; clear hb) | (go_at_call 52; refine (leaf_Entry_52.calls _ _ _ _ w1 (Kd.C_below HR.out HB.out) hc0 HC.out).mono ?_; rintro e w2 ⟨v1, rfl, ho, hb⟩; have HO := Aside0.mk (rowE_less ho HB.out.size); have HB2 := Aside0.mk (below_step HB.out hb); clear ho hb) | (go_at_call 53; refine (insert53 v1 l0 ⟨a1, a2⟩ at_ w2.heap.size w _ hle hl (rowE_alloc HO.out _) (HB2.out.alloc HB2.out.size _) (blk_new w2 _) (rowE_block HO.out)).mono ?_; rintro e w3 ⟨v3, rfl, ho, hb⟩; have HO3 := Aside0.mk ho; have HB3 := Aside0.mk hb; clear ho hb))
  go_ret
  exact ⟨_, rfl, HO3.out, HB3.out⟩
set_option maxRecDepth 100000 in
theorem leaf_Put.calls (A0 : Option Addr) (c0 : Nat) (l0 : List (S47)) (a1 : ByteArray) (a2 : ByteArray) (r : List (S47)) (w : World) (hr0 : Kd.C k47 w A0 l0.length l0) (hc0 : l0.length ≤ c0) (h : leaf_Put.f l0 a1 a2 = some r) :
    Calls Try.prog 31 #[.slice A0 l0.length c0, .string a1, .string a2] w fun e w' => ∃ v0_ : Value, e = .returned (v0_) ∧ Kd.R k47 47 w' w.heap.size (fun _ => True) v0_ r ∧ Below w.heap.size w w' := by
  unfold leaf_Put.f at h
  by_cases hl : l0.length ≤ 1000000000000
  · rw [if_pos hl] at h
    obtain rfl := Option.some.inj h
    unfold putE
    cases hi : isE l0 a1 with
    | true => exact put_is A0 c0 l0 a1 a2 w hr0 hc0 hl hi
    | false => exact put_new A0 c0 l0 a1 a2 w hr0 hc0 hl hi
  · rw [if_neg hl] at h
    cases h
end Go.Proofs.Ytfbaejhjppikpaa.P
/- slices.Delete of one entry, and leaf.Del (by hand). -/
namespace Go.Proofs.Ytfbaejhjppikpaa.P
open Go.RowKit Go.Proofs.YtfbaejhjppikpaaW.PrintWords Go.Proofs.YtfbaejhjppikpaaW.PrintLast Go.Proofs.YtfbaejhjppikpaaW.PrintMore
set_option linter.unusedVariables false
set_option linter.unusedSimpArgs false

theorem run_clear_one (w : World) (ty b o c : Nat) (hc : ∀ j, j < 2 → (w.cell? ⟨b, o + j, none⟩).isSome = true) (hf : ∀ j, j < 2 → w.frozen? ⟨b, o + j, none⟩ = false) :
    (Builtin.clear_ #[28] ty #[.slice (some ⟨b, o, none⟩) 1 c]).run Try.prog w = .ok (.tuple #[]) (w.setCells b o [.string ⟨#[]⟩, .string ⟨#[]⟩]) := by
  have hv : ∀ w, (zeroValue 47).run Try.prog w = .ok (.agg #[(.string ⟨#[]⟩), (.string ⟨#[]⟩)]) w := fun w => Try.zeroValue47 w
  have hz : (Builtin.zeroCells (Value.agg #[(.string ⟨#[]⟩), (.string ⟨#[]⟩)]).cells 1).toList = [.string ⟨#[]⟩, .string ⟨#[]⟩] := by simp [Builtin.zeroCells, Value.cells, List.range_succ]
  have hst := run_storeCells_cells (P := Try.prog) b o [.string ⟨#[]⟩, .string ⟨#[]⟩] 0 w (by simpa using hc) (by simpa using hf) (by intro v hv'; simp at hv'; subst hv'; rfl)
  simp only [Nat.add_zero] at hst
  simp [Builtin.clear_, run_underlying Try.underlying28, hv, hz, hst]

set_option maxHeartbeats 4000000 in
set_option maxRecDepth 100000 in
theorem delete_raw (b c i m : Nat) (cur : Array Value) (C : List Value) (w : World) (hnc : i + 1 + m ≤ c) (hc63 : c ≤ 9223372036854775807)
    (hb : w.heap[b]? = some (.cells cur 47 (0, 0))) (hcur : cur.size = c * 2) (hC : cur.toList.take ((i + 1 + m) * 2) = C) (h1C : ∀ v ∈ C, v.oneCell' = true) :
    Calls Try.prog 54 #[.slice (some ⟨b, 0, none⟩) (i + 1 + m) c, .int .i64 i, .int .i64 (i + 1)] w fun e w' =>
      e = .returned (.slice (some ⟨b, 0, none⟩) (i + m) c) ∧ w' = (w.drew.setCells b (i * 2) (C.drop ((i + 1) * 2))).setCells b ((i + m) * 2) [.string ⟨#[]⟩, .string ⟨#[]⟩] := by
  have hl : C.length = (i + 1 + m) * 2 := by rw [← hC, List.length_take, Array.length_toList]; omega
  obtain ⟨news, hnews⟩ : ∃ news, news = C.drop ((i + 1) * 2) := ⟨_, rfl⟩
  have hlen : news.length = m * 2 := by rw [hnews, List.length_drop, hl]; omega
  obtain ⟨i0, hi0, hzz⟩ := Option.map_eq_some_iff.1 info47
  simp only [Prod.mk.injEq] at hzz
  obtain ⟨_, hzs, _⟩ := hzz
  have hcell : ∀ j, j < c * 2 → (w.drew.cell? ⟨b, j, none⟩).isSome = true := fun j hj => by rw [blk_cell (w := w.drew) hb, Array.getElem?_eq_getElem (by omega)]; rfl
  have hfro : ∀ j, w.drew.frozen? ⟨b, j, none⟩ = false := fun j => blk_frozen (w := w.drew) hb j
  have hone : ∀ u ∈ news, u.oneCell' = true := fun u hu => h1C u (by rw [hnews] at hu; exact List.mem_of_mem_drop hu)
  have hsrc : ∀ j u, news[j]? = some u → w.drew.cell? ⟨b, (i + 1) * 2 + j, none⟩ = some u := by
    intro j u hu
    rw [hnews, List.getElem?_drop, ← hC, List.getElem?_take] at hu
    split at hu
    · rw [blk_cell (w := w.drew) hb, ← hu, Array.getElem?_toList]
    · cases hu
  rw [← hnews]
  obtain ⟨W1, hW1⟩ : ∃ W1, W1 = w.drew.setCells b (i * 2) news := ⟨_, rfl⟩
  have hc1 : ∀ j, j < 2 → (W1.cell? ⟨b, (i + m) * 2 + j, none⟩).isSome = true := fun j hj => by
    rw [hW1]; exact World.isSome_setCells b _ _ _ _ (hcell _ (by omega))
  have hf1 : ∀ j, j < 2 → W1.frozen? ⟨b, (i + m) * 2 + j, none⟩ = false := fun j _ => by
    rw [hW1, World.frozen?_setCells]; exact hfro _
  have hcl : ∀ ty c', (Builtin.clear_ #[28] ty #[.slice (some ⟨b, (i + m) * 2, none⟩) 1 c']).run Try.prog W1 = .ok (.tuple #[]) (W1.setCells b ((i + m) * 2) [.string ⟨#[]⟩, .string ⟨#[]⟩]) := fun ty c' => run_clear_one W1 ty b _ c' hc1 hf1
  have hX := Aside0.mk hW1
  have HI := Aside0.mk hi0
  have HZ := Aside0.mk hzs
  have HL := Aside0.mk hlen
  have HO := Aside0.mk hone
  have HSr := Aside0.mk hsrc
  have HCe := Aside0.mk hcell
  have HF := Aside0.mk hfro
  have e1 : (i : Int) ≤ (i : Int) + 1 := by omega
  have e2 : (i : Int) + 1 ≤ ((i + 1 + m : Nat) : Int) := by omega
  have e3 : ¬ ((i : Int) = (i : Int) + 1) := by omega
  have e4 : (0 : Int) ≤ (i : Int) + 1 := by omega
  have e5 : ((i : Int) + 1).toNat = i + 1 := by omega
  have e6 : i ≤ c := by omega
  have e7 : i + 1 + m - (i + m) = 1 := by omega
  have e8 : (i : Int) + 1 ≤ (i : Int) + 1 + (m : Int) := by omega
  have e9 : (i : Int) + (m : Int) ≤ (i : Int) + 1 + (m : Int) := by omega
  have e10 : i + m ≤ i + 1 + m := by omega
  have e11 : ¬ (c = i + m) := by omega
  have e12 : (0 : Int) ≤ (i : Int) + (m : Int) := by omega
  have e13 : ((i : Int) + (m : Int)).toNat = i + m := by omega
  have e14 : (0 : Int) ≤ (i : Int) + 1 + (m : Int) := by omega
  have e15 : ((i : Int) + 1 + (m : Int)).toNat = i + 1 + m := by omega
  have e16 : i + 1 + m ≤ c := hnc
  have mixed : Try.prog.follows Departure.mixedOrders = true := by kernel_rfl
  clear hb hcur hC h1C hl hnews hlen hi0 hzs hcell hfro hone hsrc hc1 hf1 hW1
  by_cases hci : c = i + 1
  · have hm : m = 0 := by omega
    have hnil : news = [] := List.eq_nil_of_length_eq_zero (by rw [HL.out, hm])
    clear hnil
    subst hm
    subst hci
    simp only [Nat.add_zero, Nat.zero_add] at *
    go_enter Try.func54, Try.ntmps54
    go_wp2_with fail
    go_region_law_o (refine step_append_room rfl (.tmp 22) (.tmp 25) 28 rfl 47 i0 2 Try.underlying28 HI.out HZ.out b 0 i (i + 1) (by simp [Act.eval, Act.put]) ⟨b, 0, none⟩ 0 (i + 1 - (i + 1)) news (by simp [Act.eval, Act.put]) HL.out (by rw [show news = [] from List.eq_nil_of_length_eq_zero HL.out]; intro j u hj; simp at hj) HO.out (by omega) ?spare ?_; (case spare => intro j hj; rw [HL.out] at hj; rw [Nat.zero_add]; exact ⟨HCe.out _ (by omega), HF.out _⟩); rw [Nat.zero_add, ← hX.out])
    go_wp2
    go_ret
    exact ⟨rfl, by rw [hX.out]⟩
  · skip
    go_enter Try.func54, Try.ntmps54
    go_wp2_with fail
    go_region_law_o (refine step_append_room rfl (.tmp 22) (.tmp 25) 28 rfl 47 i0 2 Try.underlying28 HI.out HZ.out b 0 i c (by simp [Act.eval, Act.put]) ⟨b, (i + 1) * 2, none⟩ m (c - (i + 1)) news (by simp [Act.eval, Act.put, hci]) HL.out (by intro j u hj; rw [Addr.add_lit]; exact HSr.out j u hj) HO.out (by omega) ?spare ?_; (case spare => intro j hj; rw [HL.out] at hj; rw [Nat.zero_add]; exact ⟨HCe.out _ (by omega), HF.out _⟩); rw [Nat.zero_add, ← hX.out])
    go_wp2
    go_ret
    exact ⟨rfl, by rw [hX.out]⟩
/-- What the cells are behind the deletion. -/
theorem delete_cells (cur C z : List Value) (i m c : Nat) (hc : cur.length = c * 2) (hn : i + 1 + m ≤ c) (hC : cur.take ((i + 1 + m) * 2) = C) (cur1 cur2 : List Value)
    (h1 : cur1 = cur.take (i * 2) ++ C.drop ((i + 1) * 2) ++ cur.drop (i * 2 + (C.drop ((i + 1) * 2)).length)) (h2 : cur2 = cur1.take ((i + m) * 2) ++ z ++ cur1.drop ((i + m) * 2 + z.length)) : cur2.take ((i + m) * 2) = C.take (i * 2) ++ C.drop ((i + 1) * 2) := by
  have hl : C.length = (i + 1 + m) * 2 := by rw [← hC, List.length_take]; omega
  have hd : (C.drop ((i + 1) * 2)).length = m * 2 := by rw [List.length_drop, hl]; omega
  have ht : cur.take (i * 2) = C.take (i * 2) := by
    rw [← hC, List.take_take]; congr 1; omega
  have e1 : cur1.take ((i + m) * 2) = C.take (i * 2) ++ C.drop ((i + 1) * 2) := by
    rw [h1, ht]
    refine (List.take_append_of_le_length (by simp only [List.length_append, List.length_take, hl, hd]; omega)).trans ?_
    exact List.take_of_length_le (by simp only [List.length_append, List.length_take, hl, hd]; omega)
  rw [h2, e1, List.append_assoc]
  refine (List.take_append_of_le_length (by simp only [List.length_append, List.length_take, hl, hd]; omega)).trans ?_
  exact List.take_of_length_le (by simp only [List.length_append, List.length_take, hl, hd]; omega)
/-- slices.Delete of the entry at a place. -/
theorem delete54 (v : Value) (xs : List S47) (i : Nat) (w0 w : World) (hi : i < xs.length) (HO : RowE w w0.heap.size v xs) (HB : Below w0.heap.size w0 w) :
    Calls Try.prog 54 #[v, .int .i64 i, .int .i64 (i + 1)] w fun e w' => ∃ v', e = .returned v' ∧ RowE w' w0.heap.size v' (xs.take i ++ xs.drop (i + 1)) ∧ Below w0.heap.size w0 w' := by
  have hlen2 : (xs.take i ++ xs.drop (i + 1)).length = xs.length - 1 := by simp only [List.length_append, List.length_take, List.length_drop]; omega
  obtain ⟨m, hm⟩ : ∃ m, xs.length = i + 1 + m := ⟨xs.length - (i + 1), by omega⟩
  obtain ⟨_, ⟨rfl, h0⟩ | ⟨b, c, cur, rfl, hbb, hb, hnc, hcm, hcs, hct⟩⟩ := rowE_own HO
  · omega
  · rw [hm] at hnc hct ⊢
    refine (delete_raw b c i m cur (cellsE xs) w hnc (by unfold maxLen at hcm; omega) hb hcs hct (cellsE_one xs)).mono ?_
    rintro e w' ⟨rfl, rfl⟩
    have hcl := cellsE_len xs
    have hd : ((cellsE xs).drop ((i + 1) * 2)).length = m * 2 := by rw [List.length_drop, hcl]; omega
    obtain ⟨cur1, h1, h2, h3⟩ := setCells_row (g := b) (e := 47) ((cellsE xs).drop ((i + 1) * 2)) (i * 2) w.drew cur hb (by rw [hd, hcs]; omega)
    obtain ⟨cur2, k1, k2, k3⟩ := setCells_row (g := b) (e := 47) [.string ⟨#[]⟩, .string ⟨#[]⟩] ((i + m) * 2) (w.drew.setCells b (i * 2) ((cellsE xs).drop ((i + 1) * 2))) cur1 h1 (by rw [h2, hcs]; simp; omega)
    have hfin := delete_cells cur.toList (cellsE xs) _ i m c (by rw [Array.length_toList]; exact hcs) hnc hct cur1.toList cur2.toList h3 k3
    have hcells : cellsE (xs.take i ++ xs.drop (i + 1)) = (cellsE xs).take (i * 2) ++ (cellsE xs).drop ((i + 1) * 2) := by rw [cellsE_take, cellsE_drop, cellsE_append]
    refine ⟨_, rfl, own_rowE (n := i + m) (by omega) ?_, Go.below_setCells hbb _ _ _ (Go.below_setCells hbb _ _ _ HB.drew)⟩
    rw [hcells]
    exact ⟨by rw [← hcells, cellsE_len, hlen2]; omega, Or.inr ⟨b, c, cur2, rfl, hbb, k1, by omega, hcm, by rw [k2, h2, hcs], hfin⟩⟩
/-- Entries without a key. -/
def delE (l : List S47) (key : ByteArray) : List S47 := if isE l key then l.take (atE l key) ++ l.drop (atE l key + 1) else l
/-- leaf.Del: function 32. -/
def leaf_Del.f (l0 : List (S47)) (a1 : ByteArray) : Option ((List (S47)) × Bool) := if l0.length ≤ 1000000000000 then some (delE l0 a1, isE l0 a1) else none
set_option maxHeartbeats 4000000 in
set_option maxRecDepth 100000 in
theorem del_is (A0 : Option Addr) (c0 : Nat) (l0 : List (S47)) (a1 : ByteArray) (w : World) (hr0 : Kd.C k47 w A0 l0.length l0) (hc0 : l0.length ≤ c0) (hl : l0.length ≤ 1000000000000) (hi : isE l0 a1 = true) :
    Calls Try.prog 32 #[.slice A0 l0.length c0, .string a1] w fun e w' => ∃ v0_ : Value, e = .returned (.tuple #[v0_, .bool true]) ∧ Kd.R k47 47 w' w.heap.size (fun _ => True) v0_ (l0.take (atE l0 a1) ++ l0.drop (atE l0 a1 + 1)) ∧ Below w.heap.size w w' := by
  have hlt := isE_lt l0 a1 hi
  obtain ⟨at_, hat_⟩ : ∃ at_, at_ = atE l0 a1 := ⟨_, rfl⟩
  have hs : leaf_search.f l0 a1 = some ((at_ : Int), true) := by unfold leaf_search.f; rw [if_pos hl, hi, hat_]
  have hcl : leaf_Entry_52.f l0 = some l0 := by unfold leaf_Entry_52.f; rw [if_pos hl]
  rw [← hat_] at hlt ⊢
  have HR := Aside0.mk hr0
  have HS := Aside0.mk hs
  have HC := Aside0.mk hcl
  have hw1 : IntKind.i64.wrap ((at_ : Int) + 1) = (at_ : Int) + 1 := by rw [IntKind.wrap_i64]; omega
  clear hr0 hs hcl hi hat_
  go_enter Try.func32, Try.ntmps32
  go_wp2_with (first | (go_at_call 51; refine (leaf_search.calls _ _ _ _ _ _ _ HR.out hc0 HS.out).mono ?_; rintro e w1 ⟨rfl, hb⟩; have HB := Aside0.mk hb; clear hb) | (go_at_call 52; refine (leaf_Entry_52.calls _ _ _ _ w1 (Kd.C_below HR.out HB.out) hc0 HC.out).mono ?_; rintro e w2 ⟨v1, rfl, ho, hb⟩; have HO := Aside0.mk (rowE_less ho HB.out.size); have HB2 := Aside0.mk (below_step HB.out hb); clear ho hb) | (go_at_call 54; refine (delete54 v1 l0 at_ w _ hlt HO.out HB2.out).mono ?_; rintro e w3 ⟨v3, rfl, ho, hb⟩; have HO3 := Aside0.mk ho; have HB3 := Aside0.mk hb; clear ho hb))
  go_ret2
  exact ⟨_, rfl, HO3.out, HB3.out⟩
set_option maxHeartbeats 4000000 in
set_option maxRecDepth 100000 in
theorem del_no (A0 : Option Addr) (c0 : Nat) (l0 : List (S47)) (a1 : ByteArray) (w : World) (hr0 : Kd.C k47 w A0 l0.length l0) (hc0 : l0.length ≤ c0) (hl : l0.length ≤ 1000000000000) (hi : isE l0 a1 = false) :
    Calls Try.prog 32 #[.slice A0 l0.length c0, .string a1] w fun e w' => ∃ v0_ : Value, e = .returned (.tuple #[v0_, .bool false]) ∧ Kd.R k47 47 w' w.heap.size (fun _ => True) v0_ l0 ∧ Below w.heap.size w w' := by
  have hs : leaf_search.f l0 a1 = some ((atE l0 a1 : Int), false) := by unfold leaf_search.f; rw [if_pos hl, hi]
  have hcl : leaf_Entry_52.f l0 = some l0 := by unfold leaf_Entry_52.f; rw [if_pos hl]
  have HR := Aside0.mk hr0
  have HS := Aside0.mk hs
  have HC := Aside0.mk hcl
  clear hr0 hs hcl hi
  go_enter Try.func32, Try.ntmps32
  go_wp2_with (first | (go_at_call 51; refine (leaf_search.calls _ _ _ _ _ _ _ HR.out hc0 HS.out).mono ?_; rintro e w1 ⟨rfl, hb⟩; have HB := Aside0.mk hb; clear hb) | (go_at_call 52; refine (leaf_Entry_52.calls _ _ _ _ w1 (Kd.C_below HR.out HB.out) hc0 HC.out).mono ?_; rintro e w2 ⟨v1, rfl, ho, hb⟩; have HO := Aside0.mk (rowE_less ho HB.out.size); have HB2 := Aside0.mk (below_step HB.out hb); clear ho hb))
  go_ret2
  exact ⟨_, rfl, HO.out, HB2.out⟩
theorem leaf_Del.calls (A0 : Option Addr) (c0 : Nat) (l0 : List (S47)) (a1 : ByteArray) (r1 : List (S47)) (r2 : Bool) (w : World) (hr0 : Kd.C k47 w A0 l0.length l0) (hc0 : l0.length ≤ c0) (h : leaf_Del.f l0 a1 = some (r1, r2)) :
    Calls Try.prog 32 #[.slice A0 l0.length c0, .string a1] w fun e w' => ∃ v0_ : Value, e = .returned (.tuple #[v0_, .bool r2]) ∧ Kd.R k47 47 w' w.heap.size (fun _ => True) v0_ r1 ∧ Below w.heap.size w w' := by
  unfold leaf_Del.f at h
  by_cases hl : l0.length ≤ 1000000000000
  · rw [if_pos hl] at h
    simp only [Option.some.injEq, Prod.mk.injEq] at h
    obtain ⟨rfl, rfl⟩ := h
    unfold delE
    cases hi : isE l0 a1 with
    | true => exact del_is A0 c0 l0 a1 w hr0 hc0 hl hi
    | false => exact del_no A0 c0 l0 a1 w hr0 hc0 hl hi
  · rw [if_neg hl] at h
    cases h
end Go.Proofs.Ytfbaejhjppikpaa.P
