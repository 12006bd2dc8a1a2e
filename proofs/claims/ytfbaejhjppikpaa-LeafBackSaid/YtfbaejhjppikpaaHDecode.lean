import Derived.Test.YtfbaejhjppikpaaHTake
import Derived.Test.YtfbaejhjppikpaaHEncode
import Derived.Laws.EntriesVeiled
import Derived.Deep.RegionLaw
import Derived.Laws.BitsLemmas
namespace Go.Proofs.Ytfbaejhjppikpaa.P
open Go.RowKit Go.Proofs.YtfbaejhjppikpaaW.PrintWords Go.Proofs.YtfbaejhjppikpaaW.PrintLast Go.Proofs.YtfbaejhjppikpaaW.PrintMore
set_option linter.unusedVariables false
set_option linter.unusedSimpArgs false

def headOf (s : ByteArray) : ByteArray := (s.extract 1 s.size).extract 0 (lenOf s)
def restOf (s : ByteArray) : ByteArray := (s.extract 1 s.size).extract (lenOf s) (s.extract 1 s.size).size
/-- A text stands at the begin of s. -/
def hasText (s : ByteArray) : Bool := decide (0 < s.size) && decide (lenOf s ≤ s.size - 1)
def page2 (s : ByteArray) : Int := bt s 0 * 256 + bt s 1
/-- What stands in s, behind what was read: d rounds at most. -/
def decL : Nat → Bool → ByteArray → List S47 → List S36 → Option (List S47 × List S36)
  | 0, _, _, _, _ => none
  | d + 1, a, s, E, B => if s.size = 0 then some (E, B) else
    if hasText s then
      (if a then (if hasText (restOf s) then decL d a (restOf (restOf s)) (E ++ [⟨headOf s, headOf (restOf s)⟩]) B else none)
       else (if 2 ≤ (restOf s).size then decL d a ((restOf s).extract 2 (restOf s).size) E (B ++ [⟨headOf s, page2 (restOf s)⟩]) else none))
    else none
theorem rest_size (s : ByteArray) (h : hasText s = true) : (restOf s).size + 1 ≤ s.size := by
  unfold hasText at h
  simp only [Bool.and_eq_true, decide_eq_true_eq] at h
  unfold restOf
  rw [ByteArray.size_extract, ByteArray.size_extract]; omega
theorem decL_end (d : Nat) (a : Bool) (s : ByteArray) (E : List S47) (B : List S36) (h : s.size = 0) (hd : s.size < d) : decL d a s E B = some (E, B) := by
  obtain ⟨d, rfl⟩ : ∃ q, d = q + 1 := ⟨d - 1, by omega⟩
  simp only [decL, if_pos h]

theorem not_empty (s : ByteArray) (h : 0 < s.size) : s.toList.isEmpty = false := by
  rw [ByteArray.toList_eq, Bool.eq_false_iff]
  intro h2
  have h3 : s.data.toList.length = 0 := by rw [List.isEmpty_iff.1 h2]; rfl
  rw [data_length] at h3
  omega
theorem is_empty (s : ByteArray) (h : s.size = 0) : s.toList.isEmpty = true := by
  rw [ByteArray.toList_eq, List.isEmpty_iff]
  exact List.eq_nil_of_length_eq_zero (by rw [data_length]; exact h)
/-- Where the loop stands: what is left of s; the entries, the branches, so far. -/
def DecRel (a : Bool) (w : World) (R : Option (List S47 × List S36)) (kq : Nat) (wr : World) : Prop :=
  ∃ (s : ByteArray) (E : List S47) (B : List S36) (vE vB : Value), Aside0 (decL kq a s E B = R) ∧ Aside0 (s.size < kq) ∧ Aside0 (s.size ≤ 254) ∧ Aside0 (E.length + B.length + s.size ≤ 254) ∧
    Aside0 (wr.heap[w.heap.size]? = some (.cells #[.string s] 9 (0, 0))) ∧ Aside0 (wr.heap[w.heap.size + 1]? = some (.cells #[.bool false, .slice none 0 0, .slice none 0 0] 31 (0, 0))) ∧ Aside0 (wr.heap[w.heap.size + 1 + 1]? = some (.cells #[.bool a, vE, vB] 31 (0, 0))) ∧
    Aside0 (wr.heap[w.heap.size + 1 + 1 + 1]? = some (.cells #[.func (.func 43) #[] #[.pointer (some ⟨w.heap.size, 0, none⟩)]] 85 (0, 0))) ∧
    Aside0 (Kd.R k47 47 wr w.heap.size (fun _ => True) vE E) ∧ Aside0 (Kd.R k36 36 wr w.heap.size (fun _ => True) vB B) ∧ Aside0 (Below w.heap.size w wr)

theorem blks4 (w : World) (o0 o1 o2 o3 : Obj) : ((((w.alloc o0).alloc o1).alloc o2).alloc o3).heap[w.heap.size]? = some o0 ∧ ((((w.alloc o0).alloc o1).alloc o2).alloc o3).heap[w.heap.size + 1]? = some o1 ∧ ((((w.alloc o0).alloc o1).alloc o2).alloc o3).heap[w.heap.size + 1 + 1]? = some o2 ∧ ((((w.alloc o0).alloc o1).alloc o2).alloc o3).heap[w.heap.size + 1 + 1 + 1]? = some o3 := by
  have e1 : (w.alloc o0).heap.size = w.heap.size + 1 := World.size_alloc _ _
  have e2 : ((w.alloc o0).alloc o1).heap.size = w.heap.size + 1 + 1 := by rw [World.size_alloc, e1]
  have e3 : (((w.alloc o0).alloc o1).alloc o2).heap.size = w.heap.size + 1 + 1 + 1 := by rw [World.size_alloc, e2]
  refine ⟨blk_alloc (blk_alloc (blk_alloc (blk_new w o0) o1) o2) o3, ?_, ?_, ?_⟩
  · rw [← e1]; exact blk_alloc (blk_alloc (blk_new (w.alloc o0) o1) o2) o3
  · rw [← e2]; exact blk_alloc (blk_new ((w.alloc o0).alloc o1) o2) o3
  · rw [← e3]; exact blk_new (((w.alloc o0).alloc o1).alloc o2) o3
theorem grown_S {w w1 : World} {S g t : Nat} {c : Array Value} (hg : w.grownBy w1 (some S)) (hb : w.heap[g]? = some (.cells c t (0, 0))) (hne : g ≠ S) : w1.heap[g]? = some (.cells c t (0, 0)) :=
  (hg.block g (blk_lt hb) (fun e => hne (by injection e))).trans hb
theorem rowS {α : Type} {d : Kd α} {e S base : Nat} {w w1 : World} {ok : Nat → Prop} {v : Value} {xs : List α} {c : Array Value} {t : Nat} (h : d.R e w base ok v xs) (hb : w.heap[S]? = some (.cells c t (0, 0))) (ht : ∀ q, q ∈ e :: d.E → q ≠ t) (hg : w.grownBy w1 (some S)) : d.R e w1 base ok v xs :=
  Kd.R_mono (Kd.R_grown (Kd.R_types h hb ht) hg (fun k hk e => hk.2 (by injection e))) (fun _ hk => hk.1)
theorem belowS {w w1 w0 : World} {S : Nat} (h : Below w0.heap.size w0 w) (hg : w.grownBy w1 (some S)) (hS : w0.heap.size ≤ S) : Below w0.heap.size w0 w1 := h.grown hg h.size (fun k e => by injection e with e; omega)

/-- A struct of three cells stored whole. -/
theorem put3 {w : World} {g t : Nat} {a b c : Value} (hb : w.heap[g]? = some (.cells #[a, b, c] t (0, 0))) (x y z : Value) : (((w.setCell ⟨g, 0, none⟩ x).setCell ⟨g, 1, none⟩ y).setCell ⟨g, 2, none⟩ z).heap[g]? = some (.cells #[x, y, z] t (0, 0)) :=
  blk_put (blk_put (blk_put hb 0 x rfl) 1 y rfl) 2 z rfl
theorem put3R {α : Type} {d : Kd α} {e base : Nat} {w : World} {ok : Nat → Prop} {v : Value} {xs : List α} {g t : Nat} {a b c : Value} (h : d.R e w base ok v xs) (hb : w.heap[g]? = some (.cells #[a, b, c] t (0, 0))) (ht : ∀ q, q ∈ e :: d.E → q ≠ t) (x y z : Value) : d.R e (((w.setCell ⟨g, 0, none⟩ x).setCell ⟨g, 1, none⟩ y).setCell ⟨g, 2, none⟩ z) base ok v xs :=
  Kd.R_set (Kd.R_set (Kd.R_set h hb ht 0 x) (blk_put hb 0 x rfl) ht 1 y) (blk_put (blk_put hb 0 x rfl) 1 y rfl) ht 2 z
theorem put3B {w0 w : World} {g : Nat} (h : Below w0.heap.size w0 w) (hg : w0.heap.size ≤ g) (x y z : Value) : Below w0.heap.size w0 (((w.setCell ⟨g, 0, none⟩ x).setCell ⟨g, 1, none⟩ y).setCell ⟨g, 2, none⟩ z) :=
  below_set (below_set (below_set h hg) hg) hg

/-- The call's own blocks: what is left of s; the result; the node; the function. -/
structure DecBl (w wr : World) (a : Bool) (s : ByteArray) (vE vB : Value) : Prop where
  S : wr.heap[w.heap.size]? = some (.cells #[.string s] 9 (0, 0))
  N0 : wr.heap[w.heap.size + 1]? = some (.cells #[.bool false, .slice none 0 0, .slice none 0 0] 31 (0, 0))
  N : wr.heap[w.heap.size + 1 + 1]? = some (.cells #[.bool a, vE, vB] 31 (0, 0))
  T : wr.heap[w.heap.size + 1 + 1 + 1]? = some (.cells #[.func (.func 43) #[] #[.pointer (some ⟨w.heap.size, 0, none⟩)]] 85 (0, 0))
  B : Below w.heap.size w wr
theorem DecBl.text {w wr w1 : World} {a : Bool} {s s' : ByteArray} {vE vB : Value} (h : DecBl w wr a s vE vB) (hg : wr.grownBy w1 (some w.heap.size)) (hS : w1.heap[w.heap.size]? = some (.cells #[.string s'] 9 (0, 0))) : DecBl w w1 a s' vE vB :=
  ⟨hS, grown_S hg h.N0 (by omega), grown_S hg h.N (by omega), grown_S hg h.T (by omega), belowS h.B hg (Nat.le_refl _)⟩
theorem DecBl.alloc {w wr : World} {a : Bool} {s : ByteArray} {vE vB : Value} (h : DecBl w wr a s vE vB) (o : Obj) : DecBl w (wr.alloc o) a s vE vB :=
  ⟨blk_alloc h.S o, blk_alloc h.N0 o, blk_alloc h.N o, blk_alloc h.T o, below_alloc h.B o⟩
theorem DecBl.drew {w wr : World} {a : Bool} {s : ByteArray} {vE vB : Value} (h : DecBl w wr a s vE vB) : DecBl w wr.drew a s vE vB :=
  ⟨h.S, h.N0, h.N, h.T, h.B.drew⟩
theorem DecBl.row {α : Type} {d : Kd α} {e base : Nat} {w wr w1 : World} {a : Bool} {s : ByteArray} {vE vB v : Value} {ok : Nat → Prop} {xs : List α} (h : DecBl w wr a s vE vB) (hr : d.R e wr base ok v xs) (hg : wr.grownBy w1 v.ownBlock) (hb : Below w.heap.size w w1) (h1 : e ≠ 9) (h2 : e ≠ 31) (h3 : e ≠ 85) : DecBl w w1 a s vE vB :=
  ⟨(hg.block _ (blk_lt h.S) (Kd.R_ne hr h.S h1)).trans h.S, (hg.block _ (blk_lt h.N0) (Kd.R_ne hr h.N0 h2)).trans h.N0, (hg.block _ (blk_lt h.N) (Kd.R_ne hr h.N h2)).trans h.N, (hg.block _ (blk_lt h.T) (Kd.R_ne hr h.T h3)).trans h.T, hb⟩
theorem DecBl.putE {w wr : World} {a : Bool} {s : ByteArray} {vE vB : Value} (h : DecBl w wr a s vE vB) (v : Value) : DecBl w (wr.setCell ⟨w.heap.size + 1 + 1, 1, none⟩ v) a s v vB :=
  ⟨blk_far h.S (by simp; omega) _, blk_far h.N0 (by simp) _, blk_put h.N 1 _ rfl, blk_far h.T (by simp) _, below_set h.B (by omega)⟩
theorem DecBl.putB {w wr : World} {a : Bool} {s : ByteArray} {vE vB : Value} (h : DecBl w wr a s vE vB) (v : Value) : DecBl w (wr.setCell ⟨w.heap.size + 1 + 1, 2, none⟩ v) a s vE v :=
  ⟨blk_far h.S (by simp; omega) _, blk_far h.N0 (by simp) _, blk_put h.N 2 _ rfl, blk_far h.T (by simp) _, below_set h.B (by omega)⟩
theorem hasText_true {s : ByteArray} (h : hasText s = true) : 0 < s.size ∧ lenOf s ≤ s.size - 1 := by
  unfold hasText at h; simpa using h
theorem hasText_false {s : ByteArray} (h : hasText s = false) (h0 : 0 < s.size) : ¬ lenOf s ≤ s.size - 1 := by
  unfold hasText at h; simp at h; have := h h0; omega

theorem text_yes' (S T : Nat) (s : ByteArray) (w : World) (hS : w.heap[S]? = some (.cells #[.string s] 9 (0, 0))) (hT : w.heap[T]? = some (.cells #[.func (.func 43) #[] #[.pointer (some ⟨S, 0, none⟩)]] 85 (0, 0))) (hs : 0 < s.size) (hm : s.size ≤ 1000000) (hk : lenOf s ≤ s.size - 1) :
    Calls Try.prog 44 #[.pointer (some ⟨T, 0, none⟩)] w fun e w' => e = .returned (.tuple #[.string (headOf s), .bool true]) ∧ w'.heap[S]? = some (.cells #[.string (restOf s)] 9 (0, 0)) ∧ w.grownBy w' (some S) := text_yes S T s w hS hT hs hm hk
theorem text_fails (S T : Nat) (s : ByteArray) (w : World) (hS : w.heap[S]? = some (.cells #[.string s] 9 (0, 0))) (hT : w.heap[T]? = some (.cells #[.func (.func 43) #[] #[.pointer (some ⟨S, 0, none⟩)]] 85 (0, 0))) (hm : s.size ≤ 1000000) (hk : hasText s = false) :
    Calls Try.prog 44 #[.pointer (some ⟨T, 0, none⟩)] w fun e w' => ∃ s', e = .returned (.tuple #[.string ⟨#[]⟩, .bool false]) ∧ w'.heap[S]? = some (.cells #[.string s'] 9 (0, 0)) ∧ w.grownBy w' (some S) := by
  by_cases h : s.size = 0
  · exact (text_none S T s w hS hT h).mono (fun e w' ⟨he, hw⟩ => ⟨s, he, hw ▸ hS, hw ▸ ⟨rfl, rfl, rfl, Nat.le_refl _, fun _ _ _ => rfl⟩⟩)
  · exact (text_short S T s w hS hT (by omega) hm (hasText_false hk (by omega))).mono (fun e w' ⟨he, hs', hw⟩ => ⟨_, he, hs', hw⟩)
theorem form_of {α : Type} {d : Kd α} {e base : Nat} {w : World} {ok : Nat → Prop} {v : Value} {xs : List α} (h : d.R e w base ok v xs) : ∃ A n c, v = .slice A n c := by
  obtain ⟨A, c, e⟩ := Kd.R_slice h
  exact ⟨A, _, c, e⟩

theorem two_at (t : ByteArray) (h : 2 ≤ t.size) : ∃ (pp : ByteArray) (x y : Int), t.extract 0 2 = pp ∧ bt t 0 = x ∧ bt t 1 = y ∧ 1 < pp.size ∧ (∀ h : 0 < pp.size, ((pp[0]'h).toNat : Int) = x) ∧ (∀ h : 1 < pp.size, ((pp[1]'h).toNat : Int) = y) ∧ 0 ≤ x ∧ x ≤ 255 ∧ 0 ≤ y ∧ y ≤ 255 := by
  have h0 := bt_at t 0 (by show 0 < t.size; omega)
  have h1 := bt_at t 1 (by show 1 < t.size; omega)
  have r0 := bt_range t 0
  have r1 := bt_range t 1
  refine ⟨_, _, _, rfl, rfl, rfl, by rw [ByteArray.size_extract]; omega, fun h => ?_, fun h => ?_, r0.1, r0.2, r1.1, r1.2⟩
  · rw [← h0]
    have : (t.extract 0 2)[0]'h = t[0]'(by omega) := by simp only [ByteArray.getElem_extract]
    rw [this]; rfl
  · rw [← h1]
    have : (t.extract 0 2)[1]'h = t[1]'(by omega) := by simp only [ByteArray.getElem_extract]
    rw [this]; rfl
theorem take_two (S : Nat) (t pp : ByteArray) (w : World) (hS : w.heap[S]? = some (.cells #[.string t] 9 (0, 0))) (hs : t.size ≤ 1000000) (h : 2 ≤ t.size) (hkk : t.extract 0 2 = pp) :
    Calls Try.prog 43 #[.int .i64 2, .pointer (some ⟨S, 0, none⟩)] w fun e w' => e = .returned (.tuple #[.string pp, .bool true]) ∧ w'.heap[S]? = some (.cells #[.string (t.extract 2 t.size)] 9 (0, 0)) ∧ w.grownBy w' (some S) := by
  subst hkk
  exact take_yes S 2 t w hS (by omega) hs h

theorem or_page (x y : Int) (h0 : 0 ≤ x) (h1 : x ≤ 255) (h2 : 0 ≤ y) (h3 : y ≤ 255) : bits BinOp.or IntKind.i64 (x * 256) y = x * 256 + y :=
  bits_join .i64 62 (by decide) (fun n h h' => IntWalk.i64_in _ (by omega)) 8 (x * 256) y (by omega) (by omega) (by omega) h2 (by omega) (by omega)

/-- What the call answers: refused, or a node that may be. -/
def DecPost (a : Bool) (R : Option (List S47 × List S36)) (w : World) (e : Ending) (w' : World) : Prop :=
  (R = none ∧ e = .returned (.tuple #[.agg #[.bool false, .slice none 0 0, .slice none 0 0], .int .i64 8]) ∨
    ∃ E B, R = some (E, B) ∧ (mayB a E B = false ∧ e = .returned (.tuple #[.agg #[.bool false, .slice none 0 0, .slice none 0 0], .int .i64 4]) ∨
      mayB a E B = true ∧ ∃ v1 v2, e = .returned (.tuple #[.agg #[.bool a, v1, v2], .int .i64 0]) ∧ Kd.R k47 47 w' w.heap.size (fun _ => True) v1 E ∧ Kd.R k36 36 w' w.heap.size (fun _ => True) v2 B)) ∧ Below w.heap.size w w'

set_option maxHeartbeats 4000000 in
set_option maxRecDepth 100000 in
theorem decode_go_true (s : ByteArray) (w : World) (h0 : 0 < s.size) (h1 : s.size ≤ 254) (hc : ∀ h : 0 < s.size, ((s[0]'h).toNat : Int) = 1) (R : Option (List S47 × List S36)) (hR : decL 300 true (s.extract 1 s.size) [] [] = R) :
    Calls Try.prog 16 #[.string s] w fun e w' => DecPost true R w e w' := by
  have hu31 := Try.underlying31
  have hu47 := Try.underlying47
  have hu36 := Try.underlying36
  have HR := Aside0.mk hR
  clear hR
  have d1 : decide (254 < (s.size : Int)) = false := decide_eq_false (by omega)
  have d1' : decide (254 < s.size) = false := decide_eq_false (by omega)
  have d2 := not_empty s h0
  go_enter Try.func16, Try.ntmps16
  go_wp2
  go_loopg [7] 300 (fun kq v7 wr => DecRel true w R kq wr)
  case atStart =>
    have hb4 := blks4 w (.cells #[.string (s.extract 1 s.size)] 9) (.cells #[.bool false, .slice none 0 0, .slice none 0 0] 31) (.cells #[.bool true, .slice none 0 0, .slice none 0 0] 31) (.cells #[.func (.func 43) #[] #[.pointer (some ⟨w.heap.size, 0, none⟩)]] 85)
    unfold DecRel
    exact ⟨_, [], [], _, _, HR, ⟨by rw [ByteArray.size_extract]; omega⟩, ⟨by rw [ByteArray.size_extract]; omega⟩, ⟨by rw [ByteArray.size_extract]; simp; omega⟩, ⟨hb4.1⟩, ⟨hb4.2.1⟩, ⟨hb4.2.2.1⟩, ⟨hb4.2.2.2⟩, ⟨Kd.R_nil _ _ _ _ _⟩, ⟨Kd.R_nil _ _ _ _ _⟩, ⟨below_alloc (below_alloc (below_alloc (below_alloc (Below.refl _ _) _) _) _) _⟩⟩
  case round =>
    clear HR d1 d1' d2 hc h0 h1
    unfold DecRel at hrel
    obtain ⟨s, E, B, vE, vB, HD, HQ, H254, HSUM, HS, HN0, HN, HT, HE, HBr, HB⟩ := hrel
    have hcS : wr.cell? ⟨w.heap.size, 0, none⟩ = some (.string s) := blk_cell HS.out 0
    obtain ⟨hn0, hn1, hn2⟩ := box3 HN.out
    obtain ⟨hz0, hz1, hz2⟩ := box3 HN0.out
    by_cases he : s.size = 0
    · have d2 := is_empty s he
      have hR : R = some (E, B) := HD.out.symm.trans (decL_end _ _ _ _ _ he HQ.out)
      obtain ⟨AE, cE, rfl, hlE, hCE⟩ := Kd.R_reads HE.out
      obtain ⟨AB, cB, rfl, hlB, hCB⟩ := Kd.R_reads HBr.out
      have hEl : E.length ≤ 254 := by have := HSUM.out; omega
      have hBl : B.length ≤ 254 := by have := HSUM.out; omega
      have hM := may_tells true E B (by omega) (by omega) 600 (by omega)
      cases hm : mayB true E B with
      | true =>
        rw [hm] at hM
        have HM := Aside0.mk hM
        have HMM := Aside0.mk hm
        have HRR := Aside0.mk hR
        have HCE := Aside0.mk hCE
        have HCB := Aside0.mk hCB
        clear hM hm hR hCE hCB he
        go_wp2_with (go_at_call 13; go_must (refine (leaf_May.calls 600 true AE cE E AB cB B true _ HCE.out hlE HCB.out hlB HM.out).mono ?_; rintro e w2 ⟨rfl, hb2⟩; have HB2 := Aside0.mk (below_step HB.out hb2); have HN2 := Aside0.mk (blk_below HN.out hb2); have HN02 := Aside0.mk (blk_below HN0.out hb2); have HE2 := Aside0.mk (Kd.R_below HE.out hb2); have HBr2 := Aside0.mk (Kd.R_below HBr.out hb2); clear hb2; clear hn0 hn1 hn2 hz0 hz1 hz2; obtain ⟨hn0, hn1, hn2⟩ := box3 HN2.out; obtain ⟨hz0, hz1, hz2⟩ := box3 HN02.out; have hf0 := blk_frozen HN02.out 0; have hf1 := blk_frozen HN02.out 1; have hf2 := blk_frozen HN02.out 2))
        refine bodyPost_ret (results_ct rfl _ _ (w.heap.size + 1) 31 #[.bool true, .slice AE E.length cE, .slice AB B.length cB] (0, 0) _ rfl (put3 HN02.out _ _ _) Try.underlying31 rfl (by kernel_rfl)) rfl ?_
        unfold DecPost
        exact ⟨.inr ⟨E, B, HRR.out, .inr ⟨HMM.out, _, _, rfl, put3R HE2.out HN02.out (by decide) _ _ _, put3R HBr2.out HN02.out (by decide) _ _ _⟩⟩, put3B HB2.out (by omega) _ _ _⟩
      | false =>
        rw [hm] at hM
        have HM := Aside0.mk hM
        have HMM := Aside0.mk hm
        have HRR := Aside0.mk hR
        have HCE := Aside0.mk hCE
        have HCB := Aside0.mk hCB
        clear hM hm hR hCE hCB he
        go_wp2_with (go_at_call 13; go_must (refine (leaf_May.calls 600 true AE cE E AB cB B false _ HCE.out hlE HCB.out hlB HM.out).mono ?_; rintro e w2 ⟨rfl, hb2⟩; have HB2 := Aside0.mk (below_step HB.out hb2); have HN2 := Aside0.mk (blk_below HN.out hb2); have HN02 := Aside0.mk (blk_below HN0.out hb2); have HE2 := Aside0.mk (Kd.R_below HE.out hb2); have HBr2 := Aside0.mk (Kd.R_below HBr.out hb2); clear hb2; clear hn0 hn1 hn2 hz0 hz1 hz2; obtain ⟨hn0, hn1, hn2⟩ := box3 HN2.out; obtain ⟨hz0, hz1, hz2⟩ := box3 HN02.out; have hf0 := blk_frozen HN02.out 0; have hf1 := blk_frozen HN02.out 1; have hf2 := blk_frozen HN02.out 2))
        refine bodyPost_ret (results_ct rfl _ _ (w.heap.size + 1) 31 #[.bool false, .slice none 0 0, .slice none 0 0] (0, 0) _ rfl (put3 HN02.out _ _ _) Try.underlying31 rfl (by kernel_rfl)) rfl ?_
        unfold DecPost
        exact ⟨.inr ⟨E, B, HRR.out, .inl ⟨HMM.out, rfl⟩⟩, put3B HB2.out (by omega) _ _ _⟩
    · cases gk with
      | zero => exact absurd HQ.out (by omega)
      | succ k1 =>
      have hpos : 0 < s.size := by omega
      have h254 := H254.out
      have d2 := not_empty s hpos
      have HBL := Aside0.mk (show DecBl w wr true s vE vB from ⟨HS.out, HN0.out, HN.out, HT.out, HB.out⟩)
      have hD := HD.out
      simp only [decL, if_neg he] at hD
      clear HD HS HN0 HN HT HB he
      cases ht : hasText s with
      | false =>
        rw [ht, if_neg (by decide)] at hD
        have hns := hasText_false ht hpos
        have HRR := Aside0.mk hD.symm
        clear hD ht
        go_wp2_with (go_at_call 44; go_must (refine (text_short w.heap.size (w.heap.size + 1 + 1 + 1) s _ HBL.out.S HBL.out.T hpos (by omega) hns).mono ?_; rintro e w1 ⟨rfl, _, hg⟩; clear hz0 hz1 hz2 hn0 hn1 hn2 hcS; have hN01 := grown_S hg HBL.out.N0 (by omega); have hN1 := grown_S hg HBL.out.N (by omega); have HN01 := Aside0.mk hN01; obtain ⟨hz0, hz1, hz2⟩ := box3 hN01; have hf0 := blk_frozen hN01 0; have hf1 := blk_frozen hN01 1; have hf2 := blk_frozen hN01 2; obtain ⟨hn0, hn1, hn2⟩ := box3 hN1; have HB1 := Aside0.mk (belowS HBL.out.B hg (Nat.le_refl _)); clear hg hN01 hN1))
        refine bodyPost_ret (results_ct rfl _ _ (w.heap.size + 1) 31 #[.bool false, .slice none 0 0, .slice none 0 0] (0, 0) _ rfl (put3 HN01.out _ _ _) Try.underlying31 rfl (by kernel_rfl)) rfl ?_
        unfold DecPost
        exact ⟨.inl ⟨HRR.out, rfl⟩, put3B HB1.out (by omega) _ _ _⟩
      | true =>
        rw [ht, if_pos rfl] at hD
        obtain ⟨_, hle⟩ := hasText_true ht
        have hrs := rest_size s ht
        clear ht
        simp only [if_true] at hD
        have tok1 : True := trivial
        have tok2 : True := trivial
        have hr254 : (restOf s).size ≤ 1000000 := by omega
        cases ht2 : hasText (restOf s) with
        | false =>
          rw [ht2, if_neg (by decide)] at hD
          have HRR := Aside0.mk hD.symm
          have HT2 := Aside0.mk ht2
          clear hD ht2
          go_wp2_with (first | (go_at_call 44; have _t := tok1; go_must (refine (text_yes' w.heap.size (w.heap.size + 1 + 1 + 1) s _ HBL.out.S HBL.out.T hpos (by omega) hle).mono ?_; rintro e w1 ⟨rfl, hS1, hg⟩; have HBL1 := Aside0.mk (HBL.out.text hg hS1); have HE1 := Aside0.mk (rowS HE.out HBL.out.S (by decide) hg); have HBr1 := Aside0.mk (rowS HBr.out HBL.out.S (by decide) hg); clear hg hS1 tok1 hcS; clear hz0 hz1 hz2 hn0 hn1 hn2; obtain ⟨hz0, hz1, hz2⟩ := box3 HBL1.out.N0; have hf0 := blk_frozen HBL1.out.N0 0; have hf1 := blk_frozen HBL1.out.N0 1; have hf2 := blk_frozen HBL1.out.N0 2; obtain ⟨hn0, hn1, hn2⟩ := box3 HBL1.out.N; have hg0 := blk_frozen HBL1.out.N 0; have hg1 := blk_frozen HBL1.out.N 1; have hg2 := blk_frozen HBL1.out.N 2; have hcS : w1.cell? ⟨w.heap.size, 0, none⟩ = some (.string (restOf s)) := blk_cell HBL1.out.S 0)) | (go_at_call 44; have _t := tok2; go_must (refine (text_fails w.heap.size (w.heap.size + 1 + 1 + 1) (restOf s) _ HBL1.out.S HBL1.out.T hr254 HT2.out).mono ?_; rintro e w2 ⟨s', rfl, hS1, hg⟩; have HBL2 := Aside0.mk (HBL1.out.text hg hS1); have HE2 := Aside0.mk (rowS HE1.out HBL1.out.S (by decide) hg); have HBr2 := Aside0.mk (rowS HBr1.out HBL1.out.S (by decide) hg); clear hg hS1 tok2 hcS; clear hz0 hz1 hz2 hn0 hn1 hn2 hf0 hf1 hf2 hg0 hg1 hg2; obtain ⟨hz0, hz1, hz2⟩ := box3 HBL2.out.N0; have hf0 := blk_frozen HBL2.out.N0 0; have hf1 := blk_frozen HBL2.out.N0 1; have hf2 := blk_frozen HBL2.out.N0 2; obtain ⟨hn0, hn1, hn2⟩ := box3 HBL2.out.N; have hg0 := blk_frozen HBL2.out.N 0; have hg1 := blk_frozen HBL2.out.N 1; have hg2 := blk_frozen HBL2.out.N 2)) | ((with_reducible refine gate_builtin (b := .append) (xs := #[.tmp 56, .tmp 60]) rfl ?_); go_must (at_builtin; refine Kd.R_append k47 (w0 := w) w.heap.size rfl (.tmp 56) (.tmp 60) 28 47 (.agg #[(.string ⟨#[]⟩), (.string ⟨#[]⟩)]) 32 rfl Try.underlying28 info47 rfl (by decide) (by omega) vE E (⟨headOf s, (⟨#[]⟩ : ByteArray)⟩ : S47) [.string (headOf s), .string (⟨#[]⟩ : ByteArray)] (fun _ => True) (fun _ => False) rfl rfl ?aP (fun _ hk => hk.elim) ?aF ?aO ?aB ?aS ?aL ?_; (case aP => exact k47_mkM _ _ _ (⟨headOf s, (⟨#[]⟩ : ByteArray)⟩ : S47)); (case aF => exact fun _ _ => trivial); (case aO => exact HE2.out); (case aB => exact HBL2.out.B); (case aS => exact HBL2.out.B.size); (case aL => have := HSUM.out; omega); intro v3 w3 ho3 hb3 hg3 hat3; obtain ⟨A3, n3, c3, rfl⟩ := form_of ho3; have HBL3 := Aside0.mk (HBL2.out.row HE2.out hg3 hb3 (by decide) (by decide) (by decide)); have HBr3 := Aside0.mk (Kd.R_over' HBr2.out (Kd.R_typed HE2.out) (by decide) hg3); have HE3 := Aside0.mk ho3; clear ho3 hb3 hg3 hat3; clear hz0 hz1 hz2 hn0 hn1 hn2 hf0 hf1 hf2 hg0 hg1 hg2; obtain ⟨hz0, hz1, hz2⟩ := box3 HBL3.out.N0; have hf0 := blk_frozen HBL3.out.N0 0; have hf1 := blk_frozen HBL3.out.N0 1; have hf2 := blk_frozen HBL3.out.N0 2; obtain ⟨hn0, hn1, hn2⟩ := box3 HBL3.out.N; have hg0 := blk_frozen HBL3.out.N 0; have hg1 := blk_frozen HBL3.out.N 1; have hg2 := blk_frozen HBL3.out.N 2)))
          refine bodyPost_ret (results_ct rfl _ _ (w.heap.size + 1) 31 #[.bool false, .slice none 0 0, .slice none 0 0] (0, 0) _ rfl (put3 (HBL3.out.putE _).N0 _ _ _) Try.underlying31 rfl (by kernel_rfl)) rfl ?_
          unfold DecPost
          exact ⟨.inl ⟨HRR.out, rfl⟩, put3B (HBL3.out.putE _).B (by omega) _ _ _⟩
        | true =>
          rw [ht2, if_pos rfl] at hD
          obtain ⟨hpos2, hle2⟩ := hasText_true ht2
          have hrs2 := rest_size (restOf s) ht2
          have HRR := Aside0.mk hD
          clear hD ht2
          go_wp2_with (first | (go_at_call 44; have _t := tok1; go_must (refine (text_yes' w.heap.size (w.heap.size + 1 + 1 + 1) s _ HBL.out.S HBL.out.T hpos (by omega) hle).mono ?_; rintro e w1 ⟨rfl, hS1, hg⟩; have HBL1 := Aside0.mk (HBL.out.text hg hS1); have HE1 := Aside0.mk (rowS HE.out HBL.out.S (by decide) hg); have HBr1 := Aside0.mk (rowS HBr.out HBL.out.S (by decide) hg); clear hg hS1 tok1 hcS; clear hz0 hz1 hz2 hn0 hn1 hn2; obtain ⟨hz0, hz1, hz2⟩ := box3 HBL1.out.N0; have hf0 := blk_frozen HBL1.out.N0 0; have hf1 := blk_frozen HBL1.out.N0 1; have hf2 := blk_frozen HBL1.out.N0 2; obtain ⟨hn0, hn1, hn2⟩ := box3 HBL1.out.N; have hg0 := blk_frozen HBL1.out.N 0; have hg1 := blk_frozen HBL1.out.N 1; have hg2 := blk_frozen HBL1.out.N 2; have hcS : w1.cell? ⟨w.heap.size, 0, none⟩ = some (.string (restOf s)) := blk_cell HBL1.out.S 0)) | (go_at_call 44; have _t := tok2; go_must (refine (text_yes' w.heap.size (w.heap.size + 1 + 1 + 1) (restOf s) _ HBL1.out.S HBL1.out.T hpos2 hr254 hle2).mono ?_; rintro e w2 ⟨rfl, hS1, hg⟩; have HBL2 := Aside0.mk (HBL1.out.text hg hS1); have HE2 := Aside0.mk (rowS HE1.out HBL1.out.S (by decide) hg); have HBr2 := Aside0.mk (rowS HBr1.out HBL1.out.S (by decide) hg); clear hg hS1 tok2 hcS; clear hz0 hz1 hz2 hn0 hn1 hn2 hf0 hf1 hf2 hg0 hg1 hg2; obtain ⟨hz0, hz1, hz2⟩ := box3 HBL2.out.N0; have hf0 := blk_frozen HBL2.out.N0 0; have hf1 := blk_frozen HBL2.out.N0 1; have hf2 := blk_frozen HBL2.out.N0 2; obtain ⟨hn0, hn1, hn2⟩ := box3 HBL2.out.N; have hg0 := blk_frozen HBL2.out.N 0; have hg1 := blk_frozen HBL2.out.N 1; have hg2 := blk_frozen HBL2.out.N 2)) | ((with_reducible refine gate_builtin (b := .append) (xs := #[.tmp 56, .tmp 60]) rfl ?_); go_must (at_builtin; refine Kd.R_append k47 (w0 := w) w.heap.size rfl (.tmp 56) (.tmp 60) 28 47 (.agg #[(.string ⟨#[]⟩), (.string ⟨#[]⟩)]) 32 rfl Try.underlying28 info47 rfl (by decide) (by omega) vE E (⟨headOf s, (headOf (restOf s))⟩ : S47) [.string (headOf s), .string (headOf (restOf s))] (fun _ => True) (fun _ => False) rfl rfl ?aP (fun _ hk => hk.elim) ?aF ?aO ?aB ?aS ?aL ?_; (case aP => exact k47_mkM _ _ _ (⟨headOf s, (headOf (restOf s))⟩ : S47)); (case aF => exact fun _ _ => trivial); (case aO => exact HE2.out); (case aB => exact HBL2.out.B); (case aS => exact HBL2.out.B.size); (case aL => have := HSUM.out; omega); intro v3 w3 ho3 hb3 hg3 hat3; obtain ⟨A3, n3, c3, rfl⟩ := form_of ho3; have HBL3 := Aside0.mk (HBL2.out.row HE2.out hg3 hb3 (by decide) (by decide) (by decide)); have HBr3 := Aside0.mk (Kd.R_over' HBr2.out (Kd.R_typed HE2.out) (by decide) hg3); have HE3 := Aside0.mk ho3; clear ho3 hb3 hg3 hat3; clear hz0 hz1 hz2 hn0 hn1 hn2 hf0 hf1 hf2 hg0 hg1 hg2; obtain ⟨hz0, hz1, hz2⟩ := box3 HBL3.out.N0; have hf0 := blk_frozen HBL3.out.N0 0; have hf1 := blk_frozen HBL3.out.N0 1; have hf2 := blk_frozen HBL3.out.N0 2; obtain ⟨hn0, hn1, hn2⟩ := box3 HBL3.out.N; have hg0 := blk_frozen HBL3.out.N 0; have hg1 := blk_frozen HBL3.out.N 1; have hg2 := blk_frozen HBL3.out.N 2)))
          go_roundg k1
          case measure => omega
          case rel =>
            unfold DecRel
            have hq := HQ.out
            have hsum := HSUM.out
            exact ⟨restOf (restOf s), E ++ [⟨headOf s, headOf (restOf s)⟩], B, _, _, ⟨HRR.out⟩, ⟨by omega⟩, ⟨by omega⟩, ⟨by simp; omega⟩, ⟨(HBL3.out.putE _).S⟩, ⟨(HBL3.out.putE _).N0⟩, ⟨(HBL3.out.putE _).N⟩, ⟨(HBL3.out.putE _).T⟩, ⟨Kd.R_set HE3.out HBL3.out.N (by decide) 1 _⟩, ⟨Kd.R_set HBr3.out HBL3.out.N (by decide) 1 _⟩, ⟨(HBL3.out.putE _).B⟩⟩

set_option maxHeartbeats 4000000 in
set_option maxRecDepth 100000 in
theorem decode_go_false (s : ByteArray) (w : World) (h0 : 0 < s.size) (h1 : s.size ≤ 254) (hc : ∀ h : 0 < s.size, ((s[0]'h).toNat : Int) = 2) (R : Option (List S47 × List S36)) (hR : decL 300 false (s.extract 1 s.size) [] [] = R) :
    Calls Try.prog 16 #[.string s] w fun e w' => DecPost false R w e w' := by
  have hu31 := Try.underlying31
  have hu47 := Try.underlying47
  have hu36 := Try.underlying36
  have HR := Aside0.mk hR
  clear hR
  have d1 : decide (254 < (s.size : Int)) = false := decide_eq_false (by omega)
  have d1' : decide (254 < s.size) = false := decide_eq_false (by omega)
  have d2 := not_empty s h0
  go_enter Try.func16, Try.ntmps16
  go_wp2
  go_loopg [7] 300 (fun kq v7 wr => DecRel false w R kq wr)
  case atStart =>
    have hb4 := blks4 w (.cells #[.string (s.extract 1 s.size)] 9) (.cells #[.bool false, .slice none 0 0, .slice none 0 0] 31) (.cells #[.bool false, .slice none 0 0, .slice none 0 0] 31) (.cells #[.func (.func 43) #[] #[.pointer (some ⟨w.heap.size, 0, none⟩)]] 85)
    unfold DecRel
    exact ⟨_, [], [], _, _, HR, ⟨by rw [ByteArray.size_extract]; omega⟩, ⟨by rw [ByteArray.size_extract]; omega⟩, ⟨by rw [ByteArray.size_extract]; simp; omega⟩, ⟨hb4.1⟩, ⟨hb4.2.1⟩, ⟨hb4.2.2.1⟩, ⟨hb4.2.2.2⟩, ⟨Kd.R_nil _ _ _ _ _⟩, ⟨Kd.R_nil _ _ _ _ _⟩, ⟨below_alloc (below_alloc (below_alloc (below_alloc (Below.refl _ _) _) _) _) _⟩⟩
  case round =>
    clear HR d1 d1' d2 hc h0 h1
    unfold DecRel at hrel
    obtain ⟨s, E, B, vE, vB, HD, HQ, H254, HSUM, HS, HN0, HN, HT, HE, HBr, HB⟩ := hrel
    have hcS : wr.cell? ⟨w.heap.size, 0, none⟩ = some (.string s) := blk_cell HS.out 0
    obtain ⟨hn0, hn1, hn2⟩ := box3 HN.out
    obtain ⟨hz0, hz1, hz2⟩ := box3 HN0.out
    by_cases he : s.size = 0
    · have d2 := is_empty s he
      have hR : R = some (E, B) := HD.out.symm.trans (decL_end _ _ _ _ _ he HQ.out)
      obtain ⟨AE, cE, rfl, hlE, hCE⟩ := Kd.R_reads HE.out
      obtain ⟨AB, cB, rfl, hlB, hCB⟩ := Kd.R_reads HBr.out
      have hEl : E.length ≤ 254 := by have := HSUM.out; omega
      have hBl : B.length ≤ 254 := by have := HSUM.out; omega
      have hM := may_tells false E B (by omega) (by omega) 600 (by omega)
      cases hm : mayB false E B with
      | true =>
        rw [hm] at hM
        have HM := Aside0.mk hM
        have HMM := Aside0.mk hm
        have HRR := Aside0.mk hR
        have HCE := Aside0.mk hCE
        have HCB := Aside0.mk hCB
        clear hM hm hR hCE hCB he
        go_wp2_with (go_at_call 13; go_must (refine (leaf_May.calls 600 false AE cE E AB cB B true _ HCE.out hlE HCB.out hlB HM.out).mono ?_; rintro e w2 ⟨rfl, hb2⟩; have HB2 := Aside0.mk (below_step HB.out hb2); have HN2 := Aside0.mk (blk_below HN.out hb2); have HN02 := Aside0.mk (blk_below HN0.out hb2); have HE2 := Aside0.mk (Kd.R_below HE.out hb2); have HBr2 := Aside0.mk (Kd.R_below HBr.out hb2); clear hb2; clear hn0 hn1 hn2 hz0 hz1 hz2; obtain ⟨hn0, hn1, hn2⟩ := box3 HN2.out; obtain ⟨hz0, hz1, hz2⟩ := box3 HN02.out; have hf0 := blk_frozen HN02.out 0; have hf1 := blk_frozen HN02.out 1; have hf2 := blk_frozen HN02.out 2))
        refine bodyPost_ret (results_ct rfl _ _ (w.heap.size + 1) 31 #[.bool false, .slice AE E.length cE, .slice AB B.length cB] (0, 0) _ rfl (put3 HN02.out _ _ _) Try.underlying31 rfl (by kernel_rfl)) rfl ?_
        unfold DecPost
        exact ⟨.inr ⟨E, B, HRR.out, .inr ⟨HMM.out, _, _, rfl, put3R HE2.out HN02.out (by decide) _ _ _, put3R HBr2.out HN02.out (by decide) _ _ _⟩⟩, put3B HB2.out (by omega) _ _ _⟩
      | false =>
        rw [hm] at hM
        have HM := Aside0.mk hM
        have HMM := Aside0.mk hm
        have HRR := Aside0.mk hR
        have HCE := Aside0.mk hCE
        have HCB := Aside0.mk hCB
        clear hM hm hR hCE hCB he
        go_wp2_with (go_at_call 13; go_must (refine (leaf_May.calls 600 false AE cE E AB cB B false _ HCE.out hlE HCB.out hlB HM.out).mono ?_; rintro e w2 ⟨rfl, hb2⟩; have HB2 := Aside0.mk (below_step HB.out hb2); have HN2 := Aside0.mk (blk_below HN.out hb2); have HN02 := Aside0.mk (blk_below HN0.out hb2); have HE2 := Aside0.mk (Kd.R_below HE.out hb2); have HBr2 := Aside0.mk (Kd.R_below HBr.out hb2); clear hb2; clear hn0 hn1 hn2 hz0 hz1 hz2; obtain ⟨hn0, hn1, hn2⟩ := box3 HN2.out; obtain ⟨hz0, hz1, hz2⟩ := box3 HN02.out; have hf0 := blk_frozen HN02.out 0; have hf1 := blk_frozen HN02.out 1; have hf2 := blk_frozen HN02.out 2))
        refine bodyPost_ret (results_ct rfl _ _ (w.heap.size + 1) 31 #[.bool false, .slice none 0 0, .slice none 0 0] (0, 0) _ rfl (put3 HN02.out _ _ _) Try.underlying31 rfl (by kernel_rfl)) rfl ?_
        unfold DecPost
        exact ⟨.inr ⟨E, B, HRR.out, .inl ⟨HMM.out, rfl⟩⟩, put3B HB2.out (by omega) _ _ _⟩
    · cases gk with
      | zero => exact absurd HQ.out (by omega)
      | succ k1 =>
      have hpos : 0 < s.size := by omega
      have h254 := H254.out
      have d2 := not_empty s hpos
      have HBL := Aside0.mk (show DecBl w wr false s vE vB from ⟨HS.out, HN0.out, HN.out, HT.out, HB.out⟩)
      have hD := HD.out
      simp only [decL, if_neg he] at hD
      clear HD HS HN0 HN HT HB he
      cases ht : hasText s with
      | false =>
        rw [ht, if_neg (by decide)] at hD
        have hns := hasText_false ht hpos
        have HRR := Aside0.mk hD.symm
        clear hD ht
        go_wp2_with (go_at_call 44; go_must (refine (text_short w.heap.size (w.heap.size + 1 + 1 + 1) s _ HBL.out.S HBL.out.T hpos (by omega) hns).mono ?_; rintro e w1 ⟨rfl, _, hg⟩; clear hz0 hz1 hz2 hn0 hn1 hn2 hcS; have hN01 := grown_S hg HBL.out.N0 (by omega); have hN1 := grown_S hg HBL.out.N (by omega); have HN01 := Aside0.mk hN01; obtain ⟨hz0, hz1, hz2⟩ := box3 hN01; have hf0 := blk_frozen hN01 0; have hf1 := blk_frozen hN01 1; have hf2 := blk_frozen hN01 2; obtain ⟨hn0, hn1, hn2⟩ := box3 hN1; have HB1 := Aside0.mk (belowS HBL.out.B hg (Nat.le_refl _)); clear hg hN01 hN1))
        refine bodyPost_ret (results_ct rfl _ _ (w.heap.size + 1) 31 #[.bool false, .slice none 0 0, .slice none 0 0] (0, 0) _ rfl (put3 HN01.out _ _ _) Try.underlying31 rfl (by kernel_rfl)) rfl ?_
        unfold DecPost
        exact ⟨.inl ⟨HRR.out, rfl⟩, put3B HB1.out (by omega) _ _ _⟩
      | true =>
        rw [ht, if_pos rfl] at hD
        obtain ⟨_, hle⟩ := hasText_true ht
        have hrs := rest_size s ht
        clear ht
        simp only [Bool.false_eq_true, if_false] at hD
        have tok1 : True := trivial
        have tok2 : True := trivial
        have hr254 : (restOf s).size ≤ 1000000 := by omega
        by_cases h2 : 2 ≤ (restOf s).size
        · rw [if_pos h2] at hD
          obtain ⟨pp, x, y, hpp, hx, hy, hp1, hb0, hb1, hx0, hx1, hy0, hy1⟩ := two_at (restOf s) h2
          have HRR := Aside0.mk (show decL k1 false ((restOf s).extract 2 (restOf s).size) E (B ++ [⟨headOf s, x * 256 + y⟩]) = R from by rw [← hD]; unfold page2; rw [hx, hy])
          have HPP := Aside0.mk hpp
          clear hD hpp hx hy
          go_wp2_with (first | (go_at_call 44; have _t := tok1; go_must (refine (text_yes' w.heap.size (w.heap.size + 1 + 1 + 1) s _ HBL.out.S HBL.out.T hpos (by omega) hle).mono ?_; rintro e w1 ⟨rfl, hS1, hg⟩; have HBL1 := Aside0.mk (HBL.out.text hg hS1); have HE1 := Aside0.mk (rowS HE.out HBL.out.S (by decide) hg); have HBr1 := Aside0.mk (rowS HBr.out HBL.out.S (by decide) hg); clear hg hS1 tok1 hcS; clear hz0 hz1 hz2 hn0 hn1 hn2; obtain ⟨hz0, hz1, hz2⟩ := box3 HBL1.out.N0; have hf0 := blk_frozen HBL1.out.N0 0; have hf1 := blk_frozen HBL1.out.N0 1; have hf2 := blk_frozen HBL1.out.N0 2; obtain ⟨hn0, hn1, hn2⟩ := box3 HBL1.out.N; have hg0 := blk_frozen HBL1.out.N 0; have hg1 := blk_frozen HBL1.out.N 1; have hg2 := blk_frozen HBL1.out.N 2; have hcT : w1.cell? ⟨w.heap.size + 1 + 1 + 1, 0, none⟩ = some (.func (.func 43) #[] #[.pointer (some ⟨w.heap.size, 0, none⟩)]) := blk_cell HBL1.out.T 0; have hcS : w1.cell? ⟨w.heap.size, 0, none⟩ = some (.string (restOf s)) := blk_cell HBL1.out.S 0)) | (go_at_call 43; have _t := tok2; go_must (refine (take_two w.heap.size (restOf s) pp _ HBL1.out.S hr254 h2 HPP.out).mono ?_; rintro e w2 ⟨rfl, hS1, hg⟩; clear hcT; have HBL2 := Aside0.mk (HBL1.out.text hg hS1); have HE2 := Aside0.mk (rowS HE1.out HBL1.out.S (by decide) hg); have HBr2 := Aside0.mk (rowS HBr1.out HBL1.out.S (by decide) hg); clear hg hS1 tok2 hcS; clear hz0 hz1 hz2 hn0 hn1 hn2 hf0 hf1 hf2 hg0 hg1 hg2; obtain ⟨hz0, hz1, hz2⟩ := box3 HBL2.out.N0; have hf0 := blk_frozen HBL2.out.N0 0; have hf1 := blk_frozen HBL2.out.N0 1; have hf2 := blk_frozen HBL2.out.N0 2; obtain ⟨hn0, hn1, hn2⟩ := box3 HBL2.out.N; have hg0 := blk_frozen HBL2.out.N 0; have hg1 := blk_frozen HBL2.out.N 1; have hg2 := blk_frozen HBL2.out.N 2)))
          have hp0 : 0 < pp.size := by omega
          have i0 : (0 : Int) < (pp.size : Int) := by omega
          have i1 : (1 : Int) < (pp.size : Int) := by omega
          have hlt2 : w.heap.size + 1 + 1 < w2.heap.size := blk_lt HBL2.out.N
          have hwx : IntKind.i64.wrap x = x := IntWalk.i64_in _ (by omega)
          have hwy : IntKind.i64.wrap y = y := IntWalk.i64_in _ (by omega)
          have hwm : IntKind.i64.wrap (x * 256) = x * 256 := IntWalk.i64_in _ (by omega)
          have hor : bits BinOp.or IntKind.i64 (x * 256) y = x * 256 + y := or_page x y hx0 hx1 hy0 hy1
          go_region_law ((refine Kd.R_append_step k36 (w0 := w) (W := w2.drew) w.heap.size (by rfl) (.tmp 71) (.tmp 82) 29 36 (.agg #[(.string ⟨#[]⟩), (.int .i64 0)]) 24 rfl Try.underlying29 info36 rfl (by decide) (by omega) vB B (⟨headOf s, x * 256 + y⟩ : S36) [.string (headOf s), .int .i64 (x * 256 + y)] (fun _ => True) (fun _ => False) rfl rfl ?aP (fun _ hk => hk.elim) ?aF ?aO ?aB ?aS ?aL ?_; (case aP => exact k36_mkM _ _ _ (⟨headOf s, x * 256 + y⟩ : S36)); (case aF => exact fun _ _ => trivial); (case aO => exact Kd.R_drew HBr2.out); (case aB => exact HBL2.out.B.drew); (case aS => exact HBL2.out.B.size); (case aL => have := HSUM.out; omega); intro v3 w3 ho3 hb3 hg3 hat3; obtain ⟨A3, n3, c3, rfl⟩ := form_of ho3; have HBL3 := Aside0.mk (HBL2.out.drew.row (Kd.R_drew HBr2.out) hg3 hb3 (by decide) (by decide) (by decide)); have HE3 := Aside0.mk (Kd.R_over' (Kd.R_drew HE2.out) (Kd.R_typed (Kd.R_drew HBr2.out)) (by decide) hg3); have HBr3 := Aside0.mk ho3; clear ho3 hb3 hg3 hat3; clear hz0 hz1 hz2 hn0 hn1 hn2 hf0 hf1 hf2 hg0 hg1 hg2; obtain ⟨hz0, hz1, hz2⟩ := box3 HBL3.out.N0; have hf0 := blk_frozen HBL3.out.N0 0; have hf1 := blk_frozen HBL3.out.N0 1; have hf2 := blk_frozen HBL3.out.N0 2; obtain ⟨hn0, hn1, hn2⟩ := box3 HBL3.out.N; have hg0 := blk_frozen HBL3.out.N 0; have hg1 := blk_frozen HBL3.out.N 1; have hg2 := blk_frozen HBL3.out.N 2))
          all_goals
            go_wp2
            go_roundg k1
            case measure => omega
            case rel =>
              unfold DecRel
              have hq := HQ.out
              have hsum := HSUM.out
              have hes : ((restOf s).extract 2 (restOf s).size).size = (restOf s).size - 2 := by rw [ByteArray.size_extract]; omega
              exact ⟨(restOf s).extract 2 (restOf s).size, E, B ++ [⟨headOf s, x * 256 + y⟩], _, _, ⟨HRR.out⟩, ⟨by omega⟩, ⟨by omega⟩, ⟨by simp; omega⟩, ⟨(HBL3.out.putB _).S⟩, ⟨(HBL3.out.putB _).N0⟩, ⟨(HBL3.out.putB _).N⟩, ⟨(HBL3.out.putB _).T⟩, ⟨Kd.R_set HE3.out HBL3.out.N (by decide) 2 _⟩, ⟨Kd.R_set HBr3.out HBL3.out.N (by decide) 2 _⟩, ⟨(HBL3.out.putB _).B⟩⟩
        · rw [if_neg h2] at hD
          have HRR := Aside0.mk hD.symm
          clear hD
          go_wp2_with (first | (go_at_call 44; have _t := tok1; go_must (refine (text_yes' w.heap.size (w.heap.size + 1 + 1 + 1) s _ HBL.out.S HBL.out.T hpos (by omega) hle).mono ?_; rintro e w1 ⟨rfl, hS1, hg⟩; have HBL1 := Aside0.mk (HBL.out.text hg hS1); have HE1 := Aside0.mk (rowS HE.out HBL.out.S (by decide) hg); have HBr1 := Aside0.mk (rowS HBr.out HBL.out.S (by decide) hg); clear hg hS1 tok1 hcS; clear hz0 hz1 hz2 hn0 hn1 hn2; obtain ⟨hz0, hz1, hz2⟩ := box3 HBL1.out.N0; have hf0 := blk_frozen HBL1.out.N0 0; have hf1 := blk_frozen HBL1.out.N0 1; have hf2 := blk_frozen HBL1.out.N0 2; obtain ⟨hn0, hn1, hn2⟩ := box3 HBL1.out.N; have hg0 := blk_frozen HBL1.out.N 0; have hg1 := blk_frozen HBL1.out.N 1; have hg2 := blk_frozen HBL1.out.N 2; have hcT : w1.cell? ⟨w.heap.size + 1 + 1 + 1, 0, none⟩ = some (.func (.func 43) #[] #[.pointer (some ⟨w.heap.size, 0, none⟩)]) := blk_cell HBL1.out.T 0; have hcS : w1.cell? ⟨w.heap.size, 0, none⟩ = some (.string (restOf s)) := blk_cell HBL1.out.S 0)) | (go_at_call 43; have _t := tok2; go_must (refine (take_no w.heap.size 2 (restOf s) _ HBL1.out.S (by omega) hr254 h2).mono ?_; rintro e w2 ⟨rfl, rfl⟩; clear tok2)))
          refine bodyPost_ret (results_ct rfl _ _ (w.heap.size + 1) 31 #[.bool false, .slice none 0 0, .slice none 0 0] (0, 0) _ rfl (put3 HBL1.out.N0 _ _ _) Try.underlying31 rfl (by kernel_rfl)) rfl ?_
          unfold DecPost
          exact ⟨.inl ⟨HRR.out, rfl⟩, put3B HBL1.out.B (by omega) _ _ _⟩


set_option maxHeartbeats 4000000 in
set_option maxRecDepth 100000 in
theorem decode_long (s : ByteArray) (w : World) (h0 : 254 < s.size) (hm : s.size ≤ 9223372036854775807) :
    Calls Try.prog 16 #[.string s] w fun e w' => e = .returned (.tuple #[.agg #[.bool false, .slice none 0 0, .slice none 0 0], .int .i64 40]) ∧ Below w.heap.size w w' := by
  have hu31 := Try.underlying31
  have d1 : decide (254 < (s.size : Int)) = true := decide_eq_true (by omega)
  have d1' : decide (254 < s.size) = true := decide_eq_true (by omega)
  go_enter Try.func16, Try.ntmps16
  go_wp2
  refine bodyPost_ret (results_ct rfl _ _ (w.heap.size + 1) 31 #[.bool false, .slice none 0 0, .slice none 0 0] (0, 0) _ rfl (by rw [← World.size_alloc w (.cells #[.string s] 9)]; exact blk_new _ _) Try.underlying31 rfl (by kernel_rfl)) rfl ?_
  exact ⟨rfl, below_alloc (below_alloc (Below.refl _ _) _) _⟩
set_option maxHeartbeats 4000000 in
set_option maxRecDepth 100000 in
theorem decode_none (s : ByteArray) (w : World) (h0 : s.size = 0) :
    Calls Try.prog 16 #[.string s] w fun e w' => e = .returned (.tuple #[.agg #[.bool false, .slice none 0 0, .slice none 0 0], .int .i64 8]) ∧ Below w.heap.size w w' := by
  have hu31 := Try.underlying31
  have d1 : decide (254 < (s.size : Int)) = false := decide_eq_false (by omega)
  have d1' : decide (254 < s.size) = false := decide_eq_false (by omega)
  have d2 := is_empty s h0
  have HZ := Aside0.mk h0
  clear h0
  go_enter Try.func16, Try.ntmps16
  go_wp2
  refine bodyPost_ret (results_ct rfl _ _ (w.heap.size + 1) 31 #[.bool false, .slice none 0 0, .slice none 0 0] (0, 0) _ rfl (by rw [← World.size_alloc w (.cells #[.string s] 9)]; exact blk_new _ _) Try.underlying31 rfl (by kernel_rfl)) rfl ?_
  exact ⟨rfl, below_alloc (below_alloc (Below.refl _ _) _) _⟩
set_option maxHeartbeats 4000000 in
set_option maxRecDepth 100000 in
theorem decode_other (s : ByteArray) (w : World) (h0 : 0 < s.size) (h1 : s.size ≤ 254) (c : Int) (hc : ∀ h : 0 < s.size, ((s[0]'h).toNat : Int) = c) (h2 : c ≠ 1) (h3 : c ≠ 2) :
    Calls Try.prog 16 #[.string s] w fun e w' => e = .returned (.tuple #[.agg #[.bool false, .slice none 0 0, .slice none 0 0], .int .i64 4]) ∧ Below w.heap.size w w' := by
  have hu31 := Try.underlying31
  have d1 : decide (254 < (s.size : Int)) = false := decide_eq_false (by omega)
  have d1' : decide (254 < s.size) = false := decide_eq_false (by omega)
  have d2 := not_empty s h0
  have e2 : (c != 1) = true := by simpa using h2
  have e3 : (c != 2) = true := by simpa using h3
  have e4 : (c == 1) = false := by simpa using h2
  have e5 : (c == 2) = false := by simpa using h3
  go_enter Try.func16, Try.ntmps16
  go_wp2
  refine bodyPost_ret (results_ct rfl _ _ (w.heap.size + 1) 31 #[.bool false, .slice none 0 0, .slice none 0 0] (0, 0) _ rfl (by rw [← World.size_alloc w (.cells #[.string s] 9)]; exact blk_new _ _) Try.underlying31 rfl (by kernel_rfl)) rfl ?_
  exact ⟨rfl, below_alloc (below_alloc (Below.refl _ _) _) _⟩

/-- What leaf.Decode answers, of any string. -/
def decodeN (s : ByteArray) : Bool × List S47 × List S36 × Int :=
  if 254 < s.size then (false, [], [], 40) else
  if s.size = 0 then (false, [], [], 8) else
  if bt s 0 ≠ 1 ∧ bt s 0 ≠ 2 then (false, [], [], 4) else
  match decL 300 (bt s 0 == 1) (s.extract 1 s.size) [] [] with
  | none => (false, [], [], 8)
  | some (E, B) => if mayB (bt s 0 == 1) E B then (bt s 0 == 1, E, B, 0) else (false, [], [], 4)
/-- leaf.Decode: function 16 (by hand: two closures take the bytes off). -/
def leaf_Decode.f (a0 : ByteArray) : Option (Bool × (List (S47)) × (List (S36)) × Int) := if a0.size ≤ 9223372036854775807 then some (decodeN a0) else none
theorem decode_of (s : ByteArray) (w : World) (e : Ending) (w' : World) (a : Bool) (R : Option (List S47 × List S36)) (x : Bool × List S47 × List S36 × Int) (hx : x = match R with | none => (false, [], [], 8) | some (E, B) => if mayB a E B then (a, E, B, 0) else (false, [], [], 4))
    (h : DecPost a R w e w') : ∃ v1_ v2_ : Value, e = .returned (.tuple #[.agg #[.bool x.1, v1_, v2_], .int .i64 x.2.2.2]) ∧ Kd.R k47 47 w' w.heap.size (fun _ => True) v1_ x.2.1 ∧ Kd.R k36 36 w' w.heap.size (fun _ => True) v2_ x.2.2.1 ∧ Below w.heap.size w w' := by
  obtain ⟨h, hb⟩ := h
  subst hx
  rcases h with ⟨rfl, rfl⟩ | ⟨E, B, rfl, ⟨hm, rfl⟩ | ⟨hm, v1, v2, rfl, h1, h2⟩⟩
  · exact ⟨_, _, rfl, Kd.R_nil _ _ _ _ _, Kd.R_nil _ _ _ _ _, hb⟩
  · simp only [hm, Bool.false_eq_true, if_false]
    exact ⟨_, _, rfl, Kd.R_nil _ _ _ _ _, Kd.R_nil _ _ _ _ _, hb⟩
  · simp only [hm, if_true]
    exact ⟨v1, v2, rfl, h1, h2, hb⟩
theorem leaf_Decode.calls (a0 : ByteArray) (r1 : Bool) (r2 : List (S47)) (r3 : List (S36)) (r4 : Int) (w : World) (h : leaf_Decode.f a0 = some (r1, r2, r3, r4)) :
    Calls Try.prog 16 #[.string a0] w fun e w' => ∃ v1_ v2_ : Value, e = .returned (.tuple #[.agg #[.bool r1, v1_, v2_], .int .i64 r4]) ∧ Kd.R k47 47 w' w.heap.size (fun _ => True) v1_ r2 ∧ Kd.R k36 36 w' w.heap.size (fun _ => True) v2_ r3 ∧ Below w.heap.size w w' := by
  unfold leaf_Decode.f at h
  by_cases hm : a0.size ≤ 9223372036854775807
  · rw [if_pos hm] at h
    have h' := Option.some.inj h
    clear h
    have bad : ∀ c : Int, decodeN a0 = (false, [], [], c) → (Calls Try.prog 16 #[.string a0] w fun e w' => e = .returned (.tuple #[.agg #[.bool false, .slice none 0 0, .slice none 0 0], .int .i64 c]) ∧ Below w.heap.size w w') → Calls Try.prog 16 #[.string a0] w fun e w' => ∃ v1_ v2_ : Value, e = .returned (.tuple #[.agg #[.bool r1, v1_, v2_], .int .i64 r4]) ∧ Kd.R k47 47 w' w.heap.size (fun _ => True) v1_ r2 ∧ Kd.R k36 36 w' w.heap.size (fun _ => True) v2_ r3 ∧ Below w.heap.size w w' := by
      intro c hc hcall
      rw [hc] at h'
      simp only [Prod.mk.injEq] at h'
      obtain ⟨rfl, rfl, rfl, rfl⟩ := h'
      exact hcall.mono (fun e w' ⟨he, hb⟩ => ⟨_, _, he, Kd.R_nil _ _ _ _ _, Kd.R_nil _ _ _ _ _, hb⟩)
    by_cases h1 : 254 < a0.size
    · exact bad 40 (by unfold decodeN; rw [if_pos h1]) (decode_long a0 w h1 hm)
    by_cases h2 : a0.size = 0
    · exact bad 8 (by unfold decodeN; rw [if_neg h1, if_pos h2]) (decode_none a0 w h2)
    have hb0 := bt_at a0 0 (by show 0 < a0.size; omega)
    by_cases h3 : bt a0 0 ≠ 1 ∧ bt a0 0 ≠ 2
    · exact bad 4 (by unfold decodeN; rw [if_neg h1, if_neg h2, if_pos h3]) (decode_other a0 w (by omega) (by omega) (bt a0 0) (fun h => hb0) h3.1 h3.2)
    have hd : ∀ a, (bt a0 0 == 1) = a → ∀ R, decL 300 a (a0.extract 1 a0.size) [] [] = R → (r1, r2, r3, r4) = match R with | none => (false, [], [], 8) | some (E, B) => if mayB a E B then (a, E, B, 0) else (false, [], [], 4) := by
      intro a ha R hR
      rw [← h']
      unfold decodeN
      rw [if_neg h1, if_neg h2, if_neg h3, ha, hR]
    by_cases h4 : bt a0 0 = 1
    · exact (decode_go_true a0 w (by omega) (by omega) (fun h => hb0.trans h4) _ rfl).mono (fun e w' hp => decode_of a0 w e w' true _ (r1, r2, r3, r4) (hd true (by simpa using h4) _ rfl) hp)
    · have h5 : bt a0 0 = 2 := by
        rcases Classical.em (bt a0 0 = 2) with h | h
        · exact h
        · exact absurd ⟨h4, h⟩ h3
      exact (decode_go_false a0 w (by omega) (by omega) (fun h => hb0.trans h5) _ rfl).mono (fun e w' hp => decode_of a0 w e w' false _ (r1, r2, r3, r4) (hd false (by simpa using h4) _ rfl) hp)
  · rw [if_neg hm] at h
    cases h
end Go.Proofs.Ytfbaejhjppikpaa.P
