import Derived.Test.YthonmfcollafkaaHDrop
import Derived.Test.YthonmfcollafkaaHWo
import Derived.Maps.Views
/- cancel.without. -/
namespace Go.Proofs.Ythonmfcollafkaa.P
open Go.RowKit Go.Proofs.YthonmfcollafkaaW.PrintWords Go.Proofs.YthonmfcollafkaaW.PrintLast Go.Proofs.YthonmfcollafkaaW.PrintMore
open Go.Maps
set_option linter.unusedVariables false
set_option linter.unusedSimpArgs false
theorem cntOf_put {D : DataW Unit} (hD : IsMap D) (k c k' : Int) : cntOf (D.put (.int .i64 k) (.lit (.int .i64 c))) k' = if k' = k then c else cntOf D k' := by
  unfold cntOf
  by_cases e : k' = k
  · subst e
    rw [if_pos rfl, atKey_put_same hD (by trivial)]
  · rw [if_neg e, atKey_put_other (by simpa using e)]
theorem cntOf_none (k : Int) : cntOf (.map []) k = 0 := rfl
theorem count_step (l : List Int) (i : Nat) (hi : i < l.length) (k : Int) : ((l.take (i + 1)).count k : Int) = if k = l[i] then ((l.take i).count l[i] : Int) + 1 else ((l.take i).count k : Int) := by
  rw [List.take_succ_eq_append_getElem hi, List.count_append]
  by_cases e : k = l[i]
  · rw [if_pos e, ← e]; simp
  · rw [if_neg e, List.count_eq_zero_of_not_mem (a := k) (l := [l[i]]) (by simpa using e)]; simp
theorem count_le_i (l : List Int) (i : Nat) (k : Int) : 0 ≤ ((l.take i).count k : Int) ∧ ((l.take i).count k : Int) ≤ i := by
  have h1 := List.count_le_length (a := k) (l := l.take i)
  have h2 := List.length_take_le i l
  omega
theorem wpList_insert_own {H : Type} {P : Program} (w : World) {ops : Array Oper} {rest : List Oper} {o : Oper} {a : Act} {Q : Exit → Act → World → Prop}
    (hg : o.guard = none) (m x v : Operand) (t : TypeId) (hop : o.op = Op.insert t m x v)
    (k e : TypeId) (K : Keyed P k) (ht : P.underlying t = some (.map k e)) (R : Value → Option (DataW H × List MemPlace)) (b n : Nat) (D : DataW H)
    (hm : a.eval m = .map (some b)) (hown : w.ownsMap P k R b n D) (hn : n < maxLen) (key val : Value) (kl : Lit) (hx : a.eval x = key) (hv : a.eval v = val) (hkey : keyOf P k key = some kl)
    (d : DataW H) (ps : List MemPlace) (hval : R val = some (d, ps))
    (hK : ∀ w', w'.ownsMap P k R b (n + 1) (D.put kl d) → w.grownBy w' (some b) → wpList P ops Q rest (a.put o.dst undef) w') :
    wpList P ops Q (o :: rest) a w := by
  refine wpList_plain hg fun K' hK' => ?_
  obtain ⟨w', hrun, r1, r2⟩ := hown.update K ht hn hkey hval
  unfold Oper.wp
  simp [execOp, hop, hm, hx, hv, hrun, Result.andThen]
  exact hK' _ _ (hK w' r1 r2)
def WithRel (w : World) (ids : List Int) (o0 o1 : Obj) (v11 : Value) (wr : World) : Prop :=
  ∃ (i : Nat) (D : DataW Unit), v11 = .int .i64 i ∧ i ≤ ids.length ∧ Aside0 (wr.ownsMap Try.prog 3 (plainElem Try.prog 3) (w.heap.size + 1 + 1) i D) ∧ Aside0 (∀ k, cntOf D k = ((ids.take i).count k : Int)) ∧ Aside0 (wr.heap[w.heap.size]? = some o0) ∧ Aside0 (wr.heap[w.heap.size + 1]? = some o1) ∧ Aside0 (wr.heap[w.heap.size + 1 + 1 + 1]? = some (.cells #[.map (some (w.heap.size + 1 + 1))] 135 (0, 0))) ∧ Aside0 (Below w.heap.size w wr) ∧ w.heap.size + 4 ≤ wr.heap.size
theorem with_step {w wr w1 : World} {ids : List Int} {o0 o1 : Obj} {i : Nat} {D : DataW Unit} {c : Int} (hw : ∀ x ∈ ids, (Lit.int .i64 x).wf = true) (hlt : i < ids.length) (hi : i ≤ ids.length) (hm : wr.ownsMap Try.prog 3 (plainElem Try.prog 3) (w.heap.size + 1 + 1) i D) (hc : ∀ k, cntOf D k = ((ids.take i).count k : Int)) (hcc : c = ((ids.take i).count ids[i] : Int)) (ho : w1.ownsMap Try.prog 3 (plainElem Try.prog 3) (w.heap.size + 1 + 1) (i + 1) (D.put (.int .i64 ids[i]) (.lit (.int .i64 (c + 1))))) (hg : wr.grownBy w1 (some (w.heap.size + 1 + 1))) (h0 : wr.heap[w.heap.size]? = some o0) (h1 : wr.heap[w.heap.size + 1]? = some o1) (h3 : wr.heap[w.heap.size + 1 + 1 + 1]? = some (.cells #[.map (some (w.heap.size + 1 + 1))] 135 (0, 0))) (hb : Below w.heap.size w wr) (hs : w.heap.size + 4 ≤ wr.heap.size) :
    WithRel w ids o0 o1 (.int .i64 ((i : Int) + 1)) w1 :=
  ⟨i + 1, _, by rw [Int.natCast_add]; rfl, hlt, ⟨ho⟩, ⟨fun k => by rw [cntOf_put hm.isMap, hcc, count_step ids i hlt, hc]⟩, ⟨blk_grown h0 hg (by intro e; injection e with e; omega)⟩, ⟨blk_grown h1 hg (by intro e; injection e with e; omega)⟩, ⟨blk_grown h3 hg (by simp)⟩, ⟨pw_below_grown hb _ (by omega) hg (fun k hk => by injection hk with hk; omega)⟩, by have := hg.size; omega⟩
theorem four_facts (w : World) (o0 o1 o2 o3 : Obj) : ((((w.alloc o0).alloc o1).alloc o2).alloc o3).heap[w.heap.size]? = some o0 ∧ ((((w.alloc o0).alloc o1).alloc o2).alloc o3).heap[w.heap.size + 1]? = some o1 ∧ ((((w.alloc o0).alloc o1).alloc o2).alloc o3).heap[w.heap.size + 1 + 1]? = some o2 ∧ ((((w.alloc o0).alloc o1).alloc o2).alloc o3).heap[w.heap.size + 1 + 1 + 1]? = some o3 ∧ Below w.heap.size w ((((w.alloc o0).alloc o1).alloc o2).alloc o3) ∧ ((((w.alloc o0).alloc o1).alloc o2).alloc o3).heap.size = w.heap.size + 4 := by
  have h3 := blk_new (((w.alloc o0).alloc o1).alloc o2) o3
  have h2 := blk_alloc (blk_new ((w.alloc o0).alloc o1) o2) o3
  have h1 := blk_alloc (blk_alloc (blk_new (w.alloc o0) o1) o2) o3
  have h0 := blk_alloc (blk_alloc (blk_alloc (blk_new w o0) o1) o2) o3
  simp only [World.size_alloc] at h1 h2 h3
  exact ⟨h0, h1, h2, h3, below_alloc (below_alloc (below_alloc (below_alloc (Below.refl _ _) _) _) _) _, by simp [World.size_alloc]⟩
/-- What stands while 'without' is walked. -/
structure WF (w : World) (D : DataW Unit) (x : Array Value) (o1 : Obj) (W : World) : Prop where
  h0 : W.heap[w.heap.size]? = some (.cells x 27 (0, 0))
  h1 : W.heap[w.heap.size + 1]? = some o1
  h3 : W.heap[w.heap.size + 1 + 1 + 1]? = some (.cells #[.map (some (w.heap.size + 1 + 1))] 135 (0, 0))
  hm : ∃ n, W.ownsMap Try.prog 3 (plainElem Try.prog 3) (w.heap.size + 1 + 1) n D
  hb : Below w.heap.size w W
  hs : w.heap.size + 4 ≤ W.heap.size
theorem WF.grown {w W W' : World} {D : DataW Unit} {x : Array Value} {o1 : Obj} (h : WF w D x o1 W) {row : Option Nat} (hg : W.grownBy W' row) (hr : ∀ k, row = some k → w.heap.size + 4 ≤ k) : WF w D x o1 W' := by
  have hne : ∀ k, k < w.heap.size + 4 → some k ≠ row := fun k hk e => by have := hr k e.symm; omega
  obtain ⟨n, hm⟩ := h.hm
  exact ⟨blk_grown h.h0 hg (hne _ (by omega)), blk_grown h.h1 hg (hne _ (by omega)), blk_grown h.h3 hg (hne _ (by omega)), ⟨n, hm.kept hg (hne _ (by omega))⟩, pw_below_grown h.hb _ (by have := h.hs; omega) hg (fun k hk => by have := hr k hk; omega), by have := hg.size; have := h.hs; omega⟩
theorem WF.below {w W W' : World} {D : DataW Unit} {x : Array Value} {o1 : Obj} (h : WF w D x o1 W) (hb : Below W.heap.size W W') : WF w D x o1 W' := h.grown (row := none) (grown_of_below hb none) (fun k e => by cases e)
theorem WF.left {w W W' : World} {D : DataW Unit} {x : Array Value} {o1 : Obj} {v : Value} (h : WF w D x o1 W) (hl : Left v W W') (hv : ∀ k, v.ownBlock = some k → w.heap.size + 4 ≤ k) : WF w D x o1 W' := h.grown (left_grown hl) hv
theorem WF.set {w W : World} {D : DataW Unit} {x : Array Value} {o1 : Obj} (h : WF w D x o1 W) (i : Nat) (u : Value) : WF w D (x.setIfInBounds i u) o1 (W.setCell ⟨w.heap.size, i, none⟩ u) := by
  obtain ⟨n, hm⟩ := h.hm
  exact ⟨blk_set h.h0 i u, (Below.heap_setCell W ⟨w.heap.size, i, none⟩ u _ (by show w.heap.size + 1 ≠ w.heap.size; omega)).trans h.h1, blk_far (p := ⟨w.heap.size, i, none⟩) h.h3 (by show w.heap.size + 1 + 1 + 1 ≠ w.heap.size; omega) u, ⟨n, hm.setCell (a := ⟨w.heap.size, i, none⟩) (by show w.heap.size + 1 + 1 ≠ w.heap.size; omega) u⟩, h.hb.setCell (Nat.le_refl _) u, by have := h.hs; simpa [World.setCell] using this⟩
theorem WF.lt2 {w W : World} {D : DataW Unit} {x : Array Value} {o1 : Obj} (h : WF w D x o1 W) (p : Addr) (u : Value) : w.heap.size + 1 + 1 < (W.setCell p u).heap.size := by
  have := h.hs
  simp only [World.setCell, Array.size_modify]
  omega
theorem R_wset {α : Type} {d : Kd α} {e base j : Nat} {ok : Nat → Prop} {w W : World} {v : Value} {xs : List α} (h : d.R e W base ok v xs) (hb : w.heap.size + 4 ≤ base) (i : Nat) (hj : j < 4) (u : Value) : d.R e (W.setCell ⟨w.heap.size + j, i, none⟩ u) base ok v xs :=
  Kd.R_mono (Kd.R_far (p := ⟨w.heap.size + j, i, none⟩) (Kd.R_bound h) (fun k hk => by have := hk.2.1; show k ≠ w.heap.size + j; omega) u) (fun _ hk => hk.1)
/-- Six cells of one block, one behind the other. -/
def six (w : World) (g : Nat) (u0 u1 u2 u3 u4 u5 : Value) : World := (((((w.setCell ⟨g, 0, none⟩ u0).setCell ⟨g, 1, none⟩ u1).setCell ⟨g, 2, none⟩ u2).setCell ⟨g, 3, none⟩ u3).setCell ⟨g, 4, none⟩ u4).setCell ⟨g, 5, none⟩ u5
theorem six_size {w1 : World} {g : Nat} {u0 u1 u2 u3 u4 u5 : Value} : (six w1 g u0 u1 u2 u3 u4 u5).heap.size = w1.heap.size := by simp [six, World.setCell]
theorem R_six {α : Type} {d : Kd α} {e base j : Nat} {ok : Nat → Prop} {w w1 : World} {v : Value} {xs : List α} {u0 u1 u2 u3 u4 u5 : Value} (h : d.R e w1 base ok v xs) (hbs : w.heap.size + 4 ≤ base) (hj : j < 4) : d.R e (six w1 (w.heap.size + j) u0 u1 u2 u3 u4 u5) base ok v xs :=
  R_wset (R_wset (R_wset (R_wset (R_wset (R_wset h hbs 0 hj u0) hbs 1 hj u1) hbs 2 hj u2) hbs 3 hj u3) hbs 4 hj u4) hbs 5 hj u5
theorem below_six {w w1 : World} {g : Nat} {u0 u1 u2 u3 u4 u5 : Value} (h : Below w.heap.size w w1) (hg : w.heap.size ≤ g) : Below w.heap.size w (six w1 g u0 u1 u2 u3 u4 u5) :=
  below_set (below_set (below_set (below_set (below_set (below_set h hg) hg) hg) hg) hg) hg
theorem WF.six {w w1 : World} {D : DataW Unit} {o1 : Obj} {x0 x1 x2 x3 x4 x5 u0 u1 u2 u3 u4 u5 : Value} (h : WF w D #[x0, x1, x2, x3, x4, x5] o1 w1) : WF w D #[u0, u1, u2, u3, u4, u5] o1 (P.six w1 w.heap.size u0 u1 u2 u3 u4 u5) := (((((h.set 0 u0).set 1 u1).set 2 u2).set 3 u3).set 4 u4).set 5 u5
theorem blk_six {w1 : World} {g : Nat} {t : TypeId} {x0 x1 x2 x3 x4 x5 u0 u1 u2 u3 u4 u5 : Value} (h : w1.heap[g]? = some (.cells #[x0, x1, x2, x3, x4, x5] t (0, 0))) : (six w1 g u0 u1 u2 u3 u4 u5).heap[g]? = some (.cells #[u0, u1, u2, u3, u4, u5] t (0, 0)) :=
  blk_put (cs := #[u0, u1, u2, u3, u4, x5]) (blk_put (cs := #[u0, u1, u2, u3, x4, x5]) (blk_put (cs := #[u0, u1, u2, x3, x4, x5]) (blk_put (cs := #[u0, u1, x2, x3, x4, x5]) (blk_put (cs := #[u0, x1, x2, x3, x4, x5]) (blk_put (cs := #[x0, x1, x2, x3, x4, x5]) h 0 u0 rfl) 1 u1 rfl) 2 u2 rfl) 3 u3 rfl) 4 u4 rfl) 5 u5 rfl
theorem WF.item {w W0 W : World} {D : DataW Unit} {x : Array Value} {o1 : Obj} {v : Value} {l : List S43} {ok : Nat → Prop} (h : WF w D x o1 W0) (ho : Kd.R k43 43 W0 (w.heap.size + 4) ok v l) (hl : Left v W0 W) (y : S43) (hy : (Lit.int .i64 y.f0).wf = true) :
    Calls Try.prog 144 #[.agg #[.int .i64 y.f0, .int .i64 y.f1, .int .u8 y.f2, .string y.f3, .int .i64 y.f4, .int .i64 y.f5, .int .u8 y.f6, .string y.f7], .pointer (some ⟨w.heap.size + 1 + 1 + 1, 0, none⟩)] W fun e w' => e = .returned (.bool (decide (0 < cntOf D y.f0))) ∧ Below W.heap.size W w' := by
  have F := h.left hl (fun k hk => Kd.R_base (Kd.R_mono ho (fun _ _ => trivial)) k hk)
  obtain ⟨n, hm⟩ := F.hm
  exact clo144 y D _ _ n W F.h3 hm hy
theorem mem_of_cnt {D : DataW Unit} {l : List Int} (h : ∀ k, cntOf D k = (l.count k : Int)) (k : Int) : decide (0 < cntOf D k) = decide (k ∈ l) := by
  rw [h, decide_eq_decide, ← List.count_pos_iff (a := k) (l := l)]
  omega
theorem mem_of_idx (l : List Int) (k : Int) : decide (0 ≤ idxI (fun y => y == k) l) = decide (k ∈ l) := by
  rw [decide_eq_decide]
  unfold idxI
  constructor
  · intro h
    split at h
    · next hlt =>
      have := List.findIdx_getElem (w := hlt)
      have e : l[l.findIdx fun y => y == k] = k := by simpa using this
      rw [← e]; exact List.getElem_mem _
    · omega
  · intro h
    have : l.findIdx (fun y => y == k) < l.length := List.findIdx_lt_length_of_exists ⟨k, h, by simp⟩
    rw [if_pos this]
    omega
set_option maxHeartbeats 4000000 in
set_option maxRecDepth 100000 in
theorem without_calls (a0 a1 : Int) (A2 : Option Addr) (n2 c2 : Nat) (A3 : Option Addr) (c3 : Nat) (l3 : List S43) (A4 : Option Addr) (c4 : Nat) (l4 : List S129) (A5 : Option Addr) (c5 : Nat) (l5 : List S132) (A6 : Option Addr) (c6 : Nat) (l6 : List Int) (w : World)
    (hr3 : Kd.C k43 w A3 l3.length l3) (hc3 : l3.length ≤ c3) (hl3 : l3.length ≤ 1000000000) (hr4 : Kd.C k129 w A4 l4.length l4) (hc4 : l4.length ≤ c4) (hl4 : l4.length ≤ 1000000000) (hr5 : Kd.C k132 w A5 l5.length l5) (hc5 : l5.length ≤ c5) (hl5 : l5.length ≤ 1000000000) (hr6 : Kd.C (Kd.int .i64) w A6 l6.length l6) (hc6 : l6.length ≤ c6) (hl6 : l6.length ≤ 1000000000)
    (hw3 : ∀ x ∈ l3, (Lit.int .i64 x.f0).wf = true) (hw5 : ∀ x ∈ l5, (Lit.int .i64 x.f1).wf = true) (hw6 : ∀ x ∈ l6, (Lit.int .i64 x).wf = true) :
    Calls Try.prog 106 #[.agg #[.int .i64 a0, .int .i64 a1, .slice A2 n2 c2, .slice A3 l3.length c3, .slice A4 l4.length c4, .slice A5 l5.length c5], .slice A6 l6.length c6] w fun e w' => ∃ v3 v4 v5, e = .returned (.agg #[.int .i64 a0, .int .i64 a1, .slice A2 n2 c2, v3, v4, v5]) ∧ Kd.R k43 43 w' w.heap.size (fun _ => True) v3 (l3.filter fun x => !decide (x.f0 ∈ l6)) ∧ Kd.R k129 129 w' w.heap.size (fun _ => True) v4 (l4.filter fun x => !decide (x.f0 ∈ l6)) ∧ Kd.R k132 132 w' w.heap.size (fun _ => True) v5 (l5.filter fun x => !decide (x.f1 ∈ l6)) ∧ Below w.heap.size w w' := by
  have hu := Try.underlying27
  have HR3 := Aside0.mk hr3
  have HR4 := Aside0.mk hr4
  have HR5 := Aside0.mk hr5
  have HR6 := Aside0.mk hr6
  have HW3 := Aside0.mk hw3
  have HW5 := Aside0.mk hw5
  have HW6 := Aside0.mk hw6
  have hm6 : l6.length ≤ 9223372036854775807 := hr6.2.1
  clear hr3 hr4 hr5 hr6 hw3 hw5 hw6
  have hmm := @run_makeMap Try.prog
  go_enter Try.func106, Try.ntmps106
  go_wp2
  obtain ⟨k0, k1, k2, k3, kb, ks⟩ := four_facts w (.cells #[.int .i64 a0, .int .i64 a1, .slice A2 n2 c2, .slice A3 l3.length c3, .slice A4 l4.length c4, .slice A5 l5.length c5] 27 (0, 0)) (.cells #[.int .i64 0, .int .i64 0, .slice none 0 0, .slice none 0 0, .slice none 0 0, .slice none 0 0] 27 (0, 0)) (.map #[] 0) (.cells #[.map (some (w.heap.size + 1 + 1))] 135 (0, 0))
  have HM0 := Aside0.mk (((World.ownsMap_made (H := Unit) ((w.alloc (.cells #[.int .i64 a0, .int .i64 a1, .slice A2 n2 c2, .slice A3 l3.length c3, .slice A4 l4.length c4, .slice A5 l5.length c5] 27 (0, 0))).alloc (.cells #[.int .i64 0, .int .i64 0, .slice none 0 0, .slice none 0 0, .slice none 0 0, .slice none 0 0] 27 (0, 0))) Try.prog 3 (plainElem Try.prog 3)).alloc (.cells #[.map (some (w.heap.size + 1 + 1))] 135 (0, 0))))
  rw [World.size_alloc, World.size_alloc] at HM0
  have K0 := Aside0.mk k0
  have K1 := Aside0.mk k1
  have K3 := Aside0.mk k3
  have KB := Aside0.mk kb
  have KS := Aside0.mk ks
  clear k0 k1 k2 k3 kb ks
  go_loopw [11] (fun v11 w' => WithRel w l6 (.cells #[.int .i64 a0, .int .i64 a1, .slice A2 n2 c2, .slice A3 l3.length c3, .slice A4 l4.length c4, .slice A5 l5.length c5] 27 (0, 0)) (.cells #[.int .i64 0, .int .i64 0, .slice none 0 0, .slice none 0 0, .slice none 0 0, .slice none 0 0] 27 (0, 0)) v11 w') (fun v11 _ => l6.length - (intOf v11).toNat)
  case atStart => exact ⟨0, _, rfl, Nat.zero_le _, HM0, ⟨fun k => by rw [cntOf_none]; rfl⟩, K0, K1, K3, KB, by rw [KS.out]; exact Nat.le_refl _⟩
  case round =>
    unfold WithRel at hrel
    obtain ⟨i, D, rfl, hi, HM, HC, H0, H1, H3, HB, hs⟩ := hrel
    clear HM0 K0 K1 K3 KB KS
    by_cases hlt : i < l6.length
    · have h1 : 0 ≤ ((i : Nat) : Int) := by omega
      have h2 : ((i : Nat) : Int) < (l6.length : Int) := by omega
      obtain ⟨ad, e, hx0⟩ := Kd.at_int HR6.out _ h1 h2
      cases e
      replace hx0 := (HB.out.cell (World.block_lt_of_cell? w _ hx0)).trans hx0
      have hrd : rd l6 (i : Int) = l6[i] := by unfold rd; simp [List.getD_eq_getElem?_getD, hlt]
      simp only [Int.toNat_natCast] at hx0
      rw [hrd] at hx0
      clear hrd
      have hc3 := cell_old H3.out
      have hkey := keyOf_int_mk Try.underlying3 (HW6.out _ (List.getElem_mem hlt))
      have hb1 := count_le_i l6 i l6[i]
      have hn : i < maxLen := by unfold maxLen; omega
      go_wp2_with (first | (at_lookup; refine wpList_lookup_own_int _ rfl _ _ 135 rfl 3 3 .i64 keyed3 Try.underlying135 Try.underlying3 (Try.zeroValue3 _) (w.heap.size + 1 + 1) i D rfl HM.out _ _ rfl hkey ?_; intro c hat hwc; have hcb : 0 ≤ c ∧ c ≤ (i : Int) := (by rw [(cntOf_at hat).symm.trans (HC.out _)]; exact hb1); have HCC := Aside0.mk ((cntOf_at hat).symm.trans (HC.out _)); clear hat hb1 hwc; have hwf : (Lit.int .i64 (c + 1)).wf = true := WalkArith.wf_i64 (by omega)) | (at_mapUpdate; refine wpList_mapUpdate_own _ rfl _ _ _ 135 rfl 3 3 keyed3 Try.underlying135 _ (w.heap.size + 1 + 1) i D rfl HM.out hn _ _ _ rfl rfl hkey _ [] (plainElem_int Try.underlying3 hwf) ?_; intro w1 hown1 hgrow1))
      have HO1 := Aside0.mk hown1
      have HG1 := Aside0.mk hgrow1
      clear hown1 hgrow1
      go_roundw
      case rel => refine with_step HW6.out hlt hi HM.out HC.out HCC.out HO1.out HG1.out H0.out H1.out H3.out HB.out hs
      case measure => simp [intOf]; omega
    · obtain rfl : i = l6.length := by omega
      have HC4 := Aside0.mk (drop_calls a0 a1 A2 n2 c2 A3 l3.length c3 A5 l5.length c5 A4 c4 l4 A6 c6 l6 wr (Kd.C_below HR4.out HB.out) hc4 hl4 (Kd.C_below HR6.out HB.out) hc6 hl6)
      have HF3 := Aside0.mk (show slices_Clone_Item.f l3 = some l3 by unfold slices_Clone_Item.f; rw [if_pos hl3])
      have F0 : WF w D _ _ wr := ⟨H0.out, H1.out, H3.out, ⟨_, HM.out⟩, HB.out, hs⟩
      have i0 := blk_cell F0.h0 0; have i1 := blk_cell F0.h0 1; have i2 := blk_cell F0.h0 2; have i3 := blk_cell F0.h0 3; have i4 := blk_cell F0.h0 4; have i5 := blk_cell F0.h0 5; have f0 := blk_frozen F0.h0 0; have f1 := blk_frozen F0.h0 1; have f2 := blk_frozen F0.h0 2; have f3 := blk_frozen F0.h0 3; have f4 := blk_frozen F0.h0 4; have f5 := blk_frozen F0.h0 5; simp only [List.getElem?_toArray, List.getElem?_cons_zero, List.getElem?_cons_succ] at i0 i1 i2 i3 i4 i5
      go_wp2_with (first | (go_at_call 142; refine HC4.out.mono ?_; rintro e w1 ⟨v4, rfl, ho4, hb1⟩; clear i0 i1 i2 i3 i4 i5 f0 f1 f2 f3 f4 f5; have HO4 := Aside0.mk (Kd.R_mono (Kd.R_bound (Kd.R_lower ho4 hs)) (fun k hk => hk.2.2.1)); have F1 := F0.below hb1; clear ho4 hb1; obtain ⟨A9, c9, rfl⟩ := Kd.R_slice HO4.out; have i0 := blk_cell F1.h0 0; have i1 := blk_cell F1.h0 1; have i2 := blk_cell F1.h0 2; have i3 := blk_cell F1.h0 3; have i4 := blk_cell F1.h0 4; have i5 := blk_cell F1.h0 5; have f0 := blk_frozen F1.h0 0; have f1 := blk_frozen F1.h0 1; have f2 := blk_frozen F1.h0 2; have f3 := blk_frozen F1.h0 3; have f4 := blk_frozen F1.h0 4; have f5 := blk_frozen F1.h0 5; simp only [List.getElem?_toArray, List.getElem?_cons_zero, List.getElem?_cons_succ] at i0 i1 i2 i3 i4 i5) | (go_at_call 100; clear i0 i1 i2 i3 i4 i5 f0 f1 f2 f3 f4 f5; refine Calls.mono (slices_Clone_Item.calls A3 c3 l3 l3 (six w1 w.heap.size _ _ _ _ _ _) (Kd.C_below HR3.out (WF.hb F1.six)) hc3 HF3.out) ?_; rintro e w2 ⟨v2, rfl, ho2, hb2⟩; rw [six_size] at ho2; have HO2 := Aside0.mk (Kd.R_lower ho2 F1.hs); have HV2 := Aside0.mk (fun k hk => Kd.R_base ho2 k hk); have F3 := WF.below F1.six hb2; replace HO4 := Aside0.mk (Kd.R_below (R_six (j := 0) HO4.out (Nat.le_refl _) (by omega)) hb2); clear ho2 hb2) | (go_at_call 143; refine (del_143_144 v2 l3 (w.heap.size + 1 + 1 + 1) (fun x => decide (0 < cntOf D x.f0)) (w.heap.size + 4) w2 HO2.out hl3 F3.hs (fun W x hx hL => F3.item HO2.out hL x (HW3.out x hx))).mono ?_; rintro e w3 ⟨v3, rfl, ho3, hL3⟩; have F4 := F3.left hL3 (fun k hk => Kd.R_base HO2.out k hk); replace HO4 := Aside0.mk (Kd.R_mono (Kd.R_grown (Kd.R_bound HO4.out) (left_grown hL3) (fun k hk e => by have := HV2.out k e.symm; have := hk.1; omega)) (fun _ hk => hk.1)); have HO3 := Aside0.mk ho3; obtain ⟨A8, c8, rfl⟩ := Kd.R_slice HO3.out; clear ho3 hL3; have hq := cell_old F4.h3; have i0 := blk_cell F4.h0 0; have i1 := blk_cell F4.h0 1; have i2 := blk_cell F4.h0 2; have i3 := blk_cell F4.h0 3; have i4 := blk_cell F4.h0 4; have i5 := blk_cell F4.h0 5; have f0 := blk_frozen F4.h0 0; have f1 := blk_frozen F4.h0 1; have f2 := blk_frozen F4.h0 2; have f3 := blk_frozen F4.h0 3; have f4 := blk_frozen F4.h0 4; have f5 := blk_frozen F4.h0 5; simp only [List.getElem?_toArray, List.getElem?_cons_zero, List.getElem?_cons_succ] at i0 i1 i2 i3 i4 i5) | (go_at_call 111; clear i0 i1 i2 i3 i4 i5 f0 f1 f2 f3 f4 f5 hq; obtain ⟨n5, hm5⟩ := F4.hm; refine Calls.mono (unwatched_calls a0 a1 A2 n2 c2 A8 _ c8 A9 _ c9 A5 c5 l5 D (w.heap.size + 1 + 1) n5 (w3.setCell ⟨w.heap.size, 3, none⟩ _) (Kd.C_below HR5.out (F4.set 3 _).hb) hc5 hl5 (hm5.setCell (a := ⟨w.heap.size, 3, none⟩) (by show w.heap.size + 1 + 1 ≠ w.heap.size; omega) _) (F4.lt2 _ _) HW5.out) ?_; rintro e w4 ⟨v5, rfl, ho5, hb5⟩; have F6 := WF.below (F4.set 3 _) hb5; replace HO3 := Aside0.mk (Kd.R_below (R_wset (j := 0) HO3.out (Nat.le_refl _) 3 (by omega) _) hb5); replace HO4 := Aside0.mk (Kd.R_below (R_wset (j := 0) HO4.out (Nat.le_refl _) 3 (by omega) _) hb5); have HO5 := Aside0.mk (Kd.R_lower ho5 (F4.set 3 _).hs); clear ho5 hb5 hm5; obtain ⟨A7, c7, rfl⟩ := Kd.R_slice HO5.out; have i0 := blk_cell F6.h1 0; have i1 := blk_cell F6.h1 1; have i2 := blk_cell F6.h1 2; have i3 := blk_cell F6.h1 3; have i4 := blk_cell F6.h1 4; have i5 := blk_cell F6.h1 5; have f0 := blk_frozen F6.h1 0; have f1 := blk_frozen F6.h1 1; have f2 := blk_frozen F6.h1 2; have f3 := blk_frozen F6.h1 3; have f4 := blk_frozen F6.h1 4; have f5 := blk_frozen F6.h1 5; simp only [List.getElem?_toArray, List.getElem?_cons_zero, List.getElem?_cons_succ] at i0 i1 i2 i3 i4 i5))
      clear i0 i1 i2 i3 i4 i5 f0 f1 f2 f3 f4 f5
      have hcnt : ∀ k, cntOf D k = (l6.count k : Int) := fun k => by rw [HC.out k, List.take_length]
      have e3 : l3.filter (fun x => !decide (0 < cntOf D x.f0)) = l3.filter (fun x => !decide (x.f0 ∈ l6)) := by simp only [mem_of_cnt hcnt]
      have e4 : l4.filter (fun x => !decide (0 ≤ idxI (fun y => y == x.f0) l6)) = l4.filter (fun x => !decide (x.f0 ∈ l6)) := by simp only [mem_of_idx]
      have e5 : l5.filter (fun x => !decide (0 < cntOf D x.f1)) = l5.filter (fun x => !decide (x.f1 ∈ l6)) := by simp only [mem_of_cnt hcnt]
      refine bodyPost_ret (results_cell_row rfl _ _ (w.heap.size + 1) 27 _ (0, 0) _ rfl (blk_six F6.h1) Try.underlying27 rfl (by kernel_rfl)) rfl ?_
      exact ⟨_, _, _, rfl, by rw [← e3]; exact Kd.R_mono (Kd.R_lower (R_six (j := 1) HO3.out (Nat.le_refl _) (by omega)) (by omega)) (fun _ _ => trivial), by rw [← e4]; exact Kd.R_mono (Kd.R_lower (R_six (j := 1) HO4.out (Nat.le_refl _) (by omega)) (by omega)) (fun _ _ => trivial), by rw [← e5]; exact Kd.R_mono (Kd.R_lower (R_six (j := 1) HO5.out (Nat.le_refl _) (by omega)) (by omega)) (fun _ _ => trivial), below_six F6.hb (by omega)⟩
end Go.Proofs.Ythonmfcollafkaa.P
