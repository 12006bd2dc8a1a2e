import Derived.Test.YthonmfcollafkaaUKids
import Derived.Test.YthonmfcollafkaaHWith
import Derived.Deep.RegionHeld3
/- arena.Below. -/
namespace Go.Proofs.Ythonmfcollafkaa.P
open Go.RowKit Go.Proofs.YthonmfcollafkaaW.PrintWords Go.Proofs.YthonmfcollafkaaW.PrintLast Go.Proofs.YthonmfcollafkaaW.PrintMore
open Go.Maps
set_option linter.unusedVariables false
set_option linter.unusedSimpArgs false
abbrev kI : Kd Int := Kd.int .i64
theorem Qs_own {e base : Nat} {ok : Nat → Prop} {w : World} {v : Value} {xs : List Int} (h : kI.Q e w base ok v xs) : kI.Q e w base (fun k => v.ownBlock = some k) v xs := by
  obtain ⟨h0, inner, ho, hr⟩ := h
  exact ⟨fun k hk => hk, inner, ho, hr⟩
theorem Rs_own {e base : Nat} {ok : Nat → Prop} {w : World} {v : Value} {xs : List Int} (h : kI.R e w base ok v xs) : kI.R e w base (fun k => v.ownBlock = some k) v xs := by
  obtain ⟨h0, inner, ho, hr⟩ := h
  exact ⟨fun k hk => hk, inner, ho, hr⟩
theorem Q_kept {e base : Nat} {w w' : World} {v : Value} {xs : List Int} {row : Option Nat} (h : kI.Q e w base (fun _ => True) v xs) (hg : w.grownBy w' row) (hne : ∀ k, v.ownBlock = some k → some k ≠ row) : kI.Q e w' base (fun _ => True) v xs :=
  Kd.Q_mono (Kd.Q_grown (Qs_own h) hg hne) (fun _ _ => trivial)
theorem R_kept {e base : Nat} {w w' : World} {v : Value} {xs : List Int} {row : Option Nat} (h : kI.R e w base (fun _ => True) v xs) (hg : w.grownBy w' row) (hne : ∀ k, v.ownBlock = some k → some k ≠ row) : kI.R e w' base (fun _ => True) v xs :=
  Kd.R_mono (Kd.R_grown (Rs_own h) hg hne) (fun _ _ => trivial)
/-- No block of one is a block of the other. -/
def Apart (v u : Value) : Prop := ∀ k, v.ownBlock = some k → some k ≠ u.ownBlock
theorem Apart.symm {v u : Value} (h : Apart v u) : Apart u v := fun k hk e => h k e.symm (by rw [hk])
theorem apart_new {u v v1 : Value} {W : World} (h : Apart u v) (hlt : ∀ k, u.ownBlock = some k → k < W.heap.size) (hat : v1.ownBlock = v.ownBlock ∨ ∃ b, v1.ownBlock = some b ∧ W.heap.size ≤ b) : Apart u v1 := by
  intro k hk e
  rcases hat with hat | ⟨b, hb, hle⟩
  · exact h k hk (e.trans hat)
  · rw [hb] at e
    injection e with e
    have := hlt k hk
    omega
/-- What stands while what is below is looked for. -/
structure BS (w : World) (st : Array Value) (wr : World) (vW vO : Value) (work out met : List Int) : Prop where
  h0 : wr.heap[w.heap.size]? = some (.cells st 27 (0, 0))
  hm : ∃ n D, wr.ownsMap Try.prog 3 (plainElem Try.prog 3) (w.heap.size + 1) n D ∧ n ≤ met.length ∧ ∀ k, cntOf D k = if k ∈ met then 1 else 0
  hw : kI.Q 3 wr (w.heap.size + 2) (fun _ => True) vW work
  ho : kI.R 3 wr (w.heap.size + 2) (fun _ => True) vO out
  hn : Apart vW vO
  hb : Below w.heap.size w wr
  hs : w.heap.size + 2 ≤ wr.heap.size
section
variable {w wr w1 : World} {st : Array Value} {vW vO v1 : Value} {work out met : List Int}
theorem BS.grown (h : BS w st wr vW vO work out met) {row : Option Nat} (hg : wr.grownBy w1 row) (hr : ∀ k, row = some k → w.heap.size + 2 ≤ k) (hW : ∀ k, vW.ownBlock = some k → some k ≠ row) (hO : ∀ k, vO.ownBlock = some k → some k ≠ row) : BS w st w1 vW vO work out met := by
  have hne : ∀ k, k < w.heap.size + 2 → some k ≠ row := fun k hk e => by have := hr k e.symm; omega
  obtain ⟨n, D, hm, hn, hc⟩ := h.hm
  exact ⟨blk_grown h.h0 hg (hne _ (by omega)), ⟨n, D, hm.kept hg (hne _ (by omega)), hn, hc⟩, Q_kept h.hw hg hW, R_kept h.ho hg hO, h.hn, pw_below_grown h.hb _ (by have := h.hs; omega) hg (fun k hk => by have := hr k hk; omega), by have := hg.size; have := h.hs; omega⟩
theorem BS.below (h : BS w st wr vW vO work out met) (hb : Below wr.heap.size wr w1) : BS w st w1 vW vO work out met :=
  h.grown (row := none) (grown_of_below hb none) (fun _ e => by cases e) (fun _ _ e => by cases e) (fun _ _ e => by cases e)
theorem BS.met_ (h : BS w st wr vW vO work out met) {met' : List Int} (he : ∀ x, x ∈ met ↔ x ∈ met') (hl : met.length ≤ met'.length) : BS w st wr vW vO work out met' := by
  obtain ⟨n, D, hm, hn, hc⟩ := h.hm
  exact ⟨h.h0, ⟨n, D, hm, Nat.le_trans hn hl, fun k => by rw [hc]; simp only [he]⟩, h.hw, h.ho, h.hn, h.hb, h.hs⟩
theorem BS.mark (h : BS w st wr vW vO work out met) {n : Nat} {D : DataW Unit} {k : Int} (hD : wr.ownsMap Try.prog 3 (plainElem Try.prog 3) (w.heap.size + 1) n D) (hn : n ≤ met.length) (hc : ∀ k, cntOf D k = if k ∈ met then 1 else 0) (hm : w1.ownsMap Try.prog 3 (plainElem Try.prog 3) (w.heap.size + 1) (n + 1) (D.put (.int .i64 k) (.lit (.int .i64 1)))) (hg : wr.grownBy w1 (some (w.heap.size + 1))) : BS w st w1 vW vO work out (k :: met) := by
  refine ⟨blk_grown h.h0 hg (by intro e; injection e with e; omega), ⟨n + 1, _, hm, by simp; exact hn, fun x => ?_⟩, Q_kept h.hw hg (fun k hk e => ?_), R_kept h.ho hg (fun k hk e => ?_), h.hn, pw_below_grown h.hb _ (by have := h.hs; omega) hg (fun k hk => by injection hk with hk; omega), by have := hg.size; have := h.hs; omega⟩
  · rw [cntOf_put hD.isMap, hc]
    by_cases e : x = k
    · simp [e]
    · simp [e]
  · have := Kd.Q_base h.hw k hk
    injection e with e
    omega
  · have := Kd.R_base h.ho k hk
    injection e with e
    omega
theorem BS.pushW (h : BS w st wr vW vO work out met) {work' : List Int} (hq : kI.Q 3 w1 (w.heap.size + 2) (fun _ => True) v1 work') (hg : wr.grownBy w1 vW.ownBlock) (hat : v1.ownBlock = vW.ownBlock ∨ ∃ b, v1.ownBlock = some b ∧ wr.heap.size ≤ b) : BS w st w1 v1 vO work' out met := by
  have hr : ∀ k, vW.ownBlock = some k → w.heap.size + 2 ≤ k := fun k hk => Kd.Q_base h.hw k hk
  have hne : ∀ k, k < w.heap.size + 2 → some k ≠ vW.ownBlock := fun k hk e => by have := hr k e.symm; omega
  obtain ⟨n, D, hm, hn, hc⟩ := h.hm
  exact ⟨blk_grown h.h0 hg (hne _ (by omega)), ⟨n, D, hm.kept hg (hne _ (by omega)), hn, hc⟩, hq, R_kept h.ho hg h.hn.symm, (apart_new h.hn.symm (fun k hk => own_lt (Kd.own_of_R h.ho) k hk) hat).symm, pw_below_grown h.hb _ (by have := h.hs; omega) hg (fun k hk => by have := hr k hk; omega), by have := hg.size; have := h.hs; omega⟩
theorem BS.pushO (h : BS w st wr vW vO work out met) {out' : List Int} (hq : kI.R 3 w1 (w.heap.size + 2) (fun _ => True) v1 out') (hg : wr.grownBy w1 vO.ownBlock) (hat : v1.ownBlock = vO.ownBlock ∨ ∃ b, v1.ownBlock = some b ∧ wr.heap.size ≤ b) : BS w st w1 vW v1 work out' met := by
  have hr : ∀ k, vO.ownBlock = some k → w.heap.size + 2 ≤ k := fun k hk => Kd.R_base h.ho k hk
  have hne : ∀ k, k < w.heap.size + 2 → some k ≠ vO.ownBlock := fun k hk e => by have := hr k e.symm; omega
  obtain ⟨n, D, hm, hn, hc⟩ := h.hm
  exact ⟨blk_grown h.h0 hg (hne _ (by omega)), ⟨n, D, hm.kept hg (hne _ (by omega)), hn, hc⟩, Q_kept h.hw hg h.hn, hq, apart_new h.hn (fun k hk => Kd.Q_lt h.hw k hk) hat, pw_below_grown h.hb _ (by have := h.hs; omega) hg (fun k hk => by have := hr k hk; omega), by have := hg.size; have := h.hs; omega⟩
theorem or_rotate {a b c : Prop} : a ∨ b ∨ c ↔ b ∨ c ∨ a := by rw [← or_assoc, or_comm (a := a), or_assoc, or_comm (a := a), ]
theorem info3' : ∃ i, Try.prog.info? 3 = some i ∧ i.size = 1 := by
  obtain ⟨i, hi, hz⟩ := Option.map_eq_some_iff.1 info3
  simp only [Prod.mk.injEq] at hz
  exact ⟨i, hi, hz.2.1⟩
theorem BS.pop {A : Option Addr} {c : Nat} {y : Int} (h : BS w st wr (.slice A (y :: work).length c) vO (y :: work) out met) : ∃ A', (∀ W : World, (Instr.slice 51 (.slice A (work.length + 1) c) (some (.int .i64 1)) none none).run Try.prog W = .ok (.slice A' work.length (c - 1)) W) ∧ BS w st wr (.slice A' work.length (c - 1)) vO work out met := by
  obtain ⟨i, hi, hz⟩ := info3'
  have hq := Kd.Q_drop (k := 1) h.hw (by simp)
  refine ⟨_, cut_from (P := Try.prog) 51 3 .i64 Try.underlying51 hi 1 hz A (work.length + 1) c 1 (by omega) (by omega), h.h0, h.hm, hq, h.ho, fun k hk e => ?_, h.hb, h.hs⟩
  refine h.hn k ?_ e
  rw [← hk]
  cases A with
  | none => split <;> rfl
  | some a => split <;> simp [Value.ownBlock, add_block]
theorem BS.start {id : Int} (hm : w1.ownsMap Try.prog 3 (plainElem Try.prog 3) (w.heap.size + 1) 1 (((.map [] : DataW Unit)).put (.int .i64 id) (.lit (.int .i64 1)))) (hg : ((w.alloc (.cells st 27 (0, 0))).alloc (.map #[] 0)).grownBy w1 (some (w.heap.size + 1))) : BS w st (w1.alloc (.cells #[.int .i64 id] 3)) (.slice (some ⟨w1.heap.size, 0, none⟩) 1 1) (.slice none 0 0) [id] [] [id] := by
  have hs := hg.size
  simp only [World.size_alloc] at hs
  have h0 := blk_grown (blk_alloc (blk_new w (.cells st 27 (0, 0))) (.map #[] 0)) hg (by intro e; injection e with e; omega)
  have hb : Below w.heap.size w w1 := pw_below_grown (below_alloc (below_alloc (Below.refl _ _) _) _) _ (by simp only [World.size_alloc]; omega) hg (fun k hk => by injection hk with hk; omega)
  refine ⟨blk_alloc h0 _, ⟨1, _, hm.alloc _, by simp, fun k => ?_⟩, Kd.Q_of_R (Kd.R_of_own (own_lit w1 (w.heap.size + 2) 3 .i64 [id] (by omega) (by simp)) (fun _ _ => trivial)), Kd.R_nil _ _ _ _ _, fun k _ e => by simp [Value.ownBlock] at e, below_alloc hb _, by simp [World.size_alloc]; omega⟩
  rw [cntOf_put isMap_empty, cntOf_none]
  simp only [List.mem_singleton]
end
def OutRel (w : World) (its : List S43) (id : Int) (st : Array Value) (v6 v7 : Value) (wr : World) : Prop :=
  ∃ done work out, Aside0 (BInv its id done work out) ∧ Aside0 (BS w st wr v6 v7 work out (id :: out))
def InRel (w : World) (its : List S43) (id : Int) (st : Array Value) (done : List Int) (y : Int) (rest out0 kids : List Int) (vK v6 v7 v24 : Value) (wr : World) : Prop :=
  ∃ (i : Nat) (work out : List Int), v24 = .int .i64 i ∧ i ≤ kids.length ∧ Aside0 (BInv its id done (y :: work) out) ∧ Aside0 (∀ j, (hj : j < kids.length) → j < i → kids[j] ∈ id :: out) ∧ Aside0 (BS w st wr v6 v7 (y :: work) out (id :: out)) ∧ Aside0 (kI.R 3 wr (w.heap.size + 2) (fun _ => True) vK kids) ∧ Aside0 (Apart vK v6 ∧ Apart vK v7) ∧ Aside0 (work.length + out0.length = rest.length + out.length)
def lenOf : Value → Nat | .slice _ n _ => n | _ => 0
theorem head_cell {w : World} {A : Option Addr} {y : Int} {rest : List Int} (h : kI.C w A (y :: rest).length (y :: rest)) : ∃ ad, A = some ad ∧ w.cell? ad = some (.int .i64 y) := by
  obtain ⟨ad, e, hx⟩ := Kd.at_int h 0 (by omega) (by simp)
  exact ⟨ad, e, by simpa [rd, Addr.add] using hx⟩
set_option maxHeartbeats 4000000 in
set_option maxRecDepth 100000 in
theorem below_calls {w : World} {v : Value} {s : Stt} (hS : St w v s) (hF : Fit s) (id : Int) (hid : (Lit.int .i64 id).wf = true) : Calls Try.prog 48 #[v, .int .i64 id] w fun e w' => ∃ v' l, e = .returned v' ∧ kI.R 3 w' w.heap.size (fun _ => True) v' l ∧ (∀ x, x ∈ l ↔ Desc s.items id x ∧ x ≠ id) ∧ l.length ≤ 1000000 ∧ Below w.heap.size w w' := by
  have hu := Try.underlying27
  have HS := Aside0.mk hS
  obtain ⟨A2, c2, A3, c3, A4, c4, A5, c5, rfl, h2, k2, h3, k3, h4, k4, h5, k5⟩ := hS
  clear h2 k2 h3 k3 h4 k4 h5 k5
  have hkey := keyOf_int_mk Try.underlying3 hid
  have hmm := @run_makeMap Try.prog
  go_enter Try.func48, Try.ntmps48
  go_wp2_with ((with_reducible refine gate_ (Op.insert 135 (.tmp 10) (.tmp 11) (.const (.int .i64 1))) rfl ?_); refine wpList_insert_own _ rfl _ _ _ 135 rfl 3 3 keyed3 Try.underlying135 (plainElem Try.prog 3) (w.heap.size + 1) 0 (.map [] : DataW Unit) rfl (by have := World.ownsMap_made (H := Unit) (w.alloc (.cells #[.int .i64 s.clk, .int .i64 s.nxt, .slice A2 s.defs.length c2, .slice A3 s.items.length c3, .slice A4 s.cells.length c4, .slice A5 s.wats.length c5] 27 (0, 0))) Try.prog 3 (plainElem Try.prog 3); rw [World.size_alloc] at this; exact this) (by unfold maxLen; omega) _ _ _ rfl rfl hkey _ [] (plainElem_int Try.underlying3 (by decide)) ?_; intro w1 hown1 hgrow1)
  have HS0 := Aside0.mk (BS.start hown1 hgrow1)
  clear hown1 hgrow1
  obtain ⟨st, hst⟩ : ∃ st, st = (#[.int .i64 s.clk, .int .i64 s.nxt, .slice A2 s.defs.length c2, .slice A3 s.items.length c3, .slice A4 s.cells.length c4, .slice A5 s.wats.length c5] : Array Value) := ⟨_, rfl⟩
  rw [← hst] at HS0
  have HST := Aside0.mk hst
  clear hst
  go_loopw [6, 7] (fun v6 v7 w' => OutRel w s.items id st v6 v7 w') (fun v6 v7 _ => (s.items.length - lenOf v7) + lenOf v6)
  case atStart => exact ⟨_, _, _, ⟨BInv.start _ _⟩, HS0⟩
  case round =>
    unfold OutRel at hrel
    obtain ⟨done, work, out, HI, HB⟩ := hrel
    clear HS0
    obtain ⟨AW, cW, rfl, hcW, hCW⟩ := Kd.Q_reads HB.out.hw
    obtain ⟨AO, cO, rfl⟩ := Kd.R_slice HB.out.ho
    cases work with
    | nil =>
      have hlo := HI.out.len
      have hits := hF.items
      have HSF := Aside0.mk (show slices_Sort_int_int.f out = some (sortL out) by unfold slices_Sort_int_int.f; rw [if_pos (by omega)])
      have HRO := Aside0.mk (Kd.R_lower HB.out.ho (by omega : w.heap.size ≤ w.heap.size + 2))
      clear hCW
      go_wp2_with (go_at_call 108; refine (slices_Sort_int_int.calls (fun _ => True) _ out (sortL out) w wr HB.out.hb HRO.out HSF.out).mono ?_; rintro e w3 ⟨rfl, ho3, hb3, _⟩)
      go_ret
      exact ⟨_, sortL out, rfl, Kd.R_mono ho3 (fun _ _ => trivial), fun x => by rw [mem_sortL]; exact HI.out.done x, by rw [sortL_len]; omega, hb3⟩
    | cons y rest =>
      obtain ⟨ad, rfl, hy⟩ := head_cell hCW
      have hc0 := HB.out.h0
      rw [HST.out] at hc0
      have i0 := blk_cell hc0 0; have i1 := blk_cell hc0 1; have i2 := blk_cell hc0 2; have i3 := blk_cell hc0 3; have i4 := blk_cell hc0 4; have i5 := blk_cell hc0 5
      simp only [List.getElem?_toArray, List.getElem?_cons_zero, List.getElem?_cons_succ] at i0 i1 i2 i3 i4 i5
      have hlen : 0 < (y :: rest).length := by simp
      clear hc0 hCW
      have HBd := Aside0.mk (HB.out.below (below_drew (Below.refl _ _)))
      have HK := Aside0.mk (kids_calls (HS.out.below HBd.out.hb) hF y)
      go_wp2
      go_region_held3 (fun w' => w'.cell? ⟨w.heap.size, 0, none⟩ = some (.int .i64 s.clk) ∧ w'.cell? ⟨w.heap.size, 1, none⟩ = some (.int .i64 s.nxt) ∧ w'.cell? ⟨w.heap.size, 2, none⟩ = some (.slice A2 s.defs.length c2) ∧ w'.cell? ⟨w.heap.size, 3, none⟩ = some (.slice A3 s.items.length c3) ∧ w'.cell? ⟨w.heap.size, 4, none⟩ = some (.slice A4 s.cells.length c4) ∧ w'.cell? ⟨w.heap.size, 5, none⟩ = some (.slice A5 s.wats.length c5) ∧ w'.cell? ad = some (.int .i64 y)) (go_keep) (first | (go_at_call 51; refine HK.out.mono ?_; clear HK; rintro e w2 ⟨vK, kids, rfl, hok, hmk, hlk, hbk⟩; obtain ⟨AK, cK, rfl, hcK, hCK⟩ := Kd.R_reads hok; have HOK := Aside0.mk hok; have HMK := Aside0.mk hmk; have HB2 := Aside0.mk (HBd.out.below hbk); have HSK := Aside0.mk hbk.size; have hc0 := HB2.out.h0; rw [HST.out] at hc0; have j0 := blk_cell hc0 0; have j1 := blk_cell hc0 1; have j2 := blk_cell hc0 2; have j3 := blk_cell hc0 3; have j4 := blk_cell hc0 4; have j5 := blk_cell hc0 5; simp only [List.getElem?_toArray, List.getElem?_cons_zero, List.getElem?_cons_succ] at j0 j1 j2 j3 j4 j5; have hy2 := (hbk.cell (World.block_lt_of_cell? wr ad hy)).trans hy; clear hc0 hok hmk hbk hCK))
      clear i0 i1 i2 i3 i4 i5 j0 j1 j2 j3 j4 j5 hy hy2
      rename_i hheld
      clear hheld
      go_wp2
      go_loopw [6, 7, 24] (fun v6 v7 v24 w' => InRel w s.items id st done y rest out kids (.slice AK kids.length cK) v6 v7 v24 w') (fun _ _ v24 _ => kids.length - (intOf v24).toNat)
      case atStart => exact ⟨0, rest, out, rfl, Nat.zero_le _, HI, ⟨fun j hj h => absurd h (Nat.not_lt_zero _)⟩, HB2, ⟨Kd.R_lower HOK.out HBd.out.hs⟩, ⟨fun k hk e => by have h1 := Kd.R_base HOK.out k hk; have h2 := Kd.Q_lt HBd.out.hw k e.symm; omega, fun k hk e => by have h1 := Kd.R_base HOK.out k hk; have h2 := own_lt (Kd.own_of_R HBd.out.ho) k e.symm; omega⟩, ⟨rfl⟩⟩
      case round =>
        unfold InRel at hrel
        obtain ⟨i, work, out2, rfl, hi, HI2, HM2, HB3, HK3, HA3, HL3⟩ := hrel
        obtain ⟨AK', cK', eK, hcK', hCK⟩ := Kd.R_reads HK3.out
        cases eK
        have hout := HI2.out.len
        have hits := hF.items
        have hwl : (y :: work).length ≤ 1000001 := by
          have := congrArg List.length HI2.out.row
          simp only [List.length_cons, List.length_append] at this ⊢
          omega
        by_cases hlt : i < kids.length
        · have h1 : 0 ≤ ((i : Nat) : Int) := by omega
          have h2 : ((i : Nat) : Int) < (kids.length : Int) := by omega
          obtain ⟨adK, e, hx0⟩ := Kd.at_int hCK _ h1 h2
          cases e
          have hrd : rd kids (i : Int) = kids[i] := by unfold rd; simp [List.getD_eq_getElem?_getD, hlt]
          simp only [Int.toNat_natCast] at hx0
          rw [hrd] at hx0
          clear hrd
          have hkd : kidOf s.items y kids[i] := (HMK.out _).1 (List.getElem_mem hlt)
          have hkw : (Lit.int .i64 kids[i]).wf = true := by obtain ⟨it, hm, _, h2, _⟩ := hkd; rw [← h2]; exact hF.ids it hm
          have HKD := Aside0.mk hkd
          have hkeyK := keyOf_int_mk Try.underlying3 hkw
          clear hkd hkw
          obtain ⟨n, D, hmD, hnD, hcD⟩ := HB3.out.hm
          have HMD := Aside0.mk hmD
          have HND := Aside0.mk hnD
          have HCD := Aside0.mk hcD
          have hnm : n < maxLen := by simp only [List.length_cons] at hnD; unfold maxLen; omega
          clear hmD hnD hcD hCK
          by_cases hmem : kids[i] ∈ id :: out2
          · have HME := Aside0.mk hmem
            clear hmem
            go_wp2_with (at_lookup; refine wpList_lookup_own_int _ rfl _ _ 135 rfl 3 3 .i64 keyed3 Try.underlying135 Try.underlying3 (Try.zeroValue3 _) (w.heap.size + 1) n D rfl HMD.out _ _ rfl hkeyK ?_; intro c hat hwc; obtain rfl : c = 1 := ((cntOf_at hat).symm.trans ((HCD.out _).trans (if_pos HME.out))); clear hat hwc)
            go_roundw
            case rel => unfold InRel; exact ⟨i + 1, work, out2, by go_num, hlt, HI2, ⟨fun j hj h => by
              by_cases e : j = i
              · subst e; exact HME.out
              · exact HM2.out j hj (by omega)⟩, HB3, HK3, HA3, HL3⟩
            case measure => simp [intOf]; omega
          · have HME := Aside0.mk hmem
            clear hmem
            have hl8 : ((y :: work).length + 1) * 8 ≤ 140737488355328 := by omega
            have hl9 : (out2.length + 1) * 8 ≤ 140737488355328 := by omega
            go_wp2_with (first | (at_lookup; refine wpList_lookup_own_int _ rfl _ _ 135 rfl 3 3 .i64 keyed3 Try.underlying135 Try.underlying3 (Try.zeroValue3 _) (w.heap.size + 1) n D rfl HMD.out _ _ rfl hkeyK ?_; intro c hat hwc; obtain rfl : c = 0 := ((cntOf_at hat).symm.trans ((HCD.out _).trans (if_neg HME.out))); clear hat hwc) | (at_mapUpdate; refine wpList_mapUpdate_own _ rfl _ _ _ 135 rfl 3 3 keyed3 Try.underlying135 _ (w.heap.size + 1) n D rfl HMD.out hnm _ _ _ rfl rfl hkeyK _ [] (plainElem_int Try.underlying3 (by decide)) ?_; intro w4 hown4 hgrow4; have HB4 := Aside0.mk (HB3.out.mark HMD.out HND.out HCD.out hown4 hgrow4); have HK4 := Aside0.mk (R_kept HK3.out hgrow4 (fun k hk e => by have := Kd.R_base HK3.out k hk; injection e with e; omega)); clear hown4 hgrow4) | (at_builtin; refine Kd.Q_append kI (w0 := w4) (W := w4) (w.heap.size + 2) rfl (.tmp 36) (.tmp 38) 51 3 (.int .i64 0) 8 rfl Try.underlying51 info3 rfl (by decide) (by omega) _ (y :: work) kids[i] [.int .i64 kids[i]] (fun _ => True) (fun _ => False) rfl rfl rfl (fun _ h => h.elim) (fun _ _ => trivial) HB4.out.hw (Below.refl _ _) HB4.out.hs hl8 ?_; intro v8 w5 hq hb5 hg5 hat5; have HB5 := Aside0.mk (HB4.out.pushW hq hg5 hat5); have HK5 := Aside0.mk (R_kept HK4.out hg5 HA3.out.1); have HA5 := Aside0.mk (apart_new HA3.out.1 (fun k hk => own_lt (Kd.own_of_R HK4.out) k hk) hat5); clear hq hb5 hg5 hat5) | (at_builtin; refine Kd.R_append kI (w0 := w5) (W := w5) (w.heap.size + 2) rfl (.tmp 40) (.tmp 42) 51 3 (.int .i64 0) 8 rfl Try.underlying51 info3 rfl (by decide) (by omega) _ out2 kids[i] [.int .i64 kids[i]] (fun _ => True) (fun _ => False) rfl rfl rfl (fun _ h => h.elim) (fun _ _ => trivial) HB5.out.ho (Below.refl _ _) HB5.out.hs hl9 ?_; intro v9 w6 hq hb6 hg6 hat6; have HB6 := Aside0.mk (HB5.out.pushO hq hg6 hat6); have HK6 := Aside0.mk (R_kept HK5.out hg6 HA3.out.2); have HA6 := Aside0.mk (apart_new HA3.out.2 (fun k hk => own_lt (Kd.own_of_R HK5.out) k hk) hat6); clear hq hb6 hg6 hat6))
            go_roundw
            case rel => unfold InRel; exact ⟨i + 1, work ++ [kids[i]], out2 ++ [kids[i]], by go_num, hlt, ⟨HI2.out.push HKD.out HME.out⟩, ⟨fun j hj h => by
              by_cases e : j = i
              · subst e; simp
              · rw [← List.cons_append]; exact List.mem_append_left _ (HM2.out j hj (by omega))⟩, ⟨HB6.out.met_ (fun x => by simp only [List.mem_cons, List.mem_append, List.not_mem_nil, or_false]; exact or_rotate) (by simp)⟩, HK6, ⟨HA5.out, HA6.out⟩, ⟨by have := HL3.out; simp only [List.length_append, List.length_cons, List.length_nil]; omega⟩⟩
            case measure => simp [intOf]; omega
        · obtain rfl : i = kids.length := by omega
          obtain ⟨A6, c6, rfl, hc6, _⟩ := Kd.Q_reads HB3.out.hw
          obtain ⟨A7, cO7, rfl⟩ := Kd.R_slice HB3.out.ho
          obtain ⟨A8, hcut, HP⟩ := HB3.out.pop
          clear hCK
          go_wp2
          go_roundw
          case rel => unfold OutRel; exact ⟨done ++ [y], work, out2, ⟨HI2.out.pop (fun x hx => by obtain ⟨j, hj, rfl⟩ := List.getElem_of_mem ((HMK.out x).2 hx); exact HM2.out j hj hj)⟩, ⟨HP⟩⟩
          case measure => have := HL3.out; simp [lenOf]; omega
end Go.Proofs.Ythonmfcollafkaa.P
