import Derived.Test.YtfbaejhjppikpaaHText
import Derived.Test.YtfbaejhjppikpaaUSize
namespace Go.Proofs.Ytfbaejhjppikpaa.P
open Go.RowKit Go.Proofs.YtfbaejhjppikpaaW.PrintWords Go.Proofs.YtfbaejhjppikpaaW.PrintLast Go.Proofs.YtfbaejhjppikpaaW.PrintMore
set_option linter.unusedVariables false
set_option linter.unusedSimpArgs false

def smallB (l : List S47) (m : List S36) : Bool := decide (l.length ≤ 1000) && (decide (m.length ≤ 1000) && ((l.all fun x => decide (x.f0.size ≤ 1000) && decide (x.f1.size ≤ 1000)) && (m.all fun x => decide (x.f0.size ≤ 1000))))
theorem small_of (l : List S47) (m : List S36) (h : smallB l m = true) : Small l m := by
  unfold smallB at h
  simp only [Bool.and_eq_true, decide_eq_true_eq, List.all_eq_true] at h
  exact ⟨h.1, h.2.1, fun x hx => h.2.2.1 x hx, fun x hx => h.2.2.2 x hx⟩
def textL (s : ByteArray) : List Int := IntKind.u8.wrap (s.size : Int) :: bytesOf s
def encE (e : S47) : List Int := textL e.f0 ++ textL e.f1
def encB (e : S36) : List Int := textL e.f0 ++ [IntKind.u8.wrap (e.f1 / 256), IntKind.u8.wrap e.f1]
def encN (a : Bool) (l : List S47) (m : List S36) : List Int := (if a then 1 else 2) :: (l.flatMap encE ++ m.flatMap encB)

theorem rowU_new {w : World} {g base : Nat} {x : Int} (h : w.heap[g]? = some (.cells #[.int .u8 x] 5 (0, 0))) (hb : base ≤ g) : RowU w base (.slice (some ⟨g, 0, none⟩) 1 1) [x] :=
  Kd.R_of_own ⟨rfl, .inr ⟨g, 1, _, rfl, hb, h, Nat.le_refl _, by unfold maxLen; omega, rfl, rfl⟩⟩ (fun _ _ => trivial)
theorem box3 {w : World} {g : Nat} {a b c : Value} {t : Nat} (h : w.heap[g]? = some (.cells #[a, b, c] t (0, 0))) : w.cell? ⟨g, 0, none⟩ = some a ∧ w.cell? ⟨g, 1, none⟩ = some b ∧ w.cell? ⟨g, 2, none⟩ = some c :=
  ⟨blk_cell h 0, blk_cell h 1, blk_cell h 2⟩

theorem blk_new2 (w : World) (o o' : Obj) : ((w.alloc o).alloc o').heap[w.heap.size + 1]? = some o' := by
  rw [show w.heap.size + 1 = (w.alloc o).heap.size from (World.size_alloc _ _).symm]
  exact blk_new _ _
theorem chg_blk {w w' : World} {B g t base : Nat} {v : Value} {xs : List Int} {c : Array Value} (hc : Chg w w' B v.ownBlock) (ho : RowU w base v xs) (hg : w.heap[g]? = some (.cells c t (0, 0))) (ht : 5 ≠ t) (hB : g ≠ B) : w'.heap[g]? = some (.cells c t (0, 0)) :=
  (hc.2 g (blk_lt hg) hB (Kd.R_ne ho hg ht)).trans hg
theorem box2 {w : World} {g : Nat} {a b : Value} {t : Nat} (h : w.heap[g]? = some (.cells #[a, b] t (0, 0))) : w.cell? ⟨g, 0, none⟩ = some a ∧ w.cell? ⟨g, 1, none⟩ = some b :=
  ⟨blk_cell h 0, blk_cell h 1⟩
theorem rowU_alloc {w : World} {base : Nat} {v : Value} {xs : List Int} (h : RowU w base v xs) (o : Obj) : RowU (w.alloc o) base v xs := Kd.R_alloc h o
theorem encE_snoc (l : List S47) (i : Nat) (h : i < l.length) : (l.take (i + 1)).flatMap encE = (l.take i).flatMap encE ++ (textL (rd_T47 l (i : Int)).f0 ++ textL (rd_T47 l (i : Int)).f1) := by
  rw [List.take_succ_eq_append_getElem h, List.flatMap_append, rdE l i h]; simp [encE]
theorem encB_snoc (l : List S36) (i : Nat) (h : i < l.length) : (l.take (i + 1)).flatMap encB = (l.take i).flatMap encB ++ (textL (rd_T36 l (i : Int)).f0 ++ [IntKind.u8.wrap ((rd_T36 l (i : Int)).f1 / 256), IntKind.u8.wrap (rd_T36 l (i : Int)).f1]) := by
  rw [List.take_succ_eq_append_getElem h, List.flatMap_append, rdB l i h]; simp [encB]
theorem textL_len (s : ByteArray) : (textL s).length = s.size + 1 := by simp [textL, bytesOf_length]
theorem rel_round1 {c : Int} {l : List S47} {xs : List Int} {i : Nat} (hx : xs = c :: (l.take i).flatMap encE) (hi : i < l.length) :
    xs ++ [IntKind.u8.wrap ((rd_T47 l (i : Int)).f0.size : Int)] ++ bytesOf (rd_T47 l (i : Int)).f0 ++ [IntKind.u8.wrap ((rd_T47 l (i : Int)).f1.size : Int)] ++ bytesOf (rd_T47 l (i : Int)).f1 = c :: (l.take (i + 1)).flatMap encE := by
  rw [encE_snoc l i hi, hx]; simp [textL]

theorem lit2 (w : World) (x y : Int) : (Kd.int .u8).C (w.alloc (.cells #[.int .u8 x, .int .u8 y] 5)) (some ⟨w.heap.size, 0, none⟩) 2 [x, y] :=
  Kd.C_of_reads (d := (0 : Int)) ⟨rfl, by omega, fun _ => ⟨_, rfl, fun j hj => by
    rw [add_plain, blk_cell (blk_new w _) j]
    match j, hj with
    | 0, _ => rfl
    | 1, _ => rfl⟩⟩
theorem slice_of_R {w : World} {base : Nat} {v : Value} {xs : List Int} (h : RowU w base v xs) : ∃ A n c, v = .slice A n c := by
  obtain ⟨A, c, e⟩ := Kd.R_slice h
  exact ⟨A, _, c, e⟩
theorem rel_round2 {c : Int} {l : List S47} {m : List S36} {xs : List Int} {j : Nat} (hx : xs = c :: (l.flatMap encE ++ (m.take j).flatMap encB)) (hj : j < m.length) :
    xs ++ [IntKind.u8.wrap ((rd_T36 m (j : Int)).f0.size : Int)] ++ bytesOf (rd_T36 m (j : Int)).f0 ++ [IntKind.u8.wrap ((rd_T36 m (j : Int)).f1 / 256), IntKind.u8.wrap (rd_T36 m (j : Int)).f1] = c :: (l.flatMap encE ++ (m.take (j + 1)).flatMap encB) := by
  rw [encB_snoc m j hj, hx]; simp [textL]

theorem grow_blk {w w1 : World} {g t base : Nat} {v : Value} {xs : List Int} {c : Array Value} (hg : w.grownBy w1 v.ownBlock) (ho : RowU w base v xs) (hb : w.heap[g]? = some (.cells c t (0, 0))) (ht : 5 ≠ t) : w1.heap[g]? = some (.cells c t (0, 0)) :=
  (hg.block g (blk_lt hb) (Kd.R_ne ho hb ht)).trans hb
def EncRel1 (a : Bool) (A0 : Option Addr) (c0 : Nat) (l : List S47) (A1 : Option Addr) (c1 : Nat) (m : List S36) (w : World) (B : Nat) (v27 : Value) (wr : World) : Prop :=
  ∃ (i : Nat) (v : Value) (xs : List Int), v27 = .int .i64 i ∧ i ≤ l.length ∧ Aside0 (xs = (if a then 1 else 2) :: (l.take i).flatMap encE) ∧ Aside0 (xs.length ≤ 1 + 3000 * i) ∧ Aside0 (RowU wr w.heap.size v xs) ∧ Aside0 (wr.heap[B]? = some (.cells #[v] 45 (0, 0))) ∧ Aside0 (wr.heap[w.heap.size]? = some (.cells #[.bool a, .slice A0 l.length c0, .slice A1 m.length c1] 31 (0, 0))) ∧ Aside0 (Below w.heap.size w wr)

def EncRel2 (a : Bool) (A0 : Option Addr) (c0 : Nat) (l : List S47) (A1 : Option Addr) (c1 : Nat) (m : List S36) (w : World) (B : Nat) (v43 : Value) (wr : World) : Prop :=
  ∃ (j : Nat) (v : Value) (xs : List Int), v43 = .int .i64 j ∧ j ≤ m.length ∧ Aside0 (xs = (if a then 1 else 2) :: (l.flatMap encE ++ (m.take j).flatMap encB)) ∧ Aside0 (xs.length ≤ 3000001 + 2000 * j) ∧ Aside0 (RowU wr w.heap.size v xs) ∧ Aside0 (wr.heap[B]? = some (.cells #[v] 45 (0, 0))) ∧ Aside0 (wr.heap[w.heap.size]? = some (.cells #[.bool a, .slice A0 l.length c0, .slice A1 m.length c1] 31 (0, 0))) ∧ Aside0 (Below w.heap.size w wr)

set_option maxHeartbeats 4000000 in
set_option maxRecDepth 100000 in
theorem encode_go_true (A0 : Option Addr) (c0 : Nat) (l : List S47) (A1 : Option Addr) (c1 : Nat) (m : List S36) (w : World) (hr0 : Kd.C k47 w A0 l.length l) (hc0 : l.length ≤ c0) (hr1 : Kd.C k36 w A1 m.length m) (hc1 : m.length ≤ c1) (hs : Small l m) (hm : mayB true l m = true) (hf : decide (sizeN l m ≤ 254) = true) :
    Calls Try.prog 15 #[.agg #[.bool true, .slice A0 l.length c0, .slice A1 m.length c1]] w fun e w' => e = .returned (.tuple #[.string (strOfNums (encN true l m)), .int .i64 0]) ∧ Below w.heap.size w w' := by
  have hu31 := Try.underlying31
  have hu47 := Try.underlying47
  have hu36 := Try.underlying36
  have hl0 := hs.l_len
  have hl1 := hs.m_len
  have HS := Aside0.mk hs
  have HR0 := Aside0.mk hr0
  have HR1 := Aside0.mk hr1
  have HM := Aside0.mk hm
  have HF := Aside0.mk hf
  have HT := Aside0.mk ((may_tells true l m (by omega) (by omega) (l.length + m.length + 3) (Nat.le_refl _)).trans (congrArg some hm))
  have HZ := Aside0.mk ((fits_tells true l m hs (l.length + m.length + 2) (Nat.le_refl _)).trans (congrArg some hf))
  have HB := Aside0.mk ((Below.refl w.heap.size w).alloc (Nat.le_refl _) (.cells #[.bool true, .slice A0 l.length c0, .slice A1 m.length c1] 31))
  have HG := Aside0.mk (blk_new w (.cells #[.bool true, .slice A0 l.length c0, .slice A1 m.length c1] 31))
  clear hr0 hr1 hm hf hs
  go_enter Try.func15, Try.ntmps15
  go_wp2_with (first | (go_at_call 13; go_must (refine (leaf_May.calls _ _ _ _ _ _ _ _ _ _ (Kd.C_below HR0.out HB.out) hc0 (Kd.C_below HR1.out HB.out) hc1 HT.out).mono ?_; rintro e w2 ⟨rfl, hb2⟩; have HG2 := Aside0.mk (blk_below HG.out hb2); have HB2 := Aside0.mk (below_step HB.out hb2); clear hb2; obtain ⟨hz0, hz1, hz2⟩ := box3 HG2.out)) | (go_at_call 19; go_must (refine (leaf_Fits.calls _ _ _ _ _ _ _ _ _ _ (Kd.C_below HR0.out HB2.out) hc0 (Kd.C_below HR1.out HB2.out) hc1 HZ.out).mono ?_; rintro e w3 ⟨rfl, hb3⟩; have HG3 := Aside0.mk (blk_below HG2.out hb3); have HB3 := Aside0.mk (below_step HB2.out hb3); clear hb3; clear hz0 hz1 hz2; obtain ⟨hz0, hz1, hz2⟩ := box3 HG3.out; have hlt3 : w.heap.size < w3.heap.size := blk_lt HG3.out)))
  · go_loopw [27] (fun v27 wr => EncRel1 true A0 c0 l A1 c1 m w (w3.heap.size + 1) v27 wr) (fun v27 _ => l.length - (intOf v27).toNat)
    case atStart =>
      unfold EncRel1
      exact ⟨0, _, _, rfl, Nat.zero_le _, ⟨by simp⟩, ⟨by simp⟩, ⟨rowU_alloc (rowU_new (blk_new w3 _) (Nat.le_of_lt hlt3)) _⟩, ⟨blk_new2 _ _ _⟩, ⟨blk_alloc (blk_alloc HG3.out _) _⟩, ⟨below_alloc (below_alloc HB3.out _) _⟩⟩
    case round =>
      obtain ⟨i, v, xs, rfl, hi, HX, HL, HO, HK, HG4, HB4⟩ := hrel
      clear hz0 hz1 hz2
      obtain ⟨hz0, hz1, hz2⟩ := box3 HG4.out
      have hBlt : w3.heap.size + 1 < wr.heap.size := blk_lt HK.out
      have hBw : w.heap.size ≤ w3.heap.size + 1 := by omega
      by_cases hlt : i < l.length
      · have h1 : 0 ≤ ((i : Nat) : Int) := by omega
        have h2 : ((i : Nat) : Int) < (l.length : Int) := by omega
        obtain ⟨ad, e, hx0, hx1⟩ := at_T47 HR0.out _ h1 h2
        cases e
        replace hx0 := (HB4.out.cell (World.block_lt_of_cell? w _ hx0)).trans hx0
        replace hx1 := (HB4.out.cell (World.block_lt_of_cell? w _ hx1)).trans hx1
        simp only [Int.toNat_natCast] at hx0 hx1
        have hsz := HS.out.l_all l[i] (List.getElem_mem hlt)
        rw [← rdE l i hlt] at hsz
        have HSZ := Aside0.mk hsz
        clear hsz
        have tok1 : True := trivial
        have tok2 : True := trivial
        go_wp2_with (first | (go_at_call 42; have _t := tok1; go_must (refine (text42 (w3.heap.size + 1) v xs _ w _ (blk_alloc HK.out _) (rowU_alloc HO.out _) (below_alloc HB4.out _) hBw (by have := HL.out; have := HSZ.out; omega)).mono ?_; rintro e w5 ⟨v5, rfl, hk5, ho5, hb5, hc5⟩; have HX5 := Aside0.mk (chg_blk hc5 (rowU_alloc HO.out _) (blk_new wr _) (by decide) (by omega)); have HG5 := Aside0.mk (chg_blk hc5 (rowU_alloc HO.out _) (blk_alloc HG4.out _) (by decide) (by omega)); have HK5 := Aside0.mk hk5; have HO5 := Aside0.mk ho5; have HB5 := Aside0.mk hb5; clear hk5 ho5 hb5 hc5 hz0 hz1 hz2 tok1; obtain ⟨hy0, hy1⟩ := box2 HX5.out)) | (go_at_call 42; have _t := tok2; go_must (refine (text42 (w3.heap.size + 1) v5 _ _ w _ HK5.out HO5.out HB5.out hBw (by have := HL.out; have := HSZ.out; simp only [List.length_append, List.length_cons, List.length_nil, bytesOf_length]; omega)).mono ?_; rintro e w6 ⟨v6, rfl, hk6, ho6, hb6, hc6⟩; have HG6 := Aside0.mk (chg_blk hc6 HO5.out HG5.out (by decide) (by omega)); have HK6 := Aside0.mk hk6; have HO6 := Aside0.mk ho6; have HB6 := Aside0.mk hb6; clear hk6 ho6 hb6 hc6 tok2)))
        go_roundw
        case rel =>
          unfold EncRel1
          exact ⟨i + 1, v6, _, by go_num, by omega, ⟨rel_round1 HX.out hlt⟩, ⟨by have := HL.out; have := HSZ.out; simp only [List.length_append, List.length_cons, List.length_nil, bytesOf_length]; omega⟩, HO6, HK6, HG6, HB6⟩
        case measure => simp [intOf]; omega
      · have hil : i = l.length := by omega
        have HX1 := Aside0.mk (show xs = (if true then 1 else 2) :: l.flatMap encE from HX.out.trans (by rw [hil, List.take_length]))
        have HL1 := Aside0.mk (show xs.length ≤ 3000001 from by have := HL.out; omega)
        clear hil
        go_wp2
        go_loopw [43] (fun v43 ws => EncRel2 true A0 c0 l A1 c1 m w (w3.heap.size + 1) v43 ws) (fun v43 _ => m.length - (intOf v43).toNat)
        case atStart =>
          unfold EncRel2
          exact ⟨0, _, _, rfl, Nat.zero_le _, ⟨by rw [HX1.out]; simp⟩, ⟨HL1.out⟩, HO, HK, HG4, HB4⟩
        case round =>
          clear HX HX1 HL1 HL HO HK HG4 HB4 hz0 hz1 hz2 hBlt hlt
          obtain ⟨j, v, xs, rfl, hj, HX, HL, HO, HK, HG4, HB4⟩ := hrel
          have hBlt : w3.heap.size + 1 < wr.heap.size := blk_lt HK.out
          by_cases hlt : j < m.length
          · have h1 : 0 ≤ ((j : Nat) : Int) := by omega
            have h2 : ((j : Nat) : Int) < (m.length : Int) := by omega
            obtain ⟨ad, e, hx0, hx1⟩ := at_T36 HR1.out _ h1 h2
            cases e
            replace hx0 := (HB4.out.cell (World.block_lt_of_cell? w _ hx0)).trans hx0
            replace hx1 := (HB4.out.cell (World.block_lt_of_cell? w _ hx1)).trans hx1
            simp only [Int.toNat_natCast] at hx0 hx1
            have hsz := HS.out.m_all m[j] (List.getElem_mem hlt)
            rw [← rdB m j hlt] at hsz
            have HSZ := Aside0.mk hsz
            clear hsz
            have tok1 : True := trivial
            go_wp2_with (first | (go_at_call 42; have _t := tok1; go_must (refine (text42 (w3.heap.size + 1) v xs _ w _ (blk_alloc HK.out _) (rowU_alloc HO.out _) (below_alloc HB4.out _) hBw (by have := HL.out; have := HSZ.out; omega)).mono ?_; rintro e w5 ⟨v5, rfl, hk5, ho5, hb5, hc5⟩; have HX5 := Aside0.mk (chg_blk hc5 (rowU_alloc HO.out _) (blk_new wr _) (by decide) (by omega)); have HG5 := Aside0.mk (chg_blk hc5 (rowU_alloc HO.out _) (blk_alloc HG4.out _) (by decide) (by omega)); have HK5 := Aside0.mk hk5; have HO5 := Aside0.mk ho5; have HB5 := Aside0.mk hb5; clear hk5 ho5 hb5 hc5 tok1; obtain ⟨hy0, hy1⟩ := box2 HX5.out; obtain ⟨A5, n5, q5, rfl⟩ := slice_of_R HO5.out; have hkb : w5.cell? ⟨w3.heap.size + 1, 0, none⟩ = some (.slice A5 n5 q5) := blk_cell HK5.out 0)) | ((with_reducible refine gate_builtin (b := .append) (xs := #[.tmp 51, .tmp 59]) rfl ?_); go_must (at_builtin; refine Kd.R_append_row (Value.int .u8) (0 : Int) (h1 := fun _ => rfl) (w0 := w) w.heap.size rfl (.tmp 51) (.tmp 59) 45 5 (.int .u8 0) 1 rfl Try.underlying45 info5 rfl (by decide) (.slice A5 n5 q5) (xs ++ [IntKind.u8.wrap ((rd_T36 m (j : Int)).f0.size : Int)] ++ bytesOf (rd_T36 m (j : Int)).f0) [IntKind.u8.wrap ((rd_T36 m (j : Int)).f1 / 256), IntKind.u8.wrap (rd_T36 m (j : Int)).f1] (some ⟨w5.heap.size, 0, none⟩) 2 2 (fun _ => True) rfl rfl (fun _ _ => trivial) ?aO ?aR ?aB ?aS ?aL ?_; (case aO => exact rowU_alloc HO5.out _); (case aR => exact lit2 w5 _ _); (case aB => exact below_alloc HB5.out _); (case aS => exact below_size (below_alloc HB5.out _)); (case aL => have := HL.out; have := HSZ.out; simp only [List.length_append, List.length_cons, List.length_nil, bytesOf_length]; omega); intro v6 w6 ho6 hb6 hg6 hat6; obtain ⟨A6, n6, q6, rfl⟩ := slice_of_R ho6; have HK6 := Aside0.mk (grow_blk hg6 (rowU_alloc HO5.out _) (blk_alloc HK5.out _) (by decide)); have HG6 := Aside0.mk (grow_blk hg6 (rowU_alloc HO5.out _) (blk_alloc HG5.out _) (by decide)); have HO6 := Aside0.mk ho6; have HB6 := Aside0.mk hb6; clear ho6 hb6 hg6 hat6; have hk6 : w6.cell? ⟨w3.heap.size + 1, 0, none⟩ = some (.slice A5 n5 q5) := blk_cell HK6.out 0; have hf6 : w6.frozen? ⟨w3.heap.size + 1, 0, none⟩ = false := blk_frozen HK6.out 0)))
            go_roundw
            case rel =>
              unfold EncRel2
              exact ⟨j + 1, _, _, by go_num, by omega, ⟨rel_round2 HX.out hlt⟩, ⟨by have := HL.out; have := HSZ.out; simp only [List.length_append, List.length_cons, List.length_nil, bytesOf_length]; omega⟩, ⟨Kd.R_set HO6.out HK6.out (by decide) 0 _⟩, ⟨blk_put HK6.out 0 _ rfl⟩, ⟨blk_far HG6.out (by simp; omega) _⟩, ⟨below_set HB6.out hBw⟩⟩
            case measure => simp [intOf]; omega
          · have hjl : j = m.length := by omega
            have HX2 := Aside0.mk (show xs = encN true l m from HX.out.trans (by unfold encN; rw [hjl, List.take_length]))
            obtain ⟨A9, q9, rfl, hq9, hc9⟩ := Kd.R_reads HO.out
            have hk9 : wr.cell? ⟨w3.heap.size + 1, 0, none⟩ = some (.slice A9 xs.length q9) := blk_cell HK.out 0
            have hcv := Kd.C_string (P := Try.prog) (c := q9) Try.underlying45 Try.underlying5 Try.underlying9 hc9
            clear hjl hc9 hq9
            go_wp2
            go_ret2
            exact ⟨by rw [HX2.out]; rfl, HB4.out⟩

set_option maxHeartbeats 4000000 in
set_option maxRecDepth 100000 in
theorem encode_go_false (A0 : Option Addr) (c0 : Nat) (l : List S47) (A1 : Option Addr) (c1 : Nat) (m : List S36) (w : World) (hr0 : Kd.C k47 w A0 l.length l) (hc0 : l.length ≤ c0) (hr1 : Kd.C k36 w A1 m.length m) (hc1 : m.length ≤ c1) (hs : Small l m) (hm : mayB false l m = true) (hf : decide (sizeN l m ≤ 254) = true) :
    Calls Try.prog 15 #[.agg #[.bool false, .slice A0 l.length c0, .slice A1 m.length c1]] w fun e w' => e = .returned (.tuple #[.string (strOfNums (encN false l m)), .int .i64 0]) ∧ Below w.heap.size w w' := by
  have hu31 := Try.underlying31
  have hu47 := Try.underlying47
  have hu36 := Try.underlying36
  have hl0 := hs.l_len
  have hl1 := hs.m_len
  have HS := Aside0.mk hs
  have HR0 := Aside0.mk hr0
  have HR1 := Aside0.mk hr1
  have HM := Aside0.mk hm
  have HF := Aside0.mk hf
  have HT := Aside0.mk ((may_tells false l m (by omega) (by omega) (l.length + m.length + 3) (Nat.le_refl _)).trans (congrArg some hm))
  have HZ := Aside0.mk ((fits_tells false l m hs (l.length + m.length + 2) (Nat.le_refl _)).trans (congrArg some hf))
  have HB := Aside0.mk ((Below.refl w.heap.size w).alloc (Nat.le_refl _) (.cells #[.bool false, .slice A0 l.length c0, .slice A1 m.length c1] 31))
  have HG := Aside0.mk (blk_new w (.cells #[.bool false, .slice A0 l.length c0, .slice A1 m.length c1] 31))
  clear hr0 hr1 hm hf hs
  go_enter Try.func15, Try.ntmps15
  go_wp2_with (first | (go_at_call 13; go_must (refine (leaf_May.calls _ _ _ _ _ _ _ _ _ _ (Kd.C_below HR0.out HB.out) hc0 (Kd.C_below HR1.out HB.out) hc1 HT.out).mono ?_; rintro e w2 ⟨rfl, hb2⟩; have HG2 := Aside0.mk (blk_below HG.out hb2); have HB2 := Aside0.mk (below_step HB.out hb2); clear hb2; obtain ⟨hz0, hz1, hz2⟩ := box3 HG2.out)) | (go_at_call 19; go_must (refine (leaf_Fits.calls _ _ _ _ _ _ _ _ _ _ (Kd.C_below HR0.out HB2.out) hc0 (Kd.C_below HR1.out HB2.out) hc1 HZ.out).mono ?_; rintro e w3 ⟨rfl, hb3⟩; have HG3 := Aside0.mk (blk_below HG2.out hb3); have HB3 := Aside0.mk (below_step HB2.out hb3); clear hb3; clear hz0 hz1 hz2; obtain ⟨hz0, hz1, hz2⟩ := box3 HG3.out; have hlt3 : w.heap.size < w3.heap.size := blk_lt HG3.out)))
  · go_loopw [27] (fun v27 wr => EncRel1 false A0 c0 l A1 c1 m w (w3.heap.size + 1) v27 wr) (fun v27 _ => l.length - (intOf v27).toNat)
    case atStart =>
      unfold EncRel1
      exact ⟨0, _, _, rfl, Nat.zero_le _, ⟨by simp⟩, ⟨by simp⟩, ⟨rowU_alloc (rowU_new (blk_new w3 _) (Nat.le_of_lt hlt3)) _⟩, ⟨blk_new2 _ _ _⟩, ⟨blk_alloc (blk_alloc HG3.out _) _⟩, ⟨below_alloc (below_alloc HB3.out _) _⟩⟩
    case round =>
      obtain ⟨i, v, xs, rfl, hi, HX, HL, HO, HK, HG4, HB4⟩ := hrel
      clear hz0 hz1 hz2
      obtain ⟨hz0, hz1, hz2⟩ := box3 HG4.out
      have hBlt : w3.heap.size + 1 < wr.heap.size := blk_lt HK.out
      have hBw : w.heap.size ≤ w3.heap.size + 1 := by omega
      by_cases hlt : i < l.length
      · have h1 : 0 ≤ ((i : Nat) : Int) := by omega
        have h2 : ((i : Nat) : Int) < (l.length : Int) := by omega
        obtain ⟨ad, e, hx0, hx1⟩ := at_T47 HR0.out _ h1 h2
        cases e
        replace hx0 := (HB4.out.cell (World.block_lt_of_cell? w _ hx0)).trans hx0
        replace hx1 := (HB4.out.cell (World.block_lt_of_cell? w _ hx1)).trans hx1
        simp only [Int.toNat_natCast] at hx0 hx1
        have hsz := HS.out.l_all l[i] (List.getElem_mem hlt)
        rw [← rdE l i hlt] at hsz
        have HSZ := Aside0.mk hsz
        clear hsz
        have tok1 : True := trivial
        have tok2 : True := trivial
        go_wp2_with (first | (go_at_call 42; have _t := tok1; go_must (refine (text42 (w3.heap.size + 1) v xs _ w _ (blk_alloc HK.out _) (rowU_alloc HO.out _) (below_alloc HB4.out _) hBw (by have := HL.out; have := HSZ.out; omega)).mono ?_; rintro e w5 ⟨v5, rfl, hk5, ho5, hb5, hc5⟩; have HX5 := Aside0.mk (chg_blk hc5 (rowU_alloc HO.out _) (blk_new wr _) (by decide) (by omega)); have HG5 := Aside0.mk (chg_blk hc5 (rowU_alloc HO.out _) (blk_alloc HG4.out _) (by decide) (by omega)); have HK5 := Aside0.mk hk5; have HO5 := Aside0.mk ho5; have HB5 := Aside0.mk hb5; clear hk5 ho5 hb5 hc5 hz0 hz1 hz2 tok1; obtain ⟨hy0, hy1⟩ := box2 HX5.out)) | (go_at_call 42; have _t := tok2; go_must (refine (text42 (w3.heap.size + 1) v5 _ _ w _ HK5.out HO5.out HB5.out hBw (by have := HL.out; have := HSZ.out; simp only [List.length_append, List.length_cons, List.length_nil, bytesOf_length]; omega)).mono ?_; rintro e w6 ⟨v6, rfl, hk6, ho6, hb6, hc6⟩; have HG6 := Aside0.mk (chg_blk hc6 HO5.out HG5.out (by decide) (by omega)); have HK6 := Aside0.mk hk6; have HO6 := Aside0.mk ho6; have HB6 := Aside0.mk hb6; clear hk6 ho6 hb6 hc6 tok2)))
        go_roundw
        case rel =>
          unfold EncRel1
          exact ⟨i + 1, v6, _, by go_num, by omega, ⟨rel_round1 HX.out hlt⟩, ⟨by have := HL.out; have := HSZ.out; simp only [List.length_append, List.length_cons, List.length_nil, bytesOf_length]; omega⟩, HO6, HK6, HG6, HB6⟩
        case measure => simp [intOf]; omega
      · have hil : i = l.length := by omega
        have HX1 := Aside0.mk (show xs = (if false then 1 else 2) :: l.flatMap encE from HX.out.trans (by rw [hil, List.take_length]))
        have HL1 := Aside0.mk (show xs.length ≤ 3000001 from by have := HL.out; omega)
        clear hil
        go_wp2
        go_loopw [43] (fun v43 ws => EncRel2 false A0 c0 l A1 c1 m w (w3.heap.size + 1) v43 ws) (fun v43 _ => m.length - (intOf v43).toNat)
        case atStart =>
          unfold EncRel2
          exact ⟨0, _, _, rfl, Nat.zero_le _, ⟨by rw [HX1.out]; simp⟩, ⟨HL1.out⟩, HO, HK, HG4, HB4⟩
        case round =>
          clear HX HX1 HL1 HL HO HK HG4 HB4 hz0 hz1 hz2 hBlt hlt
          obtain ⟨j, v, xs, rfl, hj, HX, HL, HO, HK, HG4, HB4⟩ := hrel
          have hBlt : w3.heap.size + 1 < wr.heap.size := blk_lt HK.out
          by_cases hlt : j < m.length
          · have h1 : 0 ≤ ((j : Nat) : Int) := by omega
            have h2 : ((j : Nat) : Int) < (m.length : Int) := by omega
            obtain ⟨ad, e, hx0, hx1⟩ := at_T36 HR1.out _ h1 h2
            cases e
            replace hx0 := (HB4.out.cell (World.block_lt_of_cell? w _ hx0)).trans hx0
            replace hx1 := (HB4.out.cell (World.block_lt_of_cell? w _ hx1)).trans hx1
            simp only [Int.toNat_natCast] at hx0 hx1
            have hsz := HS.out.m_all m[j] (List.getElem_mem hlt)
            rw [← rdB m j hlt] at hsz
            have HSZ := Aside0.mk hsz
            clear hsz
            have tok1 : True := trivial
            go_wp2_with (first | (go_at_call 42; have _t := tok1; go_must (refine (text42 (w3.heap.size + 1) v xs _ w _ (blk_alloc HK.out _) (rowU_alloc HO.out _) (below_alloc HB4.out _) hBw (by have := HL.out; have := HSZ.out; omega)).mono ?_; rintro e w5 ⟨v5, rfl, hk5, ho5, hb5, hc5⟩; have HX5 := Aside0.mk (chg_blk hc5 (rowU_alloc HO.out _) (blk_new wr _) (by decide) (by omega)); have HG5 := Aside0.mk (chg_blk hc5 (rowU_alloc HO.out _) (blk_alloc HG4.out _) (by decide) (by omega)); have HK5 := Aside0.mk hk5; have HO5 := Aside0.mk ho5; have HB5 := Aside0.mk hb5; clear hk5 ho5 hb5 hc5 tok1; obtain ⟨hy0, hy1⟩ := box2 HX5.out; obtain ⟨A5, n5, q5, rfl⟩ := slice_of_R HO5.out; have hkb : w5.cell? ⟨w3.heap.size + 1, 0, none⟩ = some (.slice A5 n5 q5) := blk_cell HK5.out 0)) | ((with_reducible refine gate_builtin (b := .append) (xs := #[.tmp 51, .tmp 59]) rfl ?_); go_must (at_builtin; refine Kd.R_append_row (Value.int .u8) (0 : Int) (h1 := fun _ => rfl) (w0 := w) w.heap.size rfl (.tmp 51) (.tmp 59) 45 5 (.int .u8 0) 1 rfl Try.underlying45 info5 rfl (by decide) (.slice A5 n5 q5) (xs ++ [IntKind.u8.wrap ((rd_T36 m (j : Int)).f0.size : Int)] ++ bytesOf (rd_T36 m (j : Int)).f0) [IntKind.u8.wrap ((rd_T36 m (j : Int)).f1 / 256), IntKind.u8.wrap (rd_T36 m (j : Int)).f1] (some ⟨w5.heap.size, 0, none⟩) 2 2 (fun _ => True) rfl rfl (fun _ _ => trivial) ?aO ?aR ?aB ?aS ?aL ?_; (case aO => exact rowU_alloc HO5.out _); (case aR => exact lit2 w5 _ _); (case aB => exact below_alloc HB5.out _); (case aS => exact below_size (below_alloc HB5.out _)); (case aL => have := HL.out; have := HSZ.out; simp only [List.length_append, List.length_cons, List.length_nil, bytesOf_length]; omega); intro v6 w6 ho6 hb6 hg6 hat6; obtain ⟨A6, n6, q6, rfl⟩ := slice_of_R ho6; have HK6 := Aside0.mk (grow_blk hg6 (rowU_alloc HO5.out _) (blk_alloc HK5.out _) (by decide)); have HG6 := Aside0.mk (grow_blk hg6 (rowU_alloc HO5.out _) (blk_alloc HG5.out _) (by decide)); have HO6 := Aside0.mk ho6; have HB6 := Aside0.mk hb6; clear ho6 hb6 hg6 hat6; have hk6 : w6.cell? ⟨w3.heap.size + 1, 0, none⟩ = some (.slice A5 n5 q5) := blk_cell HK6.out 0; have hf6 : w6.frozen? ⟨w3.heap.size + 1, 0, none⟩ = false := blk_frozen HK6.out 0)))
            go_roundw
            case rel =>
              unfold EncRel2
              exact ⟨j + 1, _, _, by go_num, by omega, ⟨rel_round2 HX.out hlt⟩, ⟨by have := HL.out; have := HSZ.out; simp only [List.length_append, List.length_cons, List.length_nil, bytesOf_length]; omega⟩, ⟨Kd.R_set HO6.out HK6.out (by decide) 0 _⟩, ⟨blk_put HK6.out 0 _ rfl⟩, ⟨blk_far HG6.out (by simp; omega) _⟩, ⟨below_set HB6.out hBw⟩⟩
            case measure => simp [intOf]; omega
          · have hjl : j = m.length := by omega
            have HX2 := Aside0.mk (show xs = encN false l m from HX.out.trans (by unfold encN; rw [hjl, List.take_length]))
            obtain ⟨A9, q9, rfl, hq9, hc9⟩ := Kd.R_reads HO.out
            have hk9 : wr.cell? ⟨w3.heap.size + 1, 0, none⟩ = some (.slice A9 xs.length q9) := blk_cell HK.out 0
            have hcv := Kd.C_string (P := Try.prog) (c := q9) Try.underlying45 Try.underlying5 Try.underlying9 hc9
            clear hjl hc9 hq9
            go_wp2
            go_ret2
            exact ⟨by rw [HX2.out]; rfl, HB4.out⟩


set_option maxHeartbeats 4000000 in
set_option maxRecDepth 100000 in
theorem encode_not_may (a : Bool) (A0 : Option Addr) (c0 : Nat) (l : List S47) (A1 : Option Addr) (c1 : Nat) (m : List S36) (w : World) (hr0 : Kd.C k47 w A0 l.length l) (hc0 : l.length ≤ c0) (hr1 : Kd.C k36 w A1 m.length m) (hc1 : m.length ≤ c1) (hs : Small l m) (hm : mayB a l m = false) :
    Calls Try.prog 15 #[.agg #[.bool a, .slice A0 l.length c0, .slice A1 m.length c1]] w fun e w' => e = .returned (.tuple #[.string ⟨#[]⟩, .int .i64 4]) ∧ Below w.heap.size w w' := by
  have hu31 := Try.underlying31
  have hl0 := hs.l_len
  have hl1 := hs.m_len
  have HR0 := Aside0.mk hr0
  have HR1 := Aside0.mk hr1
  have HT := Aside0.mk ((may_tells a l m (by omega) (by omega) (l.length + m.length + 3) (Nat.le_refl _)).trans (congrArg some hm))
  have HB := Aside0.mk ((Below.refl w.heap.size w).alloc (Nat.le_refl _) (.cells #[.bool a, .slice A0 l.length c0, .slice A1 m.length c1] 31))
  clear hr0 hr1 hm hs
  go_enter Try.func15, Try.ntmps15
  go_wp2_with (go_at_call 13; go_must (refine (leaf_May.calls _ _ _ _ _ _ _ _ _ _ (Kd.C_below HR0.out HB.out) hc0 (Kd.C_below HR1.out HB.out) hc1 HT.out).mono ?_; rintro e w2 ⟨rfl, hb2⟩; have HB2 := Aside0.mk (below_step HB.out hb2); clear hb2))
  go_ret2
  exact ⟨rfl, HB2.out⟩
set_option maxHeartbeats 4000000 in
set_option maxRecDepth 100000 in
theorem encode_not_fits (a : Bool) (A0 : Option Addr) (c0 : Nat) (l : List S47) (A1 : Option Addr) (c1 : Nat) (m : List S36) (w : World) (hr0 : Kd.C k47 w A0 l.length l) (hc0 : l.length ≤ c0) (hr1 : Kd.C k36 w A1 m.length m) (hc1 : m.length ≤ c1) (hs : Small l m) (hm : mayB a l m = true) (hf : decide (sizeN l m ≤ 254) = false) :
    Calls Try.prog 15 #[.agg #[.bool a, .slice A0 l.length c0, .slice A1 m.length c1]] w fun e w' => e = .returned (.tuple #[.string ⟨#[]⟩, .int .i64 40]) ∧ Below w.heap.size w w' := by
  have hu31 := Try.underlying31
  have hl0 := hs.l_len
  have hl1 := hs.m_len
  have HR0 := Aside0.mk hr0
  have HR1 := Aside0.mk hr1
  have HT := Aside0.mk ((may_tells a l m (by omega) (by omega) (l.length + m.length + 3) (Nat.le_refl _)).trans (congrArg some hm))
  have HZ := Aside0.mk ((fits_tells a l m hs (l.length + m.length + 2) (Nat.le_refl _)).trans (congrArg some hf))
  have HB := Aside0.mk ((Below.refl w.heap.size w).alloc (Nat.le_refl _) (.cells #[.bool a, .slice A0 l.length c0, .slice A1 m.length c1] 31))
  have HG := Aside0.mk (blk_new w (.cells #[.bool a, .slice A0 l.length c0, .slice A1 m.length c1] 31))
  clear hr0 hr1 hm hf hs
  go_enter Try.func15, Try.ntmps15
  go_wp2_with (first | (go_at_call 13; go_must (refine (leaf_May.calls _ _ _ _ _ _ _ _ _ _ (Kd.C_below HR0.out HB.out) hc0 (Kd.C_below HR1.out HB.out) hc1 HT.out).mono ?_; rintro e w2 ⟨rfl, hb2⟩; have HG2 := Aside0.mk (blk_below HG.out hb2); have HB2 := Aside0.mk (below_step HB.out hb2); clear hb2; obtain ⟨hz0, hz1, hz2⟩ := box3 HG2.out)) | (go_at_call 19; go_must (refine (leaf_Fits.calls _ _ _ _ _ _ _ _ _ _ (Kd.C_below HR0.out HB2.out) hc0 (Kd.C_below HR1.out HB2.out) hc1 HZ.out).mono ?_; rintro e w3 ⟨rfl, hb3⟩; have HB3 := Aside0.mk (below_step HB2.out hb3); clear hb3)))
  go_ret2
  exact ⟨rfl, HB3.out⟩

/-- leaf.Encode: function 15 (by hand: its text is put together by a closure over the bytes). -/
def leaf_Encode.f (a0_0 : Bool) (l0_1 : List (S47)) (l0_2 : List (S36)) : Option (ByteArray × Int) :=
  if smallB l0_1 l0_2 = true then some (if mayB a0_0 l0_1 l0_2 = true then (if decide (sizeN l0_1 l0_2 ≤ 254) = true then (strOfNums (encN a0_0 l0_1 l0_2), 0) else (⟨#[]⟩, 40)) else (⟨#[]⟩, 4)) else none
theorem leaf_Encode.calls (a0_0 : Bool) (A0_1 : Option Addr) (c0_1 : Nat) (l0_1 : List (S47)) (A0_2 : Option Addr) (c0_2 : Nat) (l0_2 : List (S36)) (r1 : ByteArray) (r2 : Int) (w : World) (hr0_1 : Kd.C k47 w A0_1 l0_1.length l0_1) (hc0_1 : l0_1.length ≤ c0_1) (hr0_2 : Kd.C k36 w A0_2 l0_2.length l0_2) (hc0_2 : l0_2.length ≤ c0_2) (h : leaf_Encode.f a0_0 l0_1 l0_2 = some (r1, r2)) :
    Calls Try.prog 15 #[.agg #[.bool a0_0, .slice A0_1 l0_1.length c0_1, .slice A0_2 l0_2.length c0_2]] w fun e w' => e = .returned (.tuple #[.string r1, .int .i64 r2]) ∧ Below w.heap.size w w' := by
  unfold leaf_Encode.f at h
  by_cases hs : smallB l0_1 l0_2 = true
  · rw [if_pos hs] at h
    have hs' := small_of _ _ hs
    by_cases hm : mayB a0_0 l0_1 l0_2 = true
    · rw [if_pos hm] at h
      by_cases hf : decide (sizeN l0_1 l0_2 ≤ 254) = true
      · rw [if_pos hf] at h
        simp only [Option.some.injEq, Prod.mk.injEq] at h
        obtain ⟨rfl, rfl⟩ := h
        cases a0_0 with
        | true => exact encode_go_true _ _ _ _ _ _ w hr0_1 hc0_1 hr0_2 hc0_2 hs' hm hf
        | false => exact encode_go_false _ _ _ _ _ _ w hr0_1 hc0_1 hr0_2 hc0_2 hs' hm hf
      · rw [if_neg hf] at h
        simp only [Option.some.injEq, Prod.mk.injEq] at h
        obtain ⟨rfl, rfl⟩ := h
        exact encode_not_fits _ _ _ _ _ _ _ w hr0_1 hc0_1 hr0_2 hc0_2 hs' hm (by simpa using hf)
    · rw [if_neg hm] at h
      simp only [Option.some.injEq, Prod.mk.injEq] at h
      obtain ⟨rfl, rfl⟩ := h
      exact encode_not_may _ _ _ _ _ _ _ w hr0_1 hc0_1 hr0_2 hc0_2 hs' (by simpa using hm)
  · rw [if_neg hs] at h
    cases h
end Go.Proofs.Ytfbaejhjppikpaa.P
