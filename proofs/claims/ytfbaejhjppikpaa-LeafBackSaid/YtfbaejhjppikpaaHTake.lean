import Derived.Test.YtfbaejhjppikpaaPx0
import Derived.Outline
import Derived.IntWalk
import Derived.WalkSpells
import Derived.RegionTactic
import Derived.ChangeAlike
import Derived.BigQuiet
namespace Go.Proofs.Ytfbaejhjppikpaa.P
open Go.RowKit Go.Proofs.YtfbaejhjppikpaaW.PrintWords Go.Proofs.YtfbaejhjppikpaaW.PrintLast Go.Proofs.YtfbaejhjppikpaaW.PrintMore
set_option linter.unusedVariables false
set_option linter.unusedSimpArgs false

set_option maxHeartbeats 2000000 in
set_option maxRecDepth 100000 in
theorem take_no (S k : Nat) (s : ByteArray) (w : World) (hS : w.heap[S]? = some (.cells #[.string s] 9 (0, 0))) (hk : k ≤ 255) (hs : s.size ≤ 1000000) (h : ¬ k ≤ s.size) :
    Calls Try.prog 43 #[.int .i64 k, .pointer (some ⟨S, 0, none⟩)] w fun e w' => e = .returned (.tuple #[.string ⟨#[]⟩, .bool false]) ∧ w = w' := by
  have hc : w.cell? ⟨S, 0, none⟩ = some (.string s) := blk_cell hS 0
  have hd : decide ((s.size : Int) < (k : Int)) = true := decide_eq_true (by omega)
  clear hS
  go_enter Try.func43, Try.ntmps43
  go_wp2
  go_ret2
  exact ⟨rfl, rfl⟩
set_option maxHeartbeats 2000000 in
set_option maxRecDepth 100000 in
theorem take_yes (S k : Nat) (s : ByteArray) (w : World) (hS : w.heap[S]? = some (.cells #[.string s] 9 (0, 0))) (hk : k ≤ 255) (hs : s.size ≤ 1000000) (h : k ≤ s.size) :
    Calls Try.prog 43 #[.int .i64 k, .pointer (some ⟨S, 0, none⟩)] w fun e w' => e = .returned (.tuple #[.string (s.extract 0 k), .bool true]) ∧ w'.heap[S]? = some (.cells #[.string (s.extract k s.size)] 9 (0, 0)) ∧ w.grownBy w' (some S) := by
  have hc : w.cell? ⟨S, 0, none⟩ = some (.string s) := blk_cell hS 0
  have hf : w.frozen? ⟨S, 0, none⟩ = false := blk_frozen hS 0
  have hd : decide ((s.size : Int) < (k : Int)) = false := decide_eq_false (by omega)
  have HS := Aside0.mk hS
  have h0 : (0 : Int) ≤ (k : Int) := by omega
  have h1 : (k : Int) ≤ (s.size : Int) := by omega
  clear hS
  go_enter Try.func43, Try.ntmps43
  go_wp2
  go_region
  go_wp2
  go_ret2
  exact ⟨rfl, blk_drew (blk_put HS.out 0 _ rfl), rfl, rfl, rfl, by simp [World.setCell, World.drew], fun j hj hne => Below.heap_setCell w ⟨S, 0, none⟩ _ j (fun e => hne (by rw [e]))⟩

/-- What the first byte tells: how long the text behind it is. -/
def lenOf (s : ByteArray) : Nat := (bt s 0).toNat
theorem lenOf_le (s : ByteArray) : lenOf s ≤ 255 := by unfold lenOf; have := bt_range s 0; omega
theorem len_at (s : ByteArray) (hs : 0 < s.size) : ∃ (kk : ByteArray) (n : Nat), s.extract 0 1 = kk ∧ lenOf s = n ∧ 0 < kk.size ∧ ∀ h : 0 < kk.size, ((kk[0]'h).toNat : Int) = (n : Int) := by
  refine ⟨_, _, rfl, rfl, by rw [ByteArray.size_extract]; omega, fun h => ?_⟩
  have h1 := bt_at s 0 hs
  unfold lenOf
  rw [← h1]
  have : (s.extract 0 1)[0]'h = s[0]'hs := by simp [ByteArray.getElem_extract]
  rw [this]; simp
set_option maxHeartbeats 2000000 in
set_option maxRecDepth 100000 in
theorem text_none (S T : Nat) (s : ByteArray) (w : World) (hS : w.heap[S]? = some (.cells #[.string s] 9 (0, 0))) (hT : w.heap[T]? = some (.cells #[.func (.func 43) #[] #[.pointer (some ⟨S, 0, none⟩)]] 85 (0, 0))) (hs : s.size = 0) :
    Calls Try.prog 44 #[.pointer (some ⟨T, 0, none⟩)] w fun e w' => e = .returned (.tuple #[.string ⟨#[]⟩, .bool false]) ∧ w = w' := by
  have hc : w.cell? ⟨T, 0, none⟩ = some (.func (.func 43) #[] #[.pointer (some ⟨S, 0, none⟩)]) := blk_cell hT 0
  have HS := Aside0.mk hS
  have HZ := Aside0.mk hs
  clear hS hT hs
  go_enter Try.func44, Try.ntmps44
  go_wp2_with (go_at_call 43; go_must (refine (take_no S 1 s _ HS.out (by omega) (by have := HZ.out; omega) (by have := HZ.out; omega)).mono ?_; rintro e w1 ⟨rfl, rfl⟩))
  go_ret2
  exact ⟨rfl, rfl⟩
set_option maxHeartbeats 2000000 in
set_option maxRecDepth 100000 in
theorem text_short (S T : Nat) (s : ByteArray) (w : World) (hS : w.heap[S]? = some (.cells #[.string s] 9 (0, 0))) (hT : w.heap[T]? = some (.cells #[.func (.func 43) #[] #[.pointer (some ⟨S, 0, none⟩)]] 85 (0, 0))) (hs : 0 < s.size) (hm : s.size ≤ 1000000) (hk : ¬ lenOf s ≤ s.size - 1) :
    Calls Try.prog 44 #[.pointer (some ⟨T, 0, none⟩)] w fun e w' => e = .returned (.tuple #[.string ⟨#[]⟩, .bool false]) ∧ w'.heap[S]? = some (.cells #[.string (s.extract 1 s.size)] 9 (0, 0)) ∧ w.grownBy w' (some S) := by
  have hc : w.cell? ⟨T, 0, none⟩ = some (.func (.func 43) #[] #[.pointer (some ⟨S, 0, none⟩)]) := blk_cell hT 0
  have HS := Aside0.mk hS
  have HT := Aside0.mk hT
  clear hS hT
  have hST : S ≠ T := by
    rintro rfl
    have := HS.out.symm.trans HT.out
    simp at this
  go_enter Try.func44, Try.ntmps44
  go_wp2_with (go_at_call 43; go_must (refine (take_yes S 1 s _ HS.out (by omega) hm (by omega)).mono ?_; rintro e w1 ⟨rfl, hb, hg⟩; have HS1 := Aside0.mk hb; have HG := Aside0.mk hg; have hc1 : w1.cell? ⟨T, 0, none⟩ = some (.func (.func 43) #[] #[.pointer (some ⟨S, 0, none⟩)]) := blk_cell ((hg.block T (blk_lt HT.out) (fun e => hST (by injection e with e; exact e.symm))).trans HT.out) 0; clear hb hg))
  obtain ⟨kk, n, hkk, hn, hkk1, hbt⟩ := len_at s hs
  have hn2 : n ≤ 255 := by have := lenOf_le s; omega
  have hn3 : ¬ n ≤ (s.extract 1 s.size).size := by rw [← hn, ByteArray.size_extract]; omega
  rw [hkk]
  clear hkk hn hk
  have hw : IntKind.i64.wrap (n : Int) = (n : Int) := IntWalk.i64_in _ (by omega)
  go_quiet ((go_at_call 43; refine Calls.quiet_of_same ((take_no S n (s.extract 1 s.size) (w1.drewN _) (blk_drewN HS1.out _) hn2 (by rw [ByteArray.size_extract]; omega) hn3).mono (fun _ _ h => ⟨h.1, h.2.symm⟩))))
  go_wp2
  go_ret2
  exact ⟨rfl, blk_drewN HS1.out _, HG.out.os, HG.out.tape, HG.out.output, HG.out.size, HG.out.block⟩
theorem take_one (S : Nat) (s kk t : ByteArray) (w : World) (hS : w.heap[S]? = some (.cells #[.string s] 9 (0, 0))) (hs : s.size ≤ 1000000) (h : 0 < s.size) (hkk : s.extract 0 1 = kk) (ht : s.extract 1 s.size = t) :
    Calls Try.prog 43 #[.int .i64 1, .pointer (some ⟨S, 0, none⟩)] w fun e w' => e = .returned (.tuple #[.string kk, .bool true]) ∧ w'.heap[S]? = some (.cells #[.string t] 9 (0, 0)) ∧ w.grownBy w' (some S) := by
  subst hkk
  subst ht
  exact take_yes S 1 s w hS (by omega) hs h
theorem grown_then {w w1 w2 : World} {row : Option Nat} (h : w.grownBy w1 row) (h' : w1.grownBy w2 row) : w.grownBy w2 row :=
  ⟨h'.os.trans h.os, h'.tape.trans h.tape, h'.output.trans h.output, Nat.le_trans h.size h'.size, fun k hk hr => (h'.block k (Nat.lt_of_lt_of_le hk h.size) hr).trans (h.block k hk hr)⟩
set_option maxHeartbeats 2000000 in
set_option maxRecDepth 100000 in
theorem text_yes0 (S T n : Nat) (s kk t : ByteArray) (w : World) (hS : w.heap[S]? = some (.cells #[.string s] 9 (0, 0))) (hT : w.heap[T]? = some (.cells #[.func (.func 43) #[] #[.pointer (some ⟨S, 0, none⟩)]] 85 (0, 0))) (hs : 0 < s.size) (hm : s.size ≤ 1000000) (HKK : Aside0 (s.extract 0 1 = kk)) (HTT : Aside0 (s.extract 1 s.size = t)) (hkk1 : 0 < kk.size) (hbt : ∀ h : 0 < kk.size, ((kk[0]'h).toNat : Int) = (n : Int)) (hn2 : n ≤ 255) (hn3 : n ≤ t.size) (hn4 : t.size ≤ 1000000) :
    Calls Try.prog 44 #[.pointer (some ⟨T, 0, none⟩)] w fun e w' => e = .returned (.tuple #[.string (t.extract 0 n), .bool true]) ∧ w'.heap[S]? = some (.cells #[.string (t.extract n t.size)] 9 (0, 0)) ∧ w.grownBy w' (some S) := by
  have hc : w.cell? ⟨T, 0, none⟩ = some (.func (.func 43) #[] #[.pointer (some ⟨S, 0, none⟩)]) := blk_cell hT 0
  have HS := Aside0.mk hS
  have HT := Aside0.mk hT
  clear hS hT
  have hST : S ≠ T := by
    rintro rfl
    have := HS.out.symm.trans HT.out
    simp at this
  go_enter Try.func44, Try.ntmps44
  go_wp2_with (go_at_call 43; go_must (refine (take_one S s kk t _ HS.out hm hs HKK.out HTT.out).mono ?_; rintro e w1 ⟨rfl, hb, hg⟩; have HS1 := Aside0.mk hb; have HG := Aside0.mk hg; have hc1 : w1.cell? ⟨T, 0, none⟩ = some (.func (.func 43) #[] #[.pointer (some ⟨S, 0, none⟩)]) := blk_cell ((hg.block T (blk_lt HT.out) (fun e => hST (by injection e with e; exact e.symm))).trans HT.out) 0; clear hb hg))
  have hw : IntKind.i64.wrap (n : Int) = (n : Int) := IntWalk.i64_in _ (by omega)
  go_region_with ((go_at_call 43; go_must (refine (take_yes S n t _ (blk_drew HS1.out) hn2 hn4 hn3).mono ?_; rintro e w2 ⟨rfl, hb2, hg2⟩; have HS2 := Aside0.mk hb2; have HG2 := Aside0.mk hg2; clear hb2 hg2)))
  all_goals
    go_wp2
    go_ret2
    exact ⟨rfl, HS2.out, grown_then HG.out ⟨HG2.out.os, HG2.out.tape, HG2.out.output, HG2.out.size, HG2.out.block⟩⟩
theorem text_yes (S T : Nat) (s : ByteArray) (w : World) (hS : w.heap[S]? = some (.cells #[.string s] 9 (0, 0))) (hT : w.heap[T]? = some (.cells #[.func (.func 43) #[] #[.pointer (some ⟨S, 0, none⟩)]] 85 (0, 0))) (hs : 0 < s.size) (hm : s.size ≤ 1000000) (hk : lenOf s ≤ s.size - 1) :
    Calls Try.prog 44 #[.pointer (some ⟨T, 0, none⟩)] w fun e w' => e = .returned (.tuple #[.string ((s.extract 1 s.size).extract 0 (lenOf s)), .bool true]) ∧ w'.heap[S]? = some (.cells #[.string ((s.extract 1 s.size).extract (lenOf s) (s.extract 1 s.size).size)] 9 (0, 0)) ∧ w.grownBy w' (some S) := by
  obtain ⟨kk, n, hkk, hn, hkk1, hbt⟩ := len_at s hs
  have hn2 : n ≤ 255 := by have := lenOf_le s; omega
  have hn3 : n ≤ (s.extract 1 s.size).size := by rw [← hn, ByteArray.size_extract]; omega
  have hn4 : (s.extract 1 s.size).size ≤ 1000000 := by rw [ByteArray.size_extract]; omega
  rw [hn]
  exact text_yes0 S T n s kk _ w hS hT hs hm ⟨hkk⟩ ⟨rfl⟩ hkk1 hbt hn2 hn3 hn4
end Go.Proofs.Ytfbaejhjppikpaa.P
