import Derived.Test.YtfbaejhjppikpaaPx22
import Derived.Test.YtfbaejhjppikpaaUCode
/- The plain law of LeafBack. -/
namespace Go.Proofs.Ytfbaejhjppikpaa.P
open Go.RowKit Go.Proofs.YtfbaejhjppikpaaW.PrintWords Go.Proofs.YtfbaejhjppikpaaW.PrintLast Go.Proofs.YtfbaejhjppikpaaW.PrintMore

theorem encode_tells (a : Bool) (l : List S47) (m : List S36) (h : Small l m) : leaf_Encode.f a l m = some (if mayB a l m = true then (if decide (sizeN l m ≤ 254) = true then (strOfNums (encN a l m), 0) else (⟨#[]⟩, 40)) else (⟨#[]⟩, 4)) := by
  unfold leaf_Encode.f
  rw [if_pos (smallB_of l m h)]
theorem decode_tells (s : ByteArray) (h : s.size ≤ 1000000) : leaf_Decode.f s = some (decodeN s) := by
  unfold leaf_Decode.f
  rw [if_pos (by omega)]
theorem decode_code (s : ByteArray) : (decodeN s).2.2.2 = 0 ∨ (decodeN s).2.2.2 ≠ 0 := Classical.em _
theorem leafBack_j1 (s : ByteArray) (hs : s.size ≤ 1000) (k : Nat) (hk : 5000 ≤ k) : callboardlaw06_LeafBack.j1 (k + 1) s = some true := by
  simp only [callboardlaw06_LeafBack.j1]
  rw [decode_tells s (by omega)]
  simp only [Option.bind_some]
  by_cases hc : (decodeN s).2.2.2 = 0
  · rw [if_pos hc]
    generalize hd : decodeN s = z at hc ⊢
    obtain ⟨a, E, B, c⟩ := z
    simp only at hc
    subst hc
    obtain ⟨h1, h2, h3, h4⟩ := encode_decode s a E B hd
    rw [encode_tells a E B h3, if_pos h1, if_pos (by simpa using h2)]
    simp [h4]
  · rw [if_neg hc]
    obtain ⟨h1, h2, h3⟩ := decode_refused s hc
    rw [h1, h2, h3, same_tells false [] [] false [] [] (by simp) (by simp) k hk]
    rfl
theorem leafBack_pure (a : Bool) (l : List S75) (m : List S76) (s : ByteArray) : ∃ k, callboardlaw06_LeafBack.f k a l m s = some true := by
  refine ⟨9000, ?_⟩
  have haw := awake_tells 9000 (by omega)
  have hj : ∀ b l' m', b = true → callboardlaw06_LeafBack.j0 9000 s b a l' m' = some true := by
    rintro b l' m' rfl
    show callboardlaw06_LeafBack.j0 (8999 + 1) s true a l' m' = some true
    simp only [callboardlaw06_LeafBack.j0]
    rw [awake_tells 8999 (by omega)]; rfl
  unfold callboardlaw06_LeafBack.f
  rw [large_tells a l m 9000 (by omega)]
  simp only [Option.bind_some]
  by_cases hL : largeB l m = true
  · rw [if_pos hL]; exact hj _ _ _ rfl
  rw [if_neg hL]
  by_cases hK : (s.size : Int) > 1000
  · rw [if_pos hK]; exact hj _ _ _ rfl
  rw [if_neg hK, haw]
  obtain ⟨h1, h2, h3, h4, hs⟩ := small_given l m (by simpa using hL)
  simp only [Option.bind_some, Bool.not_true]
  show callboardlaw06_LeafBack.j0 (8999 + 1) s false a l m = some true
  simp only [callboardlaw06_LeafBack.j0, Bool.false_eq_true, if_false]
  rw [given_tells a l m (by omega) (by omega) 8999 (by omega)]
  simp only [Option.bind_some]
  have j1 := leafBack_j1 s (by omega) 8998 (by omega)
  simp only [show 8998 + 1 = 8999 from rfl] at j1
  rw [encode_tells a _ _ hs, j1, may_tells' a _ _ hs 8999 (by omega), fits_tells' a _ _ hs 8999 (by omega), size_tells' a _ _ hs 8999 (by omega)]
  by_cases hM : mayB a (l.map toE) (m.map toB) = true
  · rw [if_pos hM]
    by_cases hF : decide (sizeN (l.map toE) (m.map toB) ≤ 254) = true
    · rw [if_pos hF]
      obtain ⟨e1, e2⟩ := decode_encode a _ _ hM (by simpa using hF)
      simp only [Option.bind_some, if_true]
      rw [decode_tells _ (by have : sizeN (l.map toE) (m.map toB) ≤ 254 := by simpa using hF
                             omega), e1]
      simp only [Option.bind_some, if_true]
      rw [same_tells _ _ _ _ _ _ hs.l_len hs.m_len 8999 (by omega)]
      simp only [Option.bind_some]
      rw [if_pos (by simp [sameN]), if_pos e2, if_pos hF, if_pos hM]
    · rw [if_neg hF]
      simp only [Option.bind_some, show ((40 : Int) = 0) = False from by decide, if_false]
      rw [if_pos hM, if_neg hF]
  · rw [if_neg hM]
    simp only [Option.bind_some, show ((4 : Int) = 0) = False from by decide, if_false]
    rw [if_neg hM]
/-- The call, whatever the node and the body. -/
theorem leafBack_walk (a : Bool) (A : Option Addr) (c : Nat) (l : List S75) (A' : Option Addr) (c' : Nat) (m : List S76) (s : ByteArray) (w : World) (hr : Kd.C k75 w A l.length l) (hc : l.length ≤ c) (hr' : Kd.C k76 w A' m.length m) (hc' : m.length ≤ c') (_ : s.size ≤ 140737488351232) :
    Calls Try.prog 4 #[.agg #[.bool a, .slice A l.length c, .slice A' m.length c'], .string s] w fun e w' => e = .returned (.bool true) ∧ Below w.heap.size w w' := by
  obtain ⟨k, h⟩ := leafBack_pure a l m s
  exact callboardlaw06_LeafBack.calls k a A c l A' c' m s true w hr hc hr' hc' h
end Go.Proofs.Ytfbaejhjppikpaa.P
