import Derived.Test.YtfbaejhjppikpaaPx17
import Derived.Test.YtfbaejhjppikpaaUBase
import Derived.Test.YtfbaejhjppikpaaBBytes
/- The plain law of LeafPlace. -/
namespace Go.Proofs.Ytfbaejhjppikpaa.P
open Go.RowKit Go.Proofs.YtfbaejhjppikpaaW.PrintWords Go.Proofs.YtfbaejhjppikpaaW.PrintLast Go.Proofs.YtfbaejhjppikpaaW.PrintMore
open Go.Proofs.YtfbaejhjppikpaaB

/-- The binary search, where what holds ahead of a place holds at all places ahead: below the answer it holds, from it on it does not. -/
theorem bsAt_spec (p : Nat → Bool) (n : Nat) (hp : ∀ i j, i ≤ j → j < n → p j = true → p i = true) : ∀ (f i j : Nat), i ≤ j → j ≤ n → j - i ≤ f → (∀ q, q < i → p q = true) → (∀ q, j ≤ q → q < n → p q = false) → (∀ q, q < bsAt p f i j → p q = true) ∧ (∀ q, bsAt p f i j ≤ q → q < n → p q = false) := by
  intro f
  induction f with
  | zero =>
    intro i j h1 h2 h3 h4 h5
    have : i = j := by omega
    subst this
    exact ⟨h4, h5⟩
  | succ f ih =>
    intro i j h1 h2 h3 h4 h5
    simp only [bsAt]
    by_cases hlt : i < j
    · rw [if_pos hlt]
      by_cases hc : p ((i + j) / 2) = true
      · rw [if_pos hc]
        exact ih _ _ (by omega) h2 (by omega) (fun q hq => hp q _ (by omega) (by omega) hc) h5
      · rw [if_neg hc]
        exact ih _ _ (by omega) (by omega) (by omega) h4 (fun q hq hn => by
          cases e : p q with
          | false => rfl
          | true => exact absurd (hp _ _ hq hn e) hc)
    · rw [if_neg hlt]
      have : i = j := by omega
      subst this
      exact ⟨h4, h5⟩

/-- Branches that may be rise. -/
theorem rise_of_ok (m : List S36) (h : allFrom (okB m) 0 m.length = true) : ∀ i, i + 1 < m.length → Op.bytesLess (keyB m i) (keyB m (i + 1)) = true := by
  intro i hi
  have := (allFrom_iff _ _ _).1 h (i + 1) (Nat.zero_le _) (by omega)
  unfold okB at this
  simp at this
  exact this.2
theorem rise_far (m : List S36) (h : ∀ i, i + 1 < m.length → Op.bytesLess (keyB m i) (keyB m (i + 1)) = true) : ∀ d i, i + (d + 1) < m.length → Op.bytesLess (keyB m i) (keyB m (i + (d + 1))) = true := by
  intro d
  induction d with
  | zero => intro i hi; exact h i hi
  | succ d ih =>
    intro i hi
    exact less_trans (ih i (by omega)) (h (i + (d + 1)) (by omega))
theorem lessB_eq (m : List S36) (key : ByteArray) (i : Nat) : lessB m key i = Op.bytesLess (keyB m i) key.toList := by
  unfold lessB cmpB keyB
  rw [less_cmp, ByteArray.toList_eq, ByteArray.toList_eq]
theorem atB_spec (m : List S36) (key : ByteArray) (h : ∀ i, i + 1 < m.length → Op.bytesLess (keyB m i) (keyB m (i + 1)) = true) :
    (∀ q, q < atB m key → Op.bytesLess (keyB m q) key.toList = true) ∧ (∀ q, atB m key ≤ q → q < m.length → Op.bytesLess (keyB m q) key.toList = false) := by
  have := bsAt_spec (lessB m key) m.length (fun i j hij hj hp => by
    by_cases e : i = j
    · exact e ▸ hp
    · rw [lessB_eq] at hp ⊢
      obtain ⟨d, rfl⟩ : ∃ d, j = i + (d + 1) := ⟨j - i - 1, by omega⟩
      exact less_trans (rise_far m h d i hj) hp) m.length 0 m.length (Nat.zero_le _) (Nat.le_refl _) (by omega) (fun q hq => by omega) (fun q hq hn => by omega)
  simp only [lessB_eq] at this
  unfold atB
  exact this
theorem isB_true (m : List S36) (key : ByteArray) (h : isB m key = true) : atB m key < m.length ∧ keyB m (atB m key) = key.toList := by
  unfold isB at h
  simp only [Bool.and_eq_true, decide_eq_true_eq] at h
  refine ⟨h.1, ?_⟩
  have := (cmp_zero _ _).1 h.2
  unfold keyB
  rw [ByteArray.toList_eq, ByteArray.toList_eq]
  exact this
theorem isB_false (m : List S36) (key : ByteArray) (h : isB m key = false) (hl : atB m key < m.length) : keyB m (atB m key) ≠ key.toList := by
  intro e
  unfold isB at h
  rw [decide_eq_true hl, Bool.true_and, decide_eq_false_iff_not] at h
  apply h
  refine (cmp_zero _ _).2 ?_
  unfold keyB at e
  rw [ByteArray.toList_eq, ByteArray.toList_eq] at e
  exact e
theorem atB_le (m : List S36) (key : ByteArray) : atB m key ≤ m.length := (bsAt_range (lessB m key) m.length 0 m.length (Nat.zero_le _) (by omega)).2
/-- The place, among branches that rise. -/
theorem place_spec (m : List S36) (key : ByteArray) (h : ∀ i, i + 1 < m.length → Op.bytesLess (keyB m i) (keyB m (i + 1)) = true) (hm : 0 < m.length) :
    ∃ at_ : Nat, placeB m key = (at_ : Int) ∧ at_ < m.length ∧ (at_ = 0 ∨ Op.bytesLess key.toList (keyB m at_) = false) ∧ (at_ + 1 < m.length → Op.bytesLess key.toList (keyB m (at_ + 1)) = true) := by
  obtain ⟨h1, h2⟩ := atB_spec m key h
  have hle := atB_le m key
  unfold placeB
  cases e : isB m key with
  | true =>
    obtain ⟨h3, h4⟩ := isB_true m key e
    refine ⟨atB m key, by simp, h3, .inr (by rw [h4]; exact less_irrefl _), fun hn => ?_⟩
    rw [← h4]; exact h _ hn
  | false =>
    by_cases h0 : atB m key = 0
    · refine ⟨0, by rw [h0]; rfl, hm, .inl rfl, fun hn => ?_⟩
      have h5 := h2 0 (by omega) (by omega)
      have h6 : Op.bytesLess key.toList (keyB m 0) = true := less_total _ _ h5 (by have := isB_false m key e (by omega); rwa [h0] at this)
      exact less_trans h6 (h 0 hn)
    · refine ⟨atB m key - 1, by simp; omega, by omega, .inr (less_asymm (h1 _ (by omega))), fun hn => ?_⟩
      rw [show atB m key - 1 + 1 = atB m key from by omega] at hn ⊢
      exact less_total _ _ (h2 _ (Nat.le_refl _) hn) (isB_false m key e hn)

def LeafPlacePure : Prop := ∀ (a : Bool) (l : List S75) (m : List S76) (key : ByteArray), ∃ k, callboardlaw06_LeafPlace.f k a l m key = some true
theorem leafPlace_pure : LeafPlacePure := by
  intro a l m key
  refine ⟨9000, ?_⟩
  have haw := awake_tells 9000 (by omega)
  have hj : ∀ b l' m', b = true → callboardlaw06_LeafPlace.j0 9000 key b a l' m' = some true := by
    rintro b l' m' rfl
    show callboardlaw06_LeafPlace.j0 (8999 + 1) key true a l' m' = some true
    simp only [callboardlaw06_LeafPlace.j0]
    rw [awake_tells 8999 (by omega)]; rfl
  unfold callboardlaw06_LeafPlace.f
  rw [large_tells a l m 9000 (by omega)]
  simp only [Option.bind_some]
  by_cases hL : largeB l m = true
  · rw [if_pos hL]; exact hj _ _ _ rfl
  rw [if_neg hL]
  by_cases hK : (key.size : Int) > 300
  · rw [if_pos hK]; exact hj _ _ _ rfl
  rw [if_neg hK, haw]
  obtain ⟨h1, h2, h3, h4, hs⟩ := small_given l m (by simpa using hL)
  simp only [Option.bind_some, Bool.not_true]
  show callboardlaw06_LeafPlace.j0 (8999 + 1) key false a l m = some true
  simp only [callboardlaw06_LeafPlace.j0, Bool.false_eq_true, if_false]
  rw [given_tells a l m (by omega) (by omega) 8999 (by omega)]
  simp only [Option.bind_some]
  rw [may_tells' a _ _ hs 8999 (by omega)]
  simp only [Option.bind_some]
  have hnil : ∀ q x y z, callboardlaw06_LeafPlace.j1 (q + 1) key true x y z = some true := by
    intro q x y z
    simp only [callboardlaw06_LeafPlace.j1]
    rw [if_pos trivial]
    have : leaf_Place.f [] key = some 0 := by
      unfold leaf_Place.f placeB atB isB
      rfl
    rw [this]; rfl
  by_cases hM : mayB a (l.map toE) (m.map toB) = true
  · rw [if_pos hM]
    by_cases hz : (m.map toB).length = 0
    · rw [show ((((m.map toB).length : Int) == 0)) = true from by rw [hz]; rfl]
      exact hnil 8998 _ _ _
    · rw [show ((((m.map toB).length : Int) == 0)) = false from by simpa using hz]
      have hok : allFrom (okB (m.map toB)) 0 (m.map toB).length = true := by
        unfold mayB at hM
        simp only [Bool.and_eq_true] at hM
        exact hM.2.2
      obtain ⟨at_, e, hlt, ha, hb⟩ := place_spec (m.map toB) key (rise_of_ok _ hok) (by omega)
      show callboardlaw06_LeafPlace.j1 (8998 + 1) key false a _ _ = some true
      simp only [callboardlaw06_LeafPlace.j1, Bool.false_eq_true, if_false]
      have hp : leaf_Place.f (m.map toB) key = some (at_ : Int) := by
        unfold leaf_Place.f
        rw [if_pos (by simp only [List.length_map]; omega), e]
      have hlm : (m.map toB).length ≤ 1000 := by simp only [List.length_map]; omega
      have hnext : (if (wrap64 ((at_ : Int) + 1)) = ((m.map toB).length : Int) then (some true) else (if 0 ≤ (wrap64 ((at_ : Int) + 1)) then (if (wrap64 ((at_ : Int) + 1)) < ((m.map toB).length : Int) then (some (Op.bytesLess key.toList (((rd_T36 (m.map toB) (wrap64 ((at_ : Int) + 1))).f0).toList))) else (none)) else (none))) = some true := by
        rw [wrap_nat at_ (by omega)]
        by_cases he : ((at_ + 1 : Nat) : Int) = ((m.map toB).length : Int)
        · rw [if_pos he]
        · rw [if_neg he, if_pos (by omega), if_pos (by omega)]
          exact congrArg some (hb (by omega))
      rw [hp]
      simp only [Option.bind_some]
      rw [if_neg (by omega), if_neg (by omega), hnext]
      by_cases h0 : (at_ : Int) = 0
      · rw [if_pos h0]
      · rw [if_neg h0, if_pos (by omega), if_pos (by omega)]
        have : ¬ Op.bytesLess key.toList (((rd_T36 (m.map toB) (at_ : Int)).f0).toList) = true := by
          rcases ha with ha | ha
          · omega
          · unfold keyB at ha; rw [ha]; simp
        rw [if_neg this]
  · rw [if_neg hM]
    exact hnil 8998 _ _ _
/-- The call, whatever the node and the key. -/
theorem leafPlace_walk (a : Bool) (A : Option Addr) (c : Nat) (l : List S75) (A' : Option Addr) (c' : Nat) (m : List S76) (key : ByteArray) (w : World) (hr : Kd.C k75 w A l.length l) (hc : l.length ≤ c) (hr' : Kd.C k76 w A' m.length m) (hc' : m.length ≤ c') (hk : key.size ≤ 140737488351232) :
    Calls Try.prog 3 #[.agg #[.bool a, .slice A l.length c, .slice A' m.length c'], .string key] w fun e w' => e = .returned (.bool true) ∧ Below w.heap.size w w' := by
  obtain ⟨k, h⟩ := leafPlace_pure a l m key
  exact callboardlaw06_LeafPlace.calls k a A c l A' c' m key true w hr hc hr' hc' h
end Go.Proofs.Ytfbaejhjppikpaa.P
