import Derived.Test.YtfbaejhjppikpaaPx0
import Derived.Test.YtfbaejhjppikpaaHDecode
import Derived.Test.YtfbaejhjppikpaaPx21
import Derived.Test.YtfbaejhjppikpaaUBase
/- Strings as lists of numbers: plain facts. -/
namespace Go.Proofs.Ytfbaejhjppikpaa.P
open Go.RowKit Go.Proofs.YtfbaejhjppikpaaW.PrintWords Go.Proofs.YtfbaejhjppikpaaW.PrintLast Go.Proofs.YtfbaejhjppikpaaW.PrintMore

theorem bytesOf_range (s : ByteArray) : ∀ x ∈ bytesOf s, 0 ≤ x ∧ x ≤ 255 := by
  intro x hx
  unfold bytesOf at hx
  obtain ⟨b, _, rfl⟩ := List.mem_map.1 hx
  have := b.toNat_lt
  omega
theorem bytesOf_inj {s t : ByteArray} (h : bytesOf s = bytesOf t) : s = t := by
  unfold bytesOf at h
  have h2 : s.data.toList = t.data.toList := by
    refine (List.map_inj_right (f := fun b : UInt8 => (b.toNat : Int)) (fun a b hab => ?_)).1 h
    exact UInt8.toNat_inj.1 (Int.ofNat.inj hab)
  exact ByteArray.ext (Array.toList_inj.1 h2)
theorem bytesOf_strOf (xs : List Int) (h : ∀ x ∈ xs, 0 ≤ x ∧ x ≤ 255) : bytesOf (strOfNums xs) = xs := by
  unfold bytesOf strOfNums
  simp only [List.map_map]
  conv => rhs; rw [← List.map_id xs]
  refine List.map_congr_left (fun x hx => ?_)
  have := h x hx
  simp [Function.comp]
  omega
theorem strOf_bytesOf (s : ByteArray) : strOfNums (bytesOf s) = s := bytesOf_inj (bytesOf_strOf _ (bytesOf_range s))
theorem bytesOf_extract (s : ByteArray) (a b : Nat) : bytesOf (s.extract a b) = ((bytesOf s).take b).drop a := by
  unfold bytesOf
  rw [ByteArray.data_extract, Array.toList_extract, List.extract_eq_take_drop, List.map_take, List.map_drop, List.drop_take]
theorem bt_bytesOf (s : ByteArray) (i : Nat) : bt s (i : Int) = (bytesOf s).getD i 0 := by
  unfold bt bytesOf
  simp only [Int.toNat_natCast]
  by_cases h : i < s.size
  · rw [dif_pos h, List.getD_eq_getElem?_getD, List.getElem?_map]
    have : s.data.toList[i]? = some s[i] := by rw [Array.getElem?_toList]; exact Array.getElem?_eq_getElem h
    rw [this]; rfl
  · rw [dif_neg h, List.getD_eq_getElem?_getD, List.getElem?_eq_none (by simpa [data_length] using h)]; rfl
end Go.Proofs.Ytfbaejhjppikpaa.P
/- A body and its node: the one is the other's. -/
namespace Go.Proofs.Ytfbaejhjppikpaa.P
open Go.RowKit Go.Proofs.YtfbaejhjppikpaaW.PrintWords Go.Proofs.YtfbaejhjppikpaaW.PrintLast Go.Proofs.YtfbaejhjppikpaaW.PrintMore

theorem u8_wrap (n : Int) : IntKind.u8.wrap n = n % 256 := IntKind.wrap_u8 n
theorem len_bytes (s : ByteArray) : s.size = (bytesOf s).length := (bytesOf_length s).symm
theorem bytes_head (s : ByteArray) (c : Int) (r : List Int) (h : bytesOf s = c :: r) : bt s 0 = c ∧ bytesOf (s.extract 1 s.size) = r ∧ s.size = r.length + 1 := by
  have h1 := bt_bytesOf s 0
  have h2 := bytesOf_extract s 1 s.size
  have h3 := len_bytes s
  rw [h] at h1 h2 h3
  refine ⟨by simpa using h1, ?_, by simpa using h3⟩
  rw [h2, List.take_of_length_le (by simp at h3; simp; omega)]; rfl
theorem text_front (s x : ByteArray) (r : List Int) (hx : x.size ≤ 255) (h : bytesOf s = textL x ++ r) : hasText s = true ∧ headOf s = x ∧ bytesOf (restOf s) = r := by
  unfold textL at h
  obtain ⟨h1, h2, h3⟩ := bytes_head s (IntKind.u8.wrap x.size) (bytesOf x ++ r) h
  have hl : lenOf s = x.size := by unfold lenOf; rw [h1, u8_wrap]; omega
  have hxl := bytesOf_length x
  rw [List.length_append] at h3
  refine ⟨?_, ?_, ?_⟩
  · unfold hasText
    rw [hl]
    simp only [Bool.and_eq_true, decide_eq_true_eq]; omega
  · apply bytesOf_inj
    unfold headOf
    rw [bytesOf_extract, h2, hl, List.drop_zero, ← hxl, List.take_left]
  · unfold restOf
    rw [bytesOf_extract, h2, hl, List.take_of_length_le (by rw [ByteArray.size_extract, List.length_append]; omega), ← hxl, List.drop_left]
theorem text_back (s : ByteArray) (h : hasText s = true) : bytesOf s = textL (headOf s) ++ bytesOf (restOf s) ∧ (headOf s).size ≤ 255 := by
  obtain ⟨h0, h1⟩ := hasText_true h
  obtain ⟨c, r, hcr⟩ : ∃ c r, bytesOf s = c :: r := by
    cases e : bytesOf s with
    | nil => have hh := len_bytes s; rw [e] at hh; simp only [List.length_nil] at hh; omega
    | cons c r => exact ⟨c, r, rfl⟩
  obtain ⟨h2, h3, h4⟩ := bytes_head s c r hcr
  have hc := bytesOf_range s c (by rw [hcr]; exact List.mem_cons_self ..)
  have hl : (lenOf s : Int) = c := by unfold lenOf; rw [h2]; omega
  have e1 : bytesOf (headOf s) = r.take (lenOf s) := by unfold headOf; rw [bytesOf_extract, h3, List.drop_zero]
  have e2 : bytesOf (restOf s) = r.drop (lenOf s) := by unfold restOf; rw [bytesOf_extract, h3, List.take_of_length_le (by rw [ByteArray.size_extract]; omega)]
  have e3 : (headOf s).size = lenOf s := by rw [len_bytes, e1, List.length_take]; omega
  have hle := lenOf_le s
  refine ⟨?_, by omega⟩
  unfold textL
  rw [e1, e2, e3, u8_wrap, hcr, show ((lenOf s : Int) % 256) = c from by omega, List.cons_append, List.take_append_drop]
theorem page_front (s : ByteArray) (p : Int) (r : List Int) (h0 : 0 ≤ p) (h1 : p < 65536) (h : bytesOf s = IntKind.u8.wrap (p / 256) :: IntKind.u8.wrap p :: r) : 2 ≤ s.size ∧ page2 s = p ∧ bytesOf (s.extract 2 s.size) = r := by
  have hl := len_bytes s
  have b0 := bt_bytesOf s 0
  have b1 := bt_bytesOf s 1
  rw [h] at hl b0 b1
  simp only [List.length_cons] at hl
  refine ⟨by omega, ?_, ?_⟩
  · unfold page2
    have e0 : bt s 0 = IntKind.u8.wrap (p / 256) := by simpa using b0
    have e1 : bt s 1 = IntKind.u8.wrap p := by simpa using b1
    rw [e0, e1, u8_wrap, u8_wrap]; omega
  · rw [bytesOf_extract, len_bytes s, List.take_length, h]; rfl
theorem page_back (s : ByteArray) (h : 2 ≤ s.size) : bytesOf s = IntKind.u8.wrap (page2 s / 256) :: IntKind.u8.wrap (page2 s) :: bytesOf (s.extract 2 s.size) ∧ 0 ≤ page2 s ∧ page2 s < 65536 := by
  obtain ⟨c, d, r, hcr⟩ : ∃ c d r, bytesOf s = c :: d :: r := by
    have hl := len_bytes s
    match e : bytesOf s with
    | [] => rw [e] at hl; simp only [List.length_nil] at hl; omega
    | [c] => have hl := len_bytes s; rw [e] at hl; simp only [List.length_cons, List.length_nil] at hl; omega
    | c :: d :: r => exact ⟨c, d, r, rfl⟩
  have hc := bytesOf_range s c (by rw [hcr]; simp)
  have hd := bytesOf_range s d (by rw [hcr]; simp)
  have b0 := bt_bytesOf s 0
  have b1 := bt_bytesOf s 1
  have e0 : bt s 0 = c := by rw [hcr] at b0; simpa using b0
  have e1 : bt s 1 = d := by rw [hcr] at b1; simpa using b1
  have ep : page2 s = c * 256 + d := by unfold page2; rw [e0, e1]
  refine ⟨?_, by omega, by omega⟩
  rw [bytesOf_extract, len_bytes s, List.take_length, hcr, ep, u8_wrap, u8_wrap, show (c * 256 + d) / 256 % 256 = c from by omega, show (c * 256 + d) % 256 = d from by omega]; rfl

theorem flat_pos (l : List S47) (h : (l.flatMap encE).length = 0) : l = [] := by
  cases l with
  | nil => rfl
  | cons e l => simp [List.flatMap_cons, encE, textL] at h
theorem flatB_pos (l : List S36) (h : (l.flatMap encB).length = 0) : l = [] := by
  cases l with
  | nil => rfl
  | cons e l => simp [List.flatMap_cons, encB, textL] at h
/-- Of a row of entries, its body's node is that row. -/
theorem dec_entries : ∀ (l : List S47) (d : Nat) (s : ByteArray) (E : List S47) (B : List S36), (∀ x ∈ l, x.f0.size ≤ 255 ∧ x.f1.size ≤ 255) → bytesOf s = l.flatMap encE → s.size < d → decL d true s E B = some (E ++ l, B) := by
  intro l
  induction l with
  | nil =>
    intro d s E B _ h hd
    rw [decL_end d true s E B (by rw [len_bytes, h]; rfl) hd, List.append_nil]
  | cons x l ih =>
    intro d s E B hl h hd
    obtain ⟨d, rfl⟩ : ∃ q, d = q + 1 := ⟨d - 1, by omega⟩
    obtain ⟨hx0, hx1⟩ := hl x (List.mem_cons_self ..)
    rw [List.flatMap_cons] at h
    unfold encE at h
    rw [List.append_assoc] at h
    obtain ⟨a1, a2, a3⟩ := text_front s x.f0 _ hx0 h
    obtain ⟨b1, b2, b3⟩ := text_front (restOf s) x.f1 _ hx1 a3
    have s1 := rest_size s a1
    have s2 := rest_size (restOf s) b1
    simp only [decL]
    rw [if_neg (by omega), if_pos a1, if_pos trivial, if_pos b1, a2, b2]
    rw [ih d _ _ _ (fun y hy => hl y (List.mem_cons_of_mem _ hy)) b3 (by omega), List.append_assoc]
    rfl
theorem dec_branches : ∀ (l : List S36) (d : Nat) (s : ByteArray) (E : List S47) (B : List S36), (∀ x ∈ l, x.f0.size ≤ 255 ∧ 0 ≤ x.f1 ∧ x.f1 < 65536) → bytesOf s = l.flatMap encB → s.size < d → decL d false s E B = some (E, B ++ l) := by
  intro l
  induction l with
  | nil =>
    intro d s E B _ h hd
    rw [decL_end d false s E B (by rw [len_bytes, h]; rfl) hd, List.append_nil]
  | cons x l ih =>
    intro d s E B hl h hd
    obtain ⟨d, rfl⟩ : ∃ q, d = q + 1 := ⟨d - 1, by omega⟩
    obtain ⟨hx0, hx1, hx2⟩ := hl x (List.mem_cons_self ..)
    rw [List.flatMap_cons] at h
    unfold encB at h
    rw [List.append_assoc] at h
    obtain ⟨a1, a2, a3⟩ := text_front s x.f0 _ hx0 h
    obtain ⟨b1, b2, b3⟩ := page_front (restOf s) x.f1 _ hx1 hx2 a3
    have s1 := rest_size s a1
    have s2 : ((restOf s).extract 2 (restOf s).size).size = (restOf s).size - 2 := by rw [ByteArray.size_extract]; omega
    simp only [decL]
    rw [if_neg (by omega), if_pos a1, if_neg (by decide), if_pos b1, a2, b2]
    rw [ih d _ _ _ (fun y hy => hl y (List.mem_cons_of_mem _ hy)) b3 (by omega), List.append_assoc]
    rfl
/-- What is decoded has just that body. -/
theorem back_entries : ∀ (d : Nat) (s : ByteArray) (E : List S47) (B : List S36) (E' : List S47) (B' : List S36), decL d true s E B = some (E', B') → ∃ l, E' = E ++ l ∧ B' = B ∧ bytesOf s = l.flatMap encE ∧ ∀ x ∈ l, x.f0.size ≤ 255 ∧ x.f1.size ≤ 255 := by
  intro d
  induction d with
  | zero => intro s E B E' B' h; simp [decL] at h
  | succ d ih =>
    intro s E B E' B' h
    simp only [decL] at h
    by_cases h0 : s.size = 0
    · rw [if_pos h0] at h
      simp only [Option.some.injEq, Prod.mk.injEq] at h
      obtain ⟨rfl, rfl⟩ := h
      refine ⟨[], by simp, rfl, ?_, fun x hx => by simp at hx⟩
      exact List.eq_nil_of_length_eq_zero (by rw [← len_bytes]; exact h0)
    · rw [if_neg h0] at h
      by_cases h1 : hasText s = true
      · rw [if_pos h1, if_pos trivial] at h
        by_cases h2 : hasText (restOf s) = true
        · rw [if_pos h2] at h
          obtain ⟨l, e1, e2, e3, e4⟩ := ih _ _ _ _ _ h
          obtain ⟨a1, a2⟩ := text_back s h1
          obtain ⟨b1, b2⟩ := text_back (restOf s) h2
          refine ⟨⟨headOf s, headOf (restOf s)⟩ :: l, by rw [e1, List.append_assoc]; rfl, e2, ?_, fun x hx => ?_⟩
          · rw [a1, b1, e3, List.flatMap_cons, ← List.append_assoc]; rfl
          · rcases List.mem_cons.1 hx with rfl | hx
            · exact ⟨a2, b2⟩
            · exact e4 x hx
        · rw [if_neg h2] at h; cases h
      · rw [if_neg h1] at h; cases h
theorem back_branches : ∀ (d : Nat) (s : ByteArray) (E : List S47) (B : List S36) (E' : List S47) (B' : List S36), decL d false s E B = some (E', B') → ∃ l, E' = E ∧ B' = B ++ l ∧ bytesOf s = l.flatMap encB ∧ ∀ x ∈ l, x.f0.size ≤ 255 := by
  intro d
  induction d with
  | zero => intro s E B E' B' h; simp [decL] at h
  | succ d ih =>
    intro s E B E' B' h
    simp only [decL] at h
    by_cases h0 : s.size = 0
    · rw [if_pos h0] at h
      simp only [Option.some.injEq, Prod.mk.injEq] at h
      obtain ⟨rfl, rfl⟩ := h
      refine ⟨[], rfl, by simp, ?_, fun x hx => by simp at hx⟩
      exact List.eq_nil_of_length_eq_zero (by rw [← len_bytes]; exact h0)
    · rw [if_neg h0] at h
      by_cases h1 : hasText s = true
      · rw [if_pos h1, if_neg (by decide)] at h
        by_cases h2 : 2 ≤ (restOf s).size
        · rw [if_pos h2] at h
          obtain ⟨l, e1, e2, e3, e4⟩ := ih _ _ _ _ _ h
          obtain ⟨a1, a2⟩ := text_back s h1
          obtain ⟨b1, _, _⟩ := page_back (restOf s) h2
          refine ⟨⟨headOf s, page2 (restOf s)⟩ :: l, e1, by rw [e2, List.append_assoc]; rfl, ?_, fun x hx => ?_⟩
          · rw [a1, b1, e3, List.flatMap_cons]; simp [encB]
          · rcases List.mem_cons.1 hx with rfl | hx
            · exact a2
            · exact e4 x hx
        · rw [if_neg h2] at h; cases h
      · rw [if_neg h1] at h; cases h

/-- A body's length. -/
theorem encE_len (l : List S47) : ((l.flatMap encE).length : Int) = (l.map sizeE).sum := by
  induction l with
  | nil => rfl
  | cons x l ih => rw [List.flatMap_cons, List.length_append, List.map_cons, List.sum_cons, ← ih]; simp only [encE, List.length_append, textL_len, sizeE]; omega
theorem encB_len (l : List S36) : ((l.flatMap encB).length : Int) = (l.map sizeB).sum := by
  induction l with
  | nil => rfl
  | cons x l ih => rw [List.flatMap_cons, List.length_append, List.map_cons, List.sum_cons, ← ih]; simp only [encB, List.length_append, textL_len, sizeB, List.length_cons, List.length_nil]; omega
theorem encN_len (a : Bool) (l : List S47) (m : List S36) : ((encN a l m).length : Int) = sizeN l m := by
  unfold encN sizeN sizesN
  rw [List.length_cons, List.length_append, List.sum_append, ← encE_len, ← encB_len]; omega
theorem textL_range (s : ByteArray) : ∀ x ∈ textL s, 0 ≤ x ∧ x ≤ 255 := by
  intro x hx
  rcases List.mem_cons.1 hx with rfl | hx
  · rw [u8_wrap]; omega
  · exact bytesOf_range s x hx
theorem encN_range (a : Bool) (l : List S47) (m : List S36) : ∀ x ∈ encN a l m, 0 ≤ x ∧ x ≤ 255 := by
  intro x hx
  unfold encN at hx
  rcases List.mem_cons.1 hx with rfl | hx
  · cases a <;> simp
  rcases List.mem_append.1 hx with hx | hx
  · obtain ⟨e, _, hx⟩ := List.mem_flatMap.1 hx
    rcases List.mem_append.1 hx with hx | hx
    · exact textL_range _ x hx
    · exact textL_range _ x hx
  · obtain ⟨e, _, hx⟩ := List.mem_flatMap.1 hx
    rcases List.mem_append.1 hx with hx | hx
    · exact textL_range _ x hx
    · simp only [List.mem_cons, List.not_mem_nil, or_false] at hx
      rcases hx with rfl | rfl <;> rw [u8_wrap] <;> omega
theorem ok_sizes (l : List S47) (h : allFrom (okE l) 0 l.length = true) : ∀ x ∈ l, x.f0.size ≤ 24 ∧ x.f1.size ≤ 100 := by
  intro x hx
  obtain ⟨i, hi⟩ := List.getElem?_of_mem hx
  obtain ⟨hlt, hi⟩ := List.getElem?_eq_some_iff.1 hi
  have := (allFrom_iff _ _ _).1 h i (Nat.zero_le _) (by omega)
  unfold okE at this
  rw [rdE l i hlt, hi] at this
  simp at this
  exact ⟨this.1.1.2, this.1.2⟩
theorem ok_sizesB (l : List S36) (h : allFrom (okB l) 0 l.length = true) : ∀ x ∈ l, x.f0.size ≤ 24 ∧ 2 ≤ x.f1 ∧ x.f1 < 1024 := by
  intro x hx
  obtain ⟨i, hi⟩ := List.getElem?_of_mem hx
  obtain ⟨hlt, hi⟩ := List.getElem?_eq_some_iff.1 hi
  have := (allFrom_iff _ _ _).1 h i (Nat.zero_le _) (by omega)
  unfold okB at this
  rw [rdB l i hlt, hi] at this
  simp at this
  exact ⟨this.1.1.1, this.1.1.2, this.1.2⟩
theorem may_parts {a : Bool} {l : List S47} {m : List S36} (h : mayB a l m = true) : (if a then m = [] else l = []) ∧ allFrom (okE l) 0 l.length = true ∧ allFrom (okB m) 0 m.length = true := by
  unfold mayB at h
  simp only [Bool.and_eq_true] at h
  refine ⟨?_, h.2⟩
  cases a
  · simpa using h.1
  · simpa using h.1
/-- Decode of Encode is the node. -/
theorem decode_encode (a : Bool) (l : List S47) (m : List S36) (hm : mayB a l m = true) (hf : sizeN l m ≤ 254) : decodeN (strOfNums (encN a l m)) = (a, l, m, 0) ∧ (strOfNums (encN a l m)).size = sizeN l m := by
  have hb := bytesOf_strOf _ (encN_range a l m)
  have hlen := encN_len a l m
  have hsz : (strOfNums (encN a l m)).size = (encN a l m).length := by rw [len_bytes, hb]
  refine ⟨?_, by rw [hsz]; exact hlen⟩
  generalize strOfNums (encN a l m) = s at hb hsz
  obtain ⟨h1, h2, h3⟩ := may_parts hm
  have he : encN a l m = (if a then 1 else 2) :: (l.flatMap encE ++ m.flatMap encB) := rfl
  obtain ⟨c1, c2, c3⟩ := bytes_head s _ _ (hb.trans he)
  have c4 : (s.extract 1 s.size).size < 300 := by rw [ByteArray.size_extract]; omega
  have e3 := ok_sizes l h2
  have e4 := ok_sizesB m h3
  unfold decodeN
  rw [if_neg (by omega), if_neg (by omega)]
  cases a with
  | true =>
    have hm0 : m = [] := by simpa using h1
    subst hm0
    simp only [if_true] at c1
    rw [c1, if_neg (by decide)]
    have := dec_entries l 300 (s.extract 1 s.size) [] [] (fun x hx => by have := e3 x hx; omega) (by rw [c2]; simp) c4
    rw [show ((1 : Int) == 1) = true from rfl, this]
    simp [hm]
  | false =>
    have hl0 : l = [] := by simpa using h1
    subst hl0
    simp only [Bool.false_eq_true, if_false] at c1
    rw [c1, if_neg (by decide)]
    have := dec_branches m 300 (s.extract 1 s.size) [] [] (fun x hx => by have := e4 x hx; omega) (by rw [c2]; simp) c4
    rw [show ((2 : Int) == 1) = false from rfl, this]
    simp [hm]
/-- Encode of Decode is the body. -/
theorem encode_decode (s : ByteArray) (a : Bool) (E : List S47) (B : List S36) (h : decodeN s = (a, E, B, 0)) : mayB a E B = true ∧ sizeN E B ≤ 254 ∧ Small E B ∧ strOfNums (encN a E B) = s := by
  unfold decodeN at h
  by_cases h1 : 254 < s.size
  · rw [if_pos h1] at h; simp at h
  rw [if_neg h1] at h
  by_cases h2 : s.size = 0
  · rw [if_pos h2] at h; simp at h
  rw [if_neg h2] at h
  by_cases h3 : bt s 0 ≠ 1 ∧ bt s 0 ≠ 2
  · rw [if_pos h3] at h; simp at h
  rw [if_neg h3] at h
  obtain ⟨c, r, hcr⟩ : ∃ c r, bytesOf s = c :: r := by
    cases e : bytesOf s with
    | nil => have hh := len_bytes s; rw [e] at hh; simp only [List.length_nil] at hh; omega
    | cons c r => exact ⟨c, r, rfl⟩
  obtain ⟨c1, c2, c3⟩ := bytes_head s c r hcr
  cases hd : decL 300 (bt s 0 == 1) (s.extract 1 s.size) [] [] with
  | none => rw [hd] at h; simp at h
  | some z =>
    obtain ⟨E1, B1⟩ := z
    rw [hd] at h
    simp only at h
    by_cases hm : mayB (bt s 0 == 1) E1 B1 = true
    · rw [if_pos hm] at h
      simp only [Prod.mk.injEq] at h
      obtain ⟨rfl, rfl, rfl, _⟩ := h
      obtain ⟨g1, g2, g3⟩ := may_parts hm
      have e3 := ok_sizes E1 g2
      have e4 := ok_sizesB B1 g3
      have key : encN (bt s 0 == 1) E1 B1 = bytesOf s := by
        unfold encN
        rw [hcr]
        by_cases hb : bt s 0 = 1
        · rw [show (bt s 0 == 1) = true from by simpa using hb] at hd g1 ⊢
          obtain ⟨l, q1, q2, q3, _⟩ := back_entries _ _ _ _ _ _ hd
          have hB : B1 = [] := by simpa using g1
          subst hB
          rw [q1, List.nil_append] at *
          rw [← c2, q3, ← c1, hb]; simp
        · have hb2 : bt s 0 = 2 := by
            rcases Classical.em (bt s 0 = 2) with h | h
            · exact h
            · exact absurd ⟨hb, h⟩ h3
          rw [show (bt s 0 == 1) = false from by simpa using hb] at hd g1 ⊢
          obtain ⟨l, q1, q2, q3, _⟩ := back_branches _ _ _ _ _ _ hd
          have hE : E1 = [] := by simpa using g1
          subst hE
          rw [q2, List.nil_append] at *
          rw [← c2, q3, ← c1, hb2]; simp
      have hlen := encN_len (bt s 0 == 1) E1 B1
      rw [key, ← len_bytes] at hlen
      have hl1 : ∀ l : List S47, l.length ≤ (l.flatMap encE).length := by
        intro l
        induction l with
        | nil => simp
        | cons x l ih => rw [List.flatMap_cons, List.length_append, List.length_cons]; simp only [encE, List.length_append, textL_len]; omega
      have hl2 : ∀ l : List S36, l.length ≤ (l.flatMap encB).length := by
        intro l
        induction l with
        | nil => simp
        | cons x l ih => rw [List.flatMap_cons, List.length_append, List.length_cons]; simp only [encB, List.length_append, textL_len]; omega
      have k1 := hl1 E1
      have k2 := hl2 B1
      have k3 : (encN (bt s 0 == 1) E1 B1).length = 1 + ((E1.flatMap encE).length + (B1.flatMap encB).length) := by unfold encN; rw [List.length_cons, List.length_append]; omega
      rw [key, ← len_bytes] at k3
      refine ⟨hm, by omega, ⟨by omega, by omega, fun x hx => by have := e3 x hx; omega, fun x hx => by have := e4 x hx; omega⟩, ?_⟩
      rw [key]; exact strOf_bytesOf s
    · rw [if_neg hm] at h; simp at h
/-- What is refused has nothing. -/
theorem decode_refused (s : ByteArray) (h : (decodeN s).2.2.2 ≠ 0) : (decodeN s).1 = false ∧ (decodeN s).2.1 = [] ∧ (decodeN s).2.2.1 = [] := by
  unfold decodeN at h ⊢
  split at h
  · rename_i h1; rw [if_pos h1]; exact ⟨rfl, rfl, rfl⟩
  rename_i h1
  rw [if_neg h1]
  split at h
  · rename_i h2; rw [if_pos h2]; exact ⟨rfl, rfl, rfl⟩
  rename_i h2
  rw [if_neg h2]
  split at h
  · rename_i h3; rw [if_pos h3]; exact ⟨rfl, rfl, rfl⟩
  rename_i h3
  rw [if_neg h3]
  cases hd : decL 300 (bt s 0 == 1) (s.extract 1 s.size) [] [] with
  | none => exact ⟨rfl, rfl, rfl⟩
  | some z =>
    obtain ⟨E1, B1⟩ := z
    rw [hd] at h
    simp only at h ⊢
    by_cases hm : mayB (bt s 0 == 1) E1 B1 = true
    · rw [if_pos hm] at h; exact absurd rfl h
    · rw [if_neg hm]; exact ⟨rfl, rfl, rfl⟩
end Go.Proofs.Ytfbaejhjppikpaa.P
/- The plain law of leaf.Same. -/
namespace Go.Proofs.Ytfbaejhjppikpaa.P
open Go.RowKit Go.Proofs.YtfbaejhjppikpaaW.PrintWords Go.Proofs.YtfbaejhjppikpaaW.PrintLast Go.Proofs.YtfbaejhjppikpaaW.PrintMore

theorem rdE7 (l : List S47) (i : Nat) (h : i < l.length) : rd_T47 l (i : Int) = l[i] := by unfold rd_T47; simp [List.getD_eq_getElem?_getD, h]
theorem rdB7 (l : List S36) (i : Nat) (h : i < l.length) : rd_T36 l (i : Int) = l[i] := by unfold rd_T36; simp [List.getD_eq_getElem?_getD, h]
theorem bytes_list_inj {s t : ByteArray} (h : s.toList = t.toList) : s = t := by
  rw [ByteArray.toList_eq, ByteArray.toList_eq] at h
  exact ByteArray.ext (Array.toList_inj.1 h)
theorem S47_eq {x y : S47} : x = y ↔ x.f0.toList = y.f0.toList ∧ x.f1.toList = y.f1.toList := by
  constructor
  · rintro rfl; exact ⟨rfl, rfl⟩
  · rintro ⟨h1, h2⟩
    cases x; cases y
    simp only at h1 h2
    rw [bytes_list_inj h1, bytes_list_inj h2]
theorem S36_eq {x y : S36} : x = y ↔ x.f0.toList = y.f0.toList ∧ x.f1 = y.f1 := by
  constructor
  · rintro rfl; exact ⟨rfl, rfl⟩
  · rintro ⟨h1, h2⟩
    cases x; cases y
    simp only at h1 h2
    rw [bytes_list_inj h1, h2]
instance : DecidableEq S47 := fun _ _ => decidable_of_iff _ S47_eq.symm
instance : DecidableEq S36 := fun _ _ => decidable_of_iff _ S36_eq.symm
theorem drop_eq_iff {α : Type} (l m : List α) (i : Nat) (h1 : i < l.length) (h2 : i < m.length) : l.drop i = m.drop i ↔ l[i] = m[i] ∧ l.drop (i + 1) = m.drop (i + 1) := by
  rw [List.drop_eq_getElem_cons h1, List.drop_eq_getElem_cons h2, List.cons.injEq]
theorem entries_same_l0 (l m : List S47) (h : l.length = m.length) (hl : l.length ≤ 1000000) : ∀ (d i k : Nat), i + d = l.length → leaf_Entry_45.l0 (d + (k + 1)) l m (l.length : Int) (i : Int) = some (decide (l.drop i = m.drop i)) := by
  intro d
  induction d with
  | zero =>
    intro i k hi
    rw [show 0 + (k + 1) = k + 1 from by omega]
    simp only [leaf_Entry_45.l0]
    rw [if_neg (by omega), List.drop_eq_nil_of_le (by omega), List.drop_eq_nil_of_le (by omega)]; simp
  | succ d ih =>
    intro i k hi
    obtain ⟨q, hq⟩ : ∃ q, q = d + (k + 1) := ⟨_, rfl⟩
    rw [show d + 1 + (k + 1) = q + 1 from by omega]
    simp only [leaf_Entry_45.l0]
    have h1 : i < l.length := by omega
    have h2 : i < m.length := by omega
    rw [if_pos (by omega), if_pos (by omega), if_pos (by omega), if_pos (by omega), wrap_nat i (by omega), hq, ih (i + 1) k (by omega), rdE7 l i h1, rdE7 m i h2]
    have e := drop_eq_iff l m i h1 h2
    by_cases c : l[i] = m[i]
    · have c' := S47_eq.1 c
      rw [if_neg (by simp [c'.1, c'.2])]
      congr 1
      exact decide_eq_decide.2 ⟨fun h => e.2 ⟨c, h⟩, fun h => (e.1 h).2⟩
    · rw [if_pos ?_]
      · congr 1
        symm
        exact decide_eq_false (fun h => c (e.1 h).1)
      · simp only [Bool.or_eq_true, Bool.not_eq_true', beq_eq_false_iff_ne]
        by_cases c2 : l[i].f0.toList = m[i].f0.toList
        · right; exact fun c3 => c (S47_eq.2 ⟨c2, c3⟩)
        · left; exact c2
theorem branches_same_l0 (l m : List S36) (h : l.length = m.length) (hl : l.length ≤ 1000000) : ∀ (d i k : Nat), i + d = l.length → leaf_Branch_46.l0 (d + (k + 1)) l m (l.length : Int) (i : Int) = some (decide (l.drop i = m.drop i)) := by
  intro d
  induction d with
  | zero =>
    intro i k hi
    rw [show 0 + (k + 1) = k + 1 from by omega]
    simp only [leaf_Branch_46.l0]
    rw [if_neg (by omega), List.drop_eq_nil_of_le (by omega), List.drop_eq_nil_of_le (by omega)]; simp
  | succ d ih =>
    intro i k hi
    obtain ⟨q, hq⟩ : ∃ q, q = d + (k + 1) := ⟨_, rfl⟩
    rw [show d + 1 + (k + 1) = q + 1 from by omega]
    simp only [leaf_Branch_46.l0]
    have h1 : i < l.length := by omega
    have h2 : i < m.length := by omega
    rw [if_pos (by omega), if_pos (by omega), if_pos (by omega), if_pos (by omega), wrap_nat i (by omega), hq, ih (i + 1) k (by omega), rdB7 l i h1, rdB7 m i h2]
    have e := drop_eq_iff l m i h1 h2
    by_cases c : l[i] = m[i]
    · have c' := S36_eq.1 c
      rw [if_neg (by simp [c'.1, c'.2])]
      congr 1
      exact decide_eq_decide.2 ⟨fun h => e.2 ⟨c, h⟩, fun h => (e.1 h).2⟩
    · rw [if_pos ?_]
      · congr 1
        symm
        exact decide_eq_false (fun h => c (e.1 h).1)
      · simp only [Bool.or_eq_true, Bool.not_eq_true', beq_eq_false_iff_ne]
        by_cases c2 : l[i].f0.toList = m[i].f0.toList
        · right; exact fun c3 => c (S36_eq.2 ⟨c2, c3⟩)
        · left; exact c2
theorem entries_same (l m : List S47) (hl : l.length ≤ 1000) (k : Nat) (hk : 5000 ≤ k) : leaf_Entry_45.f k l m = some (decide (l = m)) := by
  unfold leaf_Entry_45.f
  by_cases h : (l.length : Int) = (m.length : Int)
  · rw [if_pos h]
    obtain ⟨q, rfl⟩ : ∃ q, k = l.length + (q + 1) := ⟨k - l.length - 1, by omega⟩
    have := entries_same_l0 l m (by omega) (by omega) l.length 0 q (by omega)
    simpa using this
  · rw [if_neg h]
    congr 1; symm
    exact decide_eq_false (fun e => h (by rw [e]))
theorem branches_same (l m : List S36) (hl : l.length ≤ 1000) (k : Nat) (hk : 5000 ≤ k) : leaf_Branch_46.f k l m = some (decide (l = m)) := by
  unfold leaf_Branch_46.f
  by_cases h : (l.length : Int) = (m.length : Int)
  · rw [if_pos h]
    obtain ⟨q, rfl⟩ : ∃ q, k = l.length + (q + 1) := ⟨k - l.length - 1, by omega⟩
    have := branches_same_l0 l m (by omega) (by omega) l.length 0 q (by omega)
    simpa using this
  · rw [if_neg h]
    congr 1; symm
    exact decide_eq_false (fun e => h (by rw [e]))
def sameN (a : Bool) (l : List S47) (m : List S36) (a' : Bool) (l' : List S47) (m' : List S36) : Bool := decide (a = a' ∧ l = l' ∧ m = m')
theorem same_tells (a : Bool) (l : List S47) (m : List S36) (a' : Bool) (l' : List S47) (m' : List S36) (h1 : l.length ≤ 1000) (h2 : m.length ≤ 1000) (k : Nat) (hk : 5000 ≤ k) : leaf_Same.f k a l m a' l' m' = some (sameN a l m a' l' m') := by
  unfold leaf_Same.f sameN
  rw [entries_same l l' h1 k hk, branches_same m m' h2 k hk]
  by_cases c1 : a = a'
  · rw [if_pos (by simp [c1])]
    by_cases c2 : l = l'
    · simp [c1, c2]
    · simp [c1, c2]
  · rw [if_neg (by simpa using c1)]; simp [c1]
end Go.Proofs.Ytfbaejhjppikpaa.P
