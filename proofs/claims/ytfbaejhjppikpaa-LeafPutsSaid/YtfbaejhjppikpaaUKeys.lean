import Derived.Test.YtfbaejhjppikpaaHKeys
import Derived.Test.YtfbaejhjppikpaaPx42
import Derived.Test.YtfbaejhjppikpaaUSame
import Derived.Test.YtfbaejhjppikpaaUBs
import Derived.Test.YtfbaejhjppikpaaBBytes
/- Entries that rise: what a search, Put, Del and Find say of them. -/
namespace Go.Proofs.Ytfbaejhjppikpaa.P
open Go.RowKit Go.Proofs.YtfbaejhjppikpaaW.PrintWords Go.Proofs.YtfbaejhjppikpaaW.PrintLast Go.Proofs.YtfbaejhjppikpaaW.PrintMore
open Go.Proofs.YtfbaejhjppikpaaB

abbrev Lt (a b : ByteArray) : Prop := Op.bytesLess a.toList b.toList = true
theorem Lt.trans {a b c : ByteArray} (h : Lt a b) (h' : Lt b c) : Lt a c := less_trans h h'
theorem Lt.irrefl (a : ByteArray) : ¬ Lt a a := by intro h; rw [Lt, less_irrefl] at h; cases h
theorem Lt.asymm {a b : ByteArray} (h : Lt a b) : ¬ Lt b a := fun h' => Lt.irrefl _ (h.trans h')
theorem Lt.total {a b : ByteArray} (h : ¬ Lt a b) (hne : a ≠ b) : Lt b a := less_total _ _ (by simpa [Lt] using h) (fun e => hne (bytes_list_inj e))
/-- The keys rise. -/
def Rise (l : List S47) : Prop := l.Pairwise (fun x y => Lt x.f0 y.f0)
theorem keyE_get (l : List S47) (i : Nat) (h : i < l.length) : keyE l i = l[i].f0.toList := by unfold keyE; rw [rdE7 l i h]
theorem rise_of_okE (l : List S47) (h : allFrom (okE l) 0 l.length = true) : Rise l := by
  have hs : ∀ i, (hi : i + 1 < l.length) → Lt (l[i]'(by omega)).f0 l[i + 1].f0 := by
    intro i hi
    have := (allFrom_iff _ _ _).1 h (i + 1) (Nat.zero_le _) (by omega)
    unfold okE at this
    simp only [Bool.and_eq_true, Nat.add_sub_cancel, Bool.or_eq_true, decide_eq_true_eq] at this
    have h2 := this.2
    rw [keyE_get l i (by omega), keyE_get l (i + 1) hi] at h2
    rcases h2 with h2 | h2
    · omega
    · exact h2
  have hfar : ∀ d i, (hi : i + (d + 1) < l.length) → Lt (l[i]'(by omega)).f0 l[i + (d + 1)].f0 := by
    intro d
    induction d with
    | zero => intro i hi; exact hs i hi
    | succ d ih => intro i hi; exact (ih i (by omega)).trans (hs (i + (d + 1)) hi)
  rw [Rise, List.pairwise_iff_getElem]
  intro i j hi hj hij
  obtain ⟨d, rfl⟩ : ∃ d, j = i + (d + 1) := ⟨j - i - 1, by omega⟩
  exact hfar d i hj
theorem lessE_eq (l : List S47) (key : ByteArray) (i : Nat) (h : i < l.length) : lessE l key i = true ↔ Lt l[i].f0 key := by
  unfold lessE cmpE Lt
  rw [less_cmp, ByteArray.toList_eq, ByteArray.toList_eq, rdE7 l i h]
/-- The place splits what is below from what is not. -/
theorem at_split (l : List S47) (key : ByteArray) (h : Rise l) : (∀ x ∈ l.take (atE l key), Lt x.f0 key) ∧ (∀ x ∈ l.drop (atE l key), ¬ Lt x.f0 key) := by
  have hp := List.pairwise_iff_getElem.1 h
  have := bsAt_spec (lessE l key) l.length (fun i j hij hj hpj => by
    by_cases e : i = j
    · exact e ▸ hpj
    · rw [lessE_eq l key j hj] at hpj
      rw [lessE_eq l key i (by omega)]
      exact (hp i j (by omega) hj (by omega)).trans hpj) l.length 0 l.length (Nat.zero_le _) (Nat.le_refl _) (by omega) (fun q hq => by omega) (fun q hq hn => by omega)
  obtain ⟨h1, h2⟩ := this
  have hle := atE_le l key
  constructor
  · intro x hx
    obtain ⟨i, hi, rfl⟩ := List.mem_iff_getElem.1 hx
    rw [List.length_take] at hi
    rw [List.getElem_take]
    exact (lessE_eq l key i (by omega)).1 (h1 i (by unfold atE at *; omega))
  · intro x hx
    obtain ⟨i, hi, rfl⟩ := List.mem_iff_getElem.1 hx
    rw [List.length_drop] at hi
    rw [List.getElem_drop]
    intro hlt
    have := h2 (atE l key + i) (by unfold atE; omega) (by omega)
    rw [(lessE_eq l key (atE l key + i) (by omega)).2 hlt] at this
    cases this
theorem isE_iff (l : List S47) (key : ByteArray) : isE l key = true ↔ ∃ x r, l.drop (atE l key) = x :: r ∧ x.f0 = key := by
  unfold isE
  constructor
  · intro h
    simp only [Bool.and_eq_true, decide_eq_true_eq] at h
    refine ⟨l[atE l key]'h.1, _, List.drop_eq_getElem_cons h.1, ?_⟩
    have := (cmp_zero _ _).1 h.2
    rw [rdE7 l _ h.1] at this
    exact bytes_list_inj (by rw [ByteArray.toList_eq, ByteArray.toList_eq]; exact this)
  · rintro ⟨x, r, h, hx⟩
    have hlt : atE l key < l.length := by
      rcases Nat.lt_or_ge (atE l key) l.length with h' | h'
      · exact h'
      · rw [List.drop_of_length_le h'] at h; cases h
    simp only [Bool.and_eq_true, decide_eq_true_eq]
    refine ⟨hlt, (cmp_zero _ _).2 ?_⟩
    rw [List.drop_eq_getElem_cons hlt] at h
    rw [rdE7 l _ hlt, (List.cons.inj h).1, hx]
/-- The two shapes of entries that rise, about a key. -/
theorem key_cases (l : List S47) (key : ByteArray) (h : Rise l) :
    (isE l key = true ∧ ∃ L x R, l = L ++ x :: R ∧ atE l key = L.length ∧ x.f0 = key ∧ (∀ y ∈ L, Lt y.f0 key) ∧ (∀ y ∈ R, Lt key y.f0)) ∨
    (isE l key = false ∧ ∃ L R, l = L ++ R ∧ atE l key = L.length ∧ (∀ y ∈ L, Lt y.f0 key) ∧ (∀ y ∈ R, Lt key y.f0)) := by
  obtain ⟨h1, h2⟩ := at_split l key h
  have hle := atE_le l key
  have hlen : (l.take (atE l key)).length = atE l key := by rw [List.length_take]; omega
  have hl := (List.take_append_drop (atE l key) l).symm
  cases hi : isE l key with
  | true =>
    obtain ⟨x, r, hd, hx⟩ := (isE_iff l key).1 hi
    refine .inl ⟨rfl, l.take (atE l key), x, r, by rw [← hd]; exact hl, hlen.symm, hx, h1, fun y hy => ?_⟩
    have hp := (List.pairwise_append.1 (hl ▸ h : ((l.take (atE l key)) ++ (l.drop (atE l key))).Pairwise _)).2.1
    rw [hd] at hp
    exact hx ▸ (List.pairwise_cons.1 hp).1 y hy
  | false =>
    refine .inr ⟨rfl, l.take (atE l key), l.drop (atE l key), hl, hlen.symm, h1, fun y hy => ?_⟩
    refine Lt.total (h2 y hy) (fun e => ?_)
    have hn : isE l key ≠ true := by rw [hi]; decide
    rw [Ne, isE_iff] at hn
    cases hd : l.drop (atE l key) with
    | nil => rw [hd] at hy; cases hy
    | cons z r =>
      rw [hd] at hy
      have hp := (List.pairwise_append.1 (hl ▸ h : ((l.take (atE l key)) ++ (l.drop (atE l key))).Pairwise _)).2.1
      rw [hd] at hp
      have hz : ¬ Lt z.f0 key := h2 z (by rw [hd]; exact List.mem_cons_self ..)
      rcases List.mem_cons.1 hy with rfl | hy
      · exact hn ⟨_, _, hd, e⟩
      · exact hz (e ▸ (List.pairwise_cons.1 hp).1 y hy)
/-- The place and whether it is there, from a shape. -/
theorem at_of (L R : List S47) (key : ByteArray) (h : Rise (L ++ R)) (h1 : ∀ y ∈ L, Lt y.f0 key) (h2 : ∀ y ∈ R, ¬ Lt y.f0 key) : atE (L ++ R) key = L.length := by
  obtain ⟨k1, k2⟩ := at_split (L ++ R) key h
  have hle := atE_le (L ++ R) key
  rw [List.length_append] at hle
  rcases Nat.lt_trichotomy (atE (L ++ R) key) L.length with hlt | he | hgt
  · exfalso
    have hm : L[atE (L ++ R) key] ∈ (L ++ R).drop (atE (L ++ R) key) := by
      rw [List.drop_eq_getElem_cons (by rw [List.length_append]; omega), List.getElem_append_left hlt]; exact List.mem_cons_self ..
    exact k2 _ hm (h1 _ (List.getElem_mem _))
  · exact he
  · exfalso
    cases R with
    | nil => rw [List.length_nil] at hle; omega
    | cons z R =>
      have hm : z ∈ (L ++ z :: R).take (atE (L ++ z :: R) key) := by
        rw [List.take_append, List.mem_append]
        right
        rw [show atE (L ++ z :: R) key - L.length = (atE (L ++ z :: R) key - L.length - 1) + 1 from by omega, List.take_succ_cons]
        exact List.mem_cons_self ..
      exact h2 z (List.mem_cons_self ..) (k1 z hm)
theorem rise_in {L R : List S47} {x : S47} {key : ByteArray} (h : Rise (L ++ R)) (hx : x.f0 = key) (h1 : ∀ y ∈ L, Lt y.f0 key) (h2 : ∀ y ∈ R, Lt key y.f0) : Rise (L ++ x :: R) := by
  obtain ⟨p1, p2, p3⟩ := List.pairwise_append.1 h
  refine List.pairwise_append.2 ⟨p1, List.pairwise_cons.2 ⟨fun y hy => hx ▸ h2 y hy, p2⟩, fun a ha b hb => ?_⟩
  rcases List.mem_cons.1 hb with rfl | hb
  · exact hx ▸ h1 a ha
  · exact p3 a ha b hb
theorem rise_out {L R : List S47} {x : S47} (h : Rise (L ++ x :: R)) : Rise (L ++ R) := by
  obtain ⟨p1, p2, p3⟩ := List.pairwise_append.1 h
  exact List.pairwise_append.2 ⟨p1, (List.pairwise_cons.1 p2).2, fun a ha b hb => p3 a ha b (List.mem_cons_of_mem _ hb)⟩
theorem is_at {L R : List S47} {x : S47} {key : ByteArray} (h : Rise (L ++ x :: R)) (hx : x.f0 = key) : atE (L ++ x :: R) key = L.length ∧ isE (L ++ x :: R) key = true := by
  obtain ⟨p1, p2, p3⟩ := List.pairwise_append.1 h
  have ha := at_of L (x :: R) key h (fun y hy => hx ▸ p3 y hy x (List.mem_cons_self ..)) (fun y hy => by
    rcases List.mem_cons.1 hy with rfl | hy
    · rw [hx]; exact Lt.irrefl _
    · exact (hx ▸ (List.pairwise_cons.1 p2).1 y hy : Lt key y.f0).asymm)
  exact ⟨ha, (isE_iff _ _).2 ⟨x, R, by rw [ha, List.drop_left], hx⟩⟩
theorem not_at {L R : List S47} {key : ByteArray} (h : Rise (L ++ R)) (h1 : ∀ y ∈ L, Lt y.f0 key) (h2 : ∀ y ∈ R, Lt key y.f0) : atE (L ++ R) key = L.length ∧ isE (L ++ R) key = false := by
  have ha := at_of L R key h h1 (fun y hy => (h2 y hy).asymm)
  refine ⟨ha, ?_⟩
  rw [← Bool.not_eq_true, isE_iff]
  rintro ⟨x, r, hd, hx⟩
  rw [ha, List.drop_left] at hd
  exact Lt.irrefl key (by have := h2 x (by rw [hd]; exact List.mem_cons_self ..); rwa [hx] at this)
/-- What a key has. -/
def findE (l : List S47) (key : ByteArray) : ByteArray × Bool := if isE l key then ((rd_T47 l (atE l key : Int)).f1, true) else (⟨#[]⟩, false)
theorem find_tells (l : List S47) (key : ByteArray) (hl : l.length ≤ 1000000000000) : leaf_Find.f l key = some (findE l key) := by
  unfold leaf_Find.f leaf_search.f findE
  rw [if_pos hl]
  simp only [Option.bind_some]
  cases hi : isE l key with
  | true =>
    have := isE_lt l key hi
    rw [if_pos rfl, if_pos (by omega), if_pos (by omega), if_pos rfl]
  | false => rw [if_neg (by decide), if_neg (by decide)]
theorem find_in {L R : List S47} {x : S47} {key : ByteArray} (h : Rise (L ++ x :: R)) (hx : x.f0 = key) : findE (L ++ x :: R) key = (x.f1, true) := by
  obtain ⟨ha, hi⟩ := is_at h hx
  unfold findE
  rw [if_pos hi, ha, rdE7 _ _ (by simp)]
  simp
theorem find_out {L R : List S47} {key : ByteArray} (h : Rise (L ++ R)) (h1 : ∀ y ∈ L, Lt y.f0 key) (h2 : ∀ y ∈ R, Lt key y.f0) : findE (L ++ R) key = (⟨#[]⟩, false) := by
  obtain ⟨ha, hi⟩ := not_at h h1 h2
  unfold findE
  rw [hi]; rfl
/-- What is found, without places. -/
def lookE (l : List S47) (key : ByteArray) : ByteArray × Bool :=
  match l.find? (fun x => x.f0.toList == key.toList) with
  | some x => (x.f1, true)
  | none => (⟨#[]⟩, false)
theorem look_skip (L R : List S47) (key : ByteArray) (h : ∀ y ∈ L, y.f0 ≠ key) : lookE (L ++ R) key = lookE R key := by
  unfold lookE
  rw [List.find?_append, List.find?_eq_none.2 (fun y hy => by simp only [beq_iff_eq]; exact fun e => h y hy (bytes_list_inj e))]; rfl
theorem look_hit (x : S47) (R : List S47) : lookE (x :: R) x.f0 = (x.f1, true) := by unfold lookE; simp
theorem look_miss (x : S47) (R : List S47) (key : ByteArray) (h : x.f0 ≠ key) : lookE (x :: R) key = lookE R key := look_skip [x] R key (fun y hy => by simp at hy; subst hy; exact h)
theorem look_none (R : List S47) (key : ByteArray) (h : ∀ y ∈ R, y.f0 ≠ key) : lookE R key = (⟨#[]⟩, false) := by
  have := look_skip R [] key h
  rw [List.append_nil] at this
  rw [this]; rfl
theorem ne_lt {a b : ByteArray} (h : Lt a b) : a ≠ b := fun e => Lt.irrefl b (e ▸ h)
theorem ne_gt {a b : ByteArray} (h : Lt b a) : a ≠ b := fun e => Lt.irrefl b (e ▸ h)
theorem find_look (l : List S47) (key : ByteArray) (h : Rise l) : findE l key = lookE l key := by
  rcases key_cases l key h with ⟨_, L, x, R, rfl, _, hx, h1, h2⟩ | ⟨_, L, R, rfl, _, h1, h2⟩
  · rw [find_in h hx, look_skip L _ key (fun y hy => ne_lt (h1 y hy)), ← hx, look_hit]
  · rw [find_out h h1 h2, look_skip L _ key (fun y hy => ne_lt (h1 y hy)), look_none R key (fun y hy => ne_gt (h2 y hy))]
/-- Put, told by the shapes. -/
theorem put_spec (l : List S47) (key val : ByteArray) (h : Rise l) :
    Rise (putE l key val) ∧ isE (putE l key val) key = true ∧ findE (putE l key val) key = (val, true) ∧ (∀ other, other ≠ key → findE (putE l key val) other = findE l other) ∧
    (putE l key val).length = l.length + (if isE l key then 0 else 1) ∧ delE (putE l key val) key = delE l key ∧ findE (delE (putE l key val) key) key = (⟨#[]⟩, false) ∧ Rise (delE l key) := by
  rcases key_cases l key h with ⟨hi, L, x, R, rfl, ha, hx, h1, h2⟩ | ⟨hi, L, R, rfl, ha, h1, h2⟩
  · have hp : putE (L ++ x :: R) key val = L ++ ⟨key, val⟩ :: R := by
      unfold putE withVal
      rw [if_pos hi, ha, rdE7 _ _ (by simp)]
      simp [hx]
    have hr0 := rise_out h
    have hr : Rise (L ++ ⟨key, val⟩ :: R) := rise_in hr0 rfl h1 h2
    obtain ⟨ka, ki⟩ := is_at (key := key) hr rfl
    have hd : delE (L ++ ⟨key, val⟩ :: R) key = L ++ R := by unfold delE; rw [if_pos ki, ka]; simp
    have hd0 : delE (L ++ x :: R) key = L ++ R := by unfold delE; rw [if_pos hi, ha]; simp
    rw [hp, hd, hd0, if_pos hi]
    refine ⟨hr, ki, find_in hr rfl, fun other ho => ?_, by simp, rfl, find_out hr0 h1 h2, hr0⟩
    rw [find_look _ _ hr, find_look _ _ h]
    have e1 : ∀ (M : List S47) (T T' : List S47), lookE T other = lookE T' other → lookE (M ++ T) other = lookE (M ++ T') other := by
      intro M T T' hT
      induction M with
      | nil => exact hT
      | cons m M ih =>
        by_cases hm : m.f0 = other
        · rw [← hm, List.cons_append, List.cons_append, look_hit, look_hit]
        · rw [List.cons_append, List.cons_append, look_miss _ _ _ hm, look_miss _ _ _ hm]; exact ih
    exact e1 L _ _ (by rw [look_miss _ _ _ (fun e => ho e.symm), look_miss _ _ _ (fun e => ho (e.symm.trans hx))])
  · have hp : putE (L ++ R) key val = L ++ ⟨key, val⟩ :: R := by
      unfold putE
      rw [hi, if_neg (by decide), ha]; simp
    have hr : Rise (L ++ ⟨key, val⟩ :: R) := rise_in h rfl h1 h2
    obtain ⟨ka, ki⟩ := is_at (key := key) hr rfl
    have hd : delE (L ++ ⟨key, val⟩ :: R) key = L ++ R := by unfold delE; rw [if_pos ki, ka]; simp
    have hd0 : delE (L ++ R) key = L ++ R := by unfold delE; rw [hi, if_neg (by decide)]
    rw [hp, hd, hd0, hi]
    refine ⟨hr, ki, find_in hr rfl, fun other ho => ?_, by simp; omega, rfl, find_out h h1 h2, h⟩
    rw [find_look _ _ hr, find_look _ _ h]
    have e1 : ∀ (M : List S47) (T T' : List S47), lookE T other = lookE T' other → lookE (M ++ T) other = lookE (M ++ T') other := by
      intro M T T' hT
      induction M with
      | nil => exact hT
      | cons m M ih =>
        by_cases hm : m.f0 = other
        · rw [← hm, List.cons_append, List.cons_append, look_hit, look_hit]
        · rw [List.cons_append, List.cons_append, look_miss _ _ _ hm, look_miss _ _ _ hm]; exact ih
    exact e1 L _ _ (look_miss _ _ _ (fun e => ho e.symm))
end Go.Proofs.Ytfbaejhjppikpaa.P
