import Derived.Test.YthonmfcollafkaaPx0
/- What goes when an item is taken away: the plain law, with no program in sight. -/
namespace Go.Proofs.Ythonmfcollafkaa.P
open Classical
set_option linter.unusedSimpArgs false
set_option linter.unusedVariables false

/-- x is a kid of y: an item of that ID whose Up is y. -/
def kidOf (its : List S43) (y x : Int) : Prop := ∃ it ∈ its, it.f1 = y ∧ it.f0 = x ∧ x ≠ y
/-- x is below a. -/
inductive Desc (its : List S43) (a : Int) : Int → Prop
  | kid {x : Int} : kidOf its a x → Desc its a x
  | step {y x : Int} : Desc its a y → kidOf its y x → Desc its a x
def There (its : List S43) (a : Int) : Prop := ∃ it ∈ its, it.f0 = a
/-- What goes with a: nothing, if a is none. -/
def Gone (its : List S43) (a x : Int) : Prop := There its a ∧ (x = a ∨ Desc its a x)

structure Stt where
  clk : Int
  nxt : Int
  defs : List S34
  items : List S43
  cells : List S129
  wats : List S132
noncomputable def cut (s : Stt) (p q : Int → Prop) : Stt :=
  { s with items := s.items.filter (fun x => !decide (p x.f0)), cells := s.cells.filter (fun x => !decide (p x.f0)), wats := s.wats.filter (fun x => !decide (q x.f1)) }
theorem cut_cut (s : Stt) (p q p' q' : Int → Prop) : cut (cut s p q) p' q' = cut s (fun x => p x ∨ p' x) (fun x => q x ∨ q' x) := by
  unfold cut
  simp only [List.filter_filter, Stt.mk.injEq, true_and]
  refine ⟨?_, ?_, ?_⟩ <;> (apply List.filter_congr; intro x _; simp [not_or, Bool.and_comm])
theorem cut_congr (s : Stt) (p q p' q' : Int → Prop) (h : ∀ x, p x ↔ p' x) (h' : ∀ x, q x ↔ q' x) : cut s p q = cut s p' q' := by
  have e : p = p' := funext fun x => propext (h x)
  have e' : q = q' := funext fun x => propext (h' x)
  rw [e, e']
theorem cut_none (s : Stt) (p q : Int → Prop) (h : ∀ x, ¬ p x) (h' : ∀ x, ¬ q x) : cut s p q = s := by
  unfold cut
  have e1 : ∀ l : List S43, l.filter (fun x => !decide (p x.f0)) = l := fun l => List.filter_eq_self.2 (fun x _ => by simp [h])
  have e2 : ∀ l : List S129, l.filter (fun x => !decide (p x.f0)) = l := fun l => List.filter_eq_self.2 (fun x _ => by simp [h])
  have e3 : ∀ l : List S132, l.filter (fun x => !decide (q x.f1)) = l := fun l => List.filter_eq_self.2 (fun x _ => by simp [h'])
  rw [e1, e2, e3]
noncomputable def takeS (s : Stt) (a : Int) : Stt := cut s (Gone s.items a) (Gone s.items a)

theorem Gone.refl {its : List S43} {a : Int} (h : There its a) : Gone its a a := ⟨h, .inl rfl⟩
theorem Gone.kid {its : List S43} {a y x : Int} (h : Gone its a y) (k : kidOf its y x) : Gone its a x := by
  obtain ⟨ht, rfl | hd⟩ := h
  · exact ⟨ht, .inr (.kid k)⟩
  · exact ⟨ht, .inr (.step hd k)⟩
theorem Gone.desc {its : List S43} {a y x : Int} (h : Gone its a y) (k : Desc its y x) : Gone its a x := by
  induction k with
  | kid k => exact h.kid k
  | step _ k ih => exact ih.kid k
theorem kidOf.mono {its its' : List S43} (h : ∀ x ∈ its, x ∈ its') {y x : Int} (k : kidOf its y x) : kidOf its' y x := by
  obtain ⟨it, hm, r⟩ := k
  exact ⟨it, h it hm, r⟩
theorem Desc.mono {its its' : List S43} (h : ∀ x ∈ its, x ∈ its') {a x : Int} (k : Desc its a x) : Desc its' a x := by
  induction k with
  | kid k => exact .kid (k.mono h)
  | step _ k ih => exact .step ih (k.mono h)
theorem There.mono {its its' : List S43} (h : ∀ x ∈ its, x ∈ its') {a : Int} (k : There its a) : There its' a := by
  obtain ⟨it, hm, r⟩ := k
  exact ⟨it, h it hm, r⟩
theorem Gone.mono {its its' : List S43} (h : ∀ x ∈ its, x ∈ its') {a x : Int} (k : Gone its a x) : Gone its' a x := ⟨k.1.mono h, k.2.imp id (fun d => d.mono h)⟩
theorem mem_left {its : List S43} {p : Int → Prop} {it : S43} : it ∈ its.filter (fun x => !decide (p x.f0)) ↔ it ∈ its ∧ ¬ p it.f0 := by simp
/-- What is not gone with a stays below b when a has been taken away. -/
theorem desc_left {its : List S43} {a b x : Int} (k : Desc its b x) : ¬ Gone its a x → Desc (its.filter (fun x => !decide (Gone its a x.f0))) b x := by
  induction k with
  | kid k =>
    intro hn
    obtain ⟨it, hm, h1, h2, h3⟩ := k
    exact .kid ⟨it, mem_left.2 ⟨hm, by rw [h2]; exact hn⟩, h1, h2, h3⟩
  | step _ k ih =>
    intro hn
    have hy := ih (fun h => hn (h.kid k))
    obtain ⟨it, hm, h1, h2, h3⟩ := k
    exact .step hy ⟨it, mem_left.2 ⟨hm, by rw [h2]; exact hn⟩, h1, h2, h3⟩
theorem gone_two (its : List S43) (a b x : Int) : (Gone its a x ∨ Gone (its.filter (fun x => !decide (Gone its a x.f0))) b x) ↔ (Gone its a x ∨ Gone its b x) := by
  constructor
  · rintro (h | h)
    · exact .inl h
    · exact .inr (h.mono (fun x hx => (mem_left.1 hx).1))
  · rintro (h | h)
    · exact .inl h
    · by_cases ha : Gone its a x
      · exact .inl ha
      · refine .inr ⟨?_, ?_⟩
        · obtain ⟨it, hm, hi⟩ := h.1
          refine ⟨it, mem_left.2 ⟨hm, fun hg => ha ?_⟩, hi⟩
          rw [hi] at hg
          rcases h.2 with rfl | hd
          · exact hg
          · exact hg.desc hd
        · exact h.2.imp id (fun hd => desc_left hd ha)
theorem take_comm (s : Stt) (a b : Int) : takeS (takeS s a) b = takeS (takeS s b) a := by
  unfold takeS
  rw [cut_cut, cut_cut]
  have h : ∀ x, (Gone s.items a x ∨ Gone (cut s (Gone s.items a) (Gone s.items a)).items b x) ↔ (Gone s.items b x ∨ Gone (cut s (Gone s.items b) (Gone s.items b)).items a x) := by
    intro x
    show (Gone s.items a x ∨ Gone (s.items.filter (fun x => !decide (Gone s.items a x.f0))) b x) ↔ (Gone s.items b x ∨ Gone (s.items.filter (fun x => !decide (Gone s.items b x.f0))) a x)
    rw [gone_two, gone_two, or_comm]
  exact cut_congr _ _ _ _ _ h h
theorem gone_once (its : List S43) (a x : Int) : ¬ Gone (its.filter (fun x => !decide (Gone its a x.f0))) a x := by
  rintro ⟨⟨it, hm, hi⟩, _⟩
  obtain ⟨hm, hn⟩ := mem_left.1 hm
  exact hn (by rw [hi]; exact .refl ⟨it, hm, hi⟩)
theorem take_once (s : Stt) (a : Int) : takeS (takeS s a) a = takeS s a := by
  have h := gone_once s.items a
  exact cut_none _ _ _ h h
theorem take_not (s : Stt) (a : Int) (h : ¬ There s.items a) : takeS s a = s := cut_none _ _ _ (fun _ k => h k.1) (fun _ k => h k.1)
/-- Clear: what is below goes. -/
def Below' (its : List S43) (a x : Int) : Prop := There its a ∧ Desc its a x ∧ x ≠ a
noncomputable def clearS (s : Stt) (a : Int) : Stt := cut s (Below' s.items a) (Below' s.items a)
noncomputable def breakS (s : Stt) (a : Int) : Stt := if There s.items a then cut (clearS s a) (fun _ => False) (fun x => x = a) else s
/-- A row that is closed under kids and has a, all of which go: it is what goes. -/
theorem gone_of (its : List S43) (a : Int) (l : List Int) (ht : There its a) (h0 : a ∈ l) (hc : ∀ it ∈ its, it.f1 ∈ l → it.f0 ∈ l) (hs : ∀ x ∈ l, x = a ∨ Desc its a x) (x : Int) : Gone its a x ↔ x ∈ l := by
  constructor
  · rintro ⟨_, rfl | hd⟩
    · exact h0
    · induction hd with
      | kid k =>
        obtain ⟨it, hm, h1, h2, _⟩ := k
        rw [← h2]
        exact hc it hm (by rw [h1]; exact h0)
      | step _ k ih =>
        obtain ⟨it, hm, h1, h2, _⟩ := k
        rw [← h2]
        exact hc it hm (by rw [h1]; exact ih)
  · intro hx
    exact ⟨ht, hs x hx⟩
theorem len_of_sub : ∀ (l m : List Int), l.Nodup → (∀ x ∈ l, x ∈ m) → l.length ≤ m.length
  | [], _, _, _ => Nat.zero_le _
  | x :: l, m, hn, hs => by
    have hx : x ∈ m := hs x List.mem_cons_self
    have h1 := len_of_sub l (m.erase x) (List.nodup_cons.1 hn).2 (fun y hy => (List.mem_erase_of_ne (fun e => (List.nodup_cons.1 hn).1 (by rw [← e]; exact hy))).2 (hs y (List.mem_cons_of_mem _ hy)))
    have h2 := List.length_erase_of_mem hx
    have h3 : 0 < m.length := List.length_pos_of_mem hx
    rw [List.length_cons]
    omega
/-- While what is below is looked for. -/
structure BInv (its : List S43) (id : Int) (done work out : List Int) : Prop where
  row : id :: out = done ++ work
  nodup : (id :: out).Nodup
  desc : ∀ x ∈ out, Desc its id x
  closed : ∀ y ∈ done, ∀ x, kidOf its y x → x ∈ id :: out
theorem BInv.start (its : List S43) (id : Int) : BInv its id [] [id] [] := ⟨rfl, by simp, (fun _ h => absurd h List.not_mem_nil), (fun _ h => absurd h List.not_mem_nil)⟩
theorem BInv.push {its : List S43} {id y k : Int} {done work out : List Int} (h : BInv its id done (y :: work) out) (hk : kidOf its y k) (hn : k ∉ id :: out) : BInv its id done (y :: (work ++ [k])) (out ++ [k]) := by
  refine ⟨?_, ?_, ?_, ?_⟩
  · rw [← List.cons_append, h.row]; simp
  · rw [← List.cons_append]
    exact List.nodup_append.2 ⟨h.nodup, by simp, fun a ha b hb e => hn (by rw [List.mem_singleton.1 hb] at e; exact e ▸ ha)⟩
  · intro x hx
    rcases List.mem_append.1 hx with hx | hx
    · exact h.desc x hx
    · obtain rfl := List.mem_singleton.1 hx
      have hy : y ∈ id :: out := by rw [h.row]; simp
      rcases List.mem_cons.1 hy with rfl | hy
      · exact .kid hk
      · exact .step (h.desc y hy) hk
  · intro y' hy' x hx
    have := h.closed y' hy' x hx
    rw [← List.cons_append]
    exact List.mem_append_left _ this
theorem BInv.pop {its : List S43} {id y : Int} {done work out : List Int} (h : BInv its id done (y :: work) out) (hk : ∀ x, kidOf its y x → x ∈ id :: out) : BInv its id (done ++ [y]) work out := by
  refine ⟨by rw [h.row]; simp, h.nodup, h.desc, fun y' hy' => ?_⟩
  rcases List.mem_append.1 hy' with hy' | hy'
  · exact h.closed y' hy'
  · obtain rfl := List.mem_singleton.1 hy'
    exact hk
theorem BInv.done {its : List S43} {id : Int} {done out : List Int} (h : BInv its id done [] out) (x : Int) : x ∈ out ↔ Desc its id x ∧ x ≠ id := by
  constructor
  · intro hx
    exact ⟨h.desc x hx, fun e => (List.nodup_cons.1 h.nodup).1 (e ▸ hx)⟩
  · rintro ⟨hd, hne⟩
    have hc : ∀ y ∈ id :: out, ∀ x, kidOf its y x → x ∈ id :: out := by
      intro y hy
      rw [h.row, List.append_nil] at hy
      exact h.closed y hy
    have : x ∈ id :: out := by
      induction hd with
      | kid k => exact hc id List.mem_cons_self _ k
      | @step y x hy k ih =>
        by_cases e : y = id
        · subst e; exact hc _ List.mem_cons_self _ k
        · exact hc y (ih e) _ k
    exact (List.mem_cons.1 this).resolve_left hne
theorem BInv.len {its : List S43} {id : Int} {done work out : List Int} (h : BInv its id done work out) : out.length ≤ its.length := by
  rw [← List.length_map (fun x : S43 => x.f0)]
  refine len_of_sub _ _ (List.nodup_cons.1 h.nodup).2 (fun x hx => ?_)
  have hd := h.desc x hx
  cases hd with
  | kid k => obtain ⟨it, hm, _, h2, _⟩ := k; exact List.mem_map.2 ⟨it, hm, h2⟩
  | step _ k => obtain ⟨it, hm, _, h2, _⟩ := k; exact List.mem_map.2 ⟨it, hm, h2⟩
end Go.Proofs.Ythonmfcollafkaa.P
