import Derived.Test.YtfbaejhjppikpaaPx9
import Derived.Test.YtfbaejhjppikpaaPx10
import Derived.Test.YtfbaejhjppikpaaPx11
import Derived.Test.YtfbaejhjppikpaaUMay
/- The plain law of leaf.sizes, leaf.Size, leaf.Fits. -/
namespace Go.Proofs.Ytfbaejhjppikpaa.P
open Go.RowKit Go.Proofs.YtfbaejhjppikpaaW.PrintWords Go.Proofs.YtfbaejhjppikpaaW.PrintLast Go.Proofs.YtfbaejhjppikpaaW.PrintMore

def sizeE (e : S47) : Int := 2 + e.f0.size + e.f1.size
def sizeB (e : S36) : Int := 3 + e.f0.size
def sizesN (l : List S47) (m : List S36) : List Int := l.map sizeE ++ m.map sizeB
def sizeN (l : List S47) (m : List S36) : Int := 1 + (sizesN l m).sum
/-- Nothing is great. -/
structure Small (l : List S47) (m : List S36) : Prop where
  l_len : l.length ≤ 1000
  m_len : m.length ≤ 1000
  l_all : ∀ x ∈ l, x.f0.size ≤ 1000 ∧ x.f1.size ≤ 1000
  m_all : ∀ x ∈ m, x.f0.size ≤ 1000

theorem rdE (l : List S47) (i : Nat) (h : i < l.length) : rd_T47 l (i : Int) = l[i] := by unfold rd_T47; simp [List.getD_eq_getElem?_getD, h]
theorem rdB (l : List S36) (i : Nat) (h : i < l.length) : rd_T36 l (i : Int) = l[i] := by unfold rd_T36; simp [List.getD_eq_getElem?_getD, h]
theorem rd_at (l : List Int) (i : Nat) (h : i < l.length) : rd l (i : Int) = l[i] := by unfold rd; simp [List.getD_eq_getElem?_getD, h]

theorem sizes_l1 (m : List S36) (hm : m.length ≤ 1000) (hs : ∀ x ∈ m, x.f0.size ≤ 1000) : ∀ (d i k : Nat) (out : List Int), i + d = m.length → out.length ≤ 1000 + i → leaf_sizes.l1 (d + (k + 1)) out m (m.length : Int) (i : Int) = some (out ++ (m.drop i).map sizeB) := by
  intro d
  induction d with
  | zero =>
    intro i k out h ho
    rw [show 0 + (k + 1) = k + 1 from by omega]
    simp only [leaf_sizes.l1]
    rw [if_neg (by omega), List.drop_eq_nil_of_le (by omega)]; simp
  | succ d ih =>
    intro i k out h ho
    obtain ⟨q, hq⟩ : ∃ q, q = d + (k + 1) := ⟨_, rfl⟩
    rw [show d + 1 + (k + 1) = q + 1 from by omega]
    simp only [leaf_sizes.l1]
    have hi : i < m.length := by omega
    have h1 := hs m[i] (List.getElem_mem hi)
    rw [if_pos (by omega), if_pos (by omega), if_pos (by omega), if_pos (by omega), wrap_nat i (by omega), hq, ih (i + 1) k _ (by omega) (by simp; omega), rdB m i hi, List.drop_eq_getElem_cons hi, show wrap64 (3 + (m[i].f0.size : Int)) = sizeB m[i] from by unfold wrap64 sizeB; omega, List.map_cons, List.append_assoc, List.singleton_append]
theorem sizes_l0 (a : Bool) (l : List S47) (m : List S36) (hl : l.length ≤ 1000) (hs : ∀ x ∈ l, x.f0.size ≤ 1000 ∧ x.f1.size ≤ 1000) : ∀ (d i k : Nat) (out : List Int), i + d = l.length → out.length ≤ i → leaf_sizes.l0 (d + (k + 1)) out l (l.length : Int) (i : Int) a l m = leaf_sizes.l1 k (out ++ (l.drop i).map sizeE) m (m.length : Int) 0 := by
  intro d
  induction d with
  | zero =>
    intro i k out h ho
    rw [show 0 + (k + 1) = k + 1 from by omega]
    simp only [leaf_sizes.l0]
    rw [if_neg (by omega), List.drop_eq_nil_of_le (by omega)]; simp
  | succ d ih =>
    intro i k out h ho
    obtain ⟨q, hq⟩ : ∃ q, q = d + (k + 1) := ⟨_, rfl⟩
    rw [show d + 1 + (k + 1) = q + 1 from by omega]
    simp only [leaf_sizes.l0]
    have hi : i < l.length := by omega
    have h1 := hs l[i] (List.getElem_mem hi)
    rw [if_pos (by omega), if_pos (by omega), if_pos (by omega), if_pos (by omega), wrap_nat i (by omega), hq, ih (i + 1) k _ (by omega) (by simp; omega), rdE l i hi, List.drop_eq_getElem_cons hi, show wrap64 (wrap64 (2 + (l[i].f0.size : Int)) + (l[i].f1.size : Int)) = sizeE l[i] from by unfold wrap64 sizeE; omega, List.map_cons, List.append_assoc, List.singleton_append]
theorem sizes_tells (a : Bool) (l : List S47) (m : List S36) (h : Small l m) : ∀ k, l.length + m.length + 2 ≤ k → leaf_sizes.f k a l m = some (sizesN l m) := by
  intro k hk
  unfold leaf_sizes.f sizesN
  obtain ⟨q, hq⟩ : ∃ q, k = l.length + ((m.length + (q + 1)) + 1) := ⟨k - l.length - m.length - 2, by omega⟩
  rw [hq]
  have h0 := sizes_l0 a l m h.l_len h.l_all l.length 0 (m.length + (q + 1)) [] (by omega) (by simp)
  have h1 := sizes_l1 m h.m_len h.m_all m.length 0 q (l.map sizeE) (by omega) (by simp; have := h.l_len; omega)
  simp only [Int.natCast_zero, List.drop_zero, List.nil_append] at h0 h1
  rw [h0, h1]

theorem size_l0 (xs : List Int) (hx : ∀ x ∈ xs, 0 ≤ x ∧ x ≤ 1000000) (hn : xs.length ≤ 1000000) : ∀ (d i k : Nat) (acc : Int), i + d = xs.length → 0 ≤ acc → acc ≤ 1 + 1000000 * i → leaf_Size.l0 (d + (k + 1)) acc xs (xs.length : Int) (i : Int) = some (acc + (xs.drop i).sum) := by
  intro d
  induction d with
  | zero =>
    intro i k acc h h0 h1
    rw [show 0 + (k + 1) = k + 1 from by omega]
    simp only [leaf_Size.l0]
    rw [if_neg (by omega), List.drop_eq_nil_of_le (by omega)]; simp
  | succ d ih =>
    intro i k acc h h0 h1
    obtain ⟨q, hq⟩ : ∃ q, q = d + (k + 1) := ⟨_, rfl⟩
    rw [show d + 1 + (k + 1) = q + 1 from by omega]
    simp only [leaf_Size.l0]
    have hi : i < xs.length := by omega
    have h2 := hx xs[i] (List.getElem_mem hi)
    rw [if_pos (by omega), if_pos (by omega), if_pos (by omega), wrap_nat i (by omega), rd_at xs i hi, show wrap64 (acc + xs[i]) = acc + xs[i] from by unfold wrap64; omega, hq, ih (i + 1) k _ (by omega) (by omega) (by push_cast; omega), List.drop_eq_getElem_cons hi, List.sum_cons]
    congr 1; omega
theorem sizesN_all (l : List S47) (m : List S36) (h : Small l m) : ∀ x ∈ sizesN l m, 2 ≤ x ∧ x ≤ 1000000 := by
  intro x hx
  unfold sizesN at hx
  rcases List.mem_append.1 hx with hx | hx
  · obtain ⟨e, he, rfl⟩ := List.mem_map.1 hx
    have := h.l_all e he
    unfold sizeE; omega
  · obtain ⟨e, he, rfl⟩ := List.mem_map.1 hx
    have := h.m_all e he
    unfold sizeB; omega
theorem size_tells (a : Bool) (l : List S47) (m : List S36) (h : Small l m) : ∀ k, l.length + m.length + 2 ≤ k → leaf_Size.f k a l m = some (sizeN l m) := by
  intro k hk
  unfold leaf_Size.f
  rw [sizes_tells a l m h k hk]
  simp only [Option.bind_some]
  have hl : (sizesN l m).length = l.length + m.length := by simp [sizesN]
  obtain ⟨q, hq⟩ : ∃ q, k = (sizesN l m).length + (q + 1) := ⟨k - l.length - m.length - 1, by omega⟩
  rw [hq]
  have h1 := h.l_len
  have h2 := h.m_len
  have := size_l0 (sizesN l m) (fun x hx => by have := sizesN_all l m h x hx; omega) (by omega) (sizesN l m).length 0 q 1 (by omega) (by omega) (by omega)
  simpa [sizeN] using this
theorem fits_tells (a : Bool) (l : List S47) (m : List S36) (h : Small l m) : ∀ k, l.length + m.length + 2 ≤ k → leaf_Fits.f k a l m = some (decide (sizeN l m ≤ 254)) := by
  intro k hk
  unfold leaf_Fits.f
  rw [size_tells a l m h k hk]
  simp
end Go.Proofs.Ytfbaejhjppikpaa.P
