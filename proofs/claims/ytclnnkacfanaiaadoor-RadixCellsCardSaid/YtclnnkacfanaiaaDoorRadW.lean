/- Plain laws: what two neighbours share is all that any two keys share. -/
import Derived.Test.YtclnnkacfanaiaaDoorRadX
import Derived.Test.YtclnnkacfanaiaaDoorRefX
namespace Go.Proofs.YtclnnkacfanaiaaDoor
set_option linter.unusedVariables false
set_option linter.unusedSimpArgs false
open MaskA MaskP KidA KidB RadK RadS
namespace RadW
theorem comK_mid : ∀ {l k b : List Int}, cmpK l k < 0 → cmpK k b < 0 → comK l b = min (comK l k) (comK k b)
  | [], k, b, _, _ => by cases k <;> cases b <;> simp [comK]
  | x :: l, [], b, h, _ => by simp [cmpK] at h
  | x :: l, y :: k, [], _, h => by simp [cmpK] at h
  | x :: l, y :: k, z :: b, h1, h2 => by
    unfold cmpK at h1 h2
    unfold comK
    by_cases e1 : x = y
    · subst e1
      rw [if_neg (by omega), if_neg (by omega)] at h1
      by_cases e2 : x = z
      · subst e2
        rw [if_neg (by omega), if_neg (by omega)] at h2
        rw [if_pos rfl, if_pos rfl, if_pos rfl, comK_mid h1 h2]; omega
      · rw [if_neg e2, if_pos rfl, if_neg e2]; omega
    · by_cases e2 : y = z
      · subst e2
        rw [if_neg e1, if_neg e1, if_pos rfl]; omega
      · have : x ≠ z := by
          intro e; subst e
          by_cases c1 : x < y
          · rw [if_neg (by omega), if_pos (by omega)] at h2; omega
          · rw [if_neg c1, if_pos (by omega)] at h1; omega
        rw [if_neg this, if_neg e1, if_neg e2]; omega
def keyAt (M : Prs) (i : Nat) : List Int := (M.getD i ([], 0)).1
theorem keyAt_of {M : Prs} {i : Nat} {p} (h : M[i]? = some p) : keyAt M i = p.1 := by unfold keyAt; rw [List.getD_eq_getElem?_getD, h]; rfl
/-- what the key at a place shares with the one ahead of it -/
def sideK (M : Prs) (k : Nat) : List Int := (keyAt M k).take (comK (keyAt M (k - 1)) (keyAt M k))
/-- all of these, up to a place -/
def adjK (M : Prs) : Nat → Prs
  | 0 => []
  | n + 1 => if n = 0 then [] else putK (adjK M n) (sideK M n) 1
theorem adj_rises (M : Prs) : ∀ n, Rises (adjK M n)
  | 0 => List.Pairwise.nil
  | n + 1 => by unfold adjK; split; exact List.Pairwise.nil; exact putK_rises (adj_rises M n) _ _
theorem adj_length (M : Prs) : ∀ n, (adjK M n).length ≤ n
  | 0 => Nat.le_refl _
  | n + 1 => by
    unfold adjK
    split
    · simp
    · have := putK_length_le (adjK M n) (sideK M n) 1; have := adj_length M n; omega
theorem adj_mem (M : Prs) {p : List Int × Int} : ∀ n, p ∈ adjK M n ↔ ∃ k, 1 ≤ k ∧ k < n ∧ p = (sideK M k, 1)
  | 0 => by simp [adjK]
  | n + 1 => by
    unfold adjK
    split
    · subst_vars
      simp
      intro k h1 h2; omega
    · rename_i h0
      rw [mem_put (adj_rises M n), adj_mem M n]
      constructor
      · rintro (rfl | ⟨⟨k, h1, h2, rfl⟩, _⟩)
        · exact ⟨n, by omega, by omega, rfl⟩
        · exact ⟨k, h1, by omega, rfl⟩
      · rintro ⟨k, h1, h2, rfl⟩
        by_cases e : sideK M k = sideK M n
        · rw [e]; exact Or.inl rfl
        · have hk : k ≠ n := fun h => e (by rw [h])
          exact Or.inr ⟨⟨k, h1, by omega, rfl⟩, e⟩
theorem lt_at {M : Prs} (hr : Rises M) {i j : Nat} (hij : i < j) (hj : j < M.length) : cmpK (keyAt M i) (keyAt M j) < 0 := by
  rw [keyAt_of (List.getElem?_eq_getElem (show i < M.length by omega)), keyAt_of (List.getElem?_eq_getElem hj)]
  exact hr.get (List.getElem?_eq_getElem (by omega)) (List.getElem?_eq_getElem hj) hij
/-- of two keys there are neighbours between them that share just as much -/
theorem near {M : Prs} (hr : Rises M) (i : Nat) : ∀ d, i + d + 1 < M.length → ∃ k, i < k ∧ k ≤ i + d + 1 ∧ comK (keyAt M (k - 1)) (keyAt M k) = comK (keyAt M i) (keyAt M (i + d + 1)) ∧ comK (keyAt M i) (keyAt M (i + d + 1)) ≤ comK (keyAt M i) (keyAt M k)
  | 0, h => ⟨i + 1, by omega, by omega, rfl, Nat.le_refl _⟩
  | d + 1, h => by
    have e := comK_mid (lt_at hr (show i < i + d + 1 by omega) (by omega)) (lt_at hr (show i + d + 1 < i + (d + 1) + 1 by omega) h)
    by_cases hc : comK (keyAt M (i + d + 1)) (keyAt M (i + (d + 1) + 1)) ≤ comK (keyAt M i) (keyAt M (i + d + 1))
    · exact ⟨i + (d + 1) + 1, by omega, Nat.le_refl _, by rw [e, Nat.min_eq_right hc]; rfl, Nat.le_refl _⟩
    · obtain ⟨k, h1, h2, h3, h4⟩ := near hr i d (by omega)
      exact ⟨k, h1, by omega, by rw [h3, e]; omega, by rw [e]; omega⟩
theorem take_le {a b : List Int} {c : Nat} (h : c ≤ comK a b) : a.take c = b.take c := by
  have := congrArg (List.take c) (take_comK a b)
  rwa [List.take_take, List.take_take, Nat.min_eq_left h] at this
theorem adj_nodes {M : Prs} (hr : Rises M) : adjK M M.length = nodesK M := by
  have key : ∀ {i j : Nat}, i < j → j < M.length → ∃ k, 1 ≤ k ∧ k < M.length ∧ (keyAt M i).take (comK (keyAt M i) (keyAt M j)) = sideK M k := by
    intro i j hij hj
    obtain ⟨k, h1, h2, h3, h4⟩ := near hr i (j - i - 1) (by omega)
    rw [show i + (j - i - 1) + 1 = j by omega] at h2 h3 h4
    exact ⟨k, by omega, by omega, by unfold sideK; rw [h3]; exact take_le h4⟩
  refine rises_ext (adj_rises M _) (mkK_rises _) fun p => ?_
  unfold nodesK
  rw [mem_mk_one (fun p hp => shared_one hp), adj_mem]
  constructor
  · rintro ⟨k, h1, h2, rfl⟩
    have e1 : M[k - 1]? = some M[k - 1] := List.getElem?_eq_getElem (by omega)
    have e2 : M[k]? = some M[k] := List.getElem?_eq_getElem h2
    have hlt := lt_at hr (show k - 1 < k by omega) h2
    unfold sideK
    rw [keyAt_of e1, keyAt_of e2] at *
    exact shared_mem.2 ⟨M[k], List.getElem_mem h2, M[k - 1], List.getElem_mem (by omega), fun h => by rw [h, cmpK_self] at hlt; omega, by rw [comK_comm]⟩
  · intro hp
    have h1 := shared_one hp
    obtain ⟨x, y⟩ := p
    simp only at h1
    subst h1
    obtain ⟨a, ha, b, hb, hne, rfl⟩ := shared_mem.1 hp
    obtain ⟨i, hi⟩ := List.mem_iff_getElem?.1 ha
    obtain ⟨j, hj⟩ := List.mem_iff_getElem?.1 hb
    have hil := (List.getElem?_eq_some_iff.1 hi).1
    have hjl := (List.getElem?_eq_some_iff.1 hj).1
    rcases Nat.lt_trichotomy i j with h | h | h
    · obtain ⟨k, h1, h2, h3⟩ := key h hjl
      rw [keyAt_of hi, keyAt_of hj] at h3
      exact ⟨k, h1, h2, by rw [h3]⟩
    · subst h; rw [hi] at hj; cases hj; exact absurd rfl hne
    · obtain ⟨k, h1, h2, h3⟩ := key h hil
      rw [keyAt_of hi, keyAt_of hj] at h3
      refine ⟨k, h1, h2, ?_⟩
      rw [← h3, comK_comm b.1 a.1, take_le (Nat.le_refl (comK a.1 b.1))]
/-- keys that are none of these -/
def loneK (M : Prs) (N : Prs) (n : Nat) : Nat := ((M.take n).filter fun p => !hasK N p.1).length
theorem lone_succ {M N : Prs} {n : Nat} {p} (h : M[n]? = some p) : loneK M N (n + 1) = loneK M N n + if hasK N p.1 then 0 else 1 := by
  unfold loneK
  rw [List.take_add_one, h, List.filter_append, List.length_append]
  cases hh : hasK N p.1 <;> simp [hh]
theorem sz_adj {M : Prs} (hr : Rises M) (hk : ∀ p ∈ M, KB p.1) : szK M = (adjK M M.length).length + loneK M (adjK M M.length) M.length := by
  unfold szK loneK
  rw [if_pos (okP_iff.2 ⟨hr, hk⟩), adj_nodes hr, List.take_length]; rfl
end RadW
end Go.Proofs.YtclnnkacfanaiaaDoor
