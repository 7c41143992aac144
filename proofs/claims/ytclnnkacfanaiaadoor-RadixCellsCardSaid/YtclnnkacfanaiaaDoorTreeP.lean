/- Plain laws for the laws on trees. -/
import Derived.Test.YtclnnkacfanaiaaDoorModX
import Derived.Test.YtclnnkacfanaiaaDoorTreeW
namespace Go.Proofs.YtclnnkacfanaiaaDoor
open Go.RowKit
set_option linter.unusedVariables false
set_option linter.unusedSimpArgs false
namespace TreeP
open ModA ModB ModF ModI ModP ModR ModS ModT
theorem sz_bound (ps : Prs) (L : Nat) (h : ∀ p ∈ ps, p.1.length ≤ L) : szK ps ≤ ps.length * (L + 2) := by
  have h1 := Nat.mul_add ps.length L 2
  have h2 := RadS.sz_bound2 ps
  omega
theorem sz_mk {ps : Prs} {n L m : Nat} (hn : ps.length ≤ n) (h : ∀ p ∈ ps, p.1.length ≤ L) (hm : n * (L + 2) ≤ m) (j : Nat) : (szK (mkK (ps.take j)) : Int) ≤ (m : Int) := by
  have h1 := sz_bound (mkK (ps.take j)) L (fun p hp => h p (List.mem_of_mem_take (mkK_mem hp)))
  have h2 : (mkK (ps.take j)).length ≤ n := Nat.le_trans (mkK_length _) (by simp; omega)
  have h3 := Nat.mul_le_mul_right (L + 2) h2
  omega
theorem begins_spec {M : Prs} (hr : Rises M) (k : List Int) : (longestK M k = none ∧ ∀ n, n ≤ k.length → hasK M (k.take n) = false) ∨
    ∃ (m : Nat) (v : Int), m ≤ k.length ∧ longestK M k = some (k.take m, v) ∧ ∀ n, m < n → n ≤ k.length → hasK M (k.take n) = false := by
  have hl := longest_law hr k
  have hn := lastI_lt M k (k.length + 1)
  have ha := lastI_above M k (k.length + 1)
  split at hl
  · refine Or.inr ⟨(lastI M k (k.length + 1)).toNat, _, by omega, hl, fun n h1 h2 => ha n (by omega) (by omega)⟩
  · exact Or.inl ⟨hl, fun n h2 => ha n (by omega) (by omega)⟩
theorem longest_self {M : Prs} (hr : Rises M) {k : List Int} (h : hasK M k = true) : longestK M k = some (k, valK M k) := by
  have hl := longest_law hr k
  have he : lastI M k (k.length + 1) = (k.length : Int) := by rw [lastI, List.take_length, if_pos h]
  rw [he, if_pos (by omega)] at hl
  simpa using hl
theorem mk_has_take : ∀ (ps : Prs) (j i : Nat) (p : List Int × Int), ps[i]? = some p → i < j → hasK (mkK (ps.take j)) p.1 = true
  | ps, 0, i, p, h, hj => by omega
  | ps, j + 1, i, p, h, hj => by
    rcases Nat.lt_or_ge j ps.length with hl | hl
    · rw [mkK_take ps j _ (List.getElem?_eq_getElem hl), has_put (mkK_rises _)]
      rcases Nat.eq_or_lt_of_le (Nat.le_of_lt_succ hj) with he | hlt
      · subst he
        rw [List.getElem?_eq_getElem hl] at h
        cases h
        simp
      · rw [mk_has_take ps j i p h hlt]; simp
    · have hi := (List.getElem?_eq_some_iff.1 h).1
      have := mk_has_take ps j i p h (by omega)
      rw [List.take_of_length_le (by omega)] at this ⊢
      exact this
theorem mk_has {ps : Prs} {i : Nat} {p : List Int × Int} (h : ps[i]? = some p) : hasK (mkK ps) p.1 = true := by
  have := mk_has_take ps ps.length i p h (List.getElem?_eq_some_iff.1 h).1
  rwa [List.take_length] at this
theorem floor_next {M : Prs} (hr : Rises M) (hk : ∀ p ∈ M, KB p.1) {i : Nat} {p : List Int × Int} (h : M[i]? = some p) : ∃ q, q ∈ M ++ [(p.1 ++ [0], 0)] ∧ (q.1.length ≤ p.1.length + 1) ∧ KB q.1 ∧ floorK M (p.1 ++ [0]) = some (q.1, q.2) ∧ ltK q.1 p.1 = false := by
  have hn := rk_next hr hk h
  have hkp := hk _ (List.mem_of_getElem? h)
  unfold floorK
  cases hh : hasK M (p.1 ++ [0]) with
  | true =>
    obtain ⟨x, hx, hv⟩ := hasK_some hh
    refine ⟨(p.1 ++ [0], x), ?_, by simp, ?_, ?_, ?_⟩
    · exact List.mem_append.2 (Or.inl (List.mem_of_getElem? hx))
    · exact hk _ (List.mem_of_getElem? hx)
    · rw [if_pos rfl]; unfold selK; rw [if_pos (by omega)]; simpa using hx
    · rw [ltK_false]
      intro h1
      have h0 : cmpK p.1 (p.1 ++ [0]) < 0 := cmpK_prefix (List.prefix_append _ _) (by simp)
      have := cmpK_trans h0 h1
      rw [cmpK_self] at this
      omega
  | false =>
    refine ⟨p, List.mem_append.2 (Or.inl (List.mem_of_getElem? h)), by omega, hkp, ?_, ltK_false.2 (by rw [cmpK_self]; omega)⟩
    rw [if_neg (by simp), hn]
    unfold selK
    rw [if_pos (by omega), show (((i + 1 : Nat) : Int) - 1).toNat = i by omega]
    simpa using h
end TreeP
end Go.Proofs.YtclnnkacfanaiaaDoor
