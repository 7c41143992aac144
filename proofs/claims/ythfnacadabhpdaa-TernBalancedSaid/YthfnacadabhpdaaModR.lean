/- Plain laws of rows of pairs: put, drop, made again. -/
import Derived.Test.YthfnacadabhpdaaModP
namespace Go.Proofs.Ythfnacadabhpdaa
set_option linter.unusedVariables false
set_option linter.unusedSimpArgs false
namespace ModR
open ModA ModB ModF ModI ModL ModP

theorem has_iff {M : Prs} (hr : Rises M) (k : List Int) : hasK M k = true ↔ ∃ p ∈ M, p.1 = k :=
  ⟨fun h => ⟨_, of_has h, rfl⟩, fun ⟨p, h1, h2⟩ => h2 ▸ (has_of hr h1).1⟩
theorem put_mem_self (M : Prs) (k : List Int) (x : Int) : (k, x) ∈ putK M k x := by unfold putK; simp
theorem put_mem_other {M : Prs} {k : List Int} {x : Int} {p : List Int × Int} (h : p ∈ M) (hn : p.1 ≠ k) : p ∈ putK M k x := by
  unfold putK
  obtain ⟨i, hi⟩ := List.mem_iff_getElem?.1 h
  rcases Nat.lt_or_ge i (rk M k) with h1 | h1
  · refine List.mem_append.2 (Or.inl (List.mem_of_getElem? (i := i) ?_))
    rw [List.getElem?_take, if_pos h1]; exact hi
  · refine List.mem_append.2 (Or.inr (List.mem_cons.2 (Or.inr ?_)))
    cases hh : hasK M k with
    | false =>
      refine List.mem_of_getElem? (i := i - rk M k) ?_
      simp only [Bool.false_eq_true, if_false, Nat.add_zero]
      rw [List.getElem?_drop, show rk M k + (i - rk M k) = i by omega]; exact hi
    | true =>
      have hne : i ≠ rk M k := by
        rintro rfl
        obtain ⟨v, h2, _⟩ := hasK_some hh
        rw [h2] at hi; cases hi; exact hn rfl
      refine List.mem_of_getElem? (i := i - (rk M k + 1)) ?_
      simp only [if_true]
      rw [List.getElem?_drop, show rk M k + 1 + (i - (rk M k + 1)) = i by omega]; exact hi
theorem put_mem_only {M : Prs} (hr : Rises M) {k : List Int} {x : Int} {p : List Int × Int} (h : p ∈ putK M k x) : p = (k, x) ∨ p ∈ M ∧ p.1 ≠ k := by
  rcases putK_mem h with h1 | h1
  · exact Or.inl h1
  · by_cases hk : p.1 = k
    · left
      have h2 := (has_of (putK_rises hr k x) h).2
      have h3 := (has_of (putK_rises hr k x) (put_mem_self M k x)).2
      rw [hk] at h2
      obtain ⟨a, b⟩ := p
      simp only at hk h2
      subst hk
      rw [h2] at h3
      simp [h3]
    · exact Or.inr ⟨h1, hk⟩
theorem has_put {M : Prs} (hr : Rises M) (k' k : List Int) (x : Int) : hasK (putK M k' x) k = (decide (k' = k) || hasK M k) := by
  rw [Bool.eq_iff_iff, has_iff (putK_rises hr k' x)]
  simp only [Bool.or_eq_true, decide_eq_true_eq]
  rw [has_iff hr]
  constructor
  · rintro ⟨p, h1, rfl⟩
    rcases put_mem_only hr h1 with rfl | ⟨h2, _⟩
    · exact Or.inl rfl
    · exact Or.inr ⟨p, h2, rfl⟩
  · rintro (rfl | ⟨p, h1, rfl⟩)
    · exact ⟨_, put_mem_self _ _ _, rfl⟩
    · by_cases hk : p.1 = k'
      · exact ⟨_, put_mem_self _ _ _, hk.symm⟩
      · exact ⟨p, put_mem_other h1 hk, rfl⟩
theorem val_put {M : Prs} (hr : Rises M) (k' k : List Int) (x : Int) : valK (putK M k' x) k = if k' = k then x else valK M k := by
  by_cases hk : k' = k
  · subst hk
    rw [if_pos rfl]
    exact (has_of (putK_rises hr k' x) (put_mem_self M k' x)).2
  · rw [if_neg hk]
    cases hh : hasK M k with
    | false =>
      have h1 : hasK (putK M k' x) k = false := by rw [has_put hr, hh]; simp [hk]
      rw [valK_none h1, valK_none hh]
    | true => exact (has_of (putK_rises hr k' x) (put_mem_other (of_has hh) (fun h => hk h.symm))).2

/-- the last value of a key, and is there one? -/
def lastV (ps : Prs) (k : List Int) : Int × Bool := ps.foldl (fun a p => if p.1 = k then (p.2, true) else a) (0, false)
theorem lastV_take (ps : Prs) (k : List Int) (j : Nat) (p : List Int × Int) (h : ps[j]? = some p) : lastV (ps.take (j + 1)) k = if p.1 = k then (p.2, true) else lastV (ps.take j) k := by
  have : ps.take (j + 1) = ps.take j ++ [p] := by rw [List.take_add_one, h]; rfl
  unfold lastV
  rw [this, List.foldl_append]; rfl
theorem lastV_law (ps : Prs) (k : List Int) : ∀ j, lastV (ps.take j) k = (valK (mkK (ps.take j)) k, hasK (mkK (ps.take j)) k)
  | 0 => by simp [lastV, mkK, valK, hasK, rk]
  | j + 1 => by
    have ih := lastV_law ps k j
    cases hp : ps[j]? with
    | none =>
      have hl : ps.length ≤ j := by simpa using hp
      rw [List.take_of_length_le (by omega)]
      rw [List.take_of_length_le (by omega)] at ih
      exact ih
    | some p =>
      rw [lastV_take ps k j p hp, mkK_take ps j p hp, has_put (mkK_rises _), val_put (mkK_rises _), ih]
      by_cases hk : p.1 = k <;> simp [hk]
theorem lastV_all (ps : Prs) (k : List Int) : lastV ps k = (valK (mkK ps) k, hasK (mkK ps) k) := by
  have := lastV_law ps k ps.length
  simpa using this

theorem put_end {M : Prs} {p : List Int × Int} (h : ∀ q ∈ M, cmpK q.1 p.1 < 0) : putK M p.1 p.2 = M ++ [p] := by
  have hr : rk M p.1 = M.length := rk_eq (Nat.le_refl _) (fun j q _ hq => ltK_iff.2 (h q (List.mem_of_getElem? hq))) (fun q hq => by simp at hq)
  have hh : hasK M p.1 = false := by unfold hasK; rw [hr]; simp
  unfold putK
  rw [hr, hh]; simp
theorem mk_self_take {M : Prs} (hr : Rises M) : ∀ j, mkK (M.take j) = M.take j
  | 0 => rfl
  | j + 1 => by
    cases hp : M[j]? with
    | none =>
      have hl : M.length ≤ j := by simpa using hp
      have ih := mk_self_take hr j
      rw [List.take_of_length_le (by omega)] at ih ⊢
      exact ih
    | some p =>
      rw [mkK_take M j p hp, mk_self_take hr j, put_end, List.take_add_one, hp]
      · rfl
      · intro q hq
        obtain ⟨i, hi⟩ := List.mem_iff_getElem?.1 hq
        rw [List.getElem?_take] at hi
        split at hi
        · exact hr.get hi hp (by assumption)
        · cases hi
theorem mk_self {M : Prs} (hr : Rises M) : mkK M = M := by
  have := mk_self_take hr M.length
  simpa using this
end ModR
end Go.Proofs.Ythfnacadabhpdaa
