/- Plain laws of rows of pairs: what the laws on model ask. -/
import Derived.Test.YthfnacadabhpdaaModL
namespace Go.Proofs.Ythfnacadabhpdaa
set_option linter.unusedVariables false
set_option linter.unusedSimpArgs false
namespace ModP
open ModA ModB ModF ModI ModL

theorem at_rk {ps : Prs} (hr : Rises ps) {i : Nat} {p : List Int × Int} (h : ps[i]? = some p) : rk ps p.1 = i ∧ hasK ps p.1 = true ∧ valK ps p.1 = p.2 := by
  have hi := (List.getElem?_eq_some_iff.1 h).1
  have h1 : rk ps p.1 = i := rk_eq (by omega) (fun j q hj hq => ltK_iff.2 (hr.get hq h hj)) (fun q hq => by rw [h] at hq; cases hq; exact ltK_irrefl _)
  refine ⟨h1, ?_, ?_⟩
  · unfold hasK; rw [h1, h]; simp
  · unfold valK; rw [h1, h]; simp
theorem of_has {ps : Prs} {k : List Int} (h : hasK ps k = true) : (k, valK ps k) ∈ ps := by
  obtain ⟨v, h1, h2⟩ := hasK_some h
  rw [h2]
  exact List.mem_of_getElem? h1
theorem has_of {ps : Prs} (hr : Rises ps) {p : List Int × Int} (h : p ∈ ps) : hasK ps p.1 = true ∧ valK ps p.1 = p.2 := by
  obtain ⟨i, hi⟩ := List.mem_iff_getElem?.1 h
  exact (at_rk hr hi).2

theorem rk_nil (ps : Prs) : rk ps [] = 0 := by
  refine rk_eq (Nat.zero_le _) (fun j p hj => by omega) (fun p hp => ?_)
  rw [ltK_false]
  cases p.1 <;> simp [cmpK]

/-- how long the longest beginning of k is that is there, of those shorter than j -/
def lastI (M : Prs) (k : List Int) : Nat → Int
  | 0 => -1
  | j + 1 => if hasK M (k.take j) then j else lastI M k j
theorem lastI_lt (M : Prs) (k : List Int) : ∀ j : Nat, -1 ≤ lastI M k j ∧ lastI M k j < j
  | 0 => by simp [lastI]
  | j + 1 => by
    have := lastI_lt M k j
    unfold lastI
    split <;> omega
theorem lastI_has (M : Prs) (k : List Int) : ∀ (j : Nat) (n : Nat), lastI M k j = n → hasK M (k.take n) = true
  | 0, n, h => by simp [lastI] at h
  | j + 1, n, h => by
    unfold lastI at h
    split at h
    · rename_i h1; obtain rfl : j = n := by omega
      exact h1
    · exact lastI_has M k j n h
theorem lastI_above (M : Prs) (k : List Int) : ∀ (j : Nat) (i : Nat), i < j → lastI M k j < i → hasK M (k.take i) = false
  | 0, i, h, _ => by omega
  | j + 1, i, h, h2 => by
    unfold lastI at h2
    split at h2
    · omega
    · rename_i h1
      rcases Nat.eq_or_lt_of_le (Nat.le_of_lt_succ h) with e | e
      · subst e; simpa using h1
      · exact lastI_above M k j i e h2

theorem cmpK_prefix : ∀ {a b : List Int}, a <+: b → a.length < b.length → cmpK a b < 0
  | [], [], _, h => by simp at h
  | [], _ :: _, _, _ => by simp [cmpK]
  | _ :: _, [], h, _ => by simp at h
  | x :: a, y :: b, h, hl => by
    obtain ⟨t, ht⟩ := h
    simp at ht
    obtain ⟨rfl, rfl⟩ := ht
    have := cmpK_prefix (a := a) (b := a ++ t) (List.prefix_append _ _) (by simpa using hl)
    unfold cmpK
    simp [this]

theorem find_last {ps : Prs} {f : List Int × Int → Bool} {p : List Int × Int} (h : ps.reverse.find? f = some p) : ∃ i : Nat, ps[i]? = some p ∧ f p = true ∧ ∀ (j : Nat) q, i < j → ps[j]? = some q → f q = false := by
  rw [List.find?_eq_some_iff_append] at h
  obtain ⟨h1, us, bs, h2, h3⟩ := h
  have h4 : ps = bs.reverse ++ p :: us.reverse := by
    have := congrArg List.reverse h2
    simpa using this
  refine ⟨bs.length, ?_, h1, fun j q hj hq => ?_⟩
  · rw [h4]; simp
  · rw [h4, List.getElem?_append_right (by simp; omega)] at hq
    obtain ⟨d, hd⟩ : ∃ d, j - bs.reverse.length = d + 1 := ⟨j - bs.length - 1, by simp; omega⟩
    rw [hd, List.getElem?_cons_succ] at hq
    have := List.mem_of_getElem? hq
    simpa using h3 q (by simpa using this)

theorem longest_law {M : Prs} (hr : Rises M) (k : List Int) :
    longestK M k = if 0 ≤ lastI M k (k.length + 1) then some (k.take (lastI M k (k.length + 1)).toNat, valK M (k.take (lastI M k (k.length + 1)).toNat)) else none := by
  have hn := lastI_lt M k (k.length + 1)
  cases hlo : longestK M k with
  | none =>
    rw [if_neg]
    intro h0
    obtain ⟨n, hn'⟩ := Int.eq_ofNat_of_zero_le h0
    have := of_has (lastI_has M k _ n hn')
    unfold longestK at hlo
    rw [List.find?_eq_none] at hlo
    have h2 := hlo _ (List.mem_reverse.2 this)
    rw [begK_iff] at h2
    exact h2 (by simp)
  | some p =>
    obtain ⟨i, h1, h2, h3⟩ := find_last hlo
    rw [begK_iff] at h2
    have hpl : p.1.length ≤ k.length := by rw [← h2]; simp; omega
    have hh := (at_rk hr h1).2
    have hge : (p.1.length : Int) ≤ lastI M k (k.length + 1) := by
      rcases Int.lt_or_le (lastI M k (k.length + 1)) (p.1.length : Int) with h | h
      · have := lastI_above M k (k.length + 1) p.1.length (by omega) h
        rw [h2, hh.1] at this; cases this
      · exact h
    obtain ⟨n, hn'⟩ := Int.eq_ofNat_of_zero_le (Int.le_trans (Int.natCast_nonneg _) hge)
    have hnk := lastI_has M k _ n hn'
    have heq : n = p.1.length := by
      rcases Nat.lt_or_ge p.1.length n with h | h
      · exfalso
        obtain ⟨v, hq, _⟩ := hasK_some hnk
        have hlt : cmpK p.1 (k.take n) < 0 := by
          refine cmpK_prefix ?_ (by simp; omega)
          rw [← h2]
          exact List.take_prefix_take_left (by omega)
        have hij : i < rk M (k.take n) := by
          rcases Nat.lt_or_ge i (rk M (k.take n)) with h' | h'
          · exact h'
          · have := ltK_false.1 (rk_ge_any hr h' h1)
            exact absurd hlt this
        have := h3 _ _ hij hq
        have h9 : begK k (k.take n) = true := begK_iff.2 (by simp)
        rw [h9] at this; cases this
      · omega
    rw [if_pos (by omega), hn']
    simp only [Int.toNat_natCast]
    rw [heq, h2, hh.2]

theorem from_nil {M : Prs} (n : Nat) : fromK M [] n = M.take n := by
  unfold fromK fromN
  rw [rk_nil]; simp
theorem from_rest {M : Prs} (k : List Int) (n : Nat) (h : M.length ≤ n) : fromK M k n = M.drop (rk M k) := by
  unfold fromK fromN
  exact List.take_of_length_le (by simp; omega)
end ModP
end Go.Proofs.Ythfnacadabhpdaa
