/- Plain laws: leaves, inner cells, how deep a crit-bit tree is. -/
import Derived.Test.YtmdgmkmddkaadaaCritU
namespace Go.Proofs.Ytmdgmkmddkaadaa
set_option linter.unusedVariables false
set_option linter.unusedSimpArgs false
namespace CritV
open CritU
theorem bit_lt {k : List Int} {i : Nat} {L : Nat} (hl : k.length ≤ L) (h : bK k i = 1) : i < 9 * L := by
  rcases Nat.lt_or_ge i (9 * k.length) with h1 | h1
  · omega
  · rw [bK_far k i h1] at h; omega
theorem parts_lt {ps : Prs} {d L : Nat} (hd : Parts ps d) (hl : ∀ p ∈ ps, p.1.length ≤ L) : d < 9 * L := by
  obtain ⟨x, hx⟩ : ∃ x, ps[cutK ps d]? = some x := ⟨_, List.getElem?_eq_getElem hd.lt⟩
  have h1 := hd.bit _ x hx
  rw [if_neg (by omega)] at h1
  exact bit_lt (hl _ (List.mem_of_getElem? hx)) h1
def Fine (L n : Nat) (c : Cl) : Prop := c.kind = 1 ∨ (c.kind = 2 ∧ 0 ≤ c.at_ ∧ c.at_ < 9 * L ∧ 2 ≤ c.count ∧ c.count ≤ n)
theorem Fine.mono {L n m : Nat} {c : Cl} (h : Fine L n c) (hm : n ≤ m) : Fine L m c := by
  rcases h with h | ⟨h1, h2, h3, h4, h5⟩
  · exact Or.inl h
  · exact Or.inr ⟨h1, h2, h3, h4, by omega⟩
def isLeaf (c : Cl) : Bool := c.kind == 1
theorem crit_fine : ∀ (n : Nat) (L : Nat) (ps : Prs), ps.length ≤ n → Rises ps → (∀ p ∈ ps, KB p.1) → (∀ p ∈ ps, p.1.length ≤ L) → (∀ c ∈ critK ps, Fine L ps.length c) ∧ (critK ps).countP isLeaf = ps.length
  | 0, L, ps, h, _, _, _ => by obtain rfl := List.eq_nil_of_length_eq_zero (show ps.length = 0 by omega); exact ⟨fun c hc => by simp [critK, critF] at hc, rfl⟩
  | n + 1, L, ps, h, hr, kb, hl => by
    by_cases h1 : ps.length ≤ 1
    · match ps, h1 with
      | [], _ => exact ⟨fun c hc => by simp [critK, critF] at hc, rfl⟩
      | [p], _ =>
        rw [(crit_one p).1]
        exact ⟨fun c hc => by simp at hc; subst hc; exact Or.inl rfl, rfl⟩
    · obtain ⟨d, hd⟩ := parts hr kb (by omega)
      have hp := hd.pos
      have hlt := hd.lt
      obtain ⟨a1, a2⟩ := crit_fine n L (ps.take (cutK ps d)) (by simp; omega) (rises_take hr _) (fun p hp => kb p (List.mem_of_mem_take hp)) (fun p hp => hl p (List.mem_of_mem_take hp))
      obtain ⟨b1, b2⟩ := crit_fine n L (ps.drop (cutK ps d)) (by simp; omega) (rises_drop hr _) (fun p hp => kb p (List.mem_of_mem_drop hp)) (fun p hp => hl p (List.mem_of_mem_drop hp))
      rw [(crit_eq hr kb hd).1]
      refine ⟨fun c hc => ?_, ?_⟩
      · rcases List.mem_cons.1 hc with rfl | hc
        · have := parts_lt hd hl
          refine Or.inr ⟨rfl, ?_, ?_, ?_, ?_⟩ <;> simp [innerC] <;> omega
        · rcases List.mem_append.1 hc with hc | hc
          · exact (a1 c hc).mono (by simp; omega)
          · exact (b1 c hc).mono (by simp)
      · rw [List.countP_cons_of_neg (by simp [isLeaf, innerC]), List.countP_append, a2, b2]
        simp
        omega
theorem deep_bits : ∀ (n L m : Nat) (ps : Prs), ps.length ≤ n → Rises ps → (∀ p ∈ ps, KB p.1) → (∀ p ∈ ps, p.1.length ≤ L) → m ≤ 9 * L → (∀ p ∈ ps, ∀ j, j < m → bK (firstK ps) j = bK p.1 j) → deepK ps + m ≤ 9 * L + 1
  | 0, L, m, ps, h, _, _, _, hm, _ => by obtain rfl := List.eq_nil_of_length_eq_zero (show ps.length = 0 by omega); simp [deepK, deepF]; omega
  | n + 1, L, m, ps, h, hr, kb, hl, hm, hag => by
    by_cases h1 : ps.length ≤ 1
    · match ps, h1 with
      | [], _ => simp [deepK, deepF]; omega
      | [p], _ => rw [(crit_one p).2]; omega
    · obtain ⟨d, hd⟩ := parts hr kb (by omega)
      have hcp := hd.pos
      have hlt := hd.lt
      have hdl := parts_lt hd hl
      obtain ⟨p0, hp0⟩ : ∃ p, ps[0]? = some p := ⟨_, List.getElem?_eq_getElem (by omega)⟩
      obtain ⟨pc, hpc⟩ : ∃ p, ps[cutK ps d]? = some p := ⟨_, List.getElem?_eq_getElem hlt⟩
      have hfA : firstK (ps.take (cutK ps d)) = p0.1 := firstK_eq (by rw [List.getElem?_take, if_pos hcp]; exact hp0)
      have hfB : firstK (ps.drop (cutK ps d)) = pc.1 := firstK_eq (by rw [List.getElem?_drop]; exact hpc)
      have hf0 := firstK_eq hp0
      have hbit0 := hd.bit 0 p0 hp0
      have hbitc := hd.bit _ pc hpc
      rw [if_pos hcp] at hbit0
      rw [if_neg (by omega)] at hbitc
      have hmd : m ≤ d := by
        rcases Nat.lt_or_ge d m with h3 | h3
        · have := hag pc (List.mem_of_getElem? hpc) d h3
          rw [hf0] at this
          omega
        · exact h3
      have a := deep_bits n L (d + 1) (ps.take (cutK ps d)) (by simp; omega) (rises_take hr _) (fun p hp => kb p (List.mem_of_mem_take hp)) (fun p hp => hl p (List.mem_of_mem_take hp)) (by omega) (fun p hp j hj => by
          obtain ⟨k, hk⟩ := List.mem_iff_getElem?.1 hp
          rw [List.getElem?_take] at hk
          split at hk
          · rename_i hkc
            rw [hfA]
            rcases Nat.lt_or_ge j d with h3 | h3
            · rw [← hf0]; exact hd.below k p hk j h3
            · obtain rfl : j = d := by omega
              rw [hbit0, hd.bit k p hk, if_pos hkc]
          · cases hk)
      have b := deep_bits n L (d + 1) (ps.drop (cutK ps d)) (by simp; omega) (rises_drop hr _) (fun p hp => kb p (List.mem_of_mem_drop hp)) (fun p hp => hl p (List.mem_of_mem_drop hp)) (by omega) (fun p hp j hj => by
          obtain ⟨k, hk⟩ := List.mem_iff_getElem?.1 hp
          rw [List.getElem?_drop] at hk
          rw [hfB]
          rcases Nat.lt_or_ge j d with h3 | h3
          · rw [← hd.below _ pc hpc j h3]; exact hd.below _ p hk j h3
          · obtain rfl : j = d := by omega
            rw [hbitc, hd.bit _ p hk, if_neg (by omega)])
      rw [(crit_eq hr kb hd).2]
      omega
end CritV
end Go.Proofs.Ytmdgmkmddkaadaa
