/- Plain laws: the cells of a crit-bit tree. -/
import Derived.Test.YtmdgmkmddkaadaaCritP
import Derived.Test.YtmdgmkmddkaadaaCellM
namespace Go.Proofs.Ytmdgmkmddkaadaa
set_option linter.unusedVariables false
set_option linter.unusedSimpArgs false

def leafC (p : List Int × Int) : Cl := ⟨1, 0, 1, 0, 0, false, p.2, p.1⟩
def innerC (d : Int) (n : Nat) : Cl := ⟨2, d, n, 2, 0, false, 0, []⟩
/-- how many keys at the beginning have no bit d -/
def cutK : Prs → Nat → Nat
  | [], _ => 0
  | p :: ps, d => if bK p.1 d = 0 then cutK ps d + 1 else 0
theorem cutK_le : ∀ (ps : Prs) (d : Nat), cutK ps d ≤ ps.length
  | [], _ => by simp [cutK]
  | p :: ps, d => by have := cutK_le ps d; unfold cutK; split <;> simp <;> omega
theorem cutK_zero : ∀ (ps : Prs) (d i : Nat) (x), ps[i]? = some x → i < cutK ps d → bK x.1 d = 0
  | [], d, i, x, h, _ => by simp at h
  | p :: ps, d, 0, x, h, hi => by
    simp at h; subst h
    unfold cutK at hi
    split at hi
    · assumption
    · omega
  | p :: ps, d, i + 1, x, h, hi => by
    unfold cutK at hi
    split at hi
    · exact cutK_zero ps d i x (by simpa using h) (by omega)
    · omega
theorem cutK_at : ∀ (ps : Prs) (d : Nat) (x), ps[cutK ps d]? = some x → bK x.1 d ≠ 0
  | [], d, x, h => by simp at h
  | p :: ps, d, x, h => by
    unfold cutK at h
    split at h
    · exact cutK_at ps d x (by simpa using h)
    · simp at h; subst h; assumption
def firstK (ps : Prs) : List Int := (ps.headD ([], 0)).1
def lastK (ps : Prs) : List Int := (ps.getD (ps.length - 1) ([], 0)).1
def critF : Nat → Prs → Cls
  | 0, _ => []
  | n + 1, ps => if ps.length ≤ 1 then ps.map leafC else
    innerC (dI (firstK ps) (lastK ps)) ps.length :: (critF n (ps.take (cutK ps (dI (firstK ps) (lastK ps)).toNat)) ++ critF n (ps.drop (cutK ps (dI (firstK ps) (lastK ps)).toNat)))
def deepF : Nat → Prs → Nat
  | 0, _ => 0
  | n + 1, ps => if ps.length ≤ 1 then ps.length else 1 + max (deepF n (ps.take (cutK ps (dI (firstK ps) (lastK ps)).toNat))) (deepF n (ps.drop (cutK ps (dI (firstK ps) (lastK ps)).toNat)))
/-- the cells of a crit-bit tree of pairs that rise; how deep it is -/
def critK (ps : Prs) : Cls := critF ps.length ps
def deepK (ps : Prs) : Nat := deepF ps.length ps

/-- where pairs part -/
structure Parts (ps : Prs) (d : Nat) : Prop where
  at_ : dI (firstK ps) (lastK ps) = d
  pos : 0 < cutK ps d
  lt : cutK ps d < ps.length
  below : ∀ (i : Nat) (x : List Int × Int), ps[i]? = some x → ∀ j, j < d → bK (firstK ps) j = bK x.1 j
  bit : ∀ (i : Nat) (x : List Int × Int), ps[i]? = some x → bK x.1 d = if i < cutK ps d then 0 else 1
theorem parts {ps : Prs} (hr : Rises ps) (kb : ∀ p ∈ ps, KB p.1) (h2 : 2 ≤ ps.length) : ∃ d, Parts ps d := by
  have h0 : 0 < ps.length := by omega
  have hl : ps.length - 1 < ps.length := by omega
  have g0 := List.getElem?_eq_getElem h0
  have g1 := List.getElem?_eq_getElem hl
  have e0 : firstK ps = ps[0].1 := by unfold firstK; cases ps with | nil => simp at h0 | cons p ps => rfl
  have e1 : lastK ps = ps[ps.length - 1].1 := by unfold lastK; rw [List.getD_eq_getElem?_getD, g1]; rfl
  have hlt := hr.get g0 g1 (by omega)
  have k0 := kb _ (List.mem_of_getElem? g0)
  have k1 := kb _ (List.mem_of_getElem? g1)
  rw [← e0] at hlt k0
  rw [← e1] at hlt k1
  obtain ⟨d, hd, hbel, hz, ho⟩ := dI_lt k0 k1 hlt
  have bel : ∀ (i : Nat) (x : List Int × Int), ps[i]? = some x → ∀ j, j < d → bK (firstK ps) j = bK x.1 j := by
    intro i x hx
    have hi := (List.getElem?_eq_some_iff.1 hx).1
    refine between k0 (kb _ (List.mem_of_getElem? hx)) k1 ?_ ?_ hbel
    · rcases Nat.eq_zero_or_pos i with rfl | h
      · rw [g0] at hx; cases hx; exact Or.inl e0
      · exact Or.inr (by rw [e0]; exact hr.get g0 hx h)
    · rcases Nat.eq_or_lt_of_le (show i ≤ ps.length - 1 by omega) with rfl | h
      · rw [g1] at hx; cases hx; exact Or.inl e1.symm
      · exact Or.inr (by rw [e1]; exact hr.get hx g1 h)
  have mono : ∀ (i k : Nat) (x y : List Int × Int), ps[i]? = some x → ps[k]? = some y → i < k → bK x.1 d ≠ 0 → bK y.1 d = 1 := by
    intro i k x y hx hy hik hb
    rcases bK_range y.1 d with h | h
    · exfalso
      have hx1 : bK x.1 d = 1 := (bK_range x.1 d).resolve_left hb
      have := order_of (kb _ (List.mem_of_getElem? hy)) (kb _ (List.mem_of_getElem? hx)) (e := d) (fun j hj => by rw [← bel k y hy j hj, ← bel i x hx j hj]) h hx1
      have h2 := hr.get hx hy hik
      have h3 := cmpK_neg x.1 y.1
      omega
    · exact h
  have hpos : 0 < cutK ps d := by
    cases ps with
    | nil => simp at h0
    | cons p ps =>
      have : bK p.1 d = 0 := hz
      unfold cutK; rw [if_pos this]; omega
  have hcl := cutK_le ps d
  have hlt' : cutK ps d < ps.length := by
    rcases Nat.lt_or_ge (cutK ps d) ps.length with h | h
    · exact h
    · have := cutK_zero ps d _ _ g1 (by omega)
      rw [← e1] at this
      omega
  refine ⟨d, hd, hpos, hlt', bel, fun i x hx => ?_⟩
  by_cases hc : i < cutK ps d
  · rw [if_pos hc]; exact cutK_zero ps d i x hx hc
  · rw [if_neg hc]
    obtain ⟨y, gc⟩ : ∃ y, ps[cutK ps d]? = some y := ⟨_, List.getElem?_eq_getElem hlt'⟩
    have hbc := cutK_at ps d _ gc
    rcases Nat.eq_or_lt_of_le (Nat.le_of_not_lt hc) with h | h
    · rw [h] at gc
      rw [gc] at hx
      cases hx
      exact (bK_range _ d).resolve_left hbc
    · exact mono _ _ _ _ gc hx h hbc
theorem Parts.toNat {ps : Prs} {d : Nat} (h : Parts ps d) : (dI (firstK ps) (lastK ps)).toNat = d := by rw [h.at_]; rfl
theorem rises_drop' {ps : Prs} (hr : Rises ps) (n : Nat) : Rises (ps.drop n) := List.Pairwise.sublist (List.drop_sublist n ps) hr
theorem critF_fuel : ∀ (n m : Nat) (ps : Prs), Rises ps → (∀ p ∈ ps, KB p.1) → ps.length ≤ n → ps.length ≤ m → critF n ps = critF m ps ∧ deepF n ps = deepF m ps
  | 0, 0, ps, _, _, _, _ => ⟨rfl, rfl⟩
  | 0, m + 1, ps, _, _, h, _ => by
    obtain rfl := List.eq_nil_of_length_eq_zero (show ps.length = 0 by omega)
    simp [critF, deepF]
  | n + 1, 0, ps, _, _, _, h => by
    obtain rfl := List.eq_nil_of_length_eq_zero (show ps.length = 0 by omega)
    simp [critF, deepF]
  | n + 1, m + 1, ps, hr, kb, h1, h2 => by
    unfold critF deepF
    by_cases h : ps.length ≤ 1
    · simp [h]
    · rw [if_neg h, if_neg h, if_neg h, if_neg h]
      obtain ⟨d, hd⟩ := parts hr kb (by omega)
      rw [hd.toNat]
      have hp := hd.pos
      have hl := hd.lt
      have a := critF_fuel n m (ps.take (cutK ps d)) (rises_take hr _) (fun p hp => kb p (List.mem_of_mem_take hp)) (by simp; omega) (by simp; omega)
      have b := critF_fuel n m (ps.drop (cutK ps d)) (rises_drop' hr _) (fun p hp => kb p (List.mem_of_mem_drop hp)) (by simp; omega) (by simp; omega)
      rw [a.1, a.2, b.1, b.2]
      exact ⟨rfl, rfl⟩
theorem crit_one (p : List Int × Int) : critK [p] = [leafC p] ∧ deepK [p] = 1 := ⟨rfl, rfl⟩
theorem crit_eq {ps : Prs} (hr : Rises ps) (kb : ∀ p ∈ ps, KB p.1) {d : Nat} (hd : Parts ps d) : critK ps = innerC d ps.length :: (critK (ps.take (cutK ps d)) ++ critK (ps.drop (cutK ps d))) ∧ deepK ps = 1 + max (deepK (ps.take (cutK ps d))) (deepK (ps.drop (cutK ps d))) := by
  have hp := hd.pos
  have hl := hd.lt
  obtain ⟨n, hn⟩ : ∃ n, ps.length = n + 1 := ⟨ps.length - 1, by omega⟩
  unfold critK deepK
  rw [hn, critF, deepF, if_neg (by omega), if_neg (by omega), hd.toNat, hd.at_, hn]
  have a := critF_fuel n (ps.take (cutK ps d)).length (ps.take (cutK ps d)) (rises_take hr _) (fun p hp => kb p (List.mem_of_mem_take hp)) (by simp; omega) (Nat.le_refl _)
  have b := critF_fuel n (ps.drop (cutK ps d)).length (ps.drop (cutK ps d)) (rises_drop' hr _) (fun p hp => kb p (List.mem_of_mem_drop hp)) (by simp; omega) (Nat.le_refl _)
  rw [a.1, a.2, b.1, b.2]
  exact ⟨rfl, rfl⟩
/-- as many cells as twice the keys, less one -/
theorem crit_length : ∀ (n : Nat) (ps : Prs), ps.length ≤ n → Rises ps → (∀ p ∈ ps, KB p.1) → (critK ps).length = 2 * ps.length - 1
  | 0, ps, h, _, _ => by obtain rfl := List.eq_nil_of_length_eq_zero (show ps.length = 0 by omega); rfl
  | n + 1, ps, h, hr, kb => by
    by_cases h1 : ps.length ≤ 1
    · match ps, h1 with
      | [], _ => rfl
      | [p], _ => rfl
    · obtain ⟨d, hd⟩ := parts hr kb (by omega)
      have hp := hd.pos
      have hl := hd.lt
      rw [(crit_eq hr kb hd).1, List.length_cons, List.length_append,
        crit_length n (ps.take (cutK ps d)) (by simp; omega) (rises_take hr _) (fun p hp => kb p (List.mem_of_mem_take hp)),
        crit_length n (ps.drop (cutK ps d)) (by simp; omega) (rises_drop' hr _) (fun p hp => kb p (List.mem_of_mem_drop hp))]
      simp
      omega
theorem deep_le : ∀ (n : Nat) (ps : Prs), ps.length ≤ n → Rises ps → (∀ p ∈ ps, KB p.1) → deepK ps ≤ ps.length
  | 0, ps, h, _, _ => by obtain rfl := List.eq_nil_of_length_eq_zero (show ps.length = 0 by omega); simp [deepK, deepF]
  | n + 1, ps, h, hr, kb => by
    by_cases h1 : ps.length ≤ 1
    · match ps, h1 with
      | [], _ => simp [deepK, deepF]
      | [p], _ => simp [deepK, deepF]
    · obtain ⟨d, hd⟩ := parts hr kb (by omega)
      have hp := hd.pos
      have hl := hd.lt
      have a := deep_le n (ps.take (cutK ps d)) (by simp; omega) (rises_take hr _) (fun p hp => kb p (List.mem_of_mem_take hp))
      have b := deep_le n (ps.drop (cutK ps d)) (by simp; omega) (rises_drop' hr _) (fun p hp => kb p (List.mem_of_mem_drop hp))
      simp at a b
      rw [(crit_eq hr kb hd).2]
      omega
end Go.Proofs.Ytmdgmkmddkaadaa
