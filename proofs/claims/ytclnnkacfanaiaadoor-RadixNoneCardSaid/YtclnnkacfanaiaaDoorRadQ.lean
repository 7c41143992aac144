/- Plain laws: what a drop leaves. -/
import Derived.Test.YtclnnkacfanaiaaDoorRadP
namespace Go.Proofs.YtclnnkacfanaiaaDoor
set_option linter.unusedVariables false
set_option linter.unusedSimpArgs false
open ModP (cmpK_prefix)
open RadK MaskP MaskA KidB
namespace RT
theorem cnt_zero {f : Nat → Bool} {n : Nat} (h : cnt f n = 0) {i : Nat} (hi : i < n) : f i = false := by
  induction n with
  | zero => omega
  | succ n ih =>
    simp only [cnt] at h
    rcases Nat.eq_or_lt_of_le (Nat.le_of_lt_succ hi) with e | e
    · subst e; cases hf : f i with
      | false => rfl
      | true => rw [hf] at h; simp at h
    · exact ih (by omega) e
theorem cnt_one {f : Nat → Bool} (h : cnt f 256 = 1) {i j : Nat} (hi : i < 256) (hj : j < 256) (h1 : f i = true) (h2 : f j = true) : i = j := by
  have h3 := KidW.cnt_setb f i false 256 hi
  rw [h1, h] at h3
  have h4 : cnt (setb f i false) 256 = 0 := by simpa using h3
  have h5 := cnt_zero h4 hj
  simp only [setb] at h5
  split at h5
  · rename_i e; exact e.symm
  · rw [h2] at h5; cases h5
theorem oneT_spec {f : Nat → RT} (h : cnt (hsT f) 256 = 1) : ∃ i, i < 256 ∧ (f i).is = true ∧ oneT f = f i ∧ ∀ j, j < 256 → j ≠ i → f j = nil := by
  unfold oneT
  cases hf : (List.range 256).find? (hsT f) with
  | none =>
    obtain ⟨i, hi, h1⟩ := cnt_pos (f := hsT f) (n := 256) (by omega)
    rw [List.find?_eq_none] at hf
    exact absurd h1 (hf i (List.mem_range.2 hi))
  | some i =>
    have hi := List.mem_range.1 (List.mem_of_find?_eq_some hf)
    have h1 := List.find?_some hf
    refine ⟨i, hi, h1, rfl, fun j hj hn => is_false ?_⟩
    cases h2 : (f j).is with
    | false => rfl
    | true => exact absurd (cnt_one h hj hi h2 h1) hn
theorem dropN_ok {q k0 : List Int} {v0 : Int} {o : Option Int} {kd : Nat} {f : Nat → RT} (hq : q <+: k0) (hk : KB k0) (h1 : ∀ i : Nat, 256 ≤ i → f i = nil) (h2 : ∀ i : Nat, i < 256 → Ok (k0 ++ [(i : Int)]) (f i)) (h3 : 1 ≤ cnt (hsT f) 256 + one o)
    (hkd : kd < 4) (h4 : leftI kd < (cnt (hsT f) 256 : Nat)) (h5 : ((cnt (hsT f) 256 : Nat) : Int) ≤ roomI kd) : Ok q (dropN k0 v0 o kd f) := by
  unfold dropN
  by_cases c1 : o.isSome = true ∧ cnt (hsT f) 256 = 0
  · rw [if_pos c1]; exact leaf_ok hq hk
  · rw [if_neg c1]
    by_cases c2 : o.isSome = false ∧ cnt (hsT f) 256 = 1
    · rw [if_pos c2]
      obtain ⟨i, hi, h6, h7, h8⟩ := oneT_spec c2.2
      rw [h7]
      exact (h2 i hi).less (fun h => (hq.trans (List.prefix_append _ _)).trans ((h2 i hi).kpre h).1)
    · rw [if_neg c2]
      refine ⟨hq, hk, h1, h2, ?_, hkd, h4, h5⟩
      cases o with
      | none => simp [one] at h3 c2 ⊢; omega
      | some v => simp [one] at h3 c1 ⊢; omega
theorem dropN_mem {k0 : List Int} {v0 : Int} {o : Option Int} {kd : Nat} {f : Nat → RT} {p : List Int × Int} : p ∈ (dropN k0 v0 o kd f).prs ↔ (∃ v, o = some v ∧ p = (k0, v)) ∨ ∃ i, i < 256 ∧ p ∈ (f i).prs := by
  unfold dropN
  by_cases c1 : o.isSome = true ∧ cnt (hsT f) 256 = 0
  · rw [if_pos c1]
    obtain ⟨v, rfl⟩ := Option.isSome_iff_exists.1 c1.1
    have hz : ¬ ∃ i, i < 256 ∧ p ∈ (f i).prs := by
      rintro ⟨i, hi, h⟩
      rw [is_false (cnt_zero c1.2 hi)] at h; simp [prs] at h
    simp only [prs, List.mem_singleton, Option.getD_some]
    constructor
    · intro h; exact Or.inl ⟨v, rfl, h⟩
    · rintro (⟨v', h1, h2⟩ | h)
      · cases h1; exact h2
      · exact absurd h hz
  · rw [if_neg c1]
    by_cases c2 : o.isSome = false ∧ cnt (hsT f) 256 = 1
    · rw [if_pos c2]
      obtain ⟨i, hi, h6, h7, h8⟩ := oneT_spec c2.2
      rw [h7]
      constructor
      · intro h; exact Or.inr ⟨i, hi, h⟩
      · rintro (⟨v', h1, h2⟩ | ⟨j, hj, h⟩)
        · rw [h1] at c2; simp at c2
        · by_cases e : j = i
          · subst e; exact h
          · rw [h8 j hj e] at h; simp [prs] at h
    · rw [if_neg c2, mem_node]
def fewN (m : Nat) (o : Option Int) (f : Nat → RT) : Nat := if o.isSome = false ∧ cnt (hsT f) 256 = 1 then m + 1 else m
def fewT : RT → List Int → Nat
  | nil, _ => 0
  | leaf _ _, _ => 1
  | node k0 o kd f, k =>
    if k.length = k0.length then fewN 0 Option.none f
    else fewN (fewT (f (byteAt k k0.length)) k) o (upd f (byteAt k k0.length) (dropT (f (byteAt k k0.length)) k))
theorem sum_zero {f : Nat → RT} : ∀ n, (∀ i, i < n → (f i).cells = 0) → ((List.range n).map fun i => (f i).cells).sum = 0
  | 0, _ => rfl
  | n + 1, h => by
    rw [List.range_succ, List.map_append, List.sum_append, sum_zero n (fun i hi => h i (by omega))]
    simp [h n (by omega)]
theorem dropN_cells (k0 : List Int) (v0 : Int) (o : Option Int) (kd : Nat) (f : Nat → RT) (m : Nat) : (dropN k0 v0 o kd f).cells + fewN m o f = (node k0 o kd f).cells + m := by
  unfold dropN fewN
  by_cases c1 : o.isSome = true ∧ cnt (hsT f) 256 = 0
  · rw [if_pos c1, if_neg (fun h => by rw [c1.1] at h; simp at h), cells_node, sum_zero 256 (fun i hi => by rw [is_false (cnt_zero c1.2 hi)]; rfl)]
    rfl
  · rw [if_neg c1]
    by_cases c2 : o.isSome = false ∧ cnt (hsT f) 256 = 1
    · rw [if_pos c2, if_pos c2, cells_node]
      obtain ⟨i, hi, h6, h7, h8⟩ := oneT_spec c2.2
      have h9 := cells_upd f hi nil
      rw [sum_zero 256 (fun j hj => by
        by_cases e : j = i
        · subst e; rw [upd_at]; rfl
        · rw [upd_ne _ _ _ e, h8 j hj e]; rfl)] at h9
      rw [h7]
      have h10 : nil.cells = 0 := rfl
      omega
    · rw [if_neg c2, if_neg c2]
/-- the way to a key that is there -/
theorem way_of {q k k0 : List Int} {o : Option Int} {kd : Nat} {f : Nat → RT} (h : Ok q (node k0 o kd f)) {x : Int} (hp : (k, x) ∈ (node k0 o kd f).prs) :
    k0 <+: k ∧ (k.length = k0.length → k = k0 ∧ o = some x) ∧ (k.length ≠ k0.length → k0.length < k.length ∧ k0 ++ [((byteAt k k0.length : Nat) : Int)] <+: k ∧ (k, x) ∈ (f (byteAt k k0.length)).prs) := by
  rcases mem_node.1 hp with ⟨v, h1, h2⟩ | ⟨i, hi, h1⟩
  · cases h2
    exact ⟨List.prefix_refl _, fun _ => ⟨rfl, h1⟩, fun hn => absurd rfl hn⟩
  · have h2 := child_pre h hi h1
    have h3 := pre_len h2
    have h4 := pre_byte_eq h2
    simp only at h2 h3 h4
    exact ⟨(List.prefix_append _ _).trans h2, fun hn => by omega, fun _ => ⟨h3, by rw [h4]; exact h2, by rw [h4]; exact h1⟩⟩
theorem dropT_ok {T : RT} {k : List Int} {x : Int} : ∀ {q : List Int}, Ok q T → (k, x) ∈ T.prs → Ok q (dropT T k) := by
  induction T with
  | nil => intro q _ h; simp [prs] at h
  | leaf k0 v0 => intro q _ _; trivial
  | node k0 o kd f ih =>
    intro q h hp
    obtain ⟨w1, w2, w3⟩ := way_of h hp
    have hkb := (h.pre _ hp).2
    simp only at hkb
    have hb := byteAt_lt hkb k0.length
    have h5 := h.2.2.2.2.1
    unfold dropT
    by_cases hl : k.length = k0.length
    · rw [if_pos hl]
      exact dropN_ok h.1 h.2.1 h.2.2.1 h.2.2.2.1 (by have : one o ≤ 1 := by unfold one; split <;> omega
                                                     simp [one]; omega) h.2.2.2.2.2.1 h.2.2.2.2.2.2.1 h.2.2.2.2.2.2.2
    · rw [if_neg hl]
      obtain ⟨w4, w5, w6⟩ := w3 hl
      have hih := ih _ (h.2.2.2.1 _ hb) w6
      have hci : (f (byteAt k k0.length)).is = true := by
        cases hc : (f (byteAt k k0.length)).is with
        | true => rfl
        | false => rw [is_false hc] at w6; simp [prs] at w6
      by_cases hd : (dropT (f (byteAt k k0.length)) k).is = false
      · rw [if_pos hd]
        have hc := cnt_upd f hb nil
        rw [hci] at hc
        have hc2 : cnt (hsT (upd f (byteAt k k0.length) nil)) 256 + 1 = cnt (hsT f) 256 := by simpa [is] using hc
        obtain ⟨m, hm⟩ : ∃ m, cnt (hsT (upd f (byteAt k k0.length) nil)) 256 = m := ⟨_, rfl⟩
        rw [hm] at hc2
        have hbd := dn_band (kd := kd) (n := m) h.2.2.2.2.2.1 (by rw [hc2]; exact h.2.2.2.2.2.2.1) (by rw [hc2]; exact h.2.2.2.2.2.2.2)
        have e : cnt (hsT f) 256 - 1 = m := by omega
        rw [e]
        refine dropN_ok h.1 h.2.1 (fun i hi => by rw [upd_ne _ _ _ (by omega)]; exact h.2.2.1 i hi) (fun i hi => ?_) (by rw [hm]; omega) hbd.1 (by rw [hm]; exact hbd.2.1) (by rw [hm]; exact hbd.2.2)
        by_cases e : i = byteAt k k0.length
        · subst e; rw [upd_at]; trivial
        · rw [upd_ne _ _ _ e]; exact h.2.2.2.1 i hi
      · rw [if_neg hd]
        have hd2 : (dropT (f (byteAt k k0.length)) k).is = true := by simpa using hd
        have hc := cnt_upd f hb (dropT (f (byteAt k k0.length)) k)
        rw [hci, hd2] at hc
        have hc2 : cnt (hsT (upd f (byteAt k k0.length) (dropT (f (byteAt k k0.length)) k))) 256 = cnt (hsT f) 256 := by omega
        refine dropN_ok h.1 h.2.1 (fun i hi => by rw [upd_ne _ _ _ (by omega)]; exact h.2.2.1 i hi) (fun i hi => ?_) (by rw [hc2]; omega) h.2.2.2.2.2.1 (by rw [hc2]; exact h.2.2.2.2.2.2.1) (by rw [hc2]; exact h.2.2.2.2.2.2.2)
        by_cases e : i = byteAt k k0.length
        · subst e; rw [upd_at]; exact hih
        · rw [upd_ne _ _ _ e]; exact h.2.2.2.1 i hi
theorem dropT_mem {T : RT} {k : List Int} {x : Int} {p : List Int × Int} : ∀ {q : List Int}, Ok q T → (k, x) ∈ T.prs → (p ∈ (dropT T k).prs ↔ p ∈ T.prs ∧ p.1 ≠ k) := by
  induction T with
  | nil => intro q _ h; simp [prs] at h
  | leaf k0 v0 =>
    intro q _ h
    simp only [prs, List.mem_singleton] at h
    cases h
    simp only [dropT, prs, List.mem_singleton, List.not_mem_nil, false_iff, not_and]
    intro h; rw [h]; simp
  | node k0 o kd f ih =>
    intro q h hp
    obtain ⟨w1, w2, w3⟩ := way_of h hp
    have hkb := (h.pre _ hp).2
    simp only at hkb
    have hb := byteAt_lt hkb k0.length
    unfold dropT
    by_cases hl : k.length = k0.length
    · rw [if_pos hl, dropN_mem, mem_node]
      obtain ⟨rfl, rfl⟩ := w2 hl
      constructor
      · rintro (⟨v', h1, _⟩ | ⟨i, hi, h1⟩)
        · cases h1
        · exact ⟨Or.inr ⟨i, hi, h1⟩, fun e => by have := pre_len (child_pre h hi h1); rw [e] at this; omega⟩
      · rintro ⟨⟨v', h1, h2⟩ | h1, h3⟩
        · rw [h2] at h3; exact absurd rfl h3
        · exact Or.inr h1
    · rw [if_neg hl]
      obtain ⟨w4, w5, w6⟩ := w3 hl
      have hih := ih _ (h.2.2.2.1 _ hb) w6
      have hown : ∀ v', p = (k0, v') → p.1 ≠ k := fun v' e e2 => by rw [e] at e2; simp only at e2; rw [e2] at hl; exact hl rfl
      have hoth : ∀ i, i < 256 → i ≠ byteAt k k0.length → p ∈ (f i).prs → p.1 ≠ k := fun i hi hn h1 e => by
        have := child_pre h hi h1
        rw [e] at this
        exact hn (pre_byte_eq this).symm
      have fin : ((∃ v, o = some v ∧ p = (k0, v)) ∨ (p ∈ (dropT (f (byteAt k k0.length)) k).prs ∨ ∃ i, i < 256 ∧ i ≠ byteAt k k0.length ∧ p ∈ (f i).prs)) ↔ p ∈ (node k0 o kd f).prs ∧ p.1 ≠ k := by
        rw [mem_node, hih]
        constructor
        · rintro (⟨v', h1, h2⟩ | ⟨h1, h2⟩ | ⟨i, hi2, hn, h1⟩)
          · exact ⟨Or.inl ⟨v', h1, h2⟩, hown v' h2⟩
          · exact ⟨Or.inr ⟨_, hb, h1⟩, h2⟩
          · exact ⟨Or.inr ⟨i, hi2, h1⟩, hoth i hi2 hn h1⟩
        · rintro ⟨⟨v', h1, h2⟩ | ⟨i, hi2, h1⟩, h3⟩
          · exact Or.inl ⟨v', h1, h2⟩
          · by_cases e : i = byteAt k k0.length
            · subst e; exact Or.inr (Or.inl ⟨h1, h3⟩)
            · exact Or.inr (Or.inr ⟨i, hi2, e, h1⟩)
      by_cases hd : (dropT (f (byteAt k k0.length)) k).is = false
      · rw [if_pos hd, dropN_mem, mem_upd hb, ← fin, is_false hd]
      · rw [if_neg hd, dropN_mem, mem_upd hb, ← fin]
theorem dropT_prs {T : RT} {q k : List Int} (h : Ok q T) (hh : hasK T.prs k = true) : (dropT T k).prs = dropK T.prs k := by
  have hp := ModP.of_has hh
  exact rises_ext (dropT_ok h hp).rises (dropK_rises h.rises k) fun p => by rw [dropT_mem h hp, mem_drop h.rises]
theorem dropT_cells {T : RT} {k : List Int} {x : Int} : ∀ {q : List Int}, Ok q T → (k, x) ∈ T.prs → (dropT T k).cells + fewT T k = T.cells := by
  induction T with
  | nil => intro q _ h; simp [prs] at h
  | leaf k0 v0 => intro q _ h; rfl
  | node k0 o kd f ih =>
    intro q h hp
    obtain ⟨w1, w2, w3⟩ := way_of h hp
    have hkb := (h.pre _ hp).2
    simp only at hkb
    have hb := byteAt_lt hkb k0.length
    unfold dropT fewT
    by_cases hl : k.length = k0.length
    · rw [if_pos hl, if_pos hl, dropN_cells, cells_node, cells_node, Nat.add_zero]
    · rw [if_neg hl, if_neg hl]
      obtain ⟨w4, w5, w6⟩ := w3 hl
      have hih := ih _ (h.2.2.2.1 _ hb) w6
      have h9 := cells_upd f hb (dropT (f (byteAt k k0.length)) k)
      by_cases hd : (dropT (f (byteAt k k0.length)) k).is = false
      · rw [if_pos hd]
        rw [is_false hd] at h9 hih ⊢
        rw [dropN_cells, cells_node, cells_node]
        omega
      · rw [if_neg hd, dropN_cells, cells_node, cells_node]
        omega
theorem dropN_is {k0 : List Int} {v0 : Int} {o : Option Int} {kd : Nat} {f : Nat → RT} : (dropN k0 v0 o kd f).is = true := by
  unfold dropN
  split
  · rfl
  · split
    · rename_i h
      obtain ⟨i, _, h1, h2, _⟩ := oneT_spec h.2
      rw [h2]; exact h1
    · rfl
theorem dropT_nil {T : RT} {k : List Int} (h : (dropT T k).is = false) : fewT T k ≤ 1 := by
  cases T with
  | nil => simp [fewT]
  | leaf k0 v0 => simp [fewT]
  | node k0 o kd f =>
    unfold dropT at h
    split at h
    · rw [dropN_is] at h; cases h
    · split at h
      · rw [dropN_is] at h; cases h
      · rw [dropN_is] at h; cases h
theorem fewN_le (m : Nat) (o : Option Int) (f : Nat → RT) : fewN m o f ≤ m + 1 := by unfold fewN; split <;> omega
theorem few_le {T : RT} {k : List Int} {x : Int} : ∀ {q : List Int}, Ok q T → (k, x) ∈ T.prs → fewT T k ≤ 2 := by
  induction T with
  | nil => intro q _ h; simp [prs] at h
  | leaf k0 v0 => intro q _ h; simp [fewT]
  | node k0 o kd f ih =>
    intro q h hp
    obtain ⟨w1, w2, w3⟩ := way_of h hp
    have hkb := (h.pre _ hp).2
    simp only at hkb
    have hb := byteAt_lt hkb k0.length
    unfold fewT
    by_cases hl : k.length = k0.length
    · rw [if_pos hl]
      have := fewN_le 0 Option.none f; omega
    · rw [if_neg hl]
      obtain ⟨w4, w5, w6⟩ := w3 hl
      have hih := ih _ (h.2.2.2.1 _ hb) w6
      cases hd : (dropT (f (byteAt k k0.length)) k).is with
      | false =>
        have h1 := dropT_nil hd
        have := fewN_le (fewT (f (byteAt k k0.length)) k) o (upd f (byteAt k k0.length) (dropT (f (byteAt k k0.length)) k))
        omega
      | true =>
        have hci : (f (byteAt k k0.length)).is = true := by
          cases hc : (f (byteAt k k0.length)).is with
          | true => rfl
          | false => rw [is_false hc] at w6; simp [prs] at w6
        have hc := cnt_upd f hb (dropT (f (byteAt k k0.length)) k)
        rw [hci, hd] at hc
        have h5 := h.2.2.2.2.1
        unfold fewN
        rw [if_neg (fun h6 => by
          have h7 : one o = 0 := by unfold one; rw [if_neg (by rw [h6.1]; simp)]
          have h8 := h6.2
          omega)]
        exact hih
end RT
end Go.Proofs.YtclnnkacfanaiaaDoor
