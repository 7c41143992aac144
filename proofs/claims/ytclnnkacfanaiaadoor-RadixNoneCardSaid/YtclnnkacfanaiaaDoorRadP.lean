/- Plain laws: a put's, a drop's tree has the pairs that it should have. -/
import Derived.Test.YtclnnkacfanaiaaDoorRadO
namespace Go.Proofs.YtclnnkacfanaiaaDoor
set_option linter.unusedVariables false
set_option linter.unusedSimpArgs false
open ModP (cmpK_prefix)
open RadK MaskP MaskA KidB
namespace RT
theorem leaf_ok {q k : List Int} {v : Int} (h : q <+: k) (hk : KB k) : Ok q (leaf k v) := ⟨h, hk⟩
theorem self_ok {T : RT} {q : List Int} (h : Ok q T) : Ok T.key T := h.less (fun _ => List.prefix_refl _)
theorem com_full {a b : List Int} (h : ¬ comK a b < a.length) : a <+: b := pre_of_comK (by have := (comK_le a b).1; omega)

theorem putT_ok {T : RT} {k : List Int} (v : Int) (hk : KB k) : ∀ {q : List Int}, Ok q T → q <+: k → Ok q (putT T k v) := by
  induction T with
  | nil => intro q _ hq; exact leaf_ok hq hk
  | leaf k0 v0 =>
    intro q h hq
    unfold putT
    by_cases e : k0 = k
    · rw [if_pos e]; exact h
    · rw [if_neg e]
      exact join_ok (self_ok h) rfl hk rfl e (Or.inl ⟨k0, v0, rfl⟩) h.1 hq
  | node k0 o kd f ih =>
    intro q h hq
    unfold putT
    by_cases hc : comK k0 k < k0.length
    · rw [if_pos hc]
      have e : k0 ≠ k := fun e => by subst e; have := comK_of_pre (List.prefix_refl k0); omega
      exact join_ok (n := node k0 o kd f) (self_ok h) rfl hk rfl e (Or.inr hc) h.1 hq
    · rw [if_neg hc]
      have hp := com_full hc
      by_cases hl : k.length = k0.length
      · rw [if_pos hl]
        refine ⟨h.1, h.2.1, h.2.2.1, h.2.2.2.1, ?_, h.2.2.2.2.2⟩
        have := h.2.2.2.2.1
        have : one o ≤ 1 := by unfold one; split <;> omega
        simp [one]; omega
      · rw [if_neg hl]
        have hkl : k0.length < k.length := by have := hp.length_le; omega
        have hb := byteAt_lt hk k0.length
        have hpb := pre_byte hk hp hkl
        have h5 := h.2.2.2.2.1
        by_cases hi : (f (byteAt k k0.length)).is = false
        · rw [if_pos hi]
          have hc2 := cnt_upd f hb (leaf k v)
          rw [hi] at hc2
          have hc3 : cnt (hsT (upd f (byteAt k k0.length) (leaf k v))) 256 = cnt (hsT f) 256 + 1 := by simpa [is] using hc2
          have hle := cnt_le (hsT (upd f (byteAt k k0.length) (leaf k v))) 256
          rw [hc3] at hle
          have hbd := up_band h.2.2.2.2.2.1 h.2.2.2.2.2.2.1 h.2.2.2.2.2.2.2 hle
          exact ok_upd h hb (leaf_ok hpb hk) (by rw [hc3]; omega) hbd.1 (by rw [hc3]; exact hbd.2.1) (by rw [hc3]; exact hbd.2.2)
        · rw [if_neg hi]
          have hit : (f (byteAt k k0.length)).is = true := by simpa using hi
          have hc2 := cnt_upd f hb (putT (f (byteAt k k0.length)) k v)
          rw [hit, putT_is] at hc2
          have hc3 : cnt (hsT (upd f (byteAt k k0.length) (putT (f (byteAt k k0.length)) k v))) 256 = cnt (hsT f) 256 := by omega
          exact ok_upd h hb (ih _ (h.2.2.2.1 _ hb) hpb) (by rw [hc3]; omega) h.2.2.2.2.2.1 (by rw [hc3]; exact h.2.2.2.2.2.2.1) (by rw [hc3]; exact h.2.2.2.2.2.2.2)
theorem putT_mem {T : RT} {k : List Int} (v : Int) (hk : KB k) {p : List Int × Int} : ∀ {q : List Int}, Ok q T → q <+: k → (p ∈ (putT T k v).prs ↔ p = (k, v) ∨ p ∈ T.prs ∧ p.1 ≠ k) := by
  induction T with
  | nil => intro q _ _; simp [putT, prs]
  | leaf k0 v0 =>
    intro q h hq
    unfold putT
    by_cases e : k0 = k
    · subst e; rw [if_pos rfl]; simp only [prs, List.mem_singleton]
      constructor
      · exact Or.inl
      · rintro (h1 | ⟨h1, h2⟩)
        · exact h1
        · rw [h1] at h2; exact absurd rfl h2
    · rw [if_neg e, join_mem (n := leaf k0 v0) (c := comK k0 k) h.2 hk rfl e (Or.inl ⟨k0, v0, rfl⟩)]
      simp only [prs, List.mem_singleton]
      constructor
      · rintro (h1 | h1)
        · exact Or.inl h1
        · exact Or.inr ⟨h1, by rw [h1]; exact e⟩
      · rintro (h1 | ⟨h1, _⟩)
        · exact Or.inl h1
        · exact Or.inr h1
  | node k0 o kd f ih =>
    intro q h hq
    unfold putT
    by_cases hc : comK k0 k < k0.length
    · rw [if_pos hc]
      have e : k0 ≠ k := fun e => by subst e; have := comK_of_pre (List.prefix_refl k0); omega
      rw [join_mem (n := node k0 o kd f) (c := comK k0 k) h.2.1 hk rfl e (Or.inr hc)]
      have hno : ∀ p ∈ (node k0 o kd f).prs, p.1 ≠ k := fun p hp e2 => by
        have := ((self_ok h).pre p hp).1
        rw [e2] at this
        have := comK_of_pre this
        simp only [key] at this; omega
      constructor
      · rintro (h1 | h1)
        · exact Or.inl h1
        · exact Or.inr ⟨h1, hno p h1⟩
      · rintro (h1 | ⟨h1, _⟩)
        · exact Or.inl h1
        · exact Or.inr h1
    · rw [if_neg hc]
      have hp := com_full hc
      by_cases hl : k.length = k0.length
      · rw [if_pos hl, mem_node, mem_node]
        have hkk : k0 = k := by
          obtain ⟨r, rfl⟩ := hp
          have : r = [] := List.eq_nil_of_length_eq_zero (by rw [List.length_append] at hl; omega)
          simp [this]
        subst hkk
        constructor
        · rintro (⟨v', h1, h2⟩ | ⟨i, hi, h1⟩)
          · cases h1; exact Or.inl h2
          · exact Or.inr ⟨Or.inr ⟨i, hi, h1⟩, fun e => by have := pre_len (child_pre h hi h1); rw [e] at this; omega⟩
        · rintro (h1 | ⟨⟨v', h1, h2⟩ | h1, h3⟩)
          · exact Or.inl ⟨v, rfl, h1⟩
          · rw [h2] at h3; exact absurd rfl h3
          · exact Or.inr h1
      · rw [if_neg hl]
        have hkl : k0.length < k.length := by have := hp.length_le; omega
        have hb := byteAt_lt hk k0.length
        have hpb := pre_byte hk hp hkl
        have hown : ∀ v', p = (k0, v') → p.1 ≠ k := fun v' e e2 => by rw [e] at e2; simp only at e2; rw [e2] at hl; exact hl rfl
        have hoth : ∀ i, i < 256 → i ≠ byteAt k k0.length → p ∈ (f i).prs → p.1 ≠ k := fun i hi hn h1 e => by
          have := child_pre h hi h1
          rw [e] at this
          exact hn (pre_byte_eq this).symm
        by_cases hi : (f (byteAt k k0.length)).is = false
        · rw [if_pos hi, mem_node, mem_node, mem_upd hb]
          simp only [prs, List.mem_singleton]
          constructor
          · rintro (⟨v', h1, h2⟩ | h1 | ⟨i, hi2, hn, h1⟩)
            · exact Or.inr ⟨Or.inl ⟨v', h1, h2⟩, hown v' h2⟩
            · exact Or.inl h1
            · exact Or.inr ⟨Or.inr ⟨i, hi2, h1⟩, hoth i hi2 hn h1⟩
          · rintro (h1 | ⟨⟨v', h1, h2⟩ | ⟨i, hi2, h1⟩, h3⟩)
            · exact Or.inr (Or.inl h1)
            · exact Or.inl ⟨v', h1, h2⟩
            · refine Or.inr (Or.inr ⟨i, hi2, fun e => ?_, h1⟩)
              subst e; rw [is_false hi] at h1; simp [prs] at h1
        · rw [if_neg hi, mem_node, mem_node, mem_upd hb, ih _ (h.2.2.2.1 _ hb) hpb]
          constructor
          · rintro (⟨v', h1, h2⟩ | (h1 | ⟨h1, h2⟩) | ⟨i, hi2, hn, h1⟩)
            · exact Or.inr ⟨Or.inl ⟨v', h1, h2⟩, hown v' h2⟩
            · exact Or.inl h1
            · exact Or.inr ⟨Or.inr ⟨_, hb, h1⟩, h2⟩
            · exact Or.inr ⟨Or.inr ⟨i, hi2, h1⟩, hoth i hi2 hn h1⟩
          · rintro (h1 | ⟨⟨v', h1, h2⟩ | ⟨i, hi2, h1⟩, h3⟩)
            · exact Or.inr (Or.inl (Or.inl h1))
            · exact Or.inl ⟨v', h1, h2⟩
            · by_cases e : i = byteAt k k0.length
              · subst e; exact Or.inr (Or.inl (Or.inr ⟨h1, h3⟩))
              · exact Or.inr (Or.inr ⟨i, hi2, e, h1⟩)
theorem putT_prs {T : RT} {q k : List Int} (v : Int) (hk : KB k) (h : Ok q T) (hq : q <+: k) : (putT T k v).prs = putK T.prs k v :=
  rises_ext (putT_ok v hk h hq).rises (putK_rises h.rises k v) fun p => by rw [putT_mem v hk h hq, mem_put h.rises]

/-! ### how many cells more -/
def moreJ (c : Nat) (n : RT) (k : List Int) : Nat := if k.length = c ∨ n.key.length = c then 1 else 2
def manyT : RT → List Int → Nat
  | nil, _ => 1
  | leaf k0 v0, k => if k0 = k then 0 else moreJ (comK k0 k) (leaf k0 v0) k
  | node k0 o kd f, k =>
    if comK k0 k < k0.length then moreJ (comK k0 k) (node k0 o kd f) k
    else if k.length = k0.length then 0
    else if (f (byteAt k k0.length)).is = false then 1
    else manyT (f (byteAt k k0.length)) k
theorem join_cells {k : List Int} {n : RT} {v : Int} {c : Nat} (hkn : KB n.key) (hk : KB k) (hc : c = comK n.key k) (hne : n.key ≠ k) (hlf : (∃ k0 v0, n = leaf k0 v0) ∨ c < n.key.length) :
    (join c n k v).cells = n.cells + moreJ c n k := by
  have hcl := comK_le n.key k
  rw [← hc] at hcl
  have hbk := byteAt_lt hk c
  have hbn := byteAt_lt hkn c
  unfold join
  rw [cells_node]
  unfold moreJ
  by_cases hkc : k.length = c
  · have e1 : joinF c n k v = upd none (byteAt n.key c) n := by unfold joinF; rw [if_pos hkc]
    have h1 := cells_upd none hbn n
    rw [cells_none] at h1
    rw [e1, if_pos (Or.inl hkc)]
    have h3 : (none (byteAt n.key c)).cells = 0 := rfl
    omega
  · by_cases hnc : n.key.length = c
    · have e1 : joinF c n k v = upd none (byteAt k c) (leaf k v) := by unfold joinF; rw [if_neg hkc, if_pos hnc]
      have h1 := cells_upd none hbk (leaf k v)
      rw [cells_none] at h1
      rw [e1, if_pos (Or.inr hnc)]
      rcases hlf with ⟨k0, v0, rfl⟩ | h
      · have h3 : (none (byteAt k c)).cells = 0 := rfl
        have h4 : (leaf k v).cells = 1 := rfl
        have h5 : (leaf k0 v0).cells = 1 := rfl
        omega
      · omega
    · have e1 : joinF c n k v = upd (upd none (byteAt n.key c) n) (byteAt k c) (leaf k v) := by unfold joinF; rw [if_neg hkc, if_neg hnc]
      have hbb : byteAt n.key c ≠ byteAt k c := by
        have := com_bytes hkn hk (by omega) (by omega)
        rwa [← hc] at this
      have h1 := cells_upd none hbn n
      rw [cells_none] at h1
      have h2 := cells_upd (upd none (byteAt n.key c) n) hbk (leaf k v)
      rw [upd_ne _ _ _ (Ne.symm hbb)] at h2
      rw [e1, if_neg (fun h => h.elim hkc hnc)]
      have h3 : (none (byteAt k c)).cells = 0 := rfl
      have h4 : (leaf k v).cells = 1 := rfl
      have h5 : (none (byteAt n.key c)).cells = 0 := rfl
      omega
theorem putT_cells {T : RT} {k : List Int} (v : Int) (hk : KB k) : ∀ {q : List Int}, Ok q T → (putT T k v).cells = T.cells + manyT T k := by
  induction T with
  | nil => intro q _; rfl
  | leaf k0 v0 =>
    intro q h
    unfold putT manyT
    by_cases e : k0 = k
    · rw [if_pos e, if_pos e]; rfl
    · rw [if_neg e, if_neg e]
      exact join_cells (n := leaf k0 v0) h.2 hk rfl e (Or.inl ⟨k0, v0, rfl⟩)
  | node k0 o kd f ih =>
    intro q h
    unfold putT manyT
    by_cases hc : comK k0 k < k0.length
    · rw [if_pos hc, if_pos hc]
      have e : k0 ≠ k := fun e => by subst e; have := comK_of_pre (List.prefix_refl k0); omega
      exact join_cells (n := node k0 o kd f) h.2.1 hk rfl e (Or.inr hc)
    · rw [if_neg hc, if_neg hc]
      by_cases hl : k.length = k0.length
      · rw [if_pos hl, if_pos hl, cells_node, cells_node, Nat.add_zero]
      · rw [if_neg hl, if_neg hl]
        have hb := byteAt_lt hk k0.length
        by_cases hi : (f (byteAt k k0.length)).is = false
        · rw [if_pos hi, if_pos hi]
          have h1 := cells_upd f hb (leaf k v)
          have h3 : (f (byteAt k k0.length)).cells = 0 := by rw [is_false hi]; rfl
          have h4 : (leaf k v).cells = 1 := rfl
          rw [cells_node, cells_node]
          omega
        · rw [if_neg hi, if_neg hi]
          have h1 := cells_upd f hb (putT (f (byteAt k k0.length)) k v)
          rw [ih _ (h.2.2.2.1 _ hb)] at h1
          rw [cells_node, cells_node]
          omega
theorem manyT_le (T : RT) (k : List Int) : manyT T k ≤ 2 := by
  induction T with
  | nil => simp [manyT]
  | leaf k0 v0 => unfold manyT moreJ; split <;> (try split) <;> omega
  | node k0 o kd f ih =>
    unfold manyT moreJ
    split
    · split <;> omega
    · split
      · omega
      · split
        · omega
        · exact ih _
theorem many_rec {k0 k : List Int} {o : Option Int} {kd : Nat} {f : Nat → RT} (h1 : ¬ comK k0 k < k0.length) (h2 : k.length ≠ k0.length) (h3 : (f (byteAt k k0.length)).is = true) : manyT (node k0 o kd f) k = manyT (f (byteAt k k0.length)) k := by
  rw [manyT, if_neg h1, if_neg h2, if_neg (by rw [h3]; simp)]
theorem put_rec {k0 k : List Int} {o : Option Int} {kd : Nat} {f : Nat → RT} {x : Int} (h1 : ¬ comK k0 k < k0.length) (h2 : k.length ≠ k0.length) (h3 : (f (byteAt k k0.length)).is = true) :
    putT (node k0 o kd f) k x = node k0 o kd (upd f (byteAt k k0.length) (putT (f (byteAt k k0.length)) k x)) := by
  rw [putT, if_neg h1, if_neg h2, if_neg (by rw [h3]; simp)]
end RT
end Go.Proofs.YtclnnkacfanaiaaDoor
