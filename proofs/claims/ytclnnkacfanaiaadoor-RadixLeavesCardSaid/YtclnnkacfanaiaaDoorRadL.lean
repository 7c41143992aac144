/- Plain laws: what a radix tree's cells tell. -/
import Derived.Test.YtclnnkacfanaiaaDoorRadG
import Derived.Test.YtclnnkacfanaiaaDoorRadF
namespace Go.Proofs.YtclnnkacfanaiaaDoor
set_option linter.unusedVariables false
set_option linter.unusedSimpArgs false
open MaskA MaskP KidA KidB RadK
namespace RadL
open RT
def isLF (c : Cl) : Bool := c.kind == 5 || c.full
theorem one_of {β : Type} {h : Nat → List β} {i : Nat} : ∀ {n : Nat}, i < n → (∀ j, j < n → j ≠ i → h j = []) → (List.range n).flatMap h = h i
  | 0, hi, _ => by omega
  | n + 1, hi, hh => by
    rw [List.range_succ, List.flatMap_append]
    by_cases e : i = n
    · subst e
      have : (List.range i).flatMap h = [] := List.flatMap_eq_nil_iff.2 fun j hj => hh j (by have := List.mem_range.1 hj; omega) (by have := List.mem_range.1 hj; omega)
      rw [this]; simp
    · rw [one_of (n := n) (by omega) (fun j hj hne => hh j (by omega) hne)]
      simp [hh n (by omega) (Ne.symm e)]
theorem ck_pre {T : RT} : ∀ {q : List Int}, Ok q T → ∀ c ∈ T.CK, q <+: c.key ∧ KB c.key := by
  induction T with
  | nil => intro q _ c hc; simp [CK] at hc
  | leaf k v => intro q h c hc; simp [CK] at hc; subst hc; exact h
  | node k o kd f ih =>
    intro q h c hc
    rw [CK_node] at hc
    rcases List.mem_cons.1 hc with rfl | hc
    · exact ⟨h.1, h.2.1⟩
    · obtain ⟨i, hi, hc⟩ := List.mem_flatMap.1 hc
      have := ih i (h.2.2.2.1 i (List.mem_range.1 hi)) c hc
      exact ⟨(h.1.trans (List.prefix_append _ _)).trans this.1, this.2⟩
theorem pre_ne {w x a : List Int} {i j : Nat} (h1 : w ++ [(i : Int)] <+: x) (h2 : w ++ [(j : Int)] <+: x) : i = j := by
  have e1 := pre_byte_eq h1
  have e2 := pre_byte_eq h2
  omega
/-- what is asked of a cell, of all pairs -/
def Tells (M : Prs) (c : Cl) : Prop :=
  (isLF c = true → (c.key, c.val) ∈ M) ∧ (isLF c = false → (∀ v, (c.key, v) ∉ M) ∧ c.count = ((M.filter fun p => begK p.1 c.key).length : Nat) ∧ 2 ≤ c.kids)
theorem ck_tells {T : RT} : ∀ {q : List Int}, Ok q T → ∀ c ∈ T.CK, Tells T.prs c := by
  induction T with
  | nil => intro q _ c hc; simp [CK] at hc
  | leaf k v =>
    intro q h c hc
    simp [CK] at hc
    subst hc
    exact ⟨fun _ => by simp [prs, leafC], fun h => by simp [isLF, leafC] at h⟩
  | node k o kd f ih =>
    intro q h c hc
    have hch : ∀ i, i < 256 → ∀ p ∈ (f i).prs, k ++ [(i : Int)] <+: p.1 := fun i hi p hp => child_pre h hi hp
    rw [CK_node] at hc
    rcases List.mem_cons.1 hc with rfl | hc
    · refine ⟨fun hf => ?_, fun hf => ⟨fun v hv => ?_, ?_, ?_⟩⟩
      · cases ho : o with
        | none => rw [ho] at hf; simp [isLF, nodeC] at hf; omega
        | some v => rw [mem_node]; exact Or.inl ⟨v, rfl, rfl⟩
      · have ho : o = Option.none := by cases o with | none => rfl | some x => simp [isLF, nodeC] at hf
        rcases mem_node.1 hv with ⟨x, hx, _⟩ | ⟨i, hi, hp⟩
        · rw [ho] at hx; cases hx
        · have := pre_len (hch i hi _ hp); simp [nodeC] at this
      · have : (node k o kd f).prs.filter (fun p => begK p.1 k) = (node k o kd f).prs := List.filter_eq_self.2 fun p hp => by
          rw [RadF.beg_pre]
          rcases mem_node.1 hp with ⟨x, _, rfl⟩ | ⟨i, hi, hp⟩
          · exact List.prefix_refl _
          · exact (List.prefix_append _ _).trans (hch i hi p hp)
        show ((node k o kd f).prs.length : Int) = _
        rw [show (nodeC k o kd (node k o kd f).prs.length (cnt (hsT f) 256)).key = k from rfl, this]
      · have ho : o = Option.none := by cases o with | none => rfl | some x => simp [isLF, nodeC] at hf
        have h2 := h.2.2.2.2.1
        rw [ho] at h2
        simp [one] at h2
        show (2 : Int) ≤ ((cnt (hsT f) 256 : Nat) : Int)
        omega
    · obtain ⟨i, hi, hc⟩ := List.mem_flatMap.1 hc
      have hi := List.mem_range.1 hi
      have hoi := h.2.2.2.1 i hi
      obtain ⟨hp1, _⟩ := ck_pre hoi c hc
      obtain ⟨t1, t2⟩ := ih i hoi c hc
      refine ⟨fun hf => mem_node.2 (Or.inr ⟨i, hi, t1 hf⟩), fun hf => ?_⟩
      obtain ⟨u1, u2, u3⟩ := t2 hf
      refine ⟨fun v hv => ?_, ?_, u3⟩
      · rcases mem_node.1 hv with ⟨x, _, e⟩ | ⟨j, hj, hp⟩
        · have e1 : c.key = k := congrArg Prod.fst e
          have := pre_len hp1; rw [e1] at this; omega
        · have e1 := pre_ne (a := []) hp1 (hch j hj _ hp)
          subst e1; exact u1 v hp
      · rw [u2, prs_node, List.filter_append, List.filter_flatMap]
        have e0 : (ownP k o).filter (fun p => begK p.1 c.key) = [] := List.filter_eq_nil_iff.2 fun p hp => by
          obtain ⟨v, _, rfl⟩ := ownP_mem.1 hp
          rw [RadF.beg_pre]
          intro hb
          have h1 := pre_len hp1
          have h2 := hb.length_le
          simp only at h2; omega
        rw [e0, List.nil_append, one_of (h := fun j => (f j).prs.filter fun p => begK p.1 c.key) hi (fun j hj hne => List.filter_eq_nil_iff.2 fun p hp => by
          rw [RadF.beg_pre]
          intro hb
          exact hne (pre_ne (a := []) (hch j hj p hp) (hp1.trans hb)))]
theorem ck_many (T : RT) : T.CK.countP isLF = T.prs.length := by
  induction T with
  | nil => rfl
  | leaf k v => rfl
  | node k o kd f ih =>
    rw [CK_node, prs_node, List.countP_cons, List.length_append]
    have : ∀ n, ((List.range n).flatMap fun i => (f i).CK).countP isLF = ((List.range n).flatMap fun i => (f i).prs).length := by
      intro n
      induction n with
      | zero => rfl
      | succ n ihn => rw [List.range_succ, List.flatMap_append, List.flatMap_append, List.countP_append, List.length_append, ihn]; simp [ih n]
    rw [this]
    have e : ∀ n m, isLF (nodeC k o kd n m) = o.isSome := fun n m => by
      show ((6 + (kd : Int)) == 5 || o.isSome) = o.isSome
      have : ((6 + (kd : Int)) == 5) = false := by simp; omega
      rw [this]; rfl
    rw [e]
    cases o <;> simp [ownP] <;> omega
theorem ck_len {T : RT} {L : Nat} : ∀ {q : List Int}, Ok q T → (∀ p ∈ T.prs, p.1.length ≤ L) → ∀ c ∈ T.CK, c.key.length ≤ L := by
  induction T with
  | nil => intro q _ _ c hc; simp [CK] at hc
  | leaf k v => intro q h hL c hc; simp [CK] at hc; subst hc; exact hL (k, v) (by simp [prs])
  | node k o kd f ih =>
    intro q h hL c hc
    rw [CK_node] at hc
    rcases List.mem_cons.1 hc with rfl | hc
    · exact h.key_le hL
    · obtain ⟨i, hi, hc⟩ := List.mem_flatMap.1 hc
      have hi := List.mem_range.1 hi
      exact ih i (h.2.2.2.1 i hi) (fun p hp => hL p (mem_node.2 (Or.inr ⟨i, hi, hp⟩))) c hc
end RadL
end Go.Proofs.YtclnnkacfanaiaaDoor
