/- Plain laws for ModelOrder; a row of pairs that is put together of others. -/
import Derived.Test.YthfnacadabhpdaaModS
namespace Go.Proofs.Ythfnacadabhpdaa
open Go.ChangeShapes Go.WideShapes Go.ChangeAt Go.RowKit Go.Deep
set_option linter.unusedVariables false
set_option linter.unusedSimpArgs false
namespace ModT
open ModA ModB ModF ModI ModL ModP ModR ModS

theorem sel_at {M : Prs} {i : Nat} {p : List Int × Int} (h : M[i]? = some p) : selK M (i : Int) = some (p.1, p.2) := by
  unfold selK; rw [if_pos (by omega)]; simpa using h
theorem floor_at {M : Prs} (hr : Rises M) {i : Nat} {p : List Int × Int} (h : M[i]? = some p) : floorK M p.1 = some (p.1, p.2) := by
  obtain ⟨h1, h2, _⟩ := at_rk hr h
  unfold floorK; rw [h2, h1, if_pos rfl]; exact sel_at h
theorem ceil_at {M : Prs} (hr : Rises M) {i : Nat} {p : List Int × Int} (h : M[i]? = some p) : ceilK M p.1 = some (p.1, p.2) := by
  obtain ⟨h1, _, _⟩ := at_rk hr h
  unfold ceilK; rw [h1]; exact sel_at h

theorem next_ge : ∀ {a b : List Int}, cmpK a b < 0 → KB b → ¬ cmpK b (a ++ [0]) < 0
  | [], [], h, _ => by simp [cmpK] at h
  | [], y :: ys, _, hb => by
    have := hb.head
    show ¬ cmpK (y :: ys) [0] < 0
    unfold cmpK
    rw [if_neg (by omega)]
    split
    · omega
    · cases ys <;> simp [cmpK]
  | x :: a, [], h, _ => by simp [cmpK] at h
  | x :: a, y :: b, h, hb => by
    unfold cmpK at h
    show ¬ cmpK (y :: b) (x :: (a ++ [0])) < 0
    unfold cmpK
    split at h
    · rename_i hxy
      rw [if_neg (by omega), if_pos hxy]; omega
    · rename_i h1
      split at h
      · omega
      · rename_i h2
        rw [if_neg h2, if_neg h1]
        exact next_ge h hb.tail
theorem rk_next {M : Prs} (hr : Rises M) (hk : ∀ p ∈ M, KB p.1) {i : Nat} {p : List Int × Int} (h : M[i]? = some p) : rk M (p.1 ++ [0]) = i + 1 := by
  have hi := (List.getElem?_eq_some_iff.1 h).1
  have h0 : cmpK p.1 (p.1 ++ [0]) < 0 := cmpK_prefix (List.prefix_append _ _) (by simp)
  refine rk_eq (by omega) (fun j q hj hq => ltK_iff.2 ?_) (fun q hq => ltK_false.2 ?_)
  · rcases Nat.eq_or_lt_of_le (Nat.le_of_lt_succ hj) with e | e
    · subst e; rw [h] at hq; cases hq; exact h0
    · exact cmpK_trans (hr.get hq h e) h0
  · exact next_ge (hr.get h hq (by omega)) (hk q (List.mem_of_getElem? hq))

theorem drop_first {M : Prs} (hr : Rises M) {i : Nat} {p : List Int × Int} (h : M[i]? = some p) : hasK (M.drop i) p.1 = true ∧ valK (M.drop i) p.1 = p.2 ∧ dropK (M.drop i) p.1 = M.drop (i + 1) := by
  have h0 : (M.drop i)[0]? = some p := by rw [List.getElem?_drop]; exact h
  obtain ⟨h1, h2, h3⟩ := at_rk (rises_drop hr i) h0
  refine ⟨h2, h3, ?_⟩
  unfold dropK
  rw [h1, h2]
  simp [List.drop_drop]

/-- a row of pairs of its own; the keys lie elsewhere -/
def Pt (w : World) (N : Nat) (v : Value) (es : List El) : Prop :=
  w.ownsRow 0 33 2 v es.length (flat es) ∧ (∀ b, v.ownBlock = some b → N ≤ b) ∧ ∀ e ∈ es, RB w (fun b => b < w.heap.size ∧ v.ownBlock ≠ some b) e.1 e.2.1
theorem Pt.nil (w : World) (N : Nat) : Pt w N (.slice none 0 0) [] := ⟨World.ownsRow_nil _ _ _ _, (fun b h => by cases h), fun e h => by simp at h⟩
theorem Pt.ext {w w' : World} {N : Nat} {v : Value} {es : List El} (h : Pt w N v es) (t : Ext w w') : Pt w' N v es :=
  ⟨own_keep h.1 t (fun _ _ h => h), h.2.1, fun e he => ((h.2.2 e he).ext t).mono (fun b hb => ⟨Nat.lt_of_lt_of_le hb.1 t.size, hb.2⟩)⟩
theorem Pt.rp {w : World} {N : Nat} {v : Value} {es : List El} (h : Pt w N v es) : RP w Any v (es.map (·.2)) :=
  ⟨es, rfl, Cells2.of_own h.1 (fun _ _ => trivial), fun e he => rb_any (h.2.2 e he)⟩
theorem Pt.push {w w' : World} {N : Nat} {v v' : Value} {es1 es2 : List El} (h : Pt w N v es1) (hN : N ≤ w.heap.size) (hk2 : ∀ e ∈ es2, RB w (fun b => b < w.heap.size ∧ v.ownBlock ≠ some b) e.1 e.2.1)
    (hown : w'.ownsRow 0 33 2 v' (es1.length + es2.length) (flat es1 ++ flat es2)) (ht : Touch (fun b => v.ownBlock = some b) w w') (hb : v'.ownBlock = v.ownBlock ∨ v'.ownBlock = some w.heap.size) : Pt w' N v' (es1 ++ es2) := by
  have hne : ∀ b, b < w.heap.size ∧ v.ownBlock ≠ some b → b < w'.heap.size ∧ v'.ownBlock ≠ some b := by
    rintro b ⟨h1, h2⟩
    refine ⟨Nat.lt_of_lt_of_le h1 ht.size, ?_⟩
    rcases hb with h3 | h3
    · rw [h3]; exact h2
    · rw [h3]; intro h; cases h; omega
  refine ⟨by rw [List.length_append, flat_append]; exact hown, fun b hb' => ?_, fun e he => ?_⟩
  · rcases hb with h3 | h3
    · exact h.2.1 b (h3 ▸ hb')
    · rw [h3] at hb'; cases hb'; exact hN
  · rcases List.mem_append.1 he with h1 | h1
    · exact ((h.2.2 e h1).keep ht (fun b hb hb' => hb.2 hb')).mono hne
    · exact ((hk2 e h1).keep ht (fun b hb hb' => hb.2 hb')).mono hne
/-- the pairs of a row that another function made, behind world w0 -/
theorem op_keys {w : World} {F : Nat → Prop} {v : Value} {ps : Prs} (h : OP w F v ps) : ∃ es : List El, es.map (·.2) = ps ∧ Cells2 w F v es ∧ ∀ e ∈ es, RB w (fun b => F b ∧ b < w.heap.size) e.1 e.2.1 := by
  obtain ⟨es, h1, h2, h3, h4, _⟩ := h
  refine ⟨es, h1, Cells2.of_own h2 h3, fun e he => ?_⟩
  have ho := h4 e he
  exact OB.rb ⟨ho.1, fun b hb => ⟨(ho.2 b hb).1, ho.lt b hb⟩⟩
end ModT
end Go.Proofs.Ythfnacadabhpdaa
