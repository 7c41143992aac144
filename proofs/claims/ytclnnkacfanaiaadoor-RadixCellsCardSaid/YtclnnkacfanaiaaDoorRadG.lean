/- A radix tree's cells: what they are; cells that are made. -/
import Derived.Test.YtclnnkacfanaiaaDoorRadB
import Derived.Test.YtclnnkacfanaiaaDoorRadX
import Derived.Test.YtclnnkacfanaiaaDoorCellM
import Derived.Deep.DeepCutAuto
namespace Go.Proofs.YtclnnkacfanaiaaDoor
open Go.RowKit
set_option linter.unusedVariables false
set_option linter.unusedSimpArgs false
open MaskA MaskP KidA KidB RadK
namespace RT
def leafC (k : List Int) (v : Int) : Cl := ⟨5, 0, 1, 0, 0, false, v, k⟩
def nodeC (k : List Int) (o : Option Int) (kd count kids : Nat) : Cl := ⟨6 + (kd : Int), 0, count, kids, 0, o.isSome, o.getD 0, k⟩
/-- a tree's cells -/
def CK : RT → Cls
  | nil => []
  | leaf k v => [leafC k v]
  | node k o kd f => nodeC k o kd (node k o kd f).prs.length (cnt (hsT f) 256) :: (List.range 256).flatMap fun i => (f i).CK
theorem CK_node (k : List Int) (o : Option Int) (kd : Nat) (f : Nat → RT) : (node k o kd f).CK = nodeC k o kd (node k o kd f).prs.length (cnt (hsT f) 256) :: (List.range 256).flatMap fun i => (f i).CK := by rw [CK]
/-- the bytes that have a child -/
def bl (f : Nat → RT) : List Nat := (List.range 256).filter (hsT f)
theorem all_bl (f : Nat → RT) : allF (hsT f) 256 = (bl f).map Int.ofNat := rfl
theorem bl_length (f : Nat → RT) : (bl f).length = cnt (hsT f) 256 := by
  have := allF_length (hsT f) 256
  rw [all_bl, List.length_map] at this
  exact this
theorem bl_mem {f : Nat → RT} {i : Nat} : i ∈ bl f ↔ i < 256 ∧ (f i).is = true := by
  unfold bl hsT; rw [List.mem_filter, List.mem_range]
theorem flat_bl {β : Type} (f : Nat → RT) (g : RT → List β) (h0 : g nil = []) : (List.range 256).flatMap (fun i => g (f i)) = (bl f).flatMap fun i => g (f i) := by
  unfold bl
  generalize List.range 256 = l
  induction l with
  | nil => rfl
  | cons a l ih =>
    rw [List.flatMap_cons, ih]
    cases hf : hsT f a with
    | true => rw [List.filter_cons_of_pos hf, List.flatMap_cons]
    | false => rw [List.filter_cons_of_neg (by simp [hf]), is_false hf, h0]; rfl
/-- the first children's cells; how many keys they have -/
def belowC (f : Nat → RT) (j : Nat) : Cls := ((bl f).take j).flatMap fun i => (f i).CK
def belowN (f : Nat → RT) (j : Nat) : Nat := (((bl f).take j).flatMap fun i => (f i).prs).length
theorem belowC_zero (f : Nat → RT) : belowC f 0 = [] := rfl
theorem belowN_zero (f : Nat → RT) : belowN f 0 = 0 := rfl
theorem belowC_succ (f : Nat → RT) {j i : Nat} (h : (bl f)[j]? = some i) : belowC f (j + 1) = belowC f j ++ (f i).CK := by
  unfold belowC; rw [List.take_add_one, h, List.flatMap_append]; simp
theorem belowN_succ (f : Nat → RT) {j i : Nat} (h : (bl f)[j]? = some i) : belowN f (j + 1) = belowN f j + (f i).prs.length := by
  unfold belowN; rw [List.take_add_one, h, List.flatMap_append, List.length_append]; simp
theorem CK_below (k : List Int) (o : Option Int) (kd : Nat) (f : Nat → RT) : (node k o kd f).CK = nodeC k o kd (node k o kd f).prs.length (cnt (hsT f) 256) :: belowC f (cnt (hsT f) 256) := by
  rw [CK_node, flat_bl f CK rfl]
  unfold belowC
  rw [← bl_length, List.take_length]
theorem prs_below (k : List Int) (o : Option Int) (kd : Nat) (f : Nat → RT) : (node k o kd f).prs.length = one o + belowN f (cnt (hsT f) 256) := by
  rw [prs_node, flat_bl f prs rfl, List.length_append]
  unfold belowN
  rw [← bl_length, List.take_length]
  cases o <;> simp [ownP, one]
theorem belowN_le (f : Nat → RT) (j : Nat) : belowN f j ≤ belowN f (cnt (hsT f) 256) := by
  unfold belowN
  rw [← bl_length, List.take_length]
  conv => rhs; rw [← List.take_append_drop j (bl f), List.flatMap_append, List.length_append]
  omega
theorem CK_length (T : RT) : T.CK.length = T.cells := by
  induction T with
  | nil => rfl
  | leaf k v => rfl
  | node k o kd f ih =>
    rw [CK_node, cells_node, List.length_cons]
    have : ∀ n, ((List.range n).flatMap fun i => (f i).CK).length = ((List.range n).map fun i => (f i).cells).sum := by
      intro n
      induction n with
      | zero => rfl
      | succ n ihn => rw [List.range_succ, List.flatMap_append, List.length_append, ihn, List.map_append, List.sum_append]; simp [ih n]
    rw [this]; omega
theorem belowC_le (f : Nat → RT) (j : Nat) : (belowC f j).length ≤ (belowC f (cnt (hsT f) 256)).length := by
  unfold belowC
  rw [← bl_length, List.take_length]
  conv => rhs; rw [← List.take_append_drop j (bl f), List.flatMap_append, List.length_append]
  omega
theorem below_child {f : Nat → RT} {i : Nat} (hi : i ∈ bl f) : (f i).cells ≤ (belowC f (cnt (hsT f) 256)).length ∧ (f i).prs.length ≤ belowN f (cnt (hsT f) 256) := by
  obtain ⟨j, hj⟩ := List.mem_iff_getElem?.1 hi
  have h1 := belowC_le f (j + 1)
  have h2 := belowN_le f (j + 1)
  rw [belowC_succ f hj, List.length_append, CK_length] at h1
  rw [belowN_succ f hj] at h2
  omega
end RT
namespace RadG
/-- new cells, each its key in new memory -/
def Nc (N : Nat) (w : World) (v : Value) (cs : Cls) : Prop := ∃ K, OC w K v cs ∧ (∀ b, K b → N ≤ b ∧ b < w.heap.size) ∧ ∀ b, v.ownBlock = some b → N ≤ b
namespace Nc
variable {N M : Nat} {w w' : World} {v : Value} {cs : Cls}
theorem nil (N : Nat) (w : World) : Nc N w (.slice none 0 0) [] := ⟨fun _ => False, OC.nil w _, fun b h => h.elim, fun b h => by cases h⟩
theorem ext (h : Nc N w v cs) (t : Ext w w') : Nc N w' v cs := by
  obtain ⟨K, h1, h2, h3⟩ := h
  exact ⟨K, h1.ext t, fun b hb => ⟨(h2 b hb).1, Nat.lt_of_lt_of_le (h2 b hb).2 t.size⟩, h3⟩
theorem mono (h : Nc N w v cs) (hM : M ≤ N) : Nc M w v cs := by
  obtain ⟨K, h1, h2, h3⟩ := h
  exact ⟨K, h1, fun b hb => ⟨by have := (h2 b hb).1; omega, (h2 b hb).2⟩, fun b hb => by have := h3 b hb; omega⟩
theorem shape (h : Nc N w v cs) : ∃ a cap, v = .slice a cs.length cap := by obtain ⟨K, h1, _⟩ := h; exact h1.shape
theorem rc (h : Nc N w v cs) : RC w (fun b => b < w.heap.size) v cs := by
  obtain ⟨K, h1, h2, _⟩ := h
  exact h1.rc.mono (fun b hb => (h2 b hb).2)
end Nc
theorem oc_keep {w w' : World} {K S : Nat → Prop} {v : Value} {cs : Cls} (h : OC w K v cs) (t : Touch S w w') (h1 : ∀ b, v.ownBlock = some b → ¬ S b) (h2 : ∀ b, K b → ¬ S b) : OC w' K v cs := by
  obtain ⟨es, e1, e2, e3, e4⟩ := h
  exact ⟨es, e1, own_keep e2 t h1, e3, fun e he => (e4 e he).keep t h2⟩
def Cb (w : World) (b : Nat) (us : List Value) : Prop := ∀ (j : Nat) u, us[j]? = some u → w.cell? ⟨b, j, none⟩ = some u ∧ w.frozen? ⟨b, j, none⟩ = false
theorem Cb.set {w : World} {b : Nat} {us : List Value} (h : Cb w b us) (k : Nat) (u : Value) : Cb (w.setCell ⟨b, k, none⟩ u) b (us.set k u) := by
  intro j x hj
  rw [World.frozen?_setCell]
  by_cases hkj : k = j
  · subst hkj
    rw [List.getElem?_set_self' ] at hj
    cases hu : us[k]? with
    | none => rw [hu] at hj; simp at hj
    | some y =>
      rw [hu] at hj
      simp at hj
      subst hj
      exact ⟨World.cell?_setCell_same _ _ _ (h k y hu).1, (h k y hu).2⟩
  · rw [List.getElem?_set_ne hkj] at hj
    exact ⟨by rw [World.cell?_setCell_other _ _ _ _ (by simp [hkj])]; exact (h j x hj).1, (h j x hj).2⟩
theorem Cb.keep {S : Nat → Prop} {w w' : World} {b : Nat} {us : List Value} (h : Cb w b us) (t : Touch S w w') (hb : ¬ S b) : Cb w' b us := fun j u hj => ⟨keepc t hb (h j u hj).1, keepf (p := ⟨b, j, none⟩) t (World.block_lt_of_cell? _ _ (h j u hj).1) hb (h j u hj).2⟩
theorem Cb.new (w : World) (us : List Value) (t : TypeId) : Cb (w.alloc (.cells us.toArray t)) w.heap.size us := fun j u hj => ⟨by rw [World.cell?_alloc_new]; simpa using hj, by simp⟩

end RadG
end Go.Proofs.YtclnnkacfanaiaaDoor
