/- A radix tree's cells: every tree; and Shape. -/
import Derived.Test.YtclnnkacfanaiaaDoorRadH
namespace Go.Proofs.YtclnnkacfanaiaaDoor
open Go.RowKit
set_option linter.unusedVariables false
set_option linter.unusedSimpArgs false
namespace RadI
open MaskA MaskP KidA KidB RadK RadM RadA RadB RadG RadH
theorem sum_mem : ∀ {l : List Nat} {x : Nat}, x ∈ l → x ≤ l.sum := by
  intro l
  induction l with
  | nil => intro x h; cases h
  | cons a l ih =>
    intro x h
    rw [List.sum_cons]
    rcases List.mem_cons.1 h with h | h
    · omega
    · have := ih h; omega
theorem sub_cells (k : List Int) (o : Option Int) (kd : Nat) (f : Nat → RT) {i : Nat} (h : i < 256) : (f i).cells ≤ (RT.node k o kd f).cells := by
  rw [RT.cells_node]
  have := sum_mem (l := (List.range 256).map fun i => (f i).cells) (x := (f i).cells) (List.mem_map.2 ⟨i, List.mem_range.2 h, rfl⟩)
  omega
theorem sub_prs (k : List Int) (o : Option Int) (kd : Nat) (f : Nat → RT) {i : Nat} (h : i < 256) : (f i).prs.length ≤ (RT.node k o kd f).prs.length := by
  have := sum_mem (l := (List.range 256).map fun i => (f i).prs.length) (x := (f i).prs.length) (List.mem_map.2 ⟨i, List.mem_range.2 h, rfl⟩)
  rw [RT.prs, List.length_append, List.length_flatMap]
  omega
theorem mem_prs (k : List Int) (o : Option Int) (kd : Nat) (f : Nat → RT) {i : Nat} (h : i < 256) {p : List Int × Int} (hp : p ∈ (f i).prs) : p ∈ (RT.node k o kd f).prs := by
  rw [RT.prs, List.mem_append]
  exact Or.inr (List.mem_flatMap.2 ⟨i, List.mem_range.2 h, hp⟩)
theorem cells_any (T : RT) (K : Nat → Prop) : ∀ (w : World) (F : Nat → Prop) (v : Value) (q : List Int), T.is = true → Rn w K F v T → RT.Ok q T → (∀ p ∈ T.prs, p.1.length ≤ 65535) → T.cells ≤ 10000000 → T.prs.length ≤ 10000000 → Calls Tryd.prog 58 #[v] w (CellsRet w T) := by
  induction T with
  | nil => intro w F v q h; cases h
  | leaf k x =>
    intro w F v q _ h _ hl _ _
    exact cells_leaf w K F v k x h (hl (k, x) (by rw [RT.prs]; exact List.mem_singleton.2 rfl))
  | node k o kd f ih =>
    intro w F v q _ h hok hl hc hp
    refine cells_node w K F v q k o kd f h hok hl hc hp (fun i W F' v' hi h256 hr => ?_)
    exact ih i W F' v' (k ++ [(i : Int)]) hi hr (hok.2.2.2.1 i h256) (fun p hp => hl p (mem_prs k o kd f h256 hp)) (Nat.le_trans (sub_cells k o kd f h256) hc) (Nat.le_trans (sub_prs k o kd f h256) hp)
end RadI
end Go.Proofs.YtclnnkacfanaiaaDoor
