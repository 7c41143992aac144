/- Two answers of a pair are compared. -/
import Derived.Test.YtclnnkacfanaiaaDoorRefX
namespace Go.Proofs.YtclnnkacfanaiaaDoor
open Go.RowKit
set_option linter.unusedVariables false
set_option linter.unusedSimpArgs false
theorem OP.bound {w : World} {F : Nat → Prop} {v : Value} {ps : Prs} (h : OP w F v ps) : OP w (fun b => F b ∧ b < w.heap.size) v ps := by
  obtain ⟨es, h1, h2, h3, h4, h5⟩ := h
  exact ⟨es, h1, h2, fun b hb => ⟨h3 b hb, (h2.lt b hb).2⟩, fun e he => ⟨(h4 e he).1, fun b hb => ⟨⟨((h4 e he).2 b hb).1, (h4 e he).lt b hb⟩, ((h4 e he).2 b hb).2⟩⟩, h5⟩
theorem OB.bound {w : World} {F : Nat → Prop} {v : Value} {k : List Int} (h : OB w F v k) : OB w (fun b => F b ∧ b < w.heap.size) v k := ⟨h.1, fun b hb => ⟨h.2 b hb, h.lt b hb⟩⟩
theorem Rf.self {w : World} {r : Nat} {F : Nat → Prop} {ps : Prs} (h : Rf w r F ps) : F r := by obtain ⟨_, _, _, _, h, _⟩ := h; exact h
theorem Rf.lt {w : World} {r : Nat} {F : Nat → Prop} {ps : Prs} (h : Rf w r F ps) : ∀ b, F b → b < w.heap.size := by obtain ⟨_, _, _, _, _, h, _⟩ := h; exact h
namespace AskA
open ModA ModB ModF
variable {F G : Nat → Prop}
end AskA
end Go.Proofs.YtclnnkacfanaiaaDoor
