/- The package of the laws on model: what every law calls; from a law's arguments to rows of pairs. -/
import Derived.Test.YtclnnkacfanaiaaDoorModH
import Derived.Test.YtclnnkacfanaiaaDoorModI
import Derived.Test.YtclnnkacfanaiaaDoorLaw
import Derived.Lib.SlBytesConst
import Derived.Lib.SmallJoins
namespace Go.Proofs.YtclnnkacfanaiaaDoor
open Go.RowKit
set_option linter.unusedVariables false
set_option linter.unusedSimpArgs false

namespace ModL
open ModA ModB ModF ModI
variable {F G : Nat → Prop}

abbrev Any : Nat → Prop := fun _ => True
theorem rb_any {w : World} {F : Nat → Prop} {v : Value} {k : List Int} (h : RB w F v k) : RB w Any v k := h.mono fun _ _ => trivial
theorem rb_new (w : World) (k : List Int) (t : TypeId) (fr : Nat × Nat) (g : Nat) (hg : g = w.heap.size) (hk : k.length ≤ maxLen) : RB (w.alloc (.cells (ivs .u8 k).toArray t fr)) Any (.slice (some ⟨g, 0, none⟩) k.length k.length) k := by
  subst hg
  refine ⟨_, _, rfl, Nat.le_refl _, hk, (fun h => by cases h), fun i hi => ⟨_, _, rfl, trivial, ?_⟩⟩
  rw [World.cell?_alloc_mark]
  simp [ivs, hi]

theorem rp_new (w : World) (es : List El) (t : TypeId) (g : Nat) (hg : g = w.heap.size) (hk : es.length ≤ maxLen) (hes : ∀ e ∈ es, RB w Any e.1 e.2.1) :
    RP (w.alloc (.cells (flat es).toArray t)) Any (.slice (some ⟨g, 0, none⟩) es.length es.length) (es.map (·.2)) := by
  subst hg
  refine ⟨es, rfl, ⟨_, _, rfl, Nat.le_refl _, hk, (fun h => by cases h), fun i e hi => ⟨_, _, rfl, trivial, ?_, ?_⟩⟩, fun e he => (hes e he).ext ((Touch.refl _ _).alloc _)⟩
  · rw [World.cell?_alloc_new, Nat.zero_add, List.getElem?_toArray]; exact flat_get0 es i e hi
  · rw [World.cell?_alloc_new, Nat.zero_add, List.getElem?_toArray]; exact flat_get1 es i e hi

theorem conv_lit (w : World) (C : Array Value) (n c g : Nat) (hg : g = w.heap.size) : (convert 23 23 (.slice (some ⟨g, 0, none⟩) n c)).run Tryd.prog (w.alloc (.cells C 5)) = .ok (.slice (some ⟨g, 0, none⟩) n c) (w.alloc (.cells C 5 (C.size, C.size + 1))) :=
  Joins.run_convert_bytes_const_at w _ _ C n c g hg Tryd.underlying23 Tryd.underlying5

abbrev twoP : Prs := [([97], 1), ([97, 98], 2)]
theorem mk_two : mkK [([97, 98], 2), ([97], 1)] = twoP := by decide +kernel
theorem kb_two : ∀ p ∈ [(([97, 98] : List Int), (2 : Int)), ([97], 1)], KB p.1 ∧ p.1.length ≤ 65535 := by unfold KB; decide +kernel
theorem kb_lit (k : List Int) (h : k.all (fun x => decide (0 ≤ x ∧ x < 256)) = true) : KB k := fun x hx => by have := List.all_eq_true.1 h x hx; simpa using this

theorem pair_some {w w' : World} {e : Ending} {k : List Int} {x : Int} (h : PairRet w (some (k, x)) e w') : ∃ a c, e = .returned (.tuple #[.agg #[.slice a k.length c, .int .u64 x], .bool true]) ∧ OB w' (Ge w.heap.size) (.slice a k.length c) k ∧ Ext w w' := by
  obtain ⟨⟨kv, rfl, ho⟩, ht⟩ := h
  obtain ⟨a, c, rfl⟩ := ho.shape
  exact ⟨a, c, rfl, ho, ht⟩

end ModL
end Go.Proofs.YtclnnkacfanaiaaDoor
