/- A region that draws its order, walked once, by an order that is laid down beforehand. No program in sight. -/
import Derived.Test.YtfibglpiohkcoaaBase
import Derived.OrdersHeld
import Derived.Deep.RegionHeld3
namespace Go.Proofs.Ytfibglpiohkcoaa
open Go.RowKit
set_option linter.unusedVariables false
set_option linter.unusedSimpArgs false

section
variable {P : Program} {ops : Array Oper} {Q : Exit → Act → World → Prop} {S : World → Prop}

/-- the order: each operation's number, and whether it is taken ahead of all others that could come -/
def planOk (ops : Array Oper) : Array Bool → List (Nat × Bool) → Bool
  | listed, [] => (Region.ready .any ops listed).isEmpty
  | listed, (i, true) :: l => (Region.ready .any ops listed).contains i && Region.free .any ops listed i && planOk ops (listed.setIfInBounds i true) l
  | listed, (i, false) :: l => (Region.ready .any ops listed) == [i] && planOk ops (listed.setIfInBounds i true) l

/-- the walk in that order: what is taken ahead yields its value in every world that meets S -/
def wpPlan (P : Program) (ops : Array Oper) (Q : Exit → Act → World → Prop) (S : World → Prop) : List (Nat × Bool) → Act → World → Prop
  | [], a, w => Q .normal a w
  | (i, true) :: l, a, w => ∃ o v, ops[i]? = some o ∧ YieldsIf P ops S o v a ∧ wpPlan P ops Q S l (a.put o.dst v) w
  | (i, false) :: l, a, w => wpOp P ops Q i (fun a' w' => S w' ∧ wpPlan P ops Q S l a' w') a w

theorem wpPlan_sound (hs : Region.noSelect ops = true) (hQ : ∀ d v c a w, Q (.panic c) (Act.put a d v) w → Q (.panic c) a w) : ∀ (l : List (Nat × Bool)) (k : Nat) (listed : Array Bool) (a : Act) (w : World),
    planOk ops listed l = true → S w → wpPlan P ops Q S l a w → wpAnyH P .any ops Q S (l.length + k) listed a w := by
  intro l
  induction l with
  | nil =>
    intro k listed a w hok _ h
    simp only [planOk] at hok
    exact wpAnyH_done (List.isEmpty_iff.1 hok) h _
  | cons x l ih =>
    obtain ⟨i, b⟩ := x
    intro k listed a w hok hS h
    rw [show ((i, b) :: l).length + k = (l.length + k) + 1 by simp only [List.length_cons]; omega]
    cases b with
    | true =>
      simp only [planOk, Bool.and_eq_true] at hok
      obtain ⟨o, v, ho, hy, h'⟩ := h
      exact wpAnyH_take ho hs hok.1.2 hok.1.1 (fun c a w => hQ o.dst v c a w) hy hS (ih k _ _ _ hok.2 hS h')
    | false =>
      simp only [planOk, Bool.and_eq_true, beq_iff_eq] at hok
      refine wpAnyH_all hok.1 (by simp) ?_
      intro j hj
      simp only [List.mem_singleton] at hj
      subst hj
      exact wpOp_mono (fun a' w' h' => ⟨h'.1, ih k _ _ _ hok.2 h'.1 h'.2⟩) h

end

/-- K at the region's end, and no other way out -/
def AtEnd (K : Act → World → Prop) : Exit → Act → World → Prop
  | .normal, a, w => K a w
  | _, _, _ => False
/-- the walk, closed to unfolding -/
structure Planned (P : Program) (L : List Oper) (K : Act → World → Prop) (S : World → Prop) (l : List (Nat × Bool)) (a : Act) (w : World) : Prop where
  out : wpPlan P L.toArray (AtEnd K) S l a w

section
variable {P : Program} {L : List Oper} {Q : Exit → Act → World → Prop} {K : Act → World → Prop} {S : World → Prop}
/-- THE REGION, its operations written out; it is shown not to panic. What follows stands behind a variable. -/
theorem wp_region_plan {id : Nat} {a : Act} {w : World} (l : List (Nat × Bool)) (S : World → Prop) (hm : P.follows .mixedOrders = true) (hs : Region.noSelect L.toArray = true)
    (hok : planOk L.toArray (Array.replicate L.toArray.size false) l = true) (hlen : l.length = L.length)
    (hS : S w.drew) (h : ∀ K : Act → World → Prop, Hid (∀ a w, Q .normal a w → K a w) → Planned P L K S l a w.drew) : (Code.region id L.toArray true).wp P Q a w := by
  refine Code.wp_mono (Q := AtEnd (Q .normal)) ?_ (wp_region_held (S := S) hm ?_)
  · intro e a w h
    cases e <;> first | exact h | exact (h : False).elim
  have := wpPlan_sound (P := P) (S := S) (Q := AtEnd (Q .normal)) hs (fun _ _ _ _ _ h => h) l 0 (Array.replicate L.toArray.size false) a w.drew hok hS (h (Q .normal) (Lib.hid fun _ _ h => h)).out
  rw [hlen] at this
  exact this

theorem wpPlan_done {a : Act} {w : World} (h : K a w) : Planned P L K S [] a w := ⟨h⟩
theorem plan_at {i : Nat} {o : Oper} (ho : L[i]? = some o) : L.toArray[i]? = some o := by simpa using ho
/-- taken ahead: it runs -/
theorem wpPlan_take {i : Nat} {l : List (Nat × Bool)} {a : Act} {w : World} {o : Oper} {v : Value} (ho : L[i]? = some o) (hw : Region.wanted o (yielded L.toArray a.tmps) = true)
    (hy : ∀ w, S w → (execOp a.eval o).run P w = .ok (.value v) w) (h : Planned P L K S l (a.put o.dst v) w) : Planned P L K S ((i, true) :: l) a w := ⟨o, v, plan_at ho, Or.inl ⟨hw, hy⟩, h.out⟩
/-- taken ahead: its guard says no -/
theorem wpPlan_skip {i : Nat} {l : List (Nat × Bool)} {a : Act} {w : World} {o : Oper} (ho : L[i]? = some o) (hw : Region.wanted o (yielded L.toArray a.tmps) = false)
    (h : Planned P L K S l (a.put o.dst undef) w) : Planned P L K S ((i, true) :: l) a w := ⟨o, undef, plan_at ho, Or.inr ⟨hw, rfl⟩, h.out⟩
/-- the one that must come: it runs -/
theorem wpPlan_must {i : Nat} {l : List (Nat × Bool)} {a : Act} {w : World} {o : Oper} (ho : L[i]? = some o) (hw : Region.wanted o (yielded L.toArray a.tmps) = true)
    (h : ∀ K' : Act → World → Prop, Hid (∀ a' w', S w' → Planned P L K S l a' w' → K' a' w') → o.wp P a w K' (AtEnd K)) : Planned P L K S ((i, false) :: l) a w := by
  refine ⟨?_⟩
  show wpOp P L.toArray (AtEnd K) i _ a w
  unfold wpOp
  simp only [plan_at ho, hw, if_true]
  exact Or.inl (h _ (Lib.hid fun a' w' h1 h2 => ⟨h1, h2.out⟩))
theorem wpPlan_pass {i : Nat} {l : List (Nat × Bool)} {a : Act} {w : World} {o : Oper} (ho : L[i]? = some o) (hw : Region.wanted o (yielded L.toArray a.tmps) = false) (hS : S w)
    (h : Planned P L K S l (a.put o.dst undef) w) : Planned P L K S ((i, false) :: l) a w := by
  refine ⟨?_⟩
  show wpOp P L.toArray (AtEnd K) i _ a w
  unfold wpOp
  simp only [plan_at ho, hw, Bool.false_eq_true, if_false]
  exact ⟨hS, h.out⟩
end
end Go.Proofs.Ytfibglpiohkcoaa
