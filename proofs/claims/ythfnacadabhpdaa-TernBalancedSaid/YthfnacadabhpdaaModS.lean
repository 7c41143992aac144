/- The laws on model: what they share. -/
import Derived.Test.YthfnacadabhpdaaModR
import Derived.Test.YthfnacadabhpdaaArg
import Derived.Test.YthfnacadabhpdaaSameR
namespace Go.Proofs.Ythfnacadabhpdaa
open Go.ChangeShapes Go.WideShapes Go.ChangeAt Go.RowKit Go.Deep
set_option linter.unusedVariables false
set_option linter.unusedSimpArgs false
namespace ModS
open ModA ModB ModF ModI ModL ModP

theorem rp_push {w w' : World} {F : Nat → Prop} {v v' : Value} {es1 es2 : List El} (hk1 : ∀ e ∈ es1, OB w (fun b => F b ∧ v.ownBlock ≠ some b) e.1 e.2.1) (hk2 : ∀ e ∈ es2, RB w (fun b => v.ownBlock ≠ some b) e.1 e.2.1)
    (hown : w'.ownsRow 0 33 2 v' (es1.length + es2.length) (flat es1 ++ flat es2)) (ht : Touch (fun b => v.ownBlock = some b) w w') : RP w' Any v' (es1.map (·.2) ++ es2.map (·.2)) := by
  refine ⟨es1 ++ es2, by simp, Cells2.of_own (by rw [List.length_append, flat_append]; exact hown) (fun _ _ => trivial), fun e he => ?_⟩
  rcases List.mem_append.1 he with h | h
  · exact rb_any ((hk1 e h).rb.keep ht (fun b hb hb' => hb.2 hb'))
  · exact rb_any ((hk2 e h).keep ht (fun b hb hb' => hb hb'))

theorem wpList_push_if (w : World) {ops : Array Oper} {rest : List Oper} {o : Oper} {a : Act} {Q : Exit → Act → World → Prop} (hgd : Region.wanted o (yielded ops a.tmps) = true) (s x : Operand) (t : TypeId) (ho : o.op = .call { callee := .builtin .append, args := #[s, x], argTypes := #[t, t] })
    (e : TypeId) (z : Value) (size bytes : Nat) (ht : Try.prog.underlying t = some (.slice e)) (hi : (Try.prog.info? e).map (fun i => (i.zero, i.size, i.bytes)) = some (some z, size, bytes)) (hzs : z.cells.size = size) (hsz : 0 < size)
    (v : Value) (n : Nat) (xs : List Value) (hev : a.eval s = v) (hown : w.ownsRow 0 e size v n xs) (ad : Option Addr) (m c : Nat) (hex : a.eval x = .slice ad m c) (ha : ad = none → c = 0) (news : List Value) (hmc : m ≤ c) (hl : news.length = m * size) (hs : Src w ad news) (h1 : ∀ u ∈ news, u.oneCell' = true)
    (h63 : n + m ≤ maxLen) (hbytes : (n + m) * bytes ≤ 140737488355328)
    (h : ∀ v' w', w'.ownsRow 0 e size v' (n + m) (xs ++ news) → Touch (fun b => v.ownBlock = some b) w w' → (v'.ownBlock = v.ownBlock ∨ v'.ownBlock = some w.heap.size) → wpList Try.prog ops Q rest (a.put o.dst v') w') : wpList Try.prog ops Q (o :: rest) a w := by
  unfold wpList
  rw [if_pos hgd]
  exact Or.inl (wp_push_any w s x t ho e z size bytes ht hi hzs hsz v n xs hev hown ad m c hex ha news hmc hl hs h1 h63 hbytes h)

theorem pair_none {w w' : World} {e : Ending} (h : PairRet w none e w') : ∃ a c, e = .returned (.tuple #[.agg #[.slice a 0 c, .int .u64 0], .bool false]) ∧ OB w' (Ge w.heap.size) (.slice a 0 c) [] ∧ Ext w w' := by
  obtain ⟨⟨kv, rfl, ho⟩, ht⟩ := h
  obtain ⟨a, c, rfl⟩ := ho.shape
  exact ⟨a, c, rfl, ho, ht⟩

theorem great_not {ps : Prs} {most long : Nat} (h : SameP.great ps most long = false) : ps.length ≤ most ∧ ∀ p ∈ ps, p.1.length ≤ long := by
  unfold SameP.great at h
  simp only [Bool.or_eq_false_iff, decide_eq_false_iff_not, List.any_eq_false, decide_eq_true_eq] at h
  exact ⟨by omega, fun p hp => by have := h.2 p hp; omega⟩

end ModS
end Go.Proofs.Ythfnacadabhpdaa
