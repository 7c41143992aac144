/- A row of acts (a key, a value, whether it is dropped) that can be read; from a law's argument. -/
import Derived.Test.YtmdgmkmddkaadaaArg
import Derived.Test.YtmdgmkmddkaadaaModH
namespace Go.Proofs.Ytmdgmkmddkaadaa
open Go.ChangeShapes Go.WideShapes Go.ChangeAt Go.RowKit Go.Deep
set_option linter.unusedVariables false
set_option linter.unusedSimpArgs false

abbrev Acts := List (List Int × Int × Bool)
def RAct (w : World) (F : Nat → Prop) (v : Value) (xs : Acts) : Prop :=
  ∃ a cap, v = .slice a xs.length cap ∧ xs.length ≤ cap ∧ cap ≤ maxLen ∧
    ∀ i x, xs[i]? = some x → ∃ b off kv, a = some ⟨b, off, none⟩ ∧ F b ∧ w.cell? ⟨b, off + i * 3, none⟩ = some kv ∧ w.cell? ⟨b, off + i * 3 + 1, none⟩ = some (.int .u64 x.2.1) ∧ w.cell? ⟨b, off + i * 3 + 2, none⟩ = some (.bool x.2.2) ∧ RB w F kv x.1
namespace RAct
variable {w w' : World} {F S : Nat → Prop} {v : Value} {xs : Acts}
theorem ext (h : RAct w F v xs) (t : Ext w w') : RAct w' F v xs := by
  obtain ⟨a, cap, h1, h2, h3, h4⟩ := h
  refine ⟨a, cap, h1, h2, h3, fun i x hi => ?_⟩
  obtain ⟨b, off, kv, e1, e2, e3, e4, e5, e6⟩ := h4 i x hi
  exact ⟨b, off, kv, e1, e2, keepc t id e3, keepc t id e4, keepc t id e5, e6.ext t⟩
theorem shape (h : RAct w F v xs) : ∃ a cap, v = .slice a xs.length cap ∧ xs.length ≤ cap ∧ cap ≤ maxLen := by
  obtain ⟨a, cap, h1, h2, h3, h4⟩ := h
  exact ⟨a, cap, h1, h2, h3⟩
theorem addr {a : Option Addr} {n cap : Nat} (h : RAct w F (.slice a n cap) xs) (hn : 0 < xs.length) : ∃ b off, a = some ⟨b, off, none⟩ := by
  obtain ⟨a', cap', h1, _, _, h5⟩ := h
  simp only [Value.slice.injEq] at h1
  obtain ⟨rfl, _, _⟩ := h1
  obtain ⟨b, off, _, h6, _⟩ := h5 0 _ (List.getElem?_eq_getElem hn)
  exact ⟨b, off, h6⟩
theorem get {b off n cap : Nat} (h : RAct w F (.slice (some ⟨b, off, none⟩) n cap) xs) (i : Nat) (x) (hi : xs[i]? = some x) :
    ∃ kv, w.cell? ⟨b, off + i * 3, none⟩ = some kv ∧ w.cell? ⟨b, off + i * 3 + 1, none⟩ = some (.int .u64 x.2.1) ∧ w.cell? ⟨b, off + i * 3 + 2, none⟩ = some (.bool x.2.2) ∧ RB w F kv x.1 := by
  obtain ⟨a', cap', h1, _, _, h5⟩ := h
  simp only [Value.slice.injEq] at h1
  obtain ⟨rfl, _, _⟩ := h1
  obtain ⟨b', off', kv, e1, _, e2, e3, e4, e5⟩ := h5 i x hi
  simp only [Option.some.injEq, Addr.mk.injEq, and_true] at e1
  obtain ⟨rfl, rfl⟩ := e1
  exact ⟨kv, e2, e3, e4, e5⟩
end RAct

section
variable {H : Type} {enc : TypeId × Value → H} {W : World}
set_option maxRecDepth 100000 in
theorem racts_of_arg {v : Value} {d : DataW H} {ps : List MemPlace} {r : Reach} {base : Nat} (hv : Value.okWide Try.prog W r base 61 v) (h : DataW.Trod enc Try.prog W 0 (fun _ => true) true 61 v d ps) :
    ∃ xs : Acts, RAct W (fun b => b < W.heap.size) v xs ∧ ∀ x ∈ xs, KB x.1 ∧ 0 ≤ x.2.1 ∧ x.2.1 < 18446744073709551616 := by
  obtain ⟨a, len, cap, rfl, hm, hc⟩ := open_structs Try.underlying61 Try.underlying63 (by kernel_rfl) (by kernel_rfl) (by decide) hv h
  have hlc : len ≤ cap ∧ cap ≤ maxLen := by
    obtain ⟨fuel, hf⟩ := h
    rcases Deep.open_slice Try.underlying61 hf with ⟨h0, _⟩ | ⟨a', len', cap', m, n, D, Pl, hcs, hb, hl, hm, hmm, hx, hi⟩
    · simp [Value.cells] at h0
      obtain ⟨rfl, rfl, rfl⟩ := h0
      exact ⟨by simp, by simp⟩
    · simp only [Value.cells, List.cons.injEq, Value.slice.injEq, and_true] at hcs
      obtain ⟨rfl, rfl, rfl⟩ := hcs
      exact ⟨hl, hm⟩
  have hc' : ∀ k, k < len → ∃ e : List Int × Int × Bool, (∃ b off kv, a = some ⟨b, off, none⟩ ∧ b < W.heap.size ∧ W.cell? ⟨b, off + k * 3, none⟩ = some kv ∧ W.cell? ⟨b, off + k * 3 + 1, none⟩ = some (.int .u64 e.2.1) ∧ W.cell? ⟨b, off + k * 3 + 2, none⟩ = some (.bool e.2.2) ∧ RB W (fun b => b < W.heap.size) kv e.1) ∧ KB e.1 ∧ 0 ≤ e.2.1 ∧ e.2.1 < 18446744073709551616 := by
    intro k hk
    obtain ⟨b, off, rfl, hb, hf⟩ := hc k hk
    obtain ⟨c0, y0, m0, e0, h0⟩ := hf 0 _ rfl
    obtain ⟨c1, y1, m1, e1, h1⟩ := hf 1 _ rfl
    obtain ⟨c2, y2, m2, e2, h2⟩ := hf 2 _ rfl
    obtain ⟨x1, g1, _, u1⟩ := DataW.trod_int Try.underlying28 h1
    simp only [List.cons.injEq, and_true] at g1
    subst g1
    obtain ⟨x2, g2, _⟩ := DataW.trod_bool Try.underlying4 h2
    simp only [List.cons.injEq, and_true] at g2
    subst g2
    obtain ⟨kk, hk1, hk2⟩ := rb_of_trod h0
    exact ⟨(kk, x1, x2), ⟨b, off, c0, rfl, hb, e0, e1, e2, hk1⟩, hk2, u64_lit u1⟩
  obtain ⟨f, hf⟩ := Deep.choose_lt hc'
  refine ⟨(List.range len).map f, ⟨a, cap, by simp, by simpa using hlc.1, hlc.2, fun i e hi => ?_⟩, fun p hp => ?_⟩
  · rw [List.getElem?_map] at hi
    have hil : i < len := by
      rcases Nat.lt_or_ge i len with h | h
      · exact h
      · rw [List.getElem?_eq_none (by simpa using h)] at hi; cases hi
    rw [List.getElem?_range hil] at hi
    simp at hi
    subst hi
    exact (hf i hil).1
  · simp only [List.mem_map, List.mem_range] at hp
    obtain ⟨i, hi, rfl⟩ := hp
    exact (hf i hi).2
end
end Go.Proofs.Ytmdgmkmddkaadaa
