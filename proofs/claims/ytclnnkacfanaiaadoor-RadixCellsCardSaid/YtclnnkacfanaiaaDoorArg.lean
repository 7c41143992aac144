/- From a law's arguments to keys and rows of pairs. -/
import Derived.Test.YtclnnkacfanaiaaDoorMem
import Derived.Test.YtclnnkacfanaiaaDoorLaw
namespace Go.Proofs.YtclnnkacfanaiaaDoor
open Go.ChangeShapes Go.WideShapes Go.ChangeAt Go.RowKit Go.Deep
set_option linter.unusedVariables false
set_option linter.unusedSimpArgs false

section
variable {H : Type} {enc : TypeId × Value → H} {W : World}

theorem u8_lit {x : Int} (h : (Lit.int .u8 x).wf = true) : 0 ≤ x ∧ x < 256 := by
  simp [Lit.wf, IntKind.min, IntKind.max, IntKind.signed, IntKind.bits] at h
  omega
theorem u64_lit {x : Int} (h : (Lit.int .u64 x).wf = true) : 0 ≤ x ∧ x < 18446744073709551616 := by
  simp [Lit.wf, IntKind.min, IntKind.max, IntKind.signed, IntKind.bits] at h
  omega

set_option maxRecDepth 100000 in
/-- bytes, read wherever they lie -/
theorem rb_of_trod {n : Nat} {c : Value} {y : DataW H × List MemPlace} (h : DataW.trod enc Tryd.prog W 0 (fun _ => true) true n 23 [c] = some y) : ∃ k, RB W (fun b => b < W.heap.size) c k ∧ KB k := by
  rcases Deep.open_slice1 Tryd.underlying23 (by kernel_rfl) h with ⟨h0, _⟩ | ⟨a, len, cap, m, n', V, D, Pl, hcs, hb, hl, hm, hmm, _, hx⟩
  · simp only [List.cons.injEq, and_true] at h0
    subst h0
    exact ⟨[], RB.nil _ _, fun x hx => by simp at hx⟩
  · simp only [List.cons.injEq, and_true] at hcs
    subst hcs
    have hlm : len ≤ m := by rw [hmm]; simp; omega
    have hc' : ∀ k, k < len → ∃ x : Int, W.cell? (a.add k) = some (.int .u8 x) ∧ (0 ≤ x ∧ x < 256) := by
      intro k hk
      obtain ⟨h1, h2⟩ := hx k (by omega)
      obtain ⟨x, e1, _, e3⟩ := DataW.trod_int Tryd.underlying5 h2
      simp only [List.cons.injEq, and_true] at e1
      rw [e1] at h1
      exact ⟨x, h1, u8_lit e3⟩
    obtain ⟨f, hf⟩ := Deep.choose_lt hc'
    have hspot : 0 < len → a.spot = none := by
      intro h0
      obtain ⟨h1, _⟩ := hf 0 h0
      have e0 : a.add 0 = a := by simp [Addr.add]
      rw [e0] at h1
      unfold World.cell? at h1
      split at h1
      · split at h1
        · cases h1
        · rename_i hs; simpa using hs
      · cases h1
    refine ⟨(List.range len).map f, ⟨some a, cap, by simp, by simpa using hl, hm, (fun h => by cases h), fun i hi => ?_⟩, fun x hx => ?_⟩
    · have hi' : i < len := by simpa using hi
      have hs := hspot (by omega)
      obtain ⟨b, off, sp⟩ := a
      simp only at hs
      subst hs
      obtain ⟨h1, _⟩ := hf i hi'
      rw [add_at] at h1
      exact ⟨b, off, rfl, World.block_lt_of_cell? _ _ h1, by simpa using h1⟩
    · simp only [List.mem_map, List.mem_range] at hx
      obtain ⟨i, hi, rfl⟩ := hx
      exact (hf i hi).2

set_option maxRecDepth 100000 in
theorem rb_of_arg {v : Value} {d : DataW H} {ps : List MemPlace} {r : Reach} {base : Nat} (hv : Value.okWide Tryd.prog W r base 23 v) (h : DataW.Trod enc Tryd.prog W 0 (fun _ => true) true 23 v d ps) : ∃ k, RB W (fun b => b < W.heap.size) v k ∧ KB k := by
  obtain ⟨a, l, c, rfl⟩ := okWide_slice Tryd.underlying23 hv
  obtain ⟨fuel, hf⟩ := h
  exact rb_of_trod hf

set_option maxRecDepth 100000 in
/-- a row of pairs, read wherever it lies -/
theorem rp_of_arg {v : Value} {d : DataW H} {ps : List MemPlace} {r : Reach} {base : Nat} (hv : Value.okWide Tryd.prog W r base 22 v) (h : DataW.Trod enc Tryd.prog W 0 (fun _ => true) true 22 v d ps) :
    ∃ qs : Prs, RP W (fun b => b < W.heap.size) v qs ∧ ∀ p ∈ qs, KB p.1 ∧ 0 ≤ p.2 ∧ p.2 < 18446744073709551616 := by
  obtain ⟨a, len, cap, rfl, hm, hc⟩ := open_structs Tryd.underlying22 Tryd.underlying33 (by kernel_rfl) (by kernel_rfl) (by decide) hv h
  have hlc : len ≤ cap ∧ cap ≤ maxLen ∧ (a = none → cap = 0) := by
    obtain ⟨fuel, hf⟩ := h
    rcases Deep.open_slice Tryd.underlying22 hf with ⟨h0, _⟩ | ⟨a', len', cap', m, n, D, Pl, hcs, hb, hl, hm, hmm, hx, hi⟩
    · simp [Value.cells] at h0
      obtain ⟨rfl, rfl, rfl⟩ := h0
      exact ⟨by simp, by simp, fun _ => rfl⟩
    · simp only [Value.cells, List.cons.injEq, Value.slice.injEq, and_true] at hcs
      obtain ⟨rfl, rfl, rfl⟩ := hcs
      exact ⟨hl, hm, fun h => by cases h⟩
  have hc' : ∀ k, k < len → ∃ e : El, (∃ b off, a = some ⟨b, off, none⟩ ∧ b < W.heap.size ∧ W.cell? ⟨b, off + k * 2, none⟩ = some e.1 ∧ W.cell? ⟨b, off + k * 2 + 1, none⟩ = some (.int .u64 e.2.2)) ∧ RB W (fun b => b < W.heap.size) e.1 e.2.1 ∧ KB e.2.1 ∧ 0 ≤ e.2.2 ∧ e.2.2 < 18446744073709551616 := by
    intro k hk
    obtain ⟨b, off, rfl, hb, hf⟩ := hc k hk
    obtain ⟨c0, y0, m0, e0, h0⟩ := hf 0 _ rfl
    obtain ⟨c1, y1, m1, e1, h1⟩ := hf 1 _ rfl
    obtain ⟨x1, g1, _, u1⟩ := DataW.trod_int Tryd.underlying28 h1
    simp only [List.cons.injEq, and_true] at g1
    subst g1
    obtain ⟨kk, hk1, hk2⟩ := rb_of_trod h0
    exact ⟨(c0, kk, x1), ⟨b, off, rfl, hb, e0, e1⟩, hk1, hk2, u64_lit u1⟩
  obtain ⟨f, hf⟩ := Deep.choose_lt hc'
  refine ⟨((List.range len).map f).map (·.2), ⟨(List.range len).map f, rfl, ⟨a, cap, by simp, by simpa using hlc.1, hlc.2.1, hlc.2.2, fun i e hi => ?_⟩, fun e he => ?_⟩, fun p hp => ?_⟩
  · rw [List.getElem?_map] at hi
    have hil : i < len := by
      rcases Nat.lt_or_ge i len with h | h
      · exact h
      · rw [List.getElem?_eq_none (by simpa using h)] at hi; cases hi
    rw [List.getElem?_range hil] at hi
    simp at hi
    subst hi
    exact (hf i hil).1
  · simp only [List.mem_map, List.mem_range] at he
    obtain ⟨i, hi, rfl⟩ := he
    exact (hf i hi).2.1
  · simp only [List.mem_map, List.mem_range] at hp
    obtain ⟨e, ⟨i, hi, rfl⟩, rfl⟩ := hp
    exact (hf i hi).2.2
end
end Go.Proofs.YtclnnkacfanaiaaDoor
