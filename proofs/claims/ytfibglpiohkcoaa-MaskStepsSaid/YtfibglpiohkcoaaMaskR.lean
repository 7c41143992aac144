/- Masks: a law's argument of four numbers; rows of bytes of one's own. -/
import Derived.Test.YtfibglpiohkcoaaMaskQ
import Derived.Test.YtfibglpiohkcoaaMem
import Derived.Test.YtfibglpiohkcoaaSameBytes
import Derived.Test.YtfibglpiohkcoaaLaw
import Derived.Laws.IdiomArrays
import Derived.Lib.SmallJoins
namespace Go.Proofs.Ytfibglpiohkcoaa
open Go.ChangeShapes Go.WideShapes Go.ChangeAt Go.RowKit
set_option linter.unusedVariables false
set_option linter.unusedSimpArgs false
namespace MaskR
open MaskA MaskP SameA
theorem okWide_array {P : Program} {w : World} {r : Reach} {base n : Nat} {t e : TypeId} {v : Value} (ht : P.underlying t = some (.array n e)) (h : Value.okWide P w r base t v) : ∃ cs, v = .agg cs ∧ cs.size = P.cellsOf t := by
  simp only [Value.okWide, ht] at h
  obtain ⟨cs, h1, h2, _⟩ := h
  exact ⟨cs, h1, h2⟩
theorem u64_nat {x : Int} (h : (Lit.int .u64 x).wf = true) : ∃ n : Nat, x = n ∧ n < 18446744073709551616 := by
  simp [Lit.wf, IntKind.min, IntKind.max, IntKind.signed, IntKind.bits] at h
  exact ⟨x.toNat, by omega, by omega⟩
theorem open_words {H : Type} {enc : TypeId × Value → H} {W : World} {base : Nat} {v : Value} {d : DataW H} {ps : List MemPlace} (hv : Value.okWide Try.prog W .any base 45 v) (h : DataW.Trod enc Try.prog W 0 (fun _ => true) true 45 v d ps) :
    ∃ f, v = .agg #[.int .u64 (word f 0 : Nat), .int .u64 (word f 1 : Nat), .int .u64 (word f 2 : Nat), .int .u64 (word f 3 : Nat)] := by
  obtain ⟨cs, rfl, hsz⟩ := okWide_array Try.underlying45 hv
  obtain ⟨c0, c1, c2, c3, rfl⟩ := Go.Joins.array4 (hsz.trans (by kernel_rfl : Try.prog.cellsOf 45 = 4))
  obtain ⟨fuel, hf⟩ := h
  obtain ⟨y0, y1, y2, y3, n, _, h0, h1, h2, h3⟩ := trod_array4 Try.underlying45 (by kernel_rfl) (by simpa [Value.cells] using hf)
  obtain ⟨x0, e0, _, w0⟩ := DataW.trod_int Try.underlying44 h0
  obtain ⟨x1, e1, _, w1⟩ := DataW.trod_int Try.underlying44 h1
  obtain ⟨x2, e2, _, w2⟩ := DataW.trod_int Try.underlying44 h2
  obtain ⟨x3, e3, _, w3⟩ := DataW.trod_int Try.underlying44 h3
  simp only [List.cons.injEq, and_true] at e0 e1 e2 e3
  subst e0; subst e1; subst e2; subst e3
  obtain ⟨n0, rfl, b0⟩ := u64_nat w0
  obtain ⟨n1, rfl, b1⟩ := u64_nat w1
  obtain ⟨n2, rfl, b2⟩ := u64_nat w2
  obtain ⟨n3, rfl, b3⟩ := u64_nat w3
  obtain ⟨f, q0, q1, q2, q3⟩ := word_of n0 n1 n2 n3 b0 b1 b2 b3
  exact ⟨f, by rw [q0, q1, q2, q3]⟩
theorem info_b8 : (Try.prog.info? 5).map (fun i => (i.zero, i.size, i.bytes)) = some (some (.int .u8 0), 1, 1) := by kernel_rfl
theorem src_b8 (w : World) (u : Value) (t : TypeId) : Src (w.alloc (.cells #[u] t)) (some ⟨w.heap.size, 0, none⟩) [u] := by
  intro j x hj
  obtain ⟨hlt, rfl⟩ := List.getElem?_eq_some_iff.1 hj
  have : j = 0 := by simp at hlt; omega
  subst this
  exact ⟨_, _, rfl, by simp⟩
theorem own_b8 (w : World) (x : Int) : (w.alloc (.cells #[.int .u8 x] 5)).ownsRow 0 5 1 (.slice (some ⟨w.heap.size, 0, none⟩) 1 1) 1 (ivs .u8 [x]) :=
  World.ownsRow_lit w #[.int .u8 x] 1 (Nat.zero_le _) (by simp [maxLen]) (by simp)
theorem scanD_cases (f : Nat → Bool) : ∀ k, (scanD f k = -1 ∧ ∀ j, j < k → f j = false) ∨ ∃ i : Nat, i < k ∧ scanD f k = i ∧ f i = true ∧ ∀ j, i < j → j < k → f j = false := by
  intro k
  induction k with
  | zero => exact Or.inl ⟨rfl, fun j h => by omega⟩
  | succ k ih =>
    simp only [scanD]
    cases hf : f k with
    | true => exact Or.inr ⟨k, by omega, by simp, hf, fun j h1 h2 => by omega⟩
    | false =>
      rcases ih with ⟨h1, h2⟩ | ⟨i, h1, h2, h3, h4⟩
      · refine Or.inl ⟨by simpa using h1, fun j hj => ?_⟩
        rcases Nat.eq_or_lt_of_le (Nat.le_of_lt_succ hj) with e | e
        · rw [e]; exact hf
        · exact h2 j e
      · refine Or.inr ⟨i, by omega, by simpa using h2, h3, fun j h5 h6 => ?_⟩
        rcases Nat.eq_or_lt_of_le (Nat.le_of_lt_succ h6) with e | e
        · rw [e]; exact hf
        · exact h4 j h5 e
theorem allF_none (f : Nat → Bool) (k : Nat) (h : ∀ j, j < k → f j = false) : allF f k = [] := by
  have := (allF_gap f 0 k (fun j _ h2 => h j (by omega))).1
  rw [Nat.zero_add] at this
  rw [this]; rfl
theorem allF_last (f : Nat → Bool) {i k : Nat} (hi : i < k) (hf : f i = true) (h : ∀ j, i < j → j < k → f j = false) : allF f k = allF f i ++ [(i : Int)] := by
  obtain ⟨d, rfl⟩ : ∃ d, k = i + 1 + d := ⟨k - (i + 1), by omega⟩
  rw [(allF_gap f (i + 1) d (fun j h1 h2 => h j (by omega) h2)).1, allF_succ, hf]; rfl
theorem prev_scan (f : Nat → Bool) (i : Nat) (h : i ≤ 256) : prevF f ((i : Int) - 1) = scanD f i := by
  unfold prevF
  rw [show (min ((i : Int) - 1) 255 + 1).toNat = i by omega]
end MaskR
end Go.Proofs.Ytfibglpiohkcoaa
