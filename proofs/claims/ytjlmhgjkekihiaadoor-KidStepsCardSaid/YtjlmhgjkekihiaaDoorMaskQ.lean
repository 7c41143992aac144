/- Sets of bytes, what the statements want of them: plain Lean, no program in sight. -/
import Derived.Test.YtjlmhgjkekihiaaDoorMaskE
import Derived.Test.YtjlmhgjkekihiaaDoorLaw
namespace Go.Proofs.YtjlmhgjkekihiaaDoor
open Go.RowKit
set_option linter.unusedVariables false
set_option linter.unusedSimpArgs false

namespace MaskA
open MaskP

theorem u8_wf {x : Int} (h : (Lit.int .u8 x).wf = true) : 0 ≤ x ∧ x < 256 := by
  simp [Lit.wf, IntKind.min, IntKind.max, IntKind.signed, IntKind.bits] at h
  omega
theorem wrap_u8 {i : Nat} (h : i < 256) : IntKind.u8.wrap (i : Int) = i := by
  rw [IntKind.wrap_u8]; omega
theorem wrap_byte {i : Nat} (h : i < 256) : IntKind.i64.wrap (i : Int) = i := IntWalk.i64_in _ (by omega)

theorem foldl_set (xs : List Int) : ∀ (f : Nat → Bool) (i : Nat), xs.foldl (fun f b => setb f b.toNat true) f i = (f i || xs.any fun b => b.toNat == i) := by
  induction xs with
  | nil => intro f i; simp
  | cons x xs ih =>
    intro f i
    simp only [List.foldl_cons, List.any_cons]
    rw [ih]
    simp only [setb]
    by_cases e : i = x.toNat
    · subst e; simp
    · have e' : ¬ x.toNat = i := fun h => e h.symm
      have hb : (x.toNat == i) = false := by simpa using e'
      simp [e, hb]
theorem ofF_any (xs : List Int) (i : Nat) : ofF xs i = xs.any fun b => b.toNat == i := by unfold ofF; rw [foldl_set]; simp
theorem ofF_reverse (xs : List Int) : ofF xs.reverse = ofF xs := by
  funext i
  rw [ofF_any, ofF_any, List.any_reverse]
theorem ofF_mem {xs : List Int} {i : Nat} (h : (i : Int) ∈ xs) : ofF xs i = true := by
  rw [ofF_any, List.any_eq_true]
  exact ⟨_, h, by simp⟩

theorem cnt_mono (f : Nat → Bool) {m n : Nat} (h : m ≤ n) : cnt f m ≤ cnt f n := by
  obtain ⟨d, rfl⟩ : ∃ d, n = m + d := ⟨n - m, by omega⟩
  induction d with
  | zero => simp
  | succ d ih => have := ih (by omega); rw [show m + (d + 1) = (m + d) + 1 by omega]; simp only [cnt]; omega
theorem cnt_set (f : Nat → Bool) (i n : Nat) : cnt (setb f i true) n ≤ cnt f n + 1 ∧ (n ≤ i → cnt (setb f i true) n = cnt f n) := by
  induction n with
  | zero => simp [cnt]
  | succ n ih =>
    obtain ⟨h1, h2⟩ := ih
    simp only [cnt, setb]
    by_cases e : n = i
    · subst e
      simp only [if_true]
      have := h2 (Nat.le_refl _)
      cases f n <;> simp <;> omega
    · rw [if_neg e]
      refine ⟨by omega, fun h => ?_⟩
      rw [h2 (by omega)]
theorem cnt_none (n : Nat) : cnt (fun _ => false) n = 0 := by induction n with | zero => rfl | succ n ih => simp [cnt, ih]
theorem cnt_ofF_le (xs : List Int) (n : Nat) : cnt (ofF xs) n ≤ xs.length := by
  have : ∀ (ys : List Int) (f : Nat → Bool), cnt (ys.foldl (fun f b => setb f b.toNat true) f) n ≤ cnt f n + ys.length := by
    intro ys
    induction ys with
    | nil => intro f; simp
    | cons y ys ih => intro f; have := ih (setb f y.toNat true); have := (cnt_set f y.toNat n).1; simp only [List.foldl_cons, List.length_cons]; omega
  have := this xs (fun _ => false)
  rw [cnt_none] at this
  simpa [ofF] using this

theorem allF_get (f : Nat → Bool) : ∀ (n k : Nat) (x : Int), (allF f n)[k]? = some x → ∃ i : Nat, x = i ∧ i < n ∧ f i = true ∧ cnt f i = k := by
  intro n
  induction n with
  | zero => intro k x h; simp [allF] at h
  | succ n ih =>
    intro k x h
    rw [allF_succ] at h
    by_cases hk : k < (allF f n).length
    · rw [List.getElem?_append_left hk] at h
      obtain ⟨i, h1, h2, h3, h4⟩ := ih k x h
      exact ⟨i, h1, by omega, h3, h4⟩
    · rw [List.getElem?_append_right (by omega)] at h
      cases hf : f n with
      | false => simp [hf] at h
      | true =>
        simp only [hf, if_true] at h
        have hk0 : k - (allF f n).length = 0 := by
          rcases Nat.eq_zero_or_pos (k - (allF f n).length) with h0 | h0
          · exact h0
          · rw [List.getElem?_eq_none (by simp; omega)] at h; cases h
        rw [hk0] at h
        simp at h
        have := allF_length f n
        exact ⟨n, h.symm, by omega, hf, by omega⟩
theorem mem_allF {f : Nat → Bool} {n i : Nat} : (i : Int) ∈ allF f n ↔ i < n ∧ f i = true := by
  simp only [allF, List.mem_map, List.mem_filter, List.mem_range]
  constructor
  · rintro ⟨j, ⟨h1, h2⟩, h3⟩
    have : j = i := Int.ofNat.inj h3
    subst this; exact ⟨h1, h2⟩
  · intro h; exact ⟨i, h, rfl⟩
theorem allF_bytes {f : Nat → Bool} : ∀ x ∈ allF f 256, 0 ≤ x ∧ x < 256 := by
  intro x hx
  simp only [allF, List.mem_map, List.mem_filter, List.mem_range] at hx
  obtain ⟨j, ⟨h1, h2⟩, rfl⟩ := hx
  simp only [Int.ofNat_eq_natCast]
  omega
theorem ofF_allF (f : Nat → Bool) (i : Nat) (hi : i < 256) : ofF (allF f 256) i = f i := by
  rw [ofF_any, Bool.eq_iff_iff, List.any_eq_true]
  constructor
  · rintro ⟨x, hx, e⟩
    have hb := allF_bytes x hx
    have : x = (i : Int) := by have : x.toNat = i := by simpa using e
                               omega
    subst this
    exact (mem_allF.1 hx).2
  · intro h
    exact ⟨i, mem_allF.2 ⟨hi, h⟩, by simp⟩
theorem next_self (f : Nat → Bool) {i : Nat} (hi : i < 256) (h : f i = true) : nextF f i = i := by
  rw [nextF_nat, scan_step f hi, h]; rfl
theorem prev_self (f : Nat → Bool) {i : Nat} (hi : i < 256) (h : f i = true) : prevF f i = i := by
  unfold prevF
  rw [show (min (i : Int) 255 + 1).toNat = i + 1 by omega]
  simp [scanD, h]
theorem rank_nat (f : Nat → Bool) {i : Nat} (hi : i ≤ 256) : rankF f i = cnt f i := by
  unfold rankF
  rw [show (min (i : Int) 256).toNat = i by omega]
end MaskA
end Go.Proofs.YtjlmhgjkekihiaaDoor
