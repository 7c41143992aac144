/- Sets of bytes as four words: plain Lean, no program in sight. -/
import Derived.Test.YtjlmhgjkekihiaaDoorBase
namespace Go.Proofs.YtjlmhgjkekihiaaDoor
open Go.RowKit
set_option linter.unusedVariables false
set_option linter.unusedSimpArgs false

namespace MaskP
/-- the number whose first n bits are f's -/
def wn (f : Nat → Bool) : Nat → Nat
  | 0 => 0
  | n + 1 => 2 ^ n * (f n).toNat + wn f n

theorem wn_lt (f : Nat → Bool) (n : Nat) : wn f n < 2 ^ n := by
  induction n with
  | zero => simp [wn]
  | succ n ih => simp only [wn, Nat.pow_succ]; cases f n <;> simp <;> omega

theorem testBit_wn (f : Nat → Bool) (n i : Nat) : (wn f n).testBit i = (decide (i < n) && f i) := by
  induction n with
  | zero => simp [wn]
  | succ n ih =>
    have hlt := wn_lt f n
    simp only [wn]
    rw [Nat.testBit_two_pow_mul_add _ hlt]
    by_cases h : i < n
    · rw [if_pos h, ih]; simp [h, Nat.lt_succ_of_lt h]
    · rw [if_neg h]
      by_cases e : i = n
      · subst e; cases f i <;> simp
      · have : ¬ i < n + 1 := by omega
        simp only [this, decide_false, Bool.false_and]
        cases f n
        · simp
        · have : i - n ≠ 0 := by omega
          simpa using Nat.testBit_lt_two_pow (Nat.one_lt_two_pow this)

theorem wn_testBit {x n : Nat} (h : x < 2 ^ n) : wn x.testBit n = x := by
  apply Nat.eq_of_testBit_eq
  intro i
  rw [testBit_wn]
  by_cases hi : i < n
  · simp [hi]
  · simp only [hi, decide_false, Bool.false_and]
    exact (Nat.testBit_lt_two_pow (Nat.lt_of_lt_of_le h (Nat.pow_le_pow_right (by omega) (by omega)))).symm

theorem wn_congr {f g : Nat → Bool} {n : Nat} (h : ∀ i, i < n → f i = g i) : wn f n = wn g n := by
  apply Nat.eq_of_testBit_eq
  intro i
  rw [testBit_wn, testBit_wn]
  by_cases hi : i < n
  · rw [h i hi]
  · simp [hi]
theorem wn_inj {f g : Nat → Bool} {n : Nat} (h : wn f n = wn g n) (i : Nat) (hi : i < n) : f i = g i := by
  have := congrArg (fun x => x.testBit i) h
  simpa [testBit_wn, hi] using this

/-- word j of a set -/
def word (f : Nat → Bool) (j : Nat) : Nat := wn (fun t => f (64 * j + t)) 64
theorem word_lt (f : Nat → Bool) (j : Nat) : word f j < 18446744073709551616 := wn_lt _ 64
theorem word_bit (f : Nat → Bool) (j t : Nat) (h : t < 64) : (word f j).testBit t = f (64 * j + t) := by simp [word, testBit_wn, h]
/-- the value of a mask -/
def MV (f : Nat → Bool) : Value := .agg #[.int .u64 (word f 0), .int .u64 (word f 1), .int .u64 (word f 2), .int .u64 (word f 3)]
/-- any four words are some set's -/
theorem word_of (a b c d : Nat) (ha : a < 18446744073709551616) (hb : b < 18446744073709551616) (hc : c < 18446744073709551616) (hd : d < 18446744073709551616) :
    ∃ f, word f 0 = a ∧ word f 1 = b ∧ word f 2 = c ∧ word f 3 = d := by
  refine ⟨fun i => if i / 64 = 0 then a.testBit (i % 64) else if i / 64 = 1 then b.testBit (i % 64) else if i / 64 = 2 then c.testBit (i % 64) else d.testBit (i % 64), ?_, ?_, ?_, ?_⟩
  · refine (wn_congr (g := a.testBit) fun i hi => ?_).trans (wn_testBit ha)
    simp only []
    rw [if_pos (by omega), show (64 * 0 + i) % 64 = i by omega]
  · refine (wn_congr (g := b.testBit) fun i hi => ?_).trans (wn_testBit hb)
    simp only []
    rw [if_neg (by omega), if_pos (by omega), show (64 * 1 + i) % 64 = i by omega]
  · refine (wn_congr (g := c.testBit) fun i hi => ?_).trans (wn_testBit hc)
    simp only []
    rw [if_neg (by omega), if_neg (by omega), if_pos (by omega), show (64 * 2 + i) % 64 = i by omega]
  · refine (wn_congr (g := d.testBit) fun i hi => ?_).trans (wn_testBit hd)
    simp only []
    rw [if_neg (by omega), if_neg (by omega), if_neg (by omega), show (64 * 3 + i) % 64 = i by omega]

theorem bit_and (x k : Nat) (hx : x < 18446744073709551616) : (bits .and .u64 ((x : Int) / 2 ^ k) 1 == 1) = x.testBit k := by
  have e : ((x : Int) / 2 ^ k) = ((x / 2 ^ k : Nat) : Int) := by simp
  have hlt : x / 2 ^ k < 18446744073709551616 := Nat.lt_of_le_of_lt (Nat.div_le_self _ _) hx
  rw [e, show (1 : Int) = ((1 : Nat) : Int) from rfl, bits_and_u64_nat _ _ hlt (by omega)]
  rw [Nat.testBit_eq_decide_div_mod_eq, Nat.and_one_is_mod]
  rw [Bool.eq_iff_iff]; simp; omega

/-- the set with a byte in, or out -/
def setb (f : Nat → Bool) (i : Nat) (v : Bool) : Nat → Bool := fun j => if j = i then v else f j
theorem word_other (f : Nat → Bool) (i j : Nat) (v : Bool) (h : i / 64 ≠ j) : word (setb f i v) j = word f j := by
  refine wn_congr fun t ht => ?_
  simp only [setb]
  rw [if_neg (by omega)]
theorem wrap_u64_nat (n : Nat) (h : n < 18446744073709551616) : IntKind.u64.wrap (n : Int) = (n : Int) := by
  rw [IntKind.wrap_u64]; omega
theorem wrap_pow {k : Nat} (hk : k < 64) : IntKind.u64.wrap (2 ^ k) = ((2 ^ k : Nat) : Int) ∧ 2 ^ k < 18446744073709551616 := by
  have h : 2 ^ k < 2 ^ 64 := Nat.pow_lt_pow_right (by omega) hk
  have h' : (2 ^ k : Nat) < 18446744073709551616 := h
  refine ⟨?_, h'⟩
  have := wrap_u64_nat _ h'
  simpa using this
theorem or_bit (f : Nat → Bool) (i : Nat) : bits .or .u64 (word f (i / 64)) (IntKind.u64.wrap (2 ^ (i % 64))) = (word (setb f i true) (i / 64) : Nat) := by
  obtain ⟨e, hlt⟩ := wrap_pow (Nat.mod_lt i (by omega : 0 < 64))
  rw [e, bits_or_u64_nat (word f (i / 64)) (2 ^ (i % 64)) (word_lt _ _) hlt]
  refine congrArg (Nat.cast : Nat → Int) (Nat.eq_of_testBit_eq fun t => ?_)
  rw [Nat.testBit_or, Nat.testBit_two_pow]
  simp only [word, testBit_wn, setb]
  by_cases ht : t < 64
  · by_cases e : i % 64 = t
    · have : 64 * (i / 64) + t = i := by omega
      simp [ht, e, this]
    · have : 64 * (i / 64) + t ≠ i := by omega
      simp [ht, e, this]
  · have : i % 64 ≠ t := by omega
    simp [ht, this]
theorem bits_andNot_nat (a b : Nat) (ha : a < 18446744073709551616) (hb : b < 18446744073709551616) : bits .andNot .u64 a b = ((a &&& (18446744073709551616 - (b + 1)) : Nat) : Int) := by
  have hx : a &&& (18446744073709551616 - (b + 1)) < 2 ^ 64 := Nat.and_lt_two_pow _ (by omega)
  have h1 : (BitVec.ofInt 64 (a : Int)).toNat = a := by
    rw [BitVec.ofInt_natCast, BitVec.toNat_ofNat]; exact Nat.mod_eq_of_lt (by omega)
  have h2 : (BitVec.ofInt 64 (b : Int)).toNat = b := by
    rw [BitVec.ofInt_natCast, BitVec.toNat_ofNat]; exact Nat.mod_eq_of_lt (by omega)
  show IntKind.u64.wrap ((BitVec.ofInt 64 (a : Int) &&& ~~~ BitVec.ofInt 64 (b : Int)).toNat : Int) = _
  rw [BitVec.toNat_and, BitVec.toNat_not, h1, h2, show 2 ^ 64 - 1 - b = 18446744073709551616 - (b + 1) by omega]
  exact wrap_u64_nat _ hx
theorem andNot_bit (f : Nat → Bool) (i : Nat) : bits .andNot .u64 (word f (i / 64)) (IntKind.u64.wrap (2 ^ (i % 64))) = (word (setb f i false) (i / 64) : Nat) := by
  obtain ⟨e, hlt⟩ := wrap_pow (Nat.mod_lt i (by omega : 0 < 64))
  rw [e, bits_andNot_nat (word f (i / 64)) (2 ^ (i % 64)) (word_lt _ _) hlt]
  refine congrArg (Nat.cast : Nat → Int) (Nat.eq_of_testBit_eq fun t => ?_)
  have h := Nat.testBit_two_pow_sub_succ (x := 2 ^ (i % 64)) (n := 64) hlt t
  rw [Nat.testBit_and, show 18446744073709551616 - (2 ^ (i % 64) + 1) = 2 ^ 64 - (2 ^ (i % 64) + 1) from rfl, h, Nat.testBit_two_pow]
  simp only [word, testBit_wn, setb]
  by_cases ht : t < 64
  · by_cases e : i % 64 = t
    · have : 64 * (i / 64) + t = i := by omega
      simp [ht, e, this]
    · have : 64 * (i / 64) + t ≠ i := by omega
      simp [ht, e, this]
  · simp [ht]
theorem has_bit (f : Nat → Bool) (i : Nat) : (bits .and .u64 ((word f (i / 64) : Nat) / 2 ^ (i % 64)) 1 == 1) = f i := by
  rw [bit_and _ _ (word_lt _ _), word_bit _ _ _ (Nat.mod_lt _ (by omega))]
  congr 1; omega

/-! ### the first byte from one on, the last one up to one, how many below one -/
def scan (f : Nat → Bool) : Nat → Nat → Int
  | 0, _ => -1
  | n + 1, i => if f i then i else scan f n (i + 1)
def startN (b : Int) : Nat := (max b 0).toNat
def nextF (f : Nat → Bool) (b : Int) : Int := scan f (256 - startN b) (startN b)
def scanD (f : Nat → Bool) : Nat → Int
  | 0 => -1
  | i + 1 => if f i then i else scanD f i
def prevF (f : Nat → Bool) (b : Int) : Int := scanD f (min b 255 + 1).toNat
def cnt (f : Nat → Bool) : Nat → Nat
  | 0 => 0
  | n + 1 => cnt f n + (f n).toNat
def rankF (f : Nat → Bool) (b : Int) : Nat := cnt f (min b 256).toNat
def allF (f : Nat → Bool) (n : Nat) : List Int := ((List.range n).filter f).map Int.ofNat
theorem cnt_le (f : Nat → Bool) (n : Nat) : cnt f n ≤ n := by
  induction n with
  | zero => simp [cnt]
  | succ n ih => simp only [cnt]; cases f n <;> simp <;> omega
theorem allF_length (f : Nat → Bool) (n : Nat) : (allF f n).length = cnt f n := by
  induction n with
  | zero => simp [allF, cnt]
  | succ n ih =>
    simp only [allF, List.range_succ, List.filter_append, List.map_append, List.length_append, cnt] at ih ⊢
    rw [ih]; cases h : f n <;> simp [h]
theorem allF_succ (f : Nat → Bool) (n : Nat) : allF f (n + 1) = allF f n ++ (if f n then [(n : Int)] else []) := by
  simp only [allF, List.range_succ, List.filter_append, List.map_append]
  cases h : f n <;> simp [h]
theorem scan_step (f : Nat → Bool) {i : Nat} (h : i < 256) : scan f (256 - i) i = if f i then (i : Int) else scan f (256 - (i + 1)) (i + 1) := by
  rw [show 256 - i = (256 - (i + 1)) + 1 by omega]; simp only [scan]
theorem nextF_nat (f : Nat → Bool) (k : Nat) : nextF f k = scan f (256 - k) k := by
  have : startN (k : Int) = k := by unfold startN; omega
  unfold nextF; rw [this]
theorem scan_cases (f : Nat → Bool) (n : Nat) : ∀ k, (scan f n k = -1 ∧ ∀ j, k ≤ j → j < k + n → f j = false) ∨ ∃ i : Nat, k ≤ i ∧ i < k + n ∧ scan f n k = i ∧ f i = true ∧ ∀ j, k ≤ j → j < i → f j = false := by
  induction n with
  | zero => intro k; exact Or.inl ⟨rfl, fun j h1 h2 => by omega⟩
  | succ n ih =>
    intro k
    simp only [scan]
    cases hf : f k with
    | true => exact Or.inr ⟨k, Nat.le_refl _, by omega, by simp, hf, fun j h1 h2 => by omega⟩
    | false =>
      rcases ih (k + 1) with ⟨h1, h2⟩ | ⟨i, h1, h2, h3, h4, h5⟩
      · refine Or.inl ⟨by simpa using h1, fun j h3 h4 => ?_⟩
        by_cases e : j = k
        · rw [e]; exact hf
        · exact h2 j (by omega) (by omega)
      · refine Or.inr ⟨i, by omega, by omega, by simpa using h3, h4, fun j h6 h7 => ?_⟩
        by_cases e : j = k
        · rw [e]; exact hf
        · exact h5 j (by omega) (by omega)
theorem next_cases (f : Nat → Bool) {k : Nat} (hk : k ≤ 256) : (nextF f k = -1 ∧ ∀ j, k ≤ j → j < 256 → f j = false) ∨ ∃ i : Nat, k ≤ i ∧ i < 256 ∧ nextF f k = i ∧ f i = true ∧ ∀ j, k ≤ j → j < i → f j = false := by
  rw [nextF_nat]
  have := scan_cases f (256 - k) k
  rwa [show k + (256 - k) = 256 by omega] at this
theorem allF_gap (f : Nat → Bool) (k d : Nat) (h : ∀ j, k ≤ j → j < k + d → f j = false) : allF f (k + d) = allF f k ∧ cnt f (k + d) = cnt f k := by
  induction d with
  | zero => exact ⟨rfl, rfl⟩
  | succ d ih =>
    obtain ⟨h1, h2⟩ := ih fun j h1 h2 => h j h1 (by omega)
    have hf := h (k + d) (by omega) (by omega)
    rw [show k + (d + 1) = (k + d) + 1 by omega, allF_succ, hf]
    refine ⟨by simpa using h1, ?_⟩
    simp only [cnt, hf]; simpa using h2
theorem allF_next (f : Nat → Bool) {k i : Nat} (hk : k ≤ i) (hf : f i = true) (h : ∀ j, k ≤ j → j < i → f j = false) : allF f (i + 1) = allF f k ++ [(i : Int)] ∧ cnt f (i + 1) = cnt f k + 1 := by
  obtain ⟨d, rfl⟩ : ∃ d, i = k + d := ⟨i - k, by omega⟩
  obtain ⟨h1, h2⟩ := allF_gap f k d h
  rw [allF_succ, hf]
  refine ⟨by rw [h1]; simp, ?_⟩
  simp only [cnt, hf]; rw [h2]; rfl
end MaskP
end Go.Proofs.YtjlmhgjkekihiaaDoor
