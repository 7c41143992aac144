/- Texts of one chain, in one file. -/
import Derived.Test.YtclnnkacfanaiaaDoorBase
import Derived.Deep.DeepCutAuto
import Derived.Test.YtclnnkacfanaiaaDoorLaw
/- Sets of bytes as four words: plain Lean, no program in sight. -/
namespace Go.Proofs.YtclnnkacfanaiaaDoor
open Go.RowKit
set_option linter.unusedVariables false
set_option linter.unusedSimpArgs false

namespace MaskP
/-- the number whose first n bits are f's -/
def wn (f : Nat → Bool) : Nat → Nat
  | 0 => 0
  | n + 1 => 2 ^ n * (f n).toNat + wn f n

theorem wn_lt (f : Nat → Bool) (n : Nat) : wn f n < 2 ^ n := by
  induction n with
  | zero => simp [wn]
  | succ n ih => simp only [wn, Nat.pow_succ]; cases f n <;> simp <;> omega

theorem testBit_wn (f : Nat → Bool) (n i : Nat) : (wn f n).testBit i = (decide (i < n) && f i) := by
  induction n with
  | zero => simp [wn]
  | succ n ih =>
    have hlt := wn_lt f n
    simp only [wn]
    rw [Nat.testBit_two_pow_mul_add _ hlt]
    by_cases h : i < n
    · rw [if_pos h, ih]; simp [h, Nat.lt_succ_of_lt h]
    · rw [if_neg h]
      by_cases e : i = n
      · subst e; cases f i <;> simp
      · have : ¬ i < n + 1 := by omega
        simp only [this, decide_false, Bool.false_and]
        cases f n
        · simp
        · have : i - n ≠ 0 := by omega
          simpa using Nat.testBit_lt_two_pow (Nat.one_lt_two_pow this)

theorem wn_testBit {x n : Nat} (h : x < 2 ^ n) : wn x.testBit n = x := by
  apply Nat.eq_of_testBit_eq
  intro i
  rw [testBit_wn]
  by_cases hi : i < n
  · simp [hi]
  · simp only [hi, decide_false, Bool.false_and]
    exact (Nat.testBit_lt_two_pow (Nat.lt_of_lt_of_le h (Nat.pow_le_pow_right (by omega) (by omega)))).symm

theorem wn_congr {f g : Nat → Bool} {n : Nat} (h : ∀ i, i < n → f i = g i) : wn f n = wn g n := by
  apply Nat.eq_of_testBit_eq
  intro i
  rw [testBit_wn, testBit_wn]
  by_cases hi : i < n
  · rw [h i hi]
  · simp [hi]
theorem wn_inj {f g : Nat → Bool} {n : Nat} (h : wn f n = wn g n) (i : Nat) (hi : i < n) : f i = g i := by
  have := congrArg (fun x => x.testBit i) h
  simpa [testBit_wn, hi] using this

/-- word j of a set -/
def word (f : Nat → Bool) (j : Nat) : Nat := wn (fun t => f (64 * j + t)) 64
theorem word_lt (f : Nat → Bool) (j : Nat) : word f j < 18446744073709551616 := wn_lt _ 64
theorem word_bit (f : Nat → Bool) (j t : Nat) (h : t < 64) : (word f j).testBit t = f (64 * j + t) := by simp [word, testBit_wn, h]
/-- the value of a mask -/
def MV (f : Nat → Bool) : Value := .agg #[.int .u64 (word f 0), .int .u64 (word f 1), .int .u64 (word f 2), .int .u64 (word f 3)]
/-- any four words are some set's -/
theorem word_of (a b c d : Nat) (ha : a < 18446744073709551616) (hb : b < 18446744073709551616) (hc : c < 18446744073709551616) (hd : d < 18446744073709551616) :
    ∃ f, word f 0 = a ∧ word f 1 = b ∧ word f 2 = c ∧ word f 3 = d := by
  refine ⟨fun i => if i / 64 = 0 then a.testBit (i % 64) else if i / 64 = 1 then b.testBit (i % 64) else if i / 64 = 2 then c.testBit (i % 64) else d.testBit (i % 64), ?_, ?_, ?_, ?_⟩
  · refine (wn_congr (g := a.testBit) fun i hi => ?_).trans (wn_testBit ha)
    simp only []
    rw [if_pos (by omega), show (64 * 0 + i) % 64 = i by omega]
  · refine (wn_congr (g := b.testBit) fun i hi => ?_).trans (wn_testBit hb)
    simp only []
    rw [if_neg (by omega), if_pos (by omega), show (64 * 1 + i) % 64 = i by omega]
  · refine (wn_congr (g := c.testBit) fun i hi => ?_).trans (wn_testBit hc)
    simp only []
    rw [if_neg (by omega), if_neg (by omega), if_pos (by omega), show (64 * 2 + i) % 64 = i by omega]
  · refine (wn_congr (g := d.testBit) fun i hi => ?_).trans (wn_testBit hd)
    simp only []
    rw [if_neg (by omega), if_neg (by omega), if_neg (by omega), show (64 * 3 + i) % 64 = i by omega]

theorem bit_and (x k : Nat) (hx : x < 18446744073709551616) : (bits .and .u64 ((x : Int) / 2 ^ k) 1 == 1) = x.testBit k := by
  have e : ((x : Int) / 2 ^ k) = ((x / 2 ^ k : Nat) : Int) := by simp
  have hlt : x / 2 ^ k < 18446744073709551616 := Nat.lt_of_le_of_lt (Nat.div_le_self _ _) hx
  rw [e, show (1 : Int) = ((1 : Nat) : Int) from rfl, bits_and_u64_nat _ _ hlt (by omega)]
  rw [Nat.testBit_eq_decide_div_mod_eq, Nat.and_one_is_mod]
  rw [Bool.eq_iff_iff]; simp; omega

/-- the set with a byte in, or out -/
def setb (f : Nat → Bool) (i : Nat) (v : Bool) : Nat → Bool := fun j => if j = i then v else f j
theorem word_other (f : Nat → Bool) (i j : Nat) (v : Bool) (h : i / 64 ≠ j) : word (setb f i v) j = word f j := by
  refine wn_congr fun t ht => ?_
  simp only [setb]
  rw [if_neg (by omega)]
theorem wrap_u64_nat (n : Nat) (h : n < 18446744073709551616) : IntKind.u64.wrap (n : Int) = (n : Int) := by
  rw [IntKind.wrap_u64]; omega
theorem wrap_pow {k : Nat} (hk : k < 64) : IntKind.u64.wrap (2 ^ k) = ((2 ^ k : Nat) : Int) ∧ 2 ^ k < 18446744073709551616 := by
  have h : 2 ^ k < 2 ^ 64 := Nat.pow_lt_pow_right (by omega) hk
  have h' : (2 ^ k : Nat) < 18446744073709551616 := h
  refine ⟨?_, h'⟩
  have := wrap_u64_nat _ h'
  simpa using this
theorem or_bit (f : Nat → Bool) (i : Nat) : bits .or .u64 (word f (i / 64)) (IntKind.u64.wrap (2 ^ (i % 64))) = (word (setb f i true) (i / 64) : Nat) := by
  obtain ⟨e, hlt⟩ := wrap_pow (Nat.mod_lt i (by omega : 0 < 64))
  rw [e, bits_or_u64_nat (word f (i / 64)) (2 ^ (i % 64)) (word_lt _ _) hlt]
  refine congrArg (Nat.cast : Nat → Int) (Nat.eq_of_testBit_eq fun t => ?_)
  rw [Nat.testBit_or, Nat.testBit_two_pow]
  simp only [word, testBit_wn, setb]
  by_cases ht : t < 64
  · by_cases e : i % 64 = t
    · have : 64 * (i / 64) + t = i := by omega
      simp [ht, e, this]
    · have : 64 * (i / 64) + t ≠ i := by omega
      simp [ht, e, this]
  · have : i % 64 ≠ t := by omega
    simp [ht, this]
theorem bits_andNot_nat (a b : Nat) (ha : a < 18446744073709551616) (hb : b < 18446744073709551616) : bits .andNot .u64 a b = ((a &&& (18446744073709551616 - (b + 1)) : Nat) : Int) := by
  have hx : a &&& (18446744073709551616 - (b + 1)) < 2 ^ 64 := Nat.and_lt_two_pow _ (by omega)
  have h1 : (BitVec.ofInt 64 (a : Int)).toNat = a := by
    rw [BitVec.ofInt_natCast, BitVec.toNat_ofNat]; exact Nat.mod_eq_of_lt (by omega)
  have h2 : (BitVec.ofInt 64 (b : Int)).toNat = b := by
    rw [BitVec.ofInt_natCast, BitVec.toNat_ofNat]; exact Nat.mod_eq_of_lt (by omega)
  show IntKind.u64.wrap ((BitVec.ofInt 64 (a : Int) &&& ~~~ BitVec.ofInt 64 (b : Int)).toNat : Int) = _
  rw [BitVec.toNat_and, BitVec.toNat_not, h1, h2, show 2 ^ 64 - 1 - b = 18446744073709551616 - (b + 1) by omega]
  exact wrap_u64_nat _ hx
theorem andNot_bit (f : Nat → Bool) (i : Nat) : bits .andNot .u64 (word f (i / 64)) (IntKind.u64.wrap (2 ^ (i % 64))) = (word (setb f i false) (i / 64) : Nat) := by
  obtain ⟨e, hlt⟩ := wrap_pow (Nat.mod_lt i (by omega : 0 < 64))
  rw [e, bits_andNot_nat (word f (i / 64)) (2 ^ (i % 64)) (word_lt _ _) hlt]
  refine congrArg (Nat.cast : Nat → Int) (Nat.eq_of_testBit_eq fun t => ?_)
  have h := Nat.testBit_two_pow_sub_succ (x := 2 ^ (i % 64)) (n := 64) hlt t
  rw [Nat.testBit_and, show 18446744073709551616 - (2 ^ (i % 64) + 1) = 2 ^ 64 - (2 ^ (i % 64) + 1) from rfl, h, Nat.testBit_two_pow]
  simp only [word, testBit_wn, setb]
  by_cases ht : t < 64
  · by_cases e : i % 64 = t
    · have : 64 * (i / 64) + t = i := by omega
      simp [ht, e, this]
    · have : 64 * (i / 64) + t ≠ i := by omega
      simp [ht, e, this]
  · simp [ht]
theorem has_bit (f : Nat → Bool) (i : Nat) : (bits .and .u64 ((word f (i / 64) : Nat) / 2 ^ (i % 64)) 1 == 1) = f i := by
  rw [bit_and _ _ (word_lt _ _), word_bit _ _ _ (Nat.mod_lt _ (by omega))]
  congr 1; omega

/-! ### the first byte from one on, the last one up to one, how many below one -/
def scan (f : Nat → Bool) : Nat → Nat → Int
  | 0, _ => -1
  | n + 1, i => if f i then i else scan f n (i + 1)
def startN (b : Int) : Nat := (max b 0).toNat
def nextF (f : Nat → Bool) (b : Int) : Int := scan f (256 - startN b) (startN b)
def scanD (f : Nat → Bool) : Nat → Int
  | 0 => -1
  | i + 1 => if f i then i else scanD f i
def prevF (f : Nat → Bool) (b : Int) : Int := scanD f (min b 255 + 1).toNat
def cnt (f : Nat → Bool) : Nat → Nat
  | 0 => 0
  | n + 1 => cnt f n + (f n).toNat
def rankF (f : Nat → Bool) (b : Int) : Nat := cnt f (min b 256).toNat
def allF (f : Nat → Bool) (n : Nat) : List Int := ((List.range n).filter f).map Int.ofNat
theorem cnt_le (f : Nat → Bool) (n : Nat) : cnt f n ≤ n := by
  induction n with
  | zero => simp [cnt]
  | succ n ih => simp only [cnt]; cases f n <;> simp <;> omega
theorem allF_length (f : Nat → Bool) (n : Nat) : (allF f n).length = cnt f n := by
  induction n with
  | zero => simp [allF, cnt]
  | succ n ih =>
    simp only [allF, List.range_succ, List.filter_append, List.map_append, List.length_append, cnt] at ih ⊢
    rw [ih]; cases h : f n <;> simp [h]
theorem allF_succ (f : Nat → Bool) (n : Nat) : allF f (n + 1) = allF f n ++ (if f n then [(n : Int)] else []) := by
  simp only [allF, List.range_succ, List.filter_append, List.map_append]
  cases h : f n <;> simp [h]
theorem scan_step (f : Nat → Bool) {i : Nat} (h : i < 256) : scan f (256 - i) i = if f i then (i : Int) else scan f (256 - (i + 1)) (i + 1) := by
  rw [show 256 - i = (256 - (i + 1)) + 1 by omega]; simp only [scan]
theorem nextF_nat (f : Nat → Bool) (k : Nat) : nextF f k = scan f (256 - k) k := by
  have : startN (k : Int) = k := by unfold startN; omega
  unfold nextF; rw [this]
theorem scan_cases (f : Nat → Bool) (n : Nat) : ∀ k, (scan f n k = -1 ∧ ∀ j, k ≤ j → j < k + n → f j = false) ∨ ∃ i : Nat, k ≤ i ∧ i < k + n ∧ scan f n k = i ∧ f i = true ∧ ∀ j, k ≤ j → j < i → f j = false := by
  induction n with
  | zero => intro k; exact Or.inl ⟨rfl, fun j h1 h2 => by omega⟩
  | succ n ih =>
    intro k
    simp only [scan]
    cases hf : f k with
    | true => exact Or.inr ⟨k, Nat.le_refl _, by omega, by simp, hf, fun j h1 h2 => by omega⟩
    | false =>
      rcases ih (k + 1) with ⟨h1, h2⟩ | ⟨i, h1, h2, h3, h4, h5⟩
      · refine Or.inl ⟨by simpa using h1, fun j h3 h4 => ?_⟩
        by_cases e : j = k
        · rw [e]; exact hf
        · exact h2 j (by omega) (by omega)
      · refine Or.inr ⟨i, by omega, by omega, by simpa using h3, h4, fun j h6 h7 => ?_⟩
        by_cases e : j = k
        · rw [e]; exact hf
        · exact h5 j (by omega) (by omega)
theorem next_cases (f : Nat → Bool) {k : Nat} (hk : k ≤ 256) : (nextF f k = -1 ∧ ∀ j, k ≤ j → j < 256 → f j = false) ∨ ∃ i : Nat, k ≤ i ∧ i < 256 ∧ nextF f k = i ∧ f i = true ∧ ∀ j, k ≤ j → j < i → f j = false := by
  rw [nextF_nat]
  have := scan_cases f (256 - k) k
  rwa [show k + (256 - k) = 256 by omega] at this
theorem allF_gap (f : Nat → Bool) (k d : Nat) (h : ∀ j, k ≤ j → j < k + d → f j = false) : allF f (k + d) = allF f k ∧ cnt f (k + d) = cnt f k := by
  induction d with
  | zero => exact ⟨rfl, rfl⟩
  | succ d ih =>
    obtain ⟨h1, h2⟩ := ih fun j h1 h2 => h j h1 (by omega)
    have hf := h (k + d) (by omega) (by omega)
    rw [show k + (d + 1) = (k + d) + 1 by omega, allF_succ, hf]
    refine ⟨by simpa using h1, ?_⟩
    simp only [cnt, hf]; simpa using h2
theorem allF_next (f : Nat → Bool) {k i : Nat} (hk : k ≤ i) (hf : f i = true) (h : ∀ j, k ≤ j → j < i → f j = false) : allF f (i + 1) = allF f k ++ [(i : Int)] ∧ cnt f (i + 1) = cnt f k + 1 := by
  obtain ⟨d, rfl⟩ : ∃ d, i = k + d := ⟨i - k, by omega⟩
  obtain ⟨h1, h2⟩ := allF_gap f k d h
  rw [allF_succ, hf]
  refine ⟨by rw [h1]; simp, ?_⟩
  simp only [cnt, hf]; rw [h2]; rfl
end MaskP
end Go.Proofs.YtclnnkacfanaiaaDoor

/- How many bits are one, by Go's six steps: plain Lean, no program in sight. -/
namespace Go.Proofs.YtclnnkacfanaiaaDoor
open Go.RowKit
set_option linter.unusedVariables false
set_option linter.unusedSimpArgs false

namespace Ones
open MaskP
def rep (m : Nat) : Nat → Nat
  | 0 => 0
  | k + 1 => m + 256 * rep m k
def lanes (g : Nat → Nat) : Nat → Nat → Nat
  | 0, _ => 0
  | k + 1, x => g (x % 256) + 256 * lanes g k (x / 256)

theorem and_split (x m M : Nat) (hm : m < 256) : x &&& (m + 256 * M) = (x % 256 &&& m) + 256 * (x / 256 &&& M) := by
  have hlo : (x % 256 &&& m) < 2 ^ 8 := Nat.and_lt_two_pow _ hm
  apply Nat.eq_of_testBit_eq
  intro i
  rw [show m + 256 * M = 2 ^ 8 * M + m by omega, show (x % 256 &&& m) + 256 * (x / 256 &&& M) = 2 ^ 8 * (x / 256 &&& M) + (x % 256 &&& m) by omega]
  rw [Nat.testBit_and, Nat.testBit_two_pow_mul_add _ hm, Nat.testBit_two_pow_mul_add _ hlo]
  split
  · rename_i h
    rw [Nat.testBit_and, show x % 256 = x % 2 ^ 8 from rfl, Nat.testBit_mod_two_pow]; simp [h]
  · rename_i h
    rw [Nat.testBit_and, show x / 256 = x / 2 ^ 8 from rfl, Nat.testBit_div_two_pow]
    rw [show i - 8 + 8 = i by omega]

theorem shift_low (x s m : Nat) (hs : s ≤ 8) (hm : m < 2 ^ (8 - s)) : (x / 2 ^ s % 256 &&& m) = (x % 256 / 2 ^ s &&& m) := by
  apply Nat.eq_of_testBit_eq
  intro i
  rw [Nat.testBit_and, Nat.testBit_and]
  by_cases hi : i < 8 - s
  · rw [show x / 2 ^ s % 256 = x / 2 ^ s % 2 ^ 8 from rfl, Nat.testBit_mod_two_pow, Nat.testBit_div_two_pow, Nat.testBit_div_two_pow, show x % 256 = x % 2 ^ 8 from rfl, Nat.testBit_mod_two_pow]
    have h1 : i < 8 := by omega
    have h2 : i + s < 8 := by omega
    simp [h1, h2]
  · have : m.testBit i = false := Nat.testBit_lt_two_pow (Nat.lt_of_lt_of_le hm (Nat.pow_le_pow_right (by omega) (by omega)))
    simp [this]

theorem and_lanes (m s : Nat) (hs : s ≤ 8) (hm : m < 2 ^ (8 - s)) (hm2 : m < 256) (k : Nat) : ∀ x, (x / 2 ^ s &&& rep m k) = lanes (fun b => b / 2 ^ s &&& m) k x := by
  induction k with
  | zero => intro x; simp [rep, lanes]
  | succ k ih =>
    intro x
    simp only [rep, lanes]
    rw [and_split _ _ _ hm2, shift_low x s m hs hm, Nat.div_div_eq_div_mul, Nat.mul_comm (2 ^ s) 256, ← Nat.div_div_eq_div_mul, ih]

theorem lanes_add (f g : Nat → Nat) (k : Nat) : ∀ x, lanes f k x + lanes g k x = lanes (fun b => f b + g b) k x := by
  induction k with
  | zero => intro x; rfl
  | succ k ih => intro x; simp only [lanes]; rw [← ih]; omega

theorem lanes_comp (f g : Nat → Nat) (hg : ∀ b, b < 256 → g b < 256) (k : Nat) : ∀ x, lanes f k (lanes g k x) = lanes (fun b => f (g b)) k x := by
  induction k with
  | zero => intro x; rfl
  | succ k ih =>
    intro x
    have h := hg (x % 256) (Nat.mod_lt _ (by omega))
    simp only [lanes]
    rw [show (g (x % 256) + 256 * lanes g k (x / 256)) % 256 = g (x % 256) by omega, show (g (x % 256) + 256 * lanes g k (x / 256)) / 256 = lanes g k (x / 256) by omega, ih]

theorem lanes_congr (f g : Nat → Nat) (h : ∀ b, b < 256 → f b = g b) (k : Nat) : ∀ x, lanes f k x = lanes g k x := by
  induction k with
  | zero => intro x; rfl
  | succ k ih => intro x; simp only [lanes]; rw [h _ (Nat.mod_lt _ (by omega)), ih]

def s1 (x : Nat) : Nat := (x / 2 &&& 6148914691236517205) + (x &&& 6148914691236517205)
def s2 (x : Nat) : Nat := (x / 4 &&& 3689348814741910323) + (x &&& 3689348814741910323)
def s3 (x : Nat) : Nat := (x / 16 + x) % 18446744073709551616 &&& 1085102592571150095
def s4 (x : Nat) : Nat := (x + x / 256) % 18446744073709551616
def s5 (x : Nat) : Nat := (x + x / 65536) % 18446744073709551616
def s6 (x : Nat) : Nat := (x + x / 4294967296) % 18446744073709551616
def g1 (b : Nat) : Nat := (b / 2 &&& 85) + (b &&& 85)
def g2 (b : Nat) : Nat := (b / 4 &&& 51) + (b &&& 51)

theorem s1_lanes (x : Nat) : s1 x = lanes g1 8 x := by
  have h1 := and_lanes 85 1 (by omega) (by decide) (by omega) 8 x
  have h0 := and_lanes 85 0 (by omega) (by decide) (by omega) 8 x
  rw [show rep 85 8 = 6148914691236517205 by decide] at h1 h0
  simp only [Nat.pow_zero, Nat.div_one, Nat.pow_one] at h1 h0
  unfold s1
  rw [h1, h0, lanes_add]; rfl
theorem s2_lanes (x : Nat) : s2 x = lanes g2 8 x := by
  have h1 := and_lanes 51 2 (by omega) (by decide) (by omega) 8 x
  have h0 := and_lanes 51 0 (by omega) (by decide) (by omega) 8 x
  rw [show rep 51 8 = 3689348814741910323 by decide] at h1 h0
  simp only [Nat.pow_zero, Nat.div_one] at h1 h0
  rw [show (2 : Nat) ^ 2 = 4 from rfl] at h1
  unfold s2
  rw [h1, h0, lanes_add]; rfl

theorem small : ∀ b, b < 256 → g1 b < 256 ∧ g2 (g1 b) % 16 ≤ 4 ∧ g2 (g1 b) / 16 ≤ 4 ∧ g2 (g1 b) % 16 + g2 (g1 b) / 16 = cnt b.testBit 8 := by decide +kernel

theorem cnt_split (x : Nat) (n : Nat) : cnt x.testBit (8 + n) = cnt (x % 256).testBit 8 + cnt (x / 256).testBit n := by
  induction n with
  | zero =>
    simp only [Nat.add_zero, cnt]
    have h : ∀ i, i < 8 → (x % 256).testBit i = x.testBit i := fun i hi => by
      rw [show x % 256 = x % 2 ^ 8 from rfl, Nat.testBit_mod_two_pow]; simp [hi]
    rw [h 0 (by omega), h 1 (by omega), h 2 (by omega), h 3 (by omega), h 4 (by omega), h 5 (by omega), h 6 (by omega), h 7 (by omega)]
  | succ n ih =>
    rw [show 8 + (n + 1) = (8 + n) + 1 by omega]
    show cnt x.testBit (8 + n) + (x.testBit (8 + n)).toNat = cnt (x % 256).testBit 8 + (cnt (x / 256).testBit n + ((x / 256).testBit n).toNat)
    have h : (x / 256).testBit n = x.testBit (8 + n) := by rw [show x / 256 = x / 2 ^ 8 from rfl, Nat.testBit_div_two_pow, Nat.add_comm]
    rw [ih, h]; omega

theorem last4 (q0 q1 q2 q3 q4 q5 q6 q7 : Nat) (a0 : q0 ≤ 8) (a1 : q1 ≤ 8) (a2 : q2 ≤ 8) (a3 : q3 ≤ 8) (a4 : q4 ≤ 8) (a5 : q5 ≤ 8) (a6 : q6 ≤ 8) (a7 : q7 ≤ 8) : s4 (q0 + 256 * (q1 + 256 * (q2 + 256 * (q3 + 256 * (q4 + 256 * (q5 + 256 * (q6 + 256 * (q7 + 256 * 0)))))))) = (q0 + q1) + 256 * ((q1 + q2) + 256 * ((q2 + q3) + 256 * ((q3 + q4) + 256 * ((q4 + q5) + 256 * ((q5 + q6) + 256 * ((q6 + q7) + 256 * (q7 + 256 * 0))))))) := by
  have h : (q0 + 256 * (q1 + 256 * (q2 + 256 * (q3 + 256 * (q4 + 256 * (q5 + 256 * (q6 + 256 * (q7 + 256 * 0)))))))) / 256 = q1 + 256 * (q2 + 256 * (q3 + 256 * (q4 + 256 * (q5 + 256 * (q6 + 256 * (q7 + 256 * 0)))))) := by omega
  unfold s4
  rw [h, Nat.mod_eq_of_lt (by omega)]
  omega
theorem last5 (q0 q1 q2 q3 q4 q5 q6 q7 : Nat) (a0 : q0 ≤ 8) (a1 : q1 ≤ 8) (a2 : q2 ≤ 8) (a3 : q3 ≤ 8) (a4 : q4 ≤ 8) (a5 : q5 ≤ 8) (a6 : q6 ≤ 8) (a7 : q7 ≤ 8) : s5 ((q0 + q1) + 256 * ((q1 + q2) + 256 * ((q2 + q3) + 256 * ((q3 + q4) + 256 * ((q4 + q5) + 256 * ((q5 + q6) + 256 * ((q6 + q7) + 256 * (q7 + 256 * 0)))))))) = ((q0 + q1) + (q2 + q3)) + 256 * (((q1 + q2) + (q3 + q4)) + 256 * (((q2 + q3) + (q4 + q5)) + 256 * (((q3 + q4) + (q5 + q6)) + 256 * (((q4 + q5) + (q6 + q7)) + 256 * (((q5 + q6) + q7) + 256 * ((q6 + q7) + 256 * (q7 + 256 * 0))))))) := by
  have h : ((q0 + q1) + 256 * ((q1 + q2) + 256 * ((q2 + q3) + 256 * ((q3 + q4) + 256 * ((q4 + q5) + 256 * ((q5 + q6) + 256 * ((q6 + q7) + 256 * (q7 + 256 * 0)))))))) / 65536 = (q2 + q3) + 256 * ((q3 + q4) + 256 * ((q4 + q5) + 256 * ((q5 + q6) + 256 * ((q6 + q7) + 256 * (q7 + 256 * 0))))) := by omega
  unfold s5
  rw [h, Nat.mod_eq_of_lt (by omega)]
  omega
theorem last6 (q0 q1 q2 q3 q4 q5 q6 q7 : Nat) (a0 : q0 ≤ 8) (a1 : q1 ≤ 8) (a2 : q2 ≤ 8) (a3 : q3 ≤ 8) (a4 : q4 ≤ 8) (a5 : q5 ≤ 8) (a6 : q6 ≤ 8) (a7 : q7 ≤ 8) : s6 (((q0 + q1) + (q2 + q3)) + 256 * (((q1 + q2) + (q3 + q4)) + 256 * (((q2 + q3) + (q4 + q5)) + 256 * (((q3 + q4) + (q5 + q6)) + 256 * (((q4 + q5) + (q6 + q7)) + 256 * (((q5 + q6) + q7) + 256 * ((q6 + q7) + 256 * (q7 + 256 * 0)))))))) = (((q0 + q1) + (q2 + q3)) + ((q4 + q5) + (q6 + q7))) + 256 * ((((q1 + q2) + (q3 + q4)) + ((q5 + q6) + q7)) + 256 * ((((q2 + q3) + (q4 + q5)) + (q6 + q7)) + 256 * ((((q3 + q4) + (q5 + q6)) + q7) + 256 * (((q4 + q5) + (q6 + q7)) + 256 * (((q5 + q6) + q7) + 256 * ((q6 + q7) + 256 * (q7 + 256 * 0))))))) := by
  have h : (((q0 + q1) + (q2 + q3)) + 256 * (((q1 + q2) + (q3 + q4)) + 256 * (((q2 + q3) + (q4 + q5)) + 256 * (((q3 + q4) + (q5 + q6)) + 256 * (((q4 + q5) + (q6 + q7)) + 256 * (((q5 + q6) + q7) + 256 * ((q6 + q7) + 256 * (q7 + 256 * 0)))))))) / 4294967296 = ((q4 + q5) + (q6 + q7)) + 256 * (((q5 + q6) + q7) + 256 * ((q6 + q7) + 256 * (q7 + 256 * 0))) := by omega
  unfold s6
  rw [h, Nat.mod_eq_of_lt (by omega)]
  omega
theorem last (q0 q1 q2 q3 q4 q5 q6 q7 : Nat) (a0 : q0 ≤ 8) (a1 : q1 ≤ 8) (a2 : q2 ≤ 8) (a3 : q3 ≤ 8) (a4 : q4 ≤ 8) (a5 : q5 ≤ 8) (a6 : q6 ≤ 8) (a7 : q7 ≤ 8) : s6 (s5 (s4 (q0 + 256 * (q1 + 256 * (q2 + 256 * (q3 + 256 * (q4 + 256 * (q5 + 256 * (q6 + 256 * (q7 + 256 * 0)))))))))) % 128 = q0 + q1 + q2 + q3 + q4 + q5 + q6 + q7 := by
  rw [last4 q0 q1 q2 q3 q4 q5 q6 q7 a0 a1 a2 a3 a4 a5 a6 a7, last5 q0 q1 q2 q3 q4 q5 q6 q7 a0 a1 a2 a3 a4 a5 a6 a7, last6 q0 q1 q2 q3 q4 q5 q6 q7 a0 a1 a2 a3 a4 a5 a6 a7]
  omega
theorem and15 (b : Nat) : (b &&& 15) = b % 16 := Nat.and_two_pow_sub_one_eq_mod b 4
theorem lanes_cons (g : Nat → Nat) (k e r : Nat) (h : e < 256) : lanes g (k + 1) (e + 256 * r) = g e + 256 * lanes g k r := by
  simp only [lanes]
  rw [show (e + 256 * r) % 256 = e by omega, show (e + 256 * r) / 256 = r by omega]
theorem low16 (a b : Nat) (h : a < 16) : (a + 16 * b) % 16 = a := by omega
theorem lt256 {u v x y : Nat} (h1 : u ≤ 4) (h2 : v ≤ 4) (h3 : x ≤ 4) (h4 : y ≤ 4) : u + v + 16 * (x + y) < 256 := by omega
theorem lt256' {u v : Nat} (h1 : u ≤ 4) (h2 : v ≤ 4) : u + v + 16 * v < 256 := by omega
theorem lt16 {u v : Nat} (h1 : u ≤ 4) (h2 : v ≤ 4) : u + v < 16 := by omega
theorem le8 {u v : Nat} (h1 : u ≤ 4) (h2 : v ≤ 4) : u + v ≤ 8 := by omega
theorem lanes_lt (g : Nat → Nat) (hg : ∀ b, b < 256 → g b < 256) (k : Nat) : ∀ x, lanes g k x < 256 ^ k := by
  induction k with
  | zero => intro x; simp [lanes]
  | succ k ih =>
    intro x
    have h1 := hg (x % 256) (Nat.mod_lt _ (by omega))
    have h2 := ih (x / 256)
    simp only [lanes, Nat.pow_succ]
    omega
theorem third (u0 u1 u2 u3 u4 u5 u6 u7 v0 v1 v2 v3 v4 v5 v6 v7 : Nat) (a0 : u0 ≤ 4) (b0 : v0 ≤ 4) (a1 : u1 ≤ 4) (b1 : v1 ≤ 4) (a2 : u2 ≤ 4) (b2 : v2 ≤ 4) (a3 : u3 ≤ 4) (b3 : v3 ≤ 4) (a4 : u4 ≤ 4) (b4 : v4 ≤ 4) (a5 : u5 ≤ 4) (b5 : v5 ≤ 4) (a6 : u6 ≤ 4) (b6 : v6 ≤ 4) (a7 : u7 ≤ 4) (b7 : v7 ≤ 4) : s3 (u0 + 16 * v0 + 256 * (u1 + 16 * v1 + 256 * (u2 + 16 * v2 + 256 * (u3 + 16 * v3 + 256 * (u4 + 16 * v4 + 256 * (u5 + 16 * v5 + 256 * (u6 + 16 * v6 + 256 * (u7 + 16 * v7 + 256 * 0)))))))) = u0 + v0 + 256 * (u1 + v1 + 256 * (u2 + v2 + 256 * (u3 + v3 + 256 * (u4 + v4 + 256 * (u5 + v5 + 256 * (u6 + v6 + 256 * (u7 + v7 + 256 * 0))))))) := by
  have hd : (u0 + 16 * v0 + 256 * (u1 + 16 * v1 + 256 * (u2 + 16 * v2 + 256 * (u3 + 16 * v3 + 256 * (u4 + 16 * v4 + 256 * (u5 + 16 * v5 + 256 * (u6 + 16 * v6 + 256 * (u7 + 16 * v7 + 256 * 0)))))))) / 16 = v0 + 16 * ((u1 + 16 * v1) + 256 * ((u2 + 16 * v2) + 256 * ((u3 + 16 * v3) + 256 * ((u4 + 16 * v4) + 256 * ((u5 + 16 * v5) + 256 * ((u6 + 16 * v6) + 256 * ((u7 + 16 * v7) + 256 * 0))))))) := by omega
  have hs : v0 + 16 * ((u1 + 16 * v1) + 256 * ((u2 + 16 * v2) + 256 * ((u3 + 16 * v3) + 256 * ((u4 + 16 * v4) + 256 * ((u5 + 16 * v5) + 256 * ((u6 + 16 * v6) + 256 * ((u7 + 16 * v7) + 256 * 0))))))) + (u0 + 16 * v0 + 256 * (u1 + 16 * v1 + 256 * (u2 + 16 * v2 + 256 * (u3 + 16 * v3 + 256 * (u4 + 16 * v4 + 256 * (u5 + 16 * v5 + 256 * (u6 + 16 * v6 + 256 * (u7 + 16 * v7 + 256 * 0)))))))) = (u0 + v0 + 16 * (v0 + u1)) + 256 * ((u1 + v1 + 16 * (v1 + u2)) + 256 * ((u2 + v2 + 16 * (v2 + u3)) + 256 * ((u3 + v3 + 16 * (v3 + u4)) + 256 * ((u4 + v4 + 16 * (v4 + u5)) + 256 * ((u5 + v5 + 16 * (v5 + u6)) + 256 * ((u6 + v6 + 16 * (v6 + u7)) + 256 * ((u7 + v7 + 16 * v7) + 256 * 0))))))) := by omega
  have hl : (u0 + v0 + 16 * (v0 + u1)) + 256 * ((u1 + v1 + 16 * (v1 + u2)) + 256 * ((u2 + v2 + 16 * (v2 + u3)) + 256 * ((u3 + v3 + 16 * (v3 + u4)) + 256 * ((u4 + v4 + 16 * (v4 + u5)) + 256 * ((u5 + v5 + 16 * (v5 + u6)) + 256 * ((u6 + v6 + 16 * (v6 + u7)) + 256 * ((u7 + v7 + 16 * v7) + 256 * 0))))))) < 18446744073709551616 := by omega
  have h0 := and_lanes 15 0 (by omega) (by decide) (by omega) 8 ((u0 + v0 + 16 * (v0 + u1)) + 256 * ((u1 + v1 + 16 * (v1 + u2)) + 256 * ((u2 + v2 + 16 * (v2 + u3)) + 256 * ((u3 + v3 + 16 * (v3 + u4)) + 256 * ((u4 + v4 + 16 * (v4 + u5)) + 256 * ((u5 + v5 + 16 * (v5 + u6)) + 256 * ((u6 + v6 + 16 * (v6 + u7)) + 256 * ((u7 + v7 + 16 * v7) + 256 * 0))))))))
  rw [show rep 15 8 = 1085102592571150095 by decide] at h0
  simp only [Nat.pow_zero, Nat.div_one, and15] at h0
  unfold s3
  rw [hd, hs, Nat.mod_eq_of_lt hl, h0]
  rw [lanes_cons _ _ _ _ (lt256 a0 b0 b0 a1), lanes_cons _ _ _ _ (lt256 a1 b1 b1 a2), lanes_cons _ _ _ _ (lt256 a2 b2 b2 a3), lanes_cons _ _ _ _ (lt256 a3 b3 b3 a4), lanes_cons _ _ _ _ (lt256 a4 b4 b4 a5), lanes_cons _ _ _ _ (lt256 a5 b5 b5 a6), lanes_cons _ _ _ _ (lt256 a6 b6 b6 a7), lanes_cons _ _ _ _ (lt256' a7 b7)]
  rw [low16 _ _ (lt16 a0 b0), low16 _ _ (lt16 a1 b1), low16 _ _ (lt16 a2 b2), low16 _ _ (lt16 a3 b3), low16 _ _ (lt16 a4 b4), low16 _ _ (lt16 a5 b5), low16 _ _ (lt16 a6 b6), low16 _ _ (lt16 a7 b7)]
  rfl
theorem six (x : Nat) (hx : x < 18446744073709551616) : s6 (s5 (s4 (s3 (s2 (s1 x))))) % 128 = cnt x.testBit 64 := by
  rw [s2_lanes, s1_lanes, lanes_comp _ _ (fun b hb => (small b hb).1)]
  have e64 : cnt x.testBit 64 = cnt (x % 256).testBit 8 + (cnt (x / 256 % 256).testBit 8 + (cnt (x / 256 / 256 % 256).testBit 8 + (cnt (x / 256 / 256 / 256 % 256).testBit 8 +
      (cnt (x / 256 / 256 / 256 / 256 % 256).testBit 8 + (cnt (x / 256 / 256 / 256 / 256 / 256 % 256).testBit 8 + (cnt (x / 256 / 256 / 256 / 256 / 256 / 256 % 256).testBit 8 + cnt (x / 256 / 256 / 256 / 256 / 256 / 256 / 256 % 256).testBit 8)))))) := by
    rw [show 64 = 8 + 56 from rfl, cnt_split, show 56 = 8 + 48 from rfl, cnt_split, show 48 = 8 + 40 from rfl, cnt_split, show 40 = 8 + 32 from rfl, cnt_split, show 32 = 8 + 24 from rfl, cnt_split,
      show 24 = 8 + 16 from rfl, cnt_split, show 16 = 8 + 8 from rfl, cnt_split]
    have : x / 256 / 256 / 256 / 256 / 256 / 256 / 256 % 256 = x / 256 / 256 / 256 / 256 / 256 / 256 / 256 := by omega
    rw [this]
  obtain ⟨c0, p0, r0, t0⟩ := small (x % 256) (Nat.mod_lt _ (by omega))
  obtain ⟨c1, p1, r1, t1⟩ := small (x / 256 % 256) (Nat.mod_lt _ (by omega))
  obtain ⟨c2, p2, r2, t2⟩ := small (x / 256 / 256 % 256) (Nat.mod_lt _ (by omega))
  obtain ⟨c3, p3, r3, t3⟩ := small (x / 256 / 256 / 256 % 256) (Nat.mod_lt _ (by omega))
  obtain ⟨c4, p4, r4, t4⟩ := small (x / 256 / 256 / 256 / 256 % 256) (Nat.mod_lt _ (by omega))
  obtain ⟨c5, p5, r5, t5⟩ := small (x / 256 / 256 / 256 / 256 / 256 % 256) (Nat.mod_lt _ (by omega))
  obtain ⟨c6, p6, r6, t6⟩ := small (x / 256 / 256 / 256 / 256 / 256 / 256 % 256) (Nat.mod_lt _ (by omega))
  obtain ⟨c7, p7, r7, t7⟩ := small (x / 256 / 256 / 256 / 256 / 256 / 256 / 256 % 256) (Nat.mod_lt _ (by omega))
  rw [e64, ← t0, ← t1, ← t2, ← t3, ← t4, ← t5, ← t6, ← t7]
  clear e64 t0 t1 t2 t3 t4 t5 t6 t7
  simp only [lanes]
  have f0 := Nat.mod_add_div (g2 (g1 (x % 256))) 16
  have f1 := Nat.mod_add_div (g2 (g1 (x / 256 % 256))) 16
  have f2 := Nat.mod_add_div (g2 (g1 (x / 256 / 256 % 256))) 16
  have f3 := Nat.mod_add_div (g2 (g1 (x / 256 / 256 / 256 % 256))) 16
  have f4 := Nat.mod_add_div (g2 (g1 (x / 256 / 256 / 256 / 256 % 256))) 16
  have f5 := Nat.mod_add_div (g2 (g1 (x / 256 / 256 / 256 / 256 / 256 % 256))) 16
  have f6 := Nat.mod_add_div (g2 (g1 (x / 256 / 256 / 256 / 256 / 256 / 256 % 256))) 16
  have f7 := Nat.mod_add_div (g2 (g1 (x / 256 / 256 / 256 / 256 / 256 / 256 / 256 % 256))) 16
  generalize g1 (x % 256) = d0 at *
  generalize g1 (x / 256 % 256) = d1 at *
  generalize g1 (x / 256 / 256 % 256) = d2 at *
  generalize g1 (x / 256 / 256 / 256 % 256) = d3 at *
  generalize g1 (x / 256 / 256 / 256 / 256 % 256) = d4 at *
  generalize g1 (x / 256 / 256 / 256 / 256 / 256 % 256) = d5 at *
  generalize g1 (x / 256 / 256 / 256 / 256 / 256 / 256 % 256) = d6 at *
  generalize g1 (x / 256 / 256 / 256 / 256 / 256 / 256 / 256 % 256) = d7 at *
  have h3 := third _ _ _ _ _ _ _ _ _ _ _ _ _ _ _ _ p0 r0 p1 r1 p2 r2 p3 r3 p4 r4 p5 r5 p6 r6 p7 r7
  rw [f0, f1, f2, f3, f4, f5, f6, f7] at h3
  rw [h3, last _ _ _ _ _ _ _ _ (le8 p0 r0) (le8 p1 r1) (le8 p2 r2) (le8 p3 r3) (le8 p4 r4) (le8 p5 r5) (le8 p6 r6) (le8 p7 r7)]
  simp only [Nat.add_assoc]
theorem s1_lt (x : Nat) : s1 x < 18446744073709551616 := by rw [s1_lanes]; exact lanes_lt _ (fun b hb => (small b hb).1) 8 x
theorem g2_lt : ∀ b, b < 256 → g2 b < 256 := by decide +kernel
theorem s2_lt (x : Nat) : s2 x < 18446744073709551616 := by rw [s2_lanes]; exact lanes_lt _ g2_lt 8 x
end Ones
end Go.Proofs.YtclnnkacfanaiaaDoor

/- Contracts of package mask: one byte. -/
namespace Go.Proofs.YtclnnkacfanaiaaDoor
open Go.RowKit
set_option linter.unusedVariables false
set_option linter.unusedSimpArgs false

namespace MaskA
open MaskP
theorem four (i : Nat) (h : i < 256) : i / 64 = 0 ∨ i / 64 = 1 ∨ i / 64 = 2 ∨ i / 64 = 3 := by omega

theorem with_any (f : Nat → Bool) (i : Nat) (hi : i < 256) (w : World) :
    Calls Tryd.prog 112 #[MV f, .int .u8 i] w fun e w' => e = .returned (MV (setb f i true)) ∧ Touch (fun _ => False) w w' := by
  have E := or_bit f i
  rcases four i hi with h | h | h | h
  · have h1 : (i : Int) / 64 = 0 := by omega
    have hv : Hid (MV (setb f i true) = .agg #[.int .u64 (bits .or .u64 (word f 0 : Nat) (IntKind.u64.wrap (2 ^ (i % 64)))), .int .u64 (word f 1 : Nat), .int .u64 (word f 2 : Nat), .int .u64 (word f 3 : Nat)]) := Lib.hid (by rw [h] at E; unfold MV; rw [word_other f i 1 true (by omega), word_other f i 2 true (by omega), word_other f i 3 true (by omega), E])
    clear E
    unfold MV
    change Calls _ _ _ _ fun e w' => e = .returned (MV (setb f i true)) ∧ _
    go_enter Tryd.func112, Tryd.ntmps112
    go_wp2
    refine bodyPost_ret (v := MV (setb f i true)) ?_ rfl ⟨rfl, ((Touch.refl _ _).alloc _).alloc _⟩
    rw [hv.out]
    simp [results, Tryd.results112, go_sem]
  · have h1 : (i : Int) / 64 = 1 := by omega
    have hv : Hid (MV (setb f i true) = .agg #[.int .u64 (word f 0 : Nat), .int .u64 (bits .or .u64 (word f 1 : Nat) (IntKind.u64.wrap (2 ^ (i % 64)))), .int .u64 (word f 2 : Nat), .int .u64 (word f 3 : Nat)]) := Lib.hid (by rw [h] at E; unfold MV; rw [word_other f i 0 true (by omega), word_other f i 2 true (by omega), word_other f i 3 true (by omega), E])
    clear E
    unfold MV
    change Calls _ _ _ _ fun e w' => e = .returned (MV (setb f i true)) ∧ _
    go_enter Tryd.func112, Tryd.ntmps112
    go_wp2
    refine bodyPost_ret (v := MV (setb f i true)) ?_ rfl ⟨rfl, ((Touch.refl _ _).alloc _).alloc _⟩
    rw [hv.out]
    simp [results, Tryd.results112, go_sem]
  · have h1 : (i : Int) / 64 = 2 := by omega
    have hv : Hid (MV (setb f i true) = .agg #[.int .u64 (word f 0 : Nat), .int .u64 (word f 1 : Nat), .int .u64 (bits .or .u64 (word f 2 : Nat) (IntKind.u64.wrap (2 ^ (i % 64)))), .int .u64 (word f 3 : Nat)]) := Lib.hid (by rw [h] at E; unfold MV; rw [word_other f i 0 true (by omega), word_other f i 1 true (by omega), word_other f i 3 true (by omega), E])
    clear E
    unfold MV
    change Calls _ _ _ _ fun e w' => e = .returned (MV (setb f i true)) ∧ _
    go_enter Tryd.func112, Tryd.ntmps112
    go_wp2
    refine bodyPost_ret (v := MV (setb f i true)) ?_ rfl ⟨rfl, ((Touch.refl _ _).alloc _).alloc _⟩
    rw [hv.out]
    simp [results, Tryd.results112, go_sem]
  · have h1 : (i : Int) / 64 = 3 := by omega
    have hv : Hid (MV (setb f i true) = .agg #[.int .u64 (word f 0 : Nat), .int .u64 (word f 1 : Nat), .int .u64 (word f 2 : Nat), .int .u64 (bits .or .u64 (word f 3 : Nat) (IntKind.u64.wrap (2 ^ (i % 64))))]) := Lib.hid (by rw [h] at E; unfold MV; rw [word_other f i 0 true (by omega), word_other f i 1 true (by omega), word_other f i 2 true (by omega), E])
    clear E
    unfold MV
    change Calls _ _ _ _ fun e w' => e = .returned (MV (setb f i true)) ∧ _
    go_enter Tryd.func112, Tryd.ntmps112
    go_wp2
    refine bodyPost_ret (v := MV (setb f i true)) ?_ rfl ⟨rfl, ((Touch.refl _ _).alloc _).alloc _⟩
    rw [hv.out]
    simp [results, Tryd.results112, go_sem]

theorem without_any (f : Nat → Bool) (i : Nat) (hi : i < 256) (w : World) :
    Calls Tryd.prog 103 #[MV f, .int .u8 i] w fun e w' => e = .returned (MV (setb f i false)) ∧ Touch (fun _ => False) w w' := by
  have E := andNot_bit f i
  rcases four i hi with h | h | h | h
  · have h1 : (i : Int) / 64 = 0 := by omega
    have hv : Hid (MV (setb f i false) = .agg #[.int .u64 (bits .andNot .u64 (word f 0 : Nat) (IntKind.u64.wrap (2 ^ (i % 64)))), .int .u64 (word f 1 : Nat), .int .u64 (word f 2 : Nat), .int .u64 (word f 3 : Nat)]) := Lib.hid (by rw [h] at E; unfold MV; rw [word_other f i 1 false (by omega), word_other f i 2 false (by omega), word_other f i 3 false (by omega), E])
    clear E
    unfold MV
    change Calls _ _ _ _ fun e w' => e = .returned (MV (setb f i false)) ∧ _
    go_enter Tryd.func103, Tryd.ntmps103
    go_wp2
    refine bodyPost_ret (v := MV (setb f i false)) ?_ rfl ⟨rfl, ((Touch.refl _ _).alloc _).alloc _⟩
    rw [hv.out]
    simp [results, Tryd.results103, go_sem]
  · have h1 : (i : Int) / 64 = 1 := by omega
    have hv : Hid (MV (setb f i false) = .agg #[.int .u64 (word f 0 : Nat), .int .u64 (bits .andNot .u64 (word f 1 : Nat) (IntKind.u64.wrap (2 ^ (i % 64)))), .int .u64 (word f 2 : Nat), .int .u64 (word f 3 : Nat)]) := Lib.hid (by rw [h] at E; unfold MV; rw [word_other f i 0 false (by omega), word_other f i 2 false (by omega), word_other f i 3 false (by omega), E])
    clear E
    unfold MV
    change Calls _ _ _ _ fun e w' => e = .returned (MV (setb f i false)) ∧ _
    go_enter Tryd.func103, Tryd.ntmps103
    go_wp2
    refine bodyPost_ret (v := MV (setb f i false)) ?_ rfl ⟨rfl, ((Touch.refl _ _).alloc _).alloc _⟩
    rw [hv.out]
    simp [results, Tryd.results103, go_sem]
  · have h1 : (i : Int) / 64 = 2 := by omega
    have hv : Hid (MV (setb f i false) = .agg #[.int .u64 (word f 0 : Nat), .int .u64 (word f 1 : Nat), .int .u64 (bits .andNot .u64 (word f 2 : Nat) (IntKind.u64.wrap (2 ^ (i % 64)))), .int .u64 (word f 3 : Nat)]) := Lib.hid (by rw [h] at E; unfold MV; rw [word_other f i 0 false (by omega), word_other f i 1 false (by omega), word_other f i 3 false (by omega), E])
    clear E
    unfold MV
    change Calls _ _ _ _ fun e w' => e = .returned (MV (setb f i false)) ∧ _
    go_enter Tryd.func103, Tryd.ntmps103
    go_wp2
    refine bodyPost_ret (v := MV (setb f i false)) ?_ rfl ⟨rfl, ((Touch.refl _ _).alloc _).alloc _⟩
    rw [hv.out]
    simp [results, Tryd.results103, go_sem]
  · have h1 : (i : Int) / 64 = 3 := by omega
    have hv : Hid (MV (setb f i false) = .agg #[.int .u64 (word f 0 : Nat), .int .u64 (word f 1 : Nat), .int .u64 (word f 2 : Nat), .int .u64 (bits .andNot .u64 (word f 3 : Nat) (IntKind.u64.wrap (2 ^ (i % 64))))]) := Lib.hid (by rw [h] at E; unfold MV; rw [word_other f i 0 false (by omega), word_other f i 1 false (by omega), word_other f i 2 false (by omega), E])
    clear E
    unfold MV
    change Calls _ _ _ _ fun e w' => e = .returned (MV (setb f i false)) ∧ _
    go_enter Tryd.func103, Tryd.ntmps103
    go_wp2
    refine bodyPost_ret (v := MV (setb f i false)) ?_ rfl ⟨rfl, ((Touch.refl _ _).alloc _).alloc _⟩
    rw [hv.out]
    simp [results, Tryd.results103, go_sem]

theorem has_any (f : Nat → Bool) (i : Nat) (hi : i < 256) (w : World) :
    Calls Tryd.prog 102 #[MV f, .int .u8 i] w fun e w' => e = .returned (.bool (f i)) ∧ Touch (fun _ => False) w w' := by
  have E := has_bit f i
  rcases four i hi with h | h | h | h
  · have h1 : (i : Int) / 64 = 0 := by omega
    have hv : Hid ((bits .and .u64 ((word f 0 : Nat) / 2 ^ (i % 64)) 1 == 1) = f i) := Lib.hid (by rw [h] at E; exact E)
    clear E
    unfold MV
    go_enter Tryd.func102, Tryd.ntmps102
    go_wp2
    go_ret
    exact ⟨by rw [← hv.out]; rfl, (Touch.refl _ _).alloc _⟩
  · have h1 : (i : Int) / 64 = 1 := by omega
    have hv : Hid ((bits .and .u64 ((word f 1 : Nat) / 2 ^ (i % 64)) 1 == 1) = f i) := Lib.hid (by rw [h] at E; exact E)
    clear E
    unfold MV
    go_enter Tryd.func102, Tryd.ntmps102
    go_wp2
    go_ret
    exact ⟨by rw [← hv.out]; rfl, (Touch.refl _ _).alloc _⟩
  · have h1 : (i : Int) / 64 = 2 := by omega
    have hv : Hid ((bits .and .u64 ((word f 2 : Nat) / 2 ^ (i % 64)) 1 == 1) = f i) := Lib.hid (by rw [h] at E; exact E)
    clear E
    unfold MV
    go_enter Tryd.func102, Tryd.ntmps102
    go_wp2
    go_ret
    exact ⟨by rw [← hv.out]; rfl, (Touch.refl _ _).alloc _⟩
  · have h1 : (i : Int) / 64 = 3 := by omega
    have hv : Hid ((bits .and .u64 ((word f 3 : Nat) / 2 ^ (i % 64)) 1 == 1) = f i) := Lib.hid (by rw [h] at E; exact E)
    clear E
    unfold MV
    go_enter Tryd.func102, Tryd.ntmps102
    go_wp2
    go_ret
    exact ⟨by rw [← hv.out]; rfl, (Touch.refl _ _).alloc _⟩
end MaskA
end Go.Proofs.YtclnnkacfanaiaaDoor

/- Contracts of package mask: the walks over all bytes. -/
namespace Go.Proofs.YtclnnkacfanaiaaDoor
open Go.RowKit
set_option linter.unusedVariables false
set_option linter.unusedSimpArgs false

namespace MaskA
open MaskP
/-- block b holds the words of a mask -/
def MAt (w : World) (b : Nat) (f : Nat → Bool) : Prop := w.cell? ⟨b, 0, none⟩ = some (.int .u64 (word f 0 : Nat)) ∧ w.cell? ⟨b, 1, none⟩ = some (.int .u64 (word f 1 : Nat)) ∧
  w.cell? ⟨b, 2, none⟩ = some (.int .u64 (word f 2 : Nat)) ∧ w.cell? ⟨b, 3, none⟩ = some (.int .u64 (word f 3 : Nat))
abbrev MC (f : Nat → Bool) : Array Value := #[.int .u64 (word f 0 : Nat), .int .u64 (word f 1 : Nat), .int .u64 (word f 2 : Nat), .int .u64 (word f 3 : Nat)]
theorem mat_new (w : World) (f : Nat → Bool) (t : Nat) : MAt (w.alloc (.cells #[.int .u64 (word f 0 : Nat), .int .u64 (word f 1 : Nat), .int .u64 (word f 2 : Nat), .int .u64 (word f 3 : Nat)] t)) w.heap.size f :=
  ⟨World.cell?_alloc_new _ _ _ _, World.cell?_alloc_new _ _ _ _, World.cell?_alloc_new _ _ _ _, World.cell?_alloc_new _ _ _ _⟩
theorem MAt.keep {S : Nat → Prop} {w w' : World} {b : Nat} {f : Nat → Bool} (h : MAt w b f) (ht : Touch S w w') (hn : ¬ S b) : MAt w' b f :=
  ⟨keepc ht hn h.1, keepc ht hn h.2.1, keepc ht hn h.2.2.1, keepc ht hn h.2.2.2⟩
theorem has_any' (f : Nat → Bool) (i : Nat) (hi : i < 256) (w : World) :
    Calls Tryd.prog 102 #[.agg #[.int .u64 (word f 0 : Nat), .int .u64 (word f 1 : Nat), .int .u64 (word f 2 : Nat), .int .u64 (word f 3 : Nat)], .int .u8 i] w fun e w' => e = .returned (.bool (f i)) ∧ Touch (fun _ => False) w w' :=
  has_any f i hi w

theorem next_walk (f : Nat → Bool) (b : Int) (m : Nat) (w : World) (hm : startN b = m) (hb : (b < 0 ∧ m = 0) ∨ b = m) (hV : V64 b) :
    Calls Tryd.prog 115 #[MV f, .int .i64 b] w fun e w' => e = .returned (.int .i64 (nextF f b)) ∧ Touch (fun _ => False) w w' := by
  have hN : Hid (nextF f b = scan f (256 - m) m) := Lib.hid (by unfold nextF; rw [hm])
  unfold MV
  clear hm
  unfold V64 at hV
  rcases hb with ⟨hb, rfl⟩ | rfl
  all_goals
    go_enter Tryd.func115, Tryd.ntmps115
    go_wp2_with (fail)
    go_loopw [5] (fun s5 wr => ∃ k : Nat, k < 9223372036854775808 ∧ s5 = .int .i64 k ∧ Hid (nextF f _ = scan f (256 - k) k) ∧ MAt wr w.heap.size f ∧ Touch (fun _ => False) w wr) (fun s5 _ => 256 - (intOf s5).toNat)
    case atStart => first | exact ⟨0, by decide, rfl, hN, mat_new _ _ _, (Touch.refl _ _).alloc _⟩ | exact ⟨m, by omega, rfl, hN, mat_new _ _ _, (Touch.refl _ _).alloc _⟩
    case round =>
      clear hN
      obtain ⟨k, hk, rfl, hN, hmat, ht⟩ := hrel
      by_cases hlt : k ≤ 255
      · obtain ⟨y0, y1, y2, y3⟩ := hmat
        go_wp2_with (fail)
        refine (has_any' f k (by omega) _).mono ?_
        rintro e w2 ⟨rfl, ht2⟩
        have hs := scan_step f (i := k) (by omega)
        have Hs := Lib.hid hs
        have Y := Lib.hid (show MAt wr w.heap.size f from ⟨y0, y1, y2, y3⟩)
        clear hs y0 y1 y2 y3
        cases hf : f k with
        | true =>
          have HF := Lib.hid hf
          go_wp2_with (fail)
          go_ret
          refine ⟨?_, ht.trans ht2 (fun _ h _ => h)⟩
          rw [hN.out, Hs.out, HF.out]; rfl
        | false =>
          have HF := Lib.hid hf
          go_wp2_with (fail)
          go_roundw
          case rel => exact ⟨k + 1, by omega, by go_num, Lib.hid (by rw [hN.out, Hs.out, HF.out]; rfl), Y.out.keep ht2 id, ht.trans ht2 (fun _ h _ => h)⟩
          case measure => simp [intOf]; omega
      · have hz : Hid (256 - k = 0) := Lib.hid (by omega)
        go_wp2_with (fail)
        go_ret
        refine ⟨?_, ht⟩
        rw [hN.out, hz.out]; rfl
theorem next_any (f : Nat → Bool) (b : Int) (w : World) (hV : V64 b) :
    Calls Tryd.prog 115 #[MV f, .int .i64 b] w fun e w' => e = .returned (.int .i64 (nextF f b)) ∧ Touch (fun _ => False) w w' := by
  refine next_walk f b (startN b) w rfl ?_ hV
  unfold startN
  by_cases h : b < 0
  · exact Or.inl ⟨h, by omega⟩
  · exact Or.inr (by omega)

theorem next_any' (f : Nat → Bool) (b : Int) (w : World) (hV : V64 b) :
    Calls Tryd.prog 115 #[.agg #[.int .u64 (word f 0 : Nat), .int .u64 (word f 1 : Nat), .int .u64 (word f 2 : Nat), .int .u64 (word f 3 : Nat)], .int .i64 b] w fun e w' => e = .returned (.int .i64 (nextF f b)) ∧ Touch (fun _ => False) w w' :=
  next_any f b w hV

set_option maxRecDepth 100000 in
set_option maxHeartbeats 400000 in
theorem all_any (f : Nat → Bool) (w : World) :
    Calls Tryd.prog 101 #[MV f] w fun e w' => ∃ v n, e = .returned v ∧ w'.ownsRow w.heap.size 5 1 v n (ivs .u8 (allF f 256)) ∧ Touch (fun _ => False) w w' := by
  unfold MV
  go_enter Tryd.func101, Tryd.ntmps101
  go_wp2_with (fail)
  refine (next_any' f 0 _ (by unfold V64; omega)).mono ?_
  rintro e w1 ⟨rfl, ht1⟩
  have hmat := (mat_new w f 124).keep ht1 id
  have HM := Lib.hid hmat
  have HT := Lib.hid (((Touch.refl (fun _ => False) w).alloc _).trans ht1 (fun _ h _ => h))
  clear hmat
  go_wp2_with (fail)
  go_loopw [3, 4] (fun v s4 wr => ∃ k : Nat, k ≤ 256 ∧ s4 = .int .i64 (nextF f k) ∧ wr.ownsRow (w.heap.size + 1) 5 1 v (cnt f k) (ivs .u8 (allF f k)) ∧ MAt wr w.heap.size f ∧ Touch (fun _ => False) w wr) (fun _ s4 _ => match s4 with | .int _ n => if n < 0 then 0 else 257 - n.toNat | _ => 0)
  case atStart => exact ⟨0, by omega, rfl, World.ownsRow_nil _ _ _ _, HM.out, HT.out⟩
  case round =>
    clear HM HT
    obtain ⟨k, hk, rfl, hown, hmat, ht⟩ := hrel
    have hob := fun j hj => (hown.lt j hj).1
    have hck := cnt_le f k
    rcases next_cases f hk with ⟨h1, h2⟩ | ⟨i, h1, h2, h3, h4, h5⟩
    · obtain ⟨d, hd⟩ : ∃ d, 256 = k + d := ⟨256 - k, by omega⟩
      obtain ⟨e1, e2⟩ := allF_gap f k d fun j h6 h7 => h2 j h6 (by omega)
      rw [← hd] at e1 e2
      rw [h1]
      have H1 := Lib.hid e1
      have H2 := Lib.hid e2
      clear e1 e2 h1 h2 hd
      go_wp2_with (fail)
      go_ret
      rw [H1.out]
      exact ⟨_, _, rfl, own_mono hown (by omega), ht⟩
    · obtain ⟨e1, e2⟩ := allF_next f h1 h4 h5
      rw [h3]
      have H1 := Lib.hid e1
      have H2 := Lib.hid e2
      have hlen : (allF f k).length = cnt f k := allF_length f k
      have Hl := Lib.hid hlen
      clear e1 e2 h3 h4 h5 hlen
      obtain ⟨y0, y1, y2, y3⟩ := hmat
      have Y := Lib.hid (show MAt wr w.heap.size f from ⟨y0, y1, y2, y3⟩)
      have nob : ¬ (u3.ownBlock = some w.heap.size) := fun h => by have := hob _ h; omega
      have hsz := ht.size
      have hbx := World.block_lt_of_cell? _ _ y0
      simp only at hbx
      have Hown := Lib.hid hown
      clear hown
      go_wp2_with (at_builtin; go_must (refine wpList_push rfl _ _ 23 rfl (w.heap.size + 1) 5 (.int .u8 0) 1 Tryd.underlying23 (by kernel_rfl) rfl u3 (cnt f k) _ rfl Hown.out _ rfl rfl ?c1 ?c2 ?c3 ?_); go_must (rotate_left 3; intro v' w1 hown1 ht1); go_must (have z0 := keepc ht1 nob y0; have z1 := keepc ht1 nob y1; have z2 := keepc ht1 nob y2; have z3 := keepc ht1 nob y3; clear y0 y1 y2 y3))
      case c1 => omega
      case c2 => simp [maxLen]; omega
      case c3 => omega
      refine (next_any' f _ _ (by unfold V64; omega)).mono ?_
      rintro e w2 ⟨rfl, ht2⟩
      have Z := Lib.hid (show MAt w1 w.heap.size f from ⟨z0, z1, z2, z3⟩)
      have Hown1 := Lib.hid hown1
      clear z0 z1 z2 z3 hown1
      go_wp2_with (fail)
      go_roundw
      case rel =>
        refine ⟨i + 1, by omega, by simp, ?_, Z.out.keep ht2 id, (ht.trans ht1 (fun j hj _ => by have := hob j hj; omega)).trans ht2 (fun _ h _ => h)⟩
        · rw [H2.out, H1.out]
          have := own_keep Hown1.out ht2 (fun _ _ h => h)
          simpa [ivs] using this
      case measure =>
        have hn := next_cases f (k := i + 1) (by omega)
        simp only [intOf, Int.natCast_add] at hn ⊢
        rw [if_neg (by omega : ¬ (i : Int) < 0)]
        rcases hn with ⟨h6, _⟩ | ⟨i', h6, h7, h8, _⟩
        · have h6' : nextF f ((i : Int) + 1) = -1 := h6
          rw [h6']; simp; omega
        · have h8' : nextF f ((i : Int) + 1) = i' := h8
          rw [h8', if_neg (by omega)]; simp; omega
end MaskA
end Go.Proofs.YtclnnkacfanaiaaDoor

/- Contracts of package mask: how many, and what some bytes make. -/
namespace Go.Proofs.YtclnnkacfanaiaaDoor
open Go.RowKit
set_option linter.unusedVariables false
set_option linter.unusedSimpArgs false

namespace MaskA
open MaskP Ones

theorem e1 (x : Nat) (hx : x < 18446744073709551616) : IntKind.u64.wrap (bits .and .u64 ((x : Int) / 2) 6148914691236517205 + bits .and .u64 (x : Int) 6148914691236517205) = (s1 x : Nat) := by
  rw [show ((x : Int) / 2) = ((x / 2 : Nat) : Int) by omega, show (6148914691236517205 : Int) = ((6148914691236517205 : Nat) : Int) from rfl, bits_and_u64_nat _ _ (by omega) (by omega), bits_and_u64_nat _ _ hx (by omega), ← Int.natCast_add]
  exact wrap_u64_nat _ (s1_lt x)
theorem e2 (x : Nat) (hx : x < 18446744073709551616) : IntKind.u64.wrap (bits .and .u64 ((x : Int) / 4) 3689348814741910323 + bits .and .u64 (x : Int) 3689348814741910323) = (s2 x : Nat) := by
  rw [show ((x : Int) / 4) = ((x / 4 : Nat) : Int) by omega, show (3689348814741910323 : Int) = ((3689348814741910323 : Nat) : Int) from rfl, bits_and_u64_nat _ _ (by omega) (by omega), bits_and_u64_nat _ _ hx (by omega), ← Int.natCast_add]
  exact wrap_u64_nat _ (s2_lt x)
theorem wrap_mod (n : Nat) : IntKind.u64.wrap (n : Int) = ((n % 18446744073709551616 : Nat) : Int) := by rw [IntKind.wrap_u64]; omega
theorem e3 (x : Nat) : bits .and .u64 (IntKind.u64.wrap ((x : Int) / 16 + x)) 1085102592571150095 = (s3 x : Nat) := by
  rw [show ((x : Int) / 16 + x) = ((x / 16 + x : Nat) : Int) by omega, wrap_mod, show (1085102592571150095 : Int) = ((1085102592571150095 : Nat) : Int) from rfl, bits_and_u64_nat _ _ (Nat.mod_lt _ (by omega)) (by omega)]
  rfl
theorem e4 (x : Nat) : IntKind.u64.wrap ((x : Int) + (x : Int) / 256) = (s4 x : Nat) := by rw [show ((x : Int) + (x : Int) / 256) = ((x + x / 256 : Nat) : Int) by omega, wrap_mod]; rfl
theorem e5 (x : Nat) : IntKind.u64.wrap ((x : Int) + (x : Int) / 65536) = (s5 x : Nat) := by rw [show ((x : Int) + (x : Int) / 65536) = ((x + x / 65536 : Nat) : Int) by omega, wrap_mod]; rfl
theorem e6 (x : Nat) : IntKind.u64.wrap ((x : Int) + (x : Int) / 4294967296) = (s6 x : Nat) := by rw [show ((x : Int) + (x : Int) / 4294967296) = ((x + x / 4294967296 : Nat) : Int) by omega, wrap_mod]; rfl
theorem ret_int {k : IntKind} {a b : Int} (h : a = b) : Ending.returned (.int k a) = .returned (.int k b) := by rw [h]
theorem and127 (z : Nat) (hz : z < 18446744073709551616) : bits .and .i64 (wrap64 (z : Int)) 127 = ((z % 128 : Nat) : Int) := by
  have h1 : (BitVec.ofInt 64 (wrap64 (z : Int))).toNat = z := by
    rw [BitVec.toNat_ofInt]; unfold wrap64; omega
  have h2 : (BitVec.ofInt 64 (127 : Int)).toNat = 127 := by decide
  show IntKind.i64.wrap ((BitVec.ofInt 64 (wrap64 (z : Int)) &&& BitVec.ofInt 64 (127 : Int)).toNat : Int) = _
  rw [BitVec.toNat_and, h1, h2, show z &&& 127 = z % 128 from Nat.and_two_pow_sub_one_eq_mod z 7, IntKind.wrap_i64]
  omega
theorem s3_lt (x : Nat) : s3 x < 18446744073709551616 := Nat.lt_of_le_of_lt Nat.and_le_right (by omega)

theorem ones_any (x : Nat) (hx : x < 18446744073709551616) (w : World) :
    Calls Tryd.prog 114 #[.int .u64 x] w fun e w' => e = .returned (.int .i64 (cnt x.testBit 64 : Nat)) ∧ w = w' := by
  have H := Lib.hid (six x hx)
  have b2 := s1_lt x
  go_enter Tryd.func114, Tryd.ntmps114
  go_upto_region 2 with (fail)
  rw [e1 x hx]
  go_upto_region 3 with (fail)
  rw [e2 _ b2]
  have b3 := s2_lt (s1 x)
  generalize s2 (s1 x) = y at *
  go_upto_region 4 with (fail)
  rw [e3]
  have b4 := s3_lt y
  generalize s3 y = z at *
  go_upto_region 5 with (fail)
  rw [e4]
  have b5 : s4 z < 18446744073709551616 := Nat.mod_lt _ (by omega)
  generalize s4 z = z1 at *
  go_upto_region 6 with (fail)
  rw [e5]
  have b6 : s5 z1 < 18446744073709551616 := Nat.mod_lt _ (by omega)
  generalize s5 z1 = z2 at *
  go_upto_region 7 with (fail)
  rw [e6]
  have b7 : s6 z2 < 18446744073709551616 := Nat.mod_lt _ (by omega)
  generalize s6 z2 = z3 at *
  have hfin : Hid (bits .and .i64 (wrap64 (z3 : Int)) 127 = (cnt x.testBit 64 : Nat)) := Lib.hid (by
    rw [← H.out]
    exact and127 z3 b7)
  go_wp2
  go_ret
  exact ⟨ret_int hfin.out, rfl⟩

theorem count_split (f : Nat → Bool) (n m : Nat) : cnt f (n + m) = cnt f n + cnt (fun t => f (n + t)) m := by
  induction m with
  | zero => rfl
  | succ m ih => show cnt f (n + m) + (f (n + m)).toNat = cnt f n + (cnt (fun t => f (n + t)) m + (f (n + m)).toNat); omega
theorem cnt_congr {f g : Nat → Bool} {n : Nat} (h : ∀ i, i < n → f i = g i) : cnt f n = cnt g n := by
  induction n with
  | zero => rfl
  | succ n ih => simp only [cnt]; rw [ih fun i hi => h i (by omega), h n (by omega)]
theorem cnt_word (f : Nat → Bool) (j : Nat) : cnt (word f j).testBit 64 = cnt (fun t => f (64 * j + t)) 64 := cnt_congr fun i hi => word_bit f j i hi
theorem cnt_words (f : Nat → Bool) : cnt (word f 0).testBit 64 + cnt (word f 1).testBit 64 + cnt (word f 2).testBit 64 + cnt (word f 3).testBit 64 = cnt f 256 := by
  simp only [cnt_word]
  rw [show 256 = 64 + (64 + (64 + 64)) from rfl, count_split f 64, count_split _ 64, count_split _ 64]
  have h0 : (fun t => f (64 * 0 + t)) = f := by funext t; congr 1; omega
  have h2 : (fun t => f (64 + (64 + t))) = (fun t => f (64 * 2 + t)) := by funext t; congr 1; omega
  have h3 : (fun t => f (64 + (64 + (64 + t)))) = (fun t => f (64 * 3 + t)) := by funext t; congr 1; omega
  have h1 : (fun t => f (64 + t)) = (fun t => f (64 * 1 + t)) := by funext t; congr 1
  rw [h0, h3, h2, h1]; omega

set_option maxRecDepth 100000 in
set_option maxHeartbeats 800000 in
theorem count_any (f : Nat → Bool) (w : World) :
    Calls Tryd.prog 100 #[MV f] w fun e w' => e = .returned (.int .i64 (cnt f 256 : Nat)) ∧ Touch (fun _ => False) w w' := by
  have H := Lib.hid (cnt_words f)
  have l0 := cnt_le (word f 0).testBit 64
  have l1 := cnt_le (word f 1).testBit 64
  have l2 := cnt_le (word f 2).testBit 64
  have l3 := cnt_le (word f 3).testBit 64
  have b0 := word_lt f 0
  have b1 := word_lt f 1
  have b2 := word_lt f 2
  have b3 := word_lt f 3
  unfold MV
  generalize word f 0 = x0 at *
  generalize word f 1 = x1 at *
  generalize word f 2 = x2 at *
  generalize word f 3 = x3 at *
  have hi0 : ∀ W : World, (Instr.index 124 (.agg #[.int .u64 x0, .int .u64 x1, .int .u64 x2, .int .u64 x3]) (.int .i64 0)).run Tryd.prog W = .ok (.int .u64 x0) W := fun _ => by kernel_rfl
  have hi1 : ∀ W : World, (Instr.index 124 (.agg #[.int .u64 x0, .int .u64 x1, .int .u64 x2, .int .u64 x3]) (.int .i64 1)).run Tryd.prog W = .ok (.int .u64 x1) W := fun _ => by kernel_rfl
  have hi2 : ∀ W : World, (Instr.index 124 (.agg #[.int .u64 x0, .int .u64 x1, .int .u64 x2, .int .u64 x3]) (.int .i64 2)).run Tryd.prog W = .ok (.int .u64 x2) W := fun _ => by kernel_rfl
  have hi3 : ∀ W : World, (Instr.index 124 (.agg #[.int .u64 x0, .int .u64 x1, .int .u64 x2, .int .u64 x3]) (.int .i64 3)).run Tryd.prog W = .ok (.int .u64 x3) W := fun _ => by kernel_rfl
  go_enter Tryd.func100, Tryd.ntmps100
  go_wp2_with (fail)
  refine wp_loop_rounds 5 ?_
  rw [rounds_succ]
  go_wp2_with (go_at_call 114; refine (ones_any x0 b0 _).mono ?_; rintro e w' ⟨rfl, rfl⟩)
  rw [rounds_succ]
  go_wp2_with (go_at_call 114; refine (ones_any x1 b1 _).mono ?_; rintro e w' ⟨rfl, rfl⟩)
  rw [rounds_succ]
  go_wp2_with (go_at_call 114; refine (ones_any x2 b2 _).mono ?_; rintro e w' ⟨rfl, rfl⟩)
  rw [rounds_succ]
  go_wp2_with (go_at_call 114; refine (ones_any x3 b3 _).mono ?_; rintro e w' ⟨rfl, rfl⟩)
  rw [rounds_succ]
  go_wp2_with (fail)
  go_ret
  refine ⟨?_, (Touch.refl _ _).alloc _⟩
  have := H.out
  rw [← this]
  exact ret_int (by simp)
end MaskA
end Go.Proofs.YtclnnkacfanaiaaDoor

/- Contracts of package mask: what some bytes make; when two masks are one. -/
namespace Go.Proofs.YtclnnkacfanaiaaDoor
open Go.RowKit
set_option linter.unusedVariables false
set_option linter.unusedSimpArgs false

namespace MaskA
open MaskP

/-- the set of some bytes -/
def ofF (xs : List Int) : Nat → Bool := xs.foldl (fun f b => setb f b.toNat true) (fun _ => false)
theorem ofF_snoc (xs : List Int) (b : Int) : ofF (xs ++ [b]) = setb (ofF xs) b.toNat true := by simp [ofF]

theorem with_any' (f : Nat → Bool) (i : Nat) (hi : i < 256) (w : World) :
    Calls Tryd.prog 112 #[.agg #[.int .u64 (word f 0 : Nat), .int .u64 (word f 1 : Nat), .int .u64 (word f 2 : Nat), .int .u64 (word f 3 : Nat)], .int .u8 i] w fun e w' => e = .returned (.agg #[.int .u64 (word (setb f i true) 0 : Nat), .int .u64 (word (setb f i true) 1 : Nat), .int .u64 (word (setb f i true) 2 : Nat), .int .u64 (word (setb f i true) 3 : Nat)]) ∧ Touch (fun _ => False) w w' :=
  with_any f i hi w

theorem word_none (j : Nat) : word (fun _ => false) j = 0 := by
  apply Nat.eq_of_testBit_eq
  intro i
  simp [word, testBit_wn]

theorem mat_set {w : World} {b : Nat} {f : Nat → Bool} (h : MAt w b f) (g : Nat → Bool) :
    MAt ((((w.setCell ⟨b, 0, none⟩ (.int .u64 (word g 0 : Nat))).setCell ⟨b, 1, none⟩ (.int .u64 (word g 1 : Nat))).setCell ⟨b, 2, none⟩ (.int .u64 (word g 2 : Nat))).setCell ⟨b, 3, none⟩ (.int .u64 (word g 3 : Nat))) b g := by
  obtain ⟨h0, h1, h2, h3⟩ := h
  have a0 := World.cell?_setCell_same w ⟨b, 0, none⟩ (.int .u64 (word g 0 : Nat)) h0
  have o : ∀ (W : World) (i j : Nat) (v : Value), i ≠ j → (W.setCell ⟨b, i, none⟩ v).cell? ⟨b, j, none⟩ = W.cell? ⟨b, j, none⟩ := fun W i j v hij => World.cell?_setCell_other _ _ _ _ (by simp [hij])
  refine ⟨?_, ?_, ?_, ?_⟩
  · rw [o _ _ _ _ (by omega), o _ _ _ _ (by omega), o _ _ _ _ (by omega)]; exact a0
  · rw [o _ _ _ _ (by omega), o _ _ _ _ (by omega)]; exact World.cell?_setCell_same _ _ _ (by rw [o _ _ _ _ (by omega)]; exact h1)
  · rw [o _ _ _ _ (by omega)]; exact World.cell?_setCell_same _ _ _ (by rw [o _ _ _ _ (by omega), o _ _ _ _ (by omega)]; exact h2)
  · exact World.cell?_setCell_same _ _ _ (by rw [o _ _ _ _ (by omega), o _ _ _ _ (by omega), o _ _ _ _ (by omega)]; exact h3)
theorem touch_set4 (w : World) (b : Nat) (v0 v1 v2 v3 : Value) : Touch (· = b) w ((((w.setCell ⟨b, 0, none⟩ v0).setCell ⟨b, 1, none⟩ v1).setCell ⟨b, 2, none⟩ v2).setCell ⟨b, 3, none⟩ v3) :=
  ((((Touch.refl (fun k => k = b) w).setCell (p := ⟨b, 0, none⟩) (Or.inl rfl) _).setCell (p := ⟨b, 1, none⟩) (Or.inl rfl) _).setCell (p := ⟨b, 2, none⟩) (Or.inl rfl) _).setCell (p := ⟨b, 3, none⟩) (Or.inl rfl) _
theorem mat_zero (w : World) (t : Nat) : MAt (w.alloc (.cells #[.int .u64 0, .int .u64 0, .int .u64 0, .int .u64 0] t)) w.heap.size (fun _ => false) := by
  have h := mat_new w (fun _ => false) t
  simp only [word_none] at h
  exact h

end MaskA
end Go.Proofs.YtclnnkacfanaiaaDoor

/- When two masks are one, for the walk. -/
namespace Go.Proofs.YtclnnkacfanaiaaDoor
open Go.RowKit
set_option linter.unusedVariables false
set_option linter.unusedSimpArgs false

namespace MaskA
open MaskP

theorem eqIn_int (n : Nat) (a b : Int) (w : World) : (Op.equalIn (n + 1) 28 (.int .u64 a) (.int .u64 b)).run Tryd.prog w = .ok (a == b) w := by
  simp [Op.equalIn, run_underlying Tryd.underlying28]

theorem eqIn_mask (n : Nat) (a b c d a' b' c' d' : Int) (w : World) :
    (Op.equalIn (n + 2) 124 (.agg #[.int .u64 a, .int .u64 b, .int .u64 c, .int .u64 d]) (.agg #[.int .u64 a', .int .u64 b', .int .u64 c', .int .u64 d'])).run Tryd.prog w = .ok (a == a' && (b == b' && (c == c' && d == d'))) w := by
  rw [Op.equalIn]
  simp only [Sem.run_bind, run_underlying Tryd.underlying124, Result.andThen_ok]
  have hs : ∀ w, (sizeOf 28).run Tryd.prog w = .ok 1 w := fun _ => by kernel_rfl
  simp only [hs, Result.andThen_ok]
  simp only [Std.Legacy.Range.forIn_eq_forIn_range', Std.Legacy.Range.size]
  have p0 : ∀ (a b c d : Int) w, (part 28 #[.int .u64 a, .int .u64 b, .int .u64 c, .int .u64 d] 0).run Tryd.prog w = .ok (.int .u64 a) w := fun _ _ _ _ _ => by kernel_rfl
  have p1 : ∀ (a b c d : Int) w, (part 28 #[.int .u64 a, .int .u64 b, .int .u64 c, .int .u64 d] 1).run Tryd.prog w = .ok (.int .u64 b) w := fun _ _ _ _ _ => by kernel_rfl
  have p2 : ∀ (a b c d : Int) w, (part 28 #[.int .u64 a, .int .u64 b, .int .u64 c, .int .u64 d] 2).run Tryd.prog w = .ok (.int .u64 c) w := fun _ _ _ _ _ => by kernel_rfl
  have p3 : ∀ (a b c d : Int) w, (part 28 #[.int .u64 a, .int .u64 b, .int .u64 c, .int .u64 d] 3).run Tryd.prog w = .ok (.int .u64 d) w := fun _ _ _ _ _ => by kernel_rfl
  rw [show List.range' 0 ((4 - 0 + 1 - 1) / 1) = [0, 1, 2, 3] from rfl]
  simp only [List.forIn_cons, List.forIn_nil, Nat.mul_one, Sem.run_bind, p0, p1, p2, p3, Result.andThen_ok, eqIn_int]
  by_cases h0 : a = a'
  · by_cases h1 : b = b'
    · by_cases h2 : c = c'
      · by_cases h3 : d = d'
        · simp [h0, h1, h2, h3, p0, p1, p2, p3, eqIn_int]
        · simp [h0, h1, h2, h3, p0, p1, p2, p3, eqIn_int]
      · simp [h0, h1, h2, p0, p1, p2, p3, eqIn_int]
    · simp [h0, h1, p0, p1, p2, p3, eqIn_int]
  · simp [h0, p0, p1, p2, p3, eqIn_int]

theorem eql_mask (a b c d a' b' c' d' : Int) (w : World) :
    (binOp .eql 124 (.agg #[.int .u64 a, .int .u64 b, .int .u64 c, .int .u64 d]) (.agg #[.int .u64 a', .int .u64 b', .int .u64 c', .int .u64 d'])).run Tryd.prog w = .ok (.bool (a == a' && (b == b' && (c == c' && d == d')))) w := by
  simp only [binOp]
  simp [Op.equal, Op.maxDepth, eqIn_mask 9998]
theorem neq_mask (a b c d a' b' c' d' : Int) (w : World) :
    (binOp .neq 124 (.agg #[.int .u64 a, .int .u64 b, .int .u64 c, .int .u64 d]) (.agg #[.int .u64 a', .int .u64 b', .int .u64 c', .int .u64 d'])).run Tryd.prog w = .ok (.bool (!(a == a' && (b == b' && (c == c' && d == d'))))) w := by
  simp only [binOp]
  simp [Op.equal, Op.maxDepth, eqIn_mask 9998]

/-! ### two sets that are alike are one mask -/
theorem word_ext {f g : Nat → Bool} (h : ∀ i, i < 256 → f i = g i) (j : Nat) (hj : j < 4) : word f j = word g j := wn_congr fun t ht => h _ (by omega)
theorem mv_ext {f g : Nat → Bool} (h : ∀ i, i < 256 → f i = g i) : MV f = MV g := by
  unfold MV; rw [word_ext h 0 (by omega), word_ext h 1 (by omega), word_ext h 2 (by omega), word_ext h 3 (by omega)]
theorem word_ne {f g : Nat → Bool} {i : Nat} (hi : i < 256) (h : f i ≠ g i) : word f (i / 64) ≠ word g (i / 64) := fun e => h (by
  have := wn_inj e (i % 64) (Nat.mod_lt _ (by omega))
  simpa [show 64 * (i / 64) + i % 64 = i by omega] using this)

/-! ### awake -/
def f3 : Nat → Bool := ofF [3, 200]
theorem ivs3 : ivs .u8 [3, 200] = [.int .u8 3, .int .u8 200] := rfl
theorem reads3 (w : World) : Reads (w.alloc (.cells #[.int .u8 3, .int .u8 200] 5)) (.slice (some ⟨w.heap.size, 0, none⟩) 2 2) (ivs .u8 [3, 200]) :=
  ⟨some ⟨w.heap.size, 0, none⟩, 2, rfl, by decide, by decide, fun i hi => ⟨w.heap.size, 0, rfl, by simp, by
    rw [World.cell?_alloc_new]
    match i, hi with
    | 0, _ => rfl
    | 1, _ => rfl⟩⟩
theorem reads1 (w : World) : Reads (w.alloc (.cells #[.int .u8 200] 5)) (.slice (some ⟨w.heap.size, 0, none⟩) 1 1) (ivs .u8 [200]) :=
  ⟨some ⟨w.heap.size, 0, none⟩, 1, rfl, by decide, by decide, fun i hi => ⟨w.heap.size, 0, rfl, by simp, by
    rw [World.cell?_alloc_new]
    match i, hi with
    | 0, _ => rfl⟩⟩
theorem count_any' (f : Nat → Bool) (w : World) :
    Calls Tryd.prog 100 #[.agg #[.int .u64 (word (f) 0 : Nat), .int .u64 (word (f) 1 : Nat), .int .u64 (word (f) 2 : Nat), .int .u64 (word (f) 3 : Nat)]] w fun e w' => e = .returned (.int .i64 (cnt f 256 : Nat)) ∧ Touch (fun _ => False) w w' := count_any f w
theorem without_any' (f : Nat → Bool) (i : Nat) (hi : i < 256) (w : World) :
    Calls Tryd.prog 103 #[.agg #[.int .u64 (word (f) 0 : Nat), .int .u64 (word (f) 1 : Nat), .int .u64 (word (f) 2 : Nat), .int .u64 (word (f) 3 : Nat)], .int .u8 i] w fun e w' => e = .returned (.agg #[.int .u64 (word (setb f i false) 0 : Nat), .int .u64 (word (setb f i false) 1 : Nat), .int .u64 (word (setb f i false) 2 : Nat), .int .u64 (word (setb f i false) 3 : Nat)]) ∧ Touch (fun _ => False) w w' := without_any f i hi w
theorem all_any' (f : Nat → Bool) (w : World) :
    Calls Tryd.prog 101 #[.agg #[.int .u64 (word (f) 0 : Nat), .int .u64 (word (f) 1 : Nat), .int .u64 (word (f) 2 : Nat), .int .u64 (word (f) 3 : Nat)]] w fun e w' => ∃ v n, e = .returned v ∧ w'.ownsRow w.heap.size 5 1 v n (ivs .u8 (allF f 256)) ∧ Touch (fun _ => False) w w' := all_any f w

end MaskA
end Go.Proofs.YtclnnkacfanaiaaDoor

/- Sets of bytes, what the statements want of them: plain Lean, no program in sight. -/
namespace Go.Proofs.YtclnnkacfanaiaaDoor
open Go.RowKit
set_option linter.unusedVariables false
set_option linter.unusedSimpArgs false

namespace MaskA
open MaskP

theorem u8_wf {x : Int} (h : (Lit.int .u8 x).wf = true) : 0 ≤ x ∧ x < 256 := by
  simp [Lit.wf, IntKind.min, IntKind.max, IntKind.signed, IntKind.bits] at h
  omega
theorem wrap_u8 {i : Nat} (h : i < 256) : IntKind.u8.wrap (i : Int) = i := by
  rw [IntKind.wrap_u8]; omega
theorem wrap_byte {i : Nat} (h : i < 256) : IntKind.i64.wrap (i : Int) = i := IntWalk.i64_in _ (by omega)

theorem foldl_set (xs : List Int) : ∀ (f : Nat → Bool) (i : Nat), xs.foldl (fun f b => setb f b.toNat true) f i = (f i || xs.any fun b => b.toNat == i) := by
  induction xs with
  | nil => intro f i; simp
  | cons x xs ih =>
    intro f i
    simp only [List.foldl_cons, List.any_cons]
    rw [ih]
    simp only [setb]
    by_cases e : i = x.toNat
    · subst e; simp
    · have e' : ¬ x.toNat = i := fun h => e h.symm
      have hb : (x.toNat == i) = false := by simpa using e'
      simp [e, hb]
theorem ofF_any (xs : List Int) (i : Nat) : ofF xs i = xs.any fun b => b.toNat == i := by unfold ofF; rw [foldl_set]; simp
theorem ofF_reverse (xs : List Int) : ofF xs.reverse = ofF xs := by
  funext i
  rw [ofF_any, ofF_any, List.any_reverse]
theorem ofF_mem {xs : List Int} {i : Nat} (h : (i : Int) ∈ xs) : ofF xs i = true := by
  rw [ofF_any, List.any_eq_true]
  exact ⟨_, h, by simp⟩

theorem cnt_mono (f : Nat → Bool) {m n : Nat} (h : m ≤ n) : cnt f m ≤ cnt f n := by
  obtain ⟨d, rfl⟩ : ∃ d, n = m + d := ⟨n - m, by omega⟩
  induction d with
  | zero => simp
  | succ d ih => have := ih (by omega); rw [show m + (d + 1) = (m + d) + 1 by omega]; simp only [cnt]; omega
theorem cnt_set (f : Nat → Bool) (i n : Nat) : cnt (setb f i true) n ≤ cnt f n + 1 ∧ (n ≤ i → cnt (setb f i true) n = cnt f n) := by
  induction n with
  | zero => simp [cnt]
  | succ n ih =>
    obtain ⟨h1, h2⟩ := ih
    simp only [cnt, setb]
    by_cases e : n = i
    · subst e
      simp only [if_true]
      have := h2 (Nat.le_refl _)
      cases f n <;> simp <;> omega
    · rw [if_neg e]
      refine ⟨by omega, fun h => ?_⟩
      rw [h2 (by omega)]
theorem cnt_none (n : Nat) : cnt (fun _ => false) n = 0 := by induction n with | zero => rfl | succ n ih => simp [cnt, ih]
theorem cnt_ofF_le (xs : List Int) (n : Nat) : cnt (ofF xs) n ≤ xs.length := by
  have : ∀ (ys : List Int) (f : Nat → Bool), cnt (ys.foldl (fun f b => setb f b.toNat true) f) n ≤ cnt f n + ys.length := by
    intro ys
    induction ys with
    | nil => intro f; simp
    | cons y ys ih => intro f; have := ih (setb f y.toNat true); have := (cnt_set f y.toNat n).1; simp only [List.foldl_cons, List.length_cons]; omega
  have := this xs (fun _ => false)
  rw [cnt_none] at this
  simpa [ofF] using this

theorem allF_get (f : Nat → Bool) : ∀ (n k : Nat) (x : Int), (allF f n)[k]? = some x → ∃ i : Nat, x = i ∧ i < n ∧ f i = true ∧ cnt f i = k := by
  intro n
  induction n with
  | zero => intro k x h; simp [allF] at h
  | succ n ih =>
    intro k x h
    rw [allF_succ] at h
    by_cases hk : k < (allF f n).length
    · rw [List.getElem?_append_left hk] at h
      obtain ⟨i, h1, h2, h3, h4⟩ := ih k x h
      exact ⟨i, h1, by omega, h3, h4⟩
    · rw [List.getElem?_append_right (by omega)] at h
      cases hf : f n with
      | false => simp [hf] at h
      | true =>
        simp only [hf, if_true] at h
        have hk0 : k - (allF f n).length = 0 := by
          rcases Nat.eq_zero_or_pos (k - (allF f n).length) with h0 | h0
          · exact h0
          · rw [List.getElem?_eq_none (by simp; omega)] at h; cases h
        rw [hk0] at h
        simp at h
        have := allF_length f n
        exact ⟨n, h.symm, by omega, hf, by omega⟩
theorem mem_allF {f : Nat → Bool} {n i : Nat} : (i : Int) ∈ allF f n ↔ i < n ∧ f i = true := by
  simp only [allF, List.mem_map, List.mem_filter, List.mem_range]
  constructor
  · rintro ⟨j, ⟨h1, h2⟩, h3⟩
    have : j = i := Int.ofNat.inj h3
    subst this; exact ⟨h1, h2⟩
  · intro h; exact ⟨i, h, rfl⟩
theorem allF_bytes {f : Nat → Bool} : ∀ x ∈ allF f 256, 0 ≤ x ∧ x < 256 := by
  intro x hx
  simp only [allF, List.mem_map, List.mem_filter, List.mem_range] at hx
  obtain ⟨j, ⟨h1, h2⟩, rfl⟩ := hx
  simp only [Int.ofNat_eq_natCast]
  omega
theorem ofF_allF (f : Nat → Bool) (i : Nat) (hi : i < 256) : ofF (allF f 256) i = f i := by
  rw [ofF_any, Bool.eq_iff_iff, List.any_eq_true]
  constructor
  · rintro ⟨x, hx, e⟩
    have hb := allF_bytes x hx
    have : x = (i : Int) := by have : x.toNat = i := by simpa using e
                               omega
    subst this
    exact (mem_allF.1 hx).2
  · intro h
    exact ⟨i, mem_allF.2 ⟨hi, h⟩, by simp⟩
theorem next_self (f : Nat → Bool) {i : Nat} (hi : i < 256) (h : f i = true) : nextF f i = i := by
  rw [nextF_nat, scan_step f hi, h]; rfl
theorem prev_self (f : Nat → Bool) {i : Nat} (hi : i < 256) (h : f i = true) : prevF f i = i := by
  unfold prevF
  rw [show (min (i : Int) 255 + 1).toNat = i + 1 by omega]
  simp [scanD, h]
theorem rank_nat (f : Nat → Bool) {i : Nat} (hi : i ≤ 256) : rankF f i = cnt f i := by
  unfold rankF
  rw [show (min (i : Int) 256).toNat = i by omega]
end MaskA
end Go.Proofs.YtclnnkacfanaiaaDoor
