/- How many bits are one, by Go's six steps: plain Lean, no program in sight. -/
import Derived.Test.YtjlmhgjkekihiaaDoorMaskP
namespace Go.Proofs.YtjlmhgjkekihiaaDoor
open Go.RowKit
set_option linter.unusedVariables false
set_option linter.unusedSimpArgs false

namespace Ones
open MaskP
def rep (m : Nat) : Nat → Nat
  | 0 => 0
  | k + 1 => m + 256 * rep m k
def lanes (g : Nat → Nat) : Nat → Nat → Nat
  | 0, _ => 0
  | k + 1, x => g (x % 256) + 256 * lanes g k (x / 256)

theorem and_split (x m M : Nat) (hm : m < 256) : x &&& (m + 256 * M) = (x % 256 &&& m) + 256 * (x / 256 &&& M) := by
  have hlo : (x % 256 &&& m) < 2 ^ 8 := Nat.and_lt_two_pow _ hm
  apply Nat.eq_of_testBit_eq
  intro i
  rw [show m + 256 * M = 2 ^ 8 * M + m by omega, show (x % 256 &&& m) + 256 * (x / 256 &&& M) = 2 ^ 8 * (x / 256 &&& M) + (x % 256 &&& m) by omega]
  rw [Nat.testBit_and, Nat.testBit_two_pow_mul_add _ hm, Nat.testBit_two_pow_mul_add _ hlo]
  split
  · rename_i h
    rw [Nat.testBit_and, show x % 256 = x % 2 ^ 8 from rfl, Nat.testBit_mod_two_pow]; simp [h]
  · rename_i h
    rw [Nat.testBit_and, show x / 256 = x / 2 ^ 8 from rfl, Nat.testBit_div_two_pow]
    rw [show i - 8 + 8 = i by omega]

theorem shift_low (x s m : Nat) (hs : s ≤ 8) (hm : m < 2 ^ (8 - s)) : (x / 2 ^ s % 256 &&& m) = (x % 256 / 2 ^ s &&& m) := by
  apply Nat.eq_of_testBit_eq
  intro i
  rw [Nat.testBit_and, Nat.testBit_and]
  by_cases hi : i < 8 - s
  · rw [show x / 2 ^ s % 256 = x / 2 ^ s % 2 ^ 8 from rfl, Nat.testBit_mod_two_pow, Nat.testBit_div_two_pow, Nat.testBit_div_two_pow, show x % 256 = x % 2 ^ 8 from rfl, Nat.testBit_mod_two_pow]
    have h1 : i < 8 := by omega
    have h2 : i + s < 8 := by omega
    simp [h1, h2]
  · have : m.testBit i = false := Nat.testBit_lt_two_pow (Nat.lt_of_lt_of_le hm (Nat.pow_le_pow_right (by omega) (by omega)))
    simp [this]

theorem and_lanes (m s : Nat) (hs : s ≤ 8) (hm : m < 2 ^ (8 - s)) (hm2 : m < 256) (k : Nat) : ∀ x, (x / 2 ^ s &&& rep m k) = lanes (fun b => b / 2 ^ s &&& m) k x := by
  induction k with
  | zero => intro x; simp [rep, lanes]
  | succ k ih =>
    intro x
    simp only [rep, lanes]
    rw [and_split _ _ _ hm2, shift_low x s m hs hm, Nat.div_div_eq_div_mul, Nat.mul_comm (2 ^ s) 256, ← Nat.div_div_eq_div_mul, ih]

theorem lanes_add (f g : Nat → Nat) (k : Nat) : ∀ x, lanes f k x + lanes g k x = lanes (fun b => f b + g b) k x := by
  induction k with
  | zero => intro x; rfl
  | succ k ih => intro x; simp only [lanes]; rw [← ih]; omega

theorem lanes_comp (f g : Nat → Nat) (hg : ∀ b, b < 256 → g b < 256) (k : Nat) : ∀ x, lanes f k (lanes g k x) = lanes (fun b => f (g b)) k x := by
  induction k with
  | zero => intro x; rfl
  | succ k ih =>
    intro x
    have h := hg (x % 256) (Nat.mod_lt _ (by omega))
    simp only [lanes]
    rw [show (g (x % 256) + 256 * lanes g k (x / 256)) % 256 = g (x % 256) by omega, show (g (x % 256) + 256 * lanes g k (x / 256)) / 256 = lanes g k (x / 256) by omega, ih]

theorem lanes_congr (f g : Nat → Nat) (h : ∀ b, b < 256 → f b = g b) (k : Nat) : ∀ x, lanes f k x = lanes g k x := by
  induction k with
  | zero => intro x; rfl
  | succ k ih => intro x; simp only [lanes]; rw [h _ (Nat.mod_lt _ (by omega)), ih]

def s1 (x : Nat) : Nat := (x / 2 &&& 6148914691236517205) + (x &&& 6148914691236517205)
def s2 (x : Nat) : Nat := (x / 4 &&& 3689348814741910323) + (x &&& 3689348814741910323)
def s3 (x : Nat) : Nat := (x / 16 + x) % 18446744073709551616 &&& 1085102592571150095
def s4 (x : Nat) : Nat := (x + x / 256) % 18446744073709551616
def s5 (x : Nat) : Nat := (x + x / 65536) % 18446744073709551616
def s6 (x : Nat) : Nat := (x + x / 4294967296) % 18446744073709551616
def g1 (b : Nat) : Nat := (b / 2 &&& 85) + (b &&& 85)
def g2 (b : Nat) : Nat := (b / 4 &&& 51) + (b &&& 51)

theorem s1_lanes (x : Nat) : s1 x = lanes g1 8 x := by
  have h1 := and_lanes 85 1 (by omega) (by decide) (by omega) 8 x
  have h0 := and_lanes 85 0 (by omega) (by decide) (by omega) 8 x
  rw [show rep 85 8 = 6148914691236517205 by decide] at h1 h0
  simp only [Nat.pow_zero, Nat.div_one, Nat.pow_one] at h1 h0
  unfold s1
  rw [h1, h0, lanes_add]; rfl
theorem s2_lanes (x : Nat) : s2 x = lanes g2 8 x := by
  have h1 := and_lanes 51 2 (by omega) (by decide) (by omega) 8 x
  have h0 := and_lanes 51 0 (by omega) (by decide) (by omega) 8 x
  rw [show rep 51 8 = 3689348814741910323 by decide] at h1 h0
  simp only [Nat.pow_zero, Nat.div_one] at h1 h0
  rw [show (2 : Nat) ^ 2 = 4 from rfl] at h1
  unfold s2
  rw [h1, h0, lanes_add]; rfl

theorem small : ∀ b, b < 256 → g1 b < 256 ∧ g2 (g1 b) % 16 ≤ 4 ∧ g2 (g1 b) / 16 ≤ 4 ∧ g2 (g1 b) % 16 + g2 (g1 b) / 16 = cnt b.testBit 8 := by decide +kernel

theorem cnt_split (x : Nat) (n : Nat) : cnt x.testBit (8 + n) = cnt (x % 256).testBit 8 + cnt (x / 256).testBit n := by
  induction n with
  | zero =>
    simp only [Nat.add_zero, cnt]
    have h : ∀ i, i < 8 → (x % 256).testBit i = x.testBit i := fun i hi => by
      rw [show x % 256 = x % 2 ^ 8 from rfl, Nat.testBit_mod_two_pow]; simp [hi]
    rw [h 0 (by omega), h 1 (by omega), h 2 (by omega), h 3 (by omega), h 4 (by omega), h 5 (by omega), h 6 (by omega), h 7 (by omega)]
  | succ n ih =>
    rw [show 8 + (n + 1) = (8 + n) + 1 by omega]
    show cnt x.testBit (8 + n) + (x.testBit (8 + n)).toNat = cnt (x % 256).testBit 8 + (cnt (x / 256).testBit n + ((x / 256).testBit n).toNat)
    have h : (x / 256).testBit n = x.testBit (8 + n) := by rw [show x / 256 = x / 2 ^ 8 from rfl, Nat.testBit_div_two_pow, Nat.add_comm]
    rw [ih, h]; omega

theorem last4 (q0 q1 q2 q3 q4 q5 q6 q7 : Nat) (a0 : q0 ≤ 8) (a1 : q1 ≤ 8) (a2 : q2 ≤ 8) (a3 : q3 ≤ 8) (a4 : q4 ≤ 8) (a5 : q5 ≤ 8) (a6 : q6 ≤ 8) (a7 : q7 ≤ 8) : s4 (q0 + 256 * (q1 + 256 * (q2 + 256 * (q3 + 256 * (q4 + 256 * (q5 + 256 * (q6 + 256 * (q7 + 256 * 0)))))))) = (q0 + q1) + 256 * ((q1 + q2) + 256 * ((q2 + q3) + 256 * ((q3 + q4) + 256 * ((q4 + q5) + 256 * ((q5 + q6) + 256 * ((q6 + q7) + 256 * (q7 + 256 * 0))))))) := by
  have h : (q0 + 256 * (q1 + 256 * (q2 + 256 * (q3 + 256 * (q4 + 256 * (q5 + 256 * (q6 + 256 * (q7 + 256 * 0)))))))) / 256 = q1 + 256 * (q2 + 256 * (q3 + 256 * (q4 + 256 * (q5 + 256 * (q6 + 256 * (q7 + 256 * 0)))))) := by omega
  unfold s4
  rw [h, Nat.mod_eq_of_lt (by omega)]
  omega
theorem last5 (q0 q1 q2 q3 q4 q5 q6 q7 : Nat) (a0 : q0 ≤ 8) (a1 : q1 ≤ 8) (a2 : q2 ≤ 8) (a3 : q3 ≤ 8) (a4 : q4 ≤ 8) (a5 : q5 ≤ 8) (a6 : q6 ≤ 8) (a7 : q7 ≤ 8) : s5 ((q0 + q1) + 256 * ((q1 + q2) + 256 * ((q2 + q3) + 256 * ((q3 + q4) + 256 * ((q4 + q5) + 256 * ((q5 + q6) + 256 * ((q6 + q7) + 256 * (q7 + 256 * 0)))))))) = ((q0 + q1) + (q2 + q3)) + 256 * (((q1 + q2) + (q3 + q4)) + 256 * (((q2 + q3) + (q4 + q5)) + 256 * (((q3 + q4) + (q5 + q6)) + 256 * (((q4 + q5) + (q6 + q7)) + 256 * (((q5 + q6) + q7) + 256 * ((q6 + q7) + 256 * (q7 + 256 * 0))))))) := by
  have h : ((q0 + q1) + 256 * ((q1 + q2) + 256 * ((q2 + q3) + 256 * ((q3 + q4) + 256 * ((q4 + q5) + 256 * ((q5 + q6) + 256 * ((q6 + q7) + 256 * (q7 + 256 * 0)))))))) / 65536 = (q2 + q3) + 256 * ((q3 + q4) + 256 * ((q4 + q5) + 256 * ((q5 + q6) + 256 * ((q6 + q7) + 256 * (q7 + 256 * 0))))) := by omega
  unfold s5
  rw [h, Nat.mod_eq_of_lt (by omega)]
  omega
theorem last6 (q0 q1 q2 q3 q4 q5 q6 q7 : Nat) (a0 : q0 ≤ 8) (a1 : q1 ≤ 8) (a2 : q2 ≤ 8) (a3 : q3 ≤ 8) (a4 : q4 ≤ 8) (a5 : q5 ≤ 8) (a6 : q6 ≤ 8) (a7 : q7 ≤ 8) : s6 (((q0 + q1) + (q2 + q3)) + 256 * (((q1 + q2) + (q3 + q4)) + 256 * (((q2 + q3) + (q4 + q5)) + 256 * (((q3 + q4) + (q5 + q6)) + 256 * (((q4 + q5) + (q6 + q7)) + 256 * (((q5 + q6) + q7) + 256 * ((q6 + q7) + 256 * (q7 + 256 * 0)))))))) = (((q0 + q1) + (q2 + q3)) + ((q4 + q5) + (q6 + q7))) + 256 * ((((q1 + q2) + (q3 + q4)) + ((q5 + q6) + q7)) + 256 * ((((q2 + q3) + (q4 + q5)) + (q6 + q7)) + 256 * ((((q3 + q4) + (q5 + q6)) + q7) + 256 * (((q4 + q5) + (q6 + q7)) + 256 * (((q5 + q6) + q7) + 256 * ((q6 + q7) + 256 * (q7 + 256 * 0))))))) := by
  have h : (((q0 + q1) + (q2 + q3)) + 256 * (((q1 + q2) + (q3 + q4)) + 256 * (((q2 + q3) + (q4 + q5)) + 256 * (((q3 + q4) + (q5 + q6)) + 256 * (((q4 + q5) + (q6 + q7)) + 256 * (((q5 + q6) + q7) + 256 * ((q6 + q7) + 256 * (q7 + 256 * 0)))))))) / 4294967296 = ((q4 + q5) + (q6 + q7)) + 256 * (((q5 + q6) + q7) + 256 * ((q6 + q7) + 256 * (q7 + 256 * 0))) := by omega
  unfold s6
  rw [h, Nat.mod_eq_of_lt (by omega)]
  omega
theorem last (q0 q1 q2 q3 q4 q5 q6 q7 : Nat) (a0 : q0 ≤ 8) (a1 : q1 ≤ 8) (a2 : q2 ≤ 8) (a3 : q3 ≤ 8) (a4 : q4 ≤ 8) (a5 : q5 ≤ 8) (a6 : q6 ≤ 8) (a7 : q7 ≤ 8) : s6 (s5 (s4 (q0 + 256 * (q1 + 256 * (q2 + 256 * (q3 + 256 * (q4 + 256 * (q5 + 256 * (q6 + 256 * (q7 + 256 * 0)))))))))) % 128 = q0 + q1 + q2 + q3 + q4 + q5 + q6 + q7 := by
  rw [last4 q0 q1 q2 q3 q4 q5 q6 q7 a0 a1 a2 a3 a4 a5 a6 a7, last5 q0 q1 q2 q3 q4 q5 q6 q7 a0 a1 a2 a3 a4 a5 a6 a7, last6 q0 q1 q2 q3 q4 q5 q6 q7 a0 a1 a2 a3 a4 a5 a6 a7]
  omega
theorem and15 (b : Nat) : (b &&& 15) = b % 16 := Nat.and_two_pow_sub_one_eq_mod b 4
theorem lanes_cons (g : Nat → Nat) (k e r : Nat) (h : e < 256) : lanes g (k + 1) (e + 256 * r) = g e + 256 * lanes g k r := by
  simp only [lanes]
  rw [show (e + 256 * r) % 256 = e by omega, show (e + 256 * r) / 256 = r by omega]
theorem low16 (a b : Nat) (h : a < 16) : (a + 16 * b) % 16 = a := by omega
theorem lt256 {u v x y : Nat} (h1 : u ≤ 4) (h2 : v ≤ 4) (h3 : x ≤ 4) (h4 : y ≤ 4) : u + v + 16 * (x + y) < 256 := by omega
theorem lt256' {u v : Nat} (h1 : u ≤ 4) (h2 : v ≤ 4) : u + v + 16 * v < 256 := by omega
theorem lt16 {u v : Nat} (h1 : u ≤ 4) (h2 : v ≤ 4) : u + v < 16 := by omega
theorem le8 {u v : Nat} (h1 : u ≤ 4) (h2 : v ≤ 4) : u + v ≤ 8 := by omega
theorem lanes_lt (g : Nat → Nat) (hg : ∀ b, b < 256 → g b < 256) (k : Nat) : ∀ x, lanes g k x < 256 ^ k := by
  induction k with
  | zero => intro x; simp [lanes]
  | succ k ih =>
    intro x
    have h1 := hg (x % 256) (Nat.mod_lt _ (by omega))
    have h2 := ih (x / 256)
    simp only [lanes, Nat.pow_succ]
    omega
theorem third (u0 u1 u2 u3 u4 u5 u6 u7 v0 v1 v2 v3 v4 v5 v6 v7 : Nat) (a0 : u0 ≤ 4) (b0 : v0 ≤ 4) (a1 : u1 ≤ 4) (b1 : v1 ≤ 4) (a2 : u2 ≤ 4) (b2 : v2 ≤ 4) (a3 : u3 ≤ 4) (b3 : v3 ≤ 4) (a4 : u4 ≤ 4) (b4 : v4 ≤ 4) (a5 : u5 ≤ 4) (b5 : v5 ≤ 4) (a6 : u6 ≤ 4) (b6 : v6 ≤ 4) (a7 : u7 ≤ 4) (b7 : v7 ≤ 4) : s3 (u0 + 16 * v0 + 256 * (u1 + 16 * v1 + 256 * (u2 + 16 * v2 + 256 * (u3 + 16 * v3 + 256 * (u4 + 16 * v4 + 256 * (u5 + 16 * v5 + 256 * (u6 + 16 * v6 + 256 * (u7 + 16 * v7 + 256 * 0)))))))) = u0 + v0 + 256 * (u1 + v1 + 256 * (u2 + v2 + 256 * (u3 + v3 + 256 * (u4 + v4 + 256 * (u5 + v5 + 256 * (u6 + v6 + 256 * (u7 + v7 + 256 * 0))))))) := by
  have hd : (u0 + 16 * v0 + 256 * (u1 + 16 * v1 + 256 * (u2 + 16 * v2 + 256 * (u3 + 16 * v3 + 256 * (u4 + 16 * v4 + 256 * (u5 + 16 * v5 + 256 * (u6 + 16 * v6 + 256 * (u7 + 16 * v7 + 256 * 0)))))))) / 16 = v0 + 16 * ((u1 + 16 * v1) + 256 * ((u2 + 16 * v2) + 256 * ((u3 + 16 * v3) + 256 * ((u4 + 16 * v4) + 256 * ((u5 + 16 * v5) + 256 * ((u6 + 16 * v6) + 256 * ((u7 + 16 * v7) + 256 * 0))))))) := by omega
  have hs : v0 + 16 * ((u1 + 16 * v1) + 256 * ((u2 + 16 * v2) + 256 * ((u3 + 16 * v3) + 256 * ((u4 + 16 * v4) + 256 * ((u5 + 16 * v5) + 256 * ((u6 + 16 * v6) + 256 * ((u7 + 16 * v7) + 256 * 0))))))) + (u0 + 16 * v0 + 256 * (u1 + 16 * v1 + 256 * (u2 + 16 * v2 + 256 * (u3 + 16 * v3 + 256 * (u4 + 16 * v4 + 256 * (u5 + 16 * v5 + 256 * (u6 + 16 * v6 + 256 * (u7 + 16 * v7 + 256 * 0)))))))) = (u0 + v0 + 16 * (v0 + u1)) + 256 * ((u1 + v1 + 16 * (v1 + u2)) + 256 * ((u2 + v2 + 16 * (v2 + u3)) + 256 * ((u3 + v3 + 16 * (v3 + u4)) + 256 * ((u4 + v4 + 16 * (v4 + u5)) + 256 * ((u5 + v5 + 16 * (v5 + u6)) + 256 * ((u6 + v6 + 16 * (v6 + u7)) + 256 * ((u7 + v7 + 16 * v7) + 256 * 0))))))) := by omega
  have hl : (u0 + v0 + 16 * (v0 + u1)) + 256 * ((u1 + v1 + 16 * (v1 + u2)) + 256 * ((u2 + v2 + 16 * (v2 + u3)) + 256 * ((u3 + v3 + 16 * (v3 + u4)) + 256 * ((u4 + v4 + 16 * (v4 + u5)) + 256 * ((u5 + v5 + 16 * (v5 + u6)) + 256 * ((u6 + v6 + 16 * (v6 + u7)) + 256 * ((u7 + v7 + 16 * v7) + 256 * 0))))))) < 18446744073709551616 := by omega
  have h0 := and_lanes 15 0 (by omega) (by decide) (by omega) 8 ((u0 + v0 + 16 * (v0 + u1)) + 256 * ((u1 + v1 + 16 * (v1 + u2)) + 256 * ((u2 + v2 + 16 * (v2 + u3)) + 256 * ((u3 + v3 + 16 * (v3 + u4)) + 256 * ((u4 + v4 + 16 * (v4 + u5)) + 256 * ((u5 + v5 + 16 * (v5 + u6)) + 256 * ((u6 + v6 + 16 * (v6 + u7)) + 256 * ((u7 + v7 + 16 * v7) + 256 * 0))))))))
  rw [show rep 15 8 = 1085102592571150095 by decide] at h0
  simp only [Nat.pow_zero, Nat.div_one, and15] at h0
  unfold s3
  rw [hd, hs, Nat.mod_eq_of_lt hl, h0]
  rw [lanes_cons _ _ _ _ (lt256 a0 b0 b0 a1), lanes_cons _ _ _ _ (lt256 a1 b1 b1 a2), lanes_cons _ _ _ _ (lt256 a2 b2 b2 a3), lanes_cons _ _ _ _ (lt256 a3 b3 b3 a4), lanes_cons _ _ _ _ (lt256 a4 b4 b4 a5), lanes_cons _ _ _ _ (lt256 a5 b5 b5 a6), lanes_cons _ _ _ _ (lt256 a6 b6 b6 a7), lanes_cons _ _ _ _ (lt256' a7 b7)]
  rw [low16 _ _ (lt16 a0 b0), low16 _ _ (lt16 a1 b1), low16 _ _ (lt16 a2 b2), low16 _ _ (lt16 a3 b3), low16 _ _ (lt16 a4 b4), low16 _ _ (lt16 a5 b5), low16 _ _ (lt16 a6 b6), low16 _ _ (lt16 a7 b7)]
  rfl
theorem six (x : Nat) (hx : x < 18446744073709551616) : s6 (s5 (s4 (s3 (s2 (s1 x))))) % 128 = cnt x.testBit 64 := by
  rw [s2_lanes, s1_lanes, lanes_comp _ _ (fun b hb => (small b hb).1)]
  have e64 : cnt x.testBit 64 = cnt (x % 256).testBit 8 + (cnt (x / 256 % 256).testBit 8 + (cnt (x / 256 / 256 % 256).testBit 8 + (cnt (x / 256 / 256 / 256 % 256).testBit 8 +
      (cnt (x / 256 / 256 / 256 / 256 % 256).testBit 8 + (cnt (x / 256 / 256 / 256 / 256 / 256 % 256).testBit 8 + (cnt (x / 256 / 256 / 256 / 256 / 256 / 256 % 256).testBit 8 + cnt (x / 256 / 256 / 256 / 256 / 256 / 256 / 256 % 256).testBit 8)))))) := by
    rw [show 64 = 8 + 56 from rfl, cnt_split, show 56 = 8 + 48 from rfl, cnt_split, show 48 = 8 + 40 from rfl, cnt_split, show 40 = 8 + 32 from rfl, cnt_split, show 32 = 8 + 24 from rfl, cnt_split,
      show 24 = 8 + 16 from rfl, cnt_split, show 16 = 8 + 8 from rfl, cnt_split]
    have : x / 256 / 256 / 256 / 256 / 256 / 256 / 256 % 256 = x / 256 / 256 / 256 / 256 / 256 / 256 / 256 := by omega
    rw [this]
  obtain ⟨c0, p0, r0, t0⟩ := small (x % 256) (Nat.mod_lt _ (by omega))
  obtain ⟨c1, p1, r1, t1⟩ := small (x / 256 % 256) (Nat.mod_lt _ (by omega))
  obtain ⟨c2, p2, r2, t2⟩ := small (x / 256 / 256 % 256) (Nat.mod_lt _ (by omega))
  obtain ⟨c3, p3, r3, t3⟩ := small (x / 256 / 256 / 256 % 256) (Nat.mod_lt _ (by omega))
  obtain ⟨c4, p4, r4, t4⟩ := small (x / 256 / 256 / 256 / 256 % 256) (Nat.mod_lt _ (by omega))
  obtain ⟨c5, p5, r5, t5⟩ := small (x / 256 / 256 / 256 / 256 / 256 % 256) (Nat.mod_lt _ (by omega))
  obtain ⟨c6, p6, r6, t6⟩ := small (x / 256 / 256 / 256 / 256 / 256 / 256 % 256) (Nat.mod_lt _ (by omega))
  obtain ⟨c7, p7, r7, t7⟩ := small (x / 256 / 256 / 256 / 256 / 256 / 256 / 256 % 256) (Nat.mod_lt _ (by omega))
  rw [e64, ← t0, ← t1, ← t2, ← t3, ← t4, ← t5, ← t6, ← t7]
  clear e64 t0 t1 t2 t3 t4 t5 t6 t7
  simp only [lanes]
  have f0 := Nat.mod_add_div (g2 (g1 (x % 256))) 16
  have f1 := Nat.mod_add_div (g2 (g1 (x / 256 % 256))) 16
  have f2 := Nat.mod_add_div (g2 (g1 (x / 256 / 256 % 256))) 16
  have f3 := Nat.mod_add_div (g2 (g1 (x / 256 / 256 / 256 % 256))) 16
  have f4 := Nat.mod_add_div (g2 (g1 (x / 256 / 256 / 256 / 256 % 256))) 16
  have f5 := Nat.mod_add_div (g2 (g1 (x / 256 / 256 / 256 / 256 / 256 % 256))) 16
  have f6 := Nat.mod_add_div (g2 (g1 (x / 256 / 256 / 256 / 256 / 256 / 256 % 256))) 16
  have f7 := Nat.mod_add_div (g2 (g1 (x / 256 / 256 / 256 / 256 / 256 / 256 / 256 % 256))) 16
  generalize g1 (x % 256) = d0 at *
  generalize g1 (x / 256 % 256) = d1 at *
  generalize g1 (x / 256 / 256 % 256) = d2 at *
  generalize g1 (x / 256 / 256 / 256 % 256) = d3 at *
  generalize g1 (x / 256 / 256 / 256 / 256 % 256) = d4 at *
  generalize g1 (x / 256 / 256 / 256 / 256 / 256 % 256) = d5 at *
  generalize g1 (x / 256 / 256 / 256 / 256 / 256 / 256 % 256) = d6 at *
  generalize g1 (x / 256 / 256 / 256 / 256 / 256 / 256 / 256 % 256) = d7 at *
  have h3 := third _ _ _ _ _ _ _ _ _ _ _ _ _ _ _ _ p0 r0 p1 r1 p2 r2 p3 r3 p4 r4 p5 r5 p6 r6 p7 r7
  rw [f0, f1, f2, f3, f4, f5, f6, f7] at h3
  rw [h3, last _ _ _ _ _ _ _ _ (le8 p0 r0) (le8 p1 r1) (le8 p2 r2) (le8 p3 r3) (le8 p4 r4) (le8 p5 r5) (le8 p6 r6) (le8 p7 r7)]
  simp only [Nat.add_assoc]
theorem s1_lt (x : Nat) : s1 x < 18446744073709551616 := by rw [s1_lanes]; exact lanes_lt _ (fun b hb => (small b hb).1) 8 x
theorem g2_lt : ∀ b, b < 256 → g2 b < 256 := by decide +kernel
theorem s2_lt (x : Nat) : s2 x < 18446744073709551616 := by rw [s2_lanes]; exact lanes_lt _ g2_lt 8 x
end Ones
end Go.Proofs.YtjlmhgjkekihiaaDoor
