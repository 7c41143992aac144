/- Contracts of package mask: how many, and what some bytes make. -/
import Derived.Test.YtjlmhgjkekihiaaDoorMaskB
import Derived.Test.YtjlmhgjkekihiaaDoorOnes
import Derived.Deep.DeepCutAuto
namespace Go.Proofs.YtjlmhgjkekihiaaDoor
open Go.RowKit
set_option linter.unusedVariables false
set_option linter.unusedSimpArgs false

namespace MaskA
open MaskP Ones

theorem e1 (x : Nat) (hx : x < 18446744073709551616) : IntKind.u64.wrap (bits .and .u64 ((x : Int) / 2) 6148914691236517205 + bits .and .u64 (x : Int) 6148914691236517205) = (s1 x : Nat) := by
  rw [show ((x : Int) / 2) = ((x / 2 : Nat) : Int) by omega, show (6148914691236517205 : Int) = ((6148914691236517205 : Nat) : Int) from rfl, bits_and_u64_nat _ _ (by omega) (by omega), bits_and_u64_nat _ _ hx (by omega), ← Int.natCast_add]
  exact wrap_u64_nat _ (s1_lt x)
theorem e2 (x : Nat) (hx : x < 18446744073709551616) : IntKind.u64.wrap (bits .and .u64 ((x : Int) / 4) 3689348814741910323 + bits .and .u64 (x : Int) 3689348814741910323) = (s2 x : Nat) := by
  rw [show ((x : Int) / 4) = ((x / 4 : Nat) : Int) by omega, show (3689348814741910323 : Int) = ((3689348814741910323 : Nat) : Int) from rfl, bits_and_u64_nat _ _ (by omega) (by omega), bits_and_u64_nat _ _ hx (by omega), ← Int.natCast_add]
  exact wrap_u64_nat _ (s2_lt x)
theorem wrap_mod (n : Nat) : IntKind.u64.wrap (n : Int) = ((n % 18446744073709551616 : Nat) : Int) := by rw [IntKind.wrap_u64]; omega
theorem e3 (x : Nat) : bits .and .u64 (IntKind.u64.wrap ((x : Int) / 16 + x)) 1085102592571150095 = (s3 x : Nat) := by
  rw [show ((x : Int) / 16 + x) = ((x / 16 + x : Nat) : Int) by omega, wrap_mod, show (1085102592571150095 : Int) = ((1085102592571150095 : Nat) : Int) from rfl, bits_and_u64_nat _ _ (Nat.mod_lt _ (by omega)) (by omega)]
  rfl
theorem e4 (x : Nat) : IntKind.u64.wrap ((x : Int) + (x : Int) / 256) = (s4 x : Nat) := by rw [show ((x : Int) + (x : Int) / 256) = ((x + x / 256 : Nat) : Int) by omega, wrap_mod]; rfl
theorem e5 (x : Nat) : IntKind.u64.wrap ((x : Int) + (x : Int) / 65536) = (s5 x : Nat) := by rw [show ((x : Int) + (x : Int) / 65536) = ((x + x / 65536 : Nat) : Int) by omega, wrap_mod]; rfl
theorem e6 (x : Nat) : IntKind.u64.wrap ((x : Int) + (x : Int) / 4294967296) = (s6 x : Nat) := by rw [show ((x : Int) + (x : Int) / 4294967296) = ((x + x / 4294967296 : Nat) : Int) by omega, wrap_mod]; rfl
theorem ret_int {k : IntKind} {a b : Int} (h : a = b) : Ending.returned (.int k a) = .returned (.int k b) := by rw [h]
theorem and127 (z : Nat) (hz : z < 18446744073709551616) : bits .and .i64 (wrap64 (z : Int)) 127 = ((z % 128 : Nat) : Int) := by
  have h1 : (BitVec.ofInt 64 (wrap64 (z : Int))).toNat = z := by
    rw [BitVec.toNat_ofInt]; unfold wrap64; omega
  have h2 : (BitVec.ofInt 64 (127 : Int)).toNat = 127 := by decide
  show IntKind.i64.wrap ((BitVec.ofInt 64 (wrap64 (z : Int)) &&& BitVec.ofInt 64 (127 : Int)).toNat : Int) = _
  rw [BitVec.toNat_and, h1, h2, show z &&& 127 = z % 128 from Nat.and_two_pow_sub_one_eq_mod z 7, IntKind.wrap_i64]
  omega
theorem s3_lt (x : Nat) : s3 x < 18446744073709551616 := Nat.lt_of_le_of_lt Nat.and_le_right (by omega)

theorem ones_any (x : Nat) (hx : x < 18446744073709551616) (w : World) :
    Calls Tryd.prog 38 #[.int .u64 x] w fun e w' => e = .returned (.int .i64 (cnt x.testBit 64 : Nat)) ∧ w = w' := by
  have H := Lib.hid (six x hx)
  have b2 := s1_lt x
  go_enter Tryd.func38, Tryd.ntmps38
  go_upto_region 2 with (fail)
  rw [e1 x hx]
  go_upto_region 3 with (fail)
  rw [e2 _ b2]
  have b3 := s2_lt (s1 x)
  generalize s2 (s1 x) = y at *
  go_upto_region 4 with (fail)
  rw [e3]
  have b4 := s3_lt y
  generalize s3 y = z at *
  go_upto_region 5 with (fail)
  rw [e4]
  have b5 : s4 z < 18446744073709551616 := Nat.mod_lt _ (by omega)
  generalize s4 z = z1 at *
  go_upto_region 6 with (fail)
  rw [e5]
  have b6 : s5 z1 < 18446744073709551616 := Nat.mod_lt _ (by omega)
  generalize s5 z1 = z2 at *
  go_upto_region 7 with (fail)
  rw [e6]
  have b7 : s6 z2 < 18446744073709551616 := Nat.mod_lt _ (by omega)
  generalize s6 z2 = z3 at *
  have hfin : Hid (bits .and .i64 (wrap64 (z3 : Int)) 127 = (cnt x.testBit 64 : Nat)) := Lib.hid (by
    rw [← H.out]
    exact and127 z3 b7)
  go_wp2
  go_ret
  exact ⟨ret_int hfin.out, rfl⟩

theorem count_split (f : Nat → Bool) (n m : Nat) : cnt f (n + m) = cnt f n + cnt (fun t => f (n + t)) m := by
  induction m with
  | zero => rfl
  | succ m ih => show cnt f (n + m) + (f (n + m)).toNat = cnt f n + (cnt (fun t => f (n + t)) m + (f (n + m)).toNat); omega
theorem cnt_congr {f g : Nat → Bool} {n : Nat} (h : ∀ i, i < n → f i = g i) : cnt f n = cnt g n := by
  induction n with
  | zero => rfl
  | succ n ih => simp only [cnt]; rw [ih fun i hi => h i (by omega), h n (by omega)]
theorem cnt_word (f : Nat → Bool) (j : Nat) : cnt (word f j).testBit 64 = cnt (fun t => f (64 * j + t)) 64 := cnt_congr fun i hi => word_bit f j i hi
theorem cnt_words (f : Nat → Bool) : cnt (word f 0).testBit 64 + cnt (word f 1).testBit 64 + cnt (word f 2).testBit 64 + cnt (word f 3).testBit 64 = cnt f 256 := by
  simp only [cnt_word]
  rw [show 256 = 64 + (64 + (64 + 64)) from rfl, count_split f 64, count_split _ 64, count_split _ 64]
  have h0 : (fun t => f (64 * 0 + t)) = f := by funext t; congr 1; omega
  have h2 : (fun t => f (64 + (64 + t))) = (fun t => f (64 * 2 + t)) := by funext t; congr 1; omega
  have h3 : (fun t => f (64 + (64 + (64 + t)))) = (fun t => f (64 * 3 + t)) := by funext t; congr 1; omega
  have h1 : (fun t => f (64 + t)) = (fun t => f (64 * 1 + t)) := by funext t; congr 1
  rw [h0, h3, h2, h1]; omega

set_option maxRecDepth 100000 in
set_option maxHeartbeats 800000 in
theorem count_any (f : Nat → Bool) (w : World) :
    Calls Tryd.prog 24 #[MV f] w fun e w' => e = .returned (.int .i64 (cnt f 256 : Nat)) ∧ Touch (fun _ => False) w w' := by
  have H := Lib.hid (cnt_words f)
  have l0 := cnt_le (word f 0).testBit 64
  have l1 := cnt_le (word f 1).testBit 64
  have l2 := cnt_le (word f 2).testBit 64
  have l3 := cnt_le (word f 3).testBit 64
  have b0 := word_lt f 0
  have b1 := word_lt f 1
  have b2 := word_lt f 2
  have b3 := word_lt f 3
  unfold MV
  generalize word f 0 = x0 at *
  generalize word f 1 = x1 at *
  generalize word f 2 = x2 at *
  generalize word f 3 = x3 at *
  have hi0 : ∀ W : World, (Instr.index 49 (.agg #[.int .u64 x0, .int .u64 x1, .int .u64 x2, .int .u64 x3]) (.int .i64 0)).run Tryd.prog W = .ok (.int .u64 x0) W := fun _ => by kernel_rfl
  have hi1 : ∀ W : World, (Instr.index 49 (.agg #[.int .u64 x0, .int .u64 x1, .int .u64 x2, .int .u64 x3]) (.int .i64 1)).run Tryd.prog W = .ok (.int .u64 x1) W := fun _ => by kernel_rfl
  have hi2 : ∀ W : World, (Instr.index 49 (.agg #[.int .u64 x0, .int .u64 x1, .int .u64 x2, .int .u64 x3]) (.int .i64 2)).run Tryd.prog W = .ok (.int .u64 x2) W := fun _ => by kernel_rfl
  have hi3 : ∀ W : World, (Instr.index 49 (.agg #[.int .u64 x0, .int .u64 x1, .int .u64 x2, .int .u64 x3]) (.int .i64 3)).run Tryd.prog W = .ok (.int .u64 x3) W := fun _ => by kernel_rfl
  go_enter Tryd.func24, Tryd.ntmps24
  go_wp2_with (fail)
  refine wp_loop_rounds 5 ?_
  rw [rounds_succ]
  go_wp2_with (go_at_call 38; refine (ones_any x0 b0 _).mono ?_; rintro e w' ⟨rfl, rfl⟩)
  rw [rounds_succ]
  go_wp2_with (go_at_call 38; refine (ones_any x1 b1 _).mono ?_; rintro e w' ⟨rfl, rfl⟩)
  rw [rounds_succ]
  go_wp2_with (go_at_call 38; refine (ones_any x2 b2 _).mono ?_; rintro e w' ⟨rfl, rfl⟩)
  rw [rounds_succ]
  go_wp2_with (go_at_call 38; refine (ones_any x3 b3 _).mono ?_; rintro e w' ⟨rfl, rfl⟩)
  rw [rounds_succ]
  go_wp2_with (fail)
  go_ret
  refine ⟨?_, (Touch.refl _ _).alloc _⟩
  have := H.out
  rw [← this]
  exact ret_int (by simp)
end MaskA
end Go.Proofs.YtjlmhgjkekihiaaDoor
