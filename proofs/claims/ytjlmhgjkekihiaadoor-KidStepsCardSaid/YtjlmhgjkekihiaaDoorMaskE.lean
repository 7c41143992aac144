/- When two masks are one, for the walk. -/
import Derived.Test.YtjlmhgjkekihiaaDoorMaskD
namespace Go.Proofs.YtjlmhgjkekihiaaDoor
open Go.RowKit
set_option linter.unusedVariables false
set_option linter.unusedSimpArgs false

namespace MaskA
open MaskP

theorem eqIn_int (n : Nat) (a b : Int) (w : World) : (Op.equalIn (n + 1) 47 (.int .u64 a) (.int .u64 b)).run Tryd.prog w = .ok (a == b) w := by
  simp [Op.equalIn, run_underlying Tryd.underlying47]

theorem eqIn_mask (n : Nat) (a b c d a' b' c' d' : Int) (w : World) :
    (Op.equalIn (n + 2) 49 (.agg #[.int .u64 a, .int .u64 b, .int .u64 c, .int .u64 d]) (.agg #[.int .u64 a', .int .u64 b', .int .u64 c', .int .u64 d'])).run Tryd.prog w = .ok (a == a' && (b == b' && (c == c' && d == d'))) w := by
  rw [Op.equalIn]
  simp only [Sem.run_bind, run_underlying Tryd.underlying49, Result.andThen_ok]
  have hs : ∀ w, (sizeOf 47).run Tryd.prog w = .ok 1 w := fun _ => by kernel_rfl
  simp only [hs, Result.andThen_ok]
  simp only [Std.Legacy.Range.forIn_eq_forIn_range', Std.Legacy.Range.size]
  have p0 : ∀ (a b c d : Int) w, (part 47 #[.int .u64 a, .int .u64 b, .int .u64 c, .int .u64 d] 0).run Tryd.prog w = .ok (.int .u64 a) w := fun _ _ _ _ _ => by kernel_rfl
  have p1 : ∀ (a b c d : Int) w, (part 47 #[.int .u64 a, .int .u64 b, .int .u64 c, .int .u64 d] 1).run Tryd.prog w = .ok (.int .u64 b) w := fun _ _ _ _ _ => by kernel_rfl
  have p2 : ∀ (a b c d : Int) w, (part 47 #[.int .u64 a, .int .u64 b, .int .u64 c, .int .u64 d] 2).run Tryd.prog w = .ok (.int .u64 c) w := fun _ _ _ _ _ => by kernel_rfl
  have p3 : ∀ (a b c d : Int) w, (part 47 #[.int .u64 a, .int .u64 b, .int .u64 c, .int .u64 d] 3).run Tryd.prog w = .ok (.int .u64 d) w := fun _ _ _ _ _ => by kernel_rfl
  rw [show List.range' 0 ((4 - 0 + 1 - 1) / 1) = [0, 1, 2, 3] from rfl]
  simp only [List.forIn_cons, List.forIn_nil, Nat.mul_one, Sem.run_bind, p0, p1, p2, p3, Result.andThen_ok, eqIn_int]
  by_cases h0 : a = a'
  · by_cases h1 : b = b'
    · by_cases h2 : c = c'
      · by_cases h3 : d = d'
        · simp [h0, h1, h2, h3, p0, p1, p2, p3, eqIn_int]
        · simp [h0, h1, h2, h3, p0, p1, p2, p3, eqIn_int]
      · simp [h0, h1, h2, p0, p1, p2, p3, eqIn_int]
    · simp [h0, h1, p0, p1, p2, p3, eqIn_int]
  · simp [h0, p0, p1, p2, p3, eqIn_int]

theorem eql_mask (a b c d a' b' c' d' : Int) (w : World) :
    (binOp .eql 49 (.agg #[.int .u64 a, .int .u64 b, .int .u64 c, .int .u64 d]) (.agg #[.int .u64 a', .int .u64 b', .int .u64 c', .int .u64 d'])).run Tryd.prog w = .ok (.bool (a == a' && (b == b' && (c == c' && d == d')))) w := by
  simp only [binOp]
  simp [Op.equal, Op.maxDepth, eqIn_mask 9998]
theorem neq_mask (a b c d a' b' c' d' : Int) (w : World) :
    (binOp .neq 49 (.agg #[.int .u64 a, .int .u64 b, .int .u64 c, .int .u64 d]) (.agg #[.int .u64 a', .int .u64 b', .int .u64 c', .int .u64 d'])).run Tryd.prog w = .ok (.bool (!(a == a' && (b == b' && (c == c' && d == d'))))) w := by
  simp only [binOp]
  simp [Op.equal, Op.maxDepth, eqIn_mask 9998]

/-! ### two sets that are alike are one mask -/
theorem word_ext {f g : Nat → Bool} (h : ∀ i, i < 256 → f i = g i) (j : Nat) (hj : j < 4) : word f j = word g j := wn_congr fun t ht => h _ (by omega)
theorem mv_ext {f g : Nat → Bool} (h : ∀ i, i < 256 → f i = g i) : MV f = MV g := by
  unfold MV; rw [word_ext h 0 (by omega), word_ext h 1 (by omega), word_ext h 2 (by omega), word_ext h 3 (by omega)]
theorem word_ne {f g : Nat → Bool} {i : Nat} (hi : i < 256) (h : f i ≠ g i) : word f (i / 64) ≠ word g (i / 64) := fun e => h (by
  have := wn_inj e (i % 64) (Nat.mod_lt _ (by omega))
  simpa [show 64 * (i / 64) + i % 64 = i by omega] using this)

/-! ### awake -/
def f3 : Nat → Bool := ofF [3, 200]
theorem ivs3 : ivs .u8 [3, 200] = [.int .u8 3, .int .u8 200] := rfl
theorem reads3 (w : World) : Reads (w.alloc (.cells #[.int .u8 3, .int .u8 200] 5)) (.slice (some ⟨w.heap.size, 0, none⟩) 2 2) (ivs .u8 [3, 200]) :=
  ⟨some ⟨w.heap.size, 0, none⟩, 2, rfl, by decide, by decide, fun i hi => ⟨w.heap.size, 0, rfl, by simp, by
    rw [World.cell?_alloc_new]
    match i, hi with
    | 0, _ => rfl
    | 1, _ => rfl⟩⟩
theorem reads1 (w : World) : Reads (w.alloc (.cells #[.int .u8 200] 5)) (.slice (some ⟨w.heap.size, 0, none⟩) 1 1) (ivs .u8 [200]) :=
  ⟨some ⟨w.heap.size, 0, none⟩, 1, rfl, by decide, by decide, fun i hi => ⟨w.heap.size, 0, rfl, by simp, by
    rw [World.cell?_alloc_new]
    match i, hi with
    | 0, _ => rfl⟩⟩
theorem prev_any' (f : Nat → Bool) (b : Int) (w : World) (hV : V64 b) :
    Calls Tryd.prog 30 #[.agg #[.int .u64 (word (f) 0 : Nat), .int .u64 (word (f) 1 : Nat), .int .u64 (word (f) 2 : Nat), .int .u64 (word (f) 3 : Nat)], .int .i64 b] w fun e w' => e = .returned (.int .i64 (prevF f b)) ∧ Touch (fun _ => False) w w' := prev_any f b w hV
theorem count_any' (f : Nat → Bool) (w : World) :
    Calls Tryd.prog 24 #[.agg #[.int .u64 (word (f) 0 : Nat), .int .u64 (word (f) 1 : Nat), .int .u64 (word (f) 2 : Nat), .int .u64 (word (f) 3 : Nat)]] w fun e w' => e = .returned (.int .i64 (cnt f 256 : Nat)) ∧ Touch (fun _ => False) w w' := count_any f w
theorem without_any' (f : Nat → Bool) (i : Nat) (hi : i < 256) (w : World) :
    Calls Tryd.prog 26 #[.agg #[.int .u64 (word (f) 0 : Nat), .int .u64 (word (f) 1 : Nat), .int .u64 (word (f) 2 : Nat), .int .u64 (word (f) 3 : Nat)], .int .u8 i] w fun e w' => e = .returned (.agg #[.int .u64 (word (setb f i false) 0 : Nat), .int .u64 (word (setb f i false) 1 : Nat), .int .u64 (word (setb f i false) 2 : Nat), .int .u64 (word (setb f i false) 3 : Nat)]) ∧ Touch (fun _ => False) w w' := without_any f i hi w
theorem all_any' (f : Nat → Bool) (w : World) :
    Calls Tryd.prog 27 #[.agg #[.int .u64 (word (f) 0 : Nat), .int .u64 (word (f) 1 : Nat), .int .u64 (word (f) 2 : Nat), .int .u64 (word (f) 3 : Nat)]] w fun e w' => ∃ v n, e = .returned v ∧ w'.ownsRow w.heap.size 5 1 v n (ivs .u8 (allF f 256)) ∧ Touch (fun _ => False) w w' := all_any f w

end MaskA
end Go.Proofs.YtjlmhgjkekihiaaDoor
