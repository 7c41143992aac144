/- When two masks are one, for the walk. -/
import Derived.Test.YtfibglpiohkcoaaMaskD
namespace Go.Proofs.Ytfibglpiohkcoaa
open Go.RowKit
set_option linter.unusedVariables false
set_option linter.unusedSimpArgs false

namespace MaskA
open MaskP

theorem eqIn_int (n : Nat) (a b : Int) (w : World) : (Op.equalIn (n + 1) 44 (.int .u64 a) (.int .u64 b)).run Try.prog w = .ok (a == b) w := by
  simp [Op.equalIn, run_underlying Try.underlying44]

theorem eqIn_mask (n : Nat) (a b c d a' b' c' d' : Int) (w : World) :
    (Op.equalIn (n + 2) 46 (.agg #[.int .u64 a, .int .u64 b, .int .u64 c, .int .u64 d]) (.agg #[.int .u64 a', .int .u64 b', .int .u64 c', .int .u64 d'])).run Try.prog w = .ok (a == a' && (b == b' && (c == c' && d == d'))) w := by
  rw [Op.equalIn]
  simp only [Sem.run_bind, run_underlying Try.underlying46, Result.andThen_ok]
  have hs : ∀ w, (sizeOf 44).run Try.prog w = .ok 1 w := fun _ => by kernel_rfl
  simp only [hs, Result.andThen_ok]
  simp only [Std.Legacy.Range.forIn_eq_forIn_range', Std.Legacy.Range.size]
  have p0 : ∀ (a b c d : Int) w, (part 44 #[.int .u64 a, .int .u64 b, .int .u64 c, .int .u64 d] 0).run Try.prog w = .ok (.int .u64 a) w := fun _ _ _ _ _ => by kernel_rfl
  have p1 : ∀ (a b c d : Int) w, (part 44 #[.int .u64 a, .int .u64 b, .int .u64 c, .int .u64 d] 1).run Try.prog w = .ok (.int .u64 b) w := fun _ _ _ _ _ => by kernel_rfl
  have p2 : ∀ (a b c d : Int) w, (part 44 #[.int .u64 a, .int .u64 b, .int .u64 c, .int .u64 d] 2).run Try.prog w = .ok (.int .u64 c) w := fun _ _ _ _ _ => by kernel_rfl
  have p3 : ∀ (a b c d : Int) w, (part 44 #[.int .u64 a, .int .u64 b, .int .u64 c, .int .u64 d] 3).run Try.prog w = .ok (.int .u64 d) w := fun _ _ _ _ _ => by kernel_rfl
  rw [show List.range' 0 ((4 - 0 + 1 - 1) / 1) = [0, 1, 2, 3] from rfl]
  simp only [List.forIn_cons, List.forIn_nil, Nat.mul_one, Sem.run_bind, p0, p1, p2, p3, Result.andThen_ok, eqIn_int]
  by_cases h0 : a = a'
  · by_cases h1 : b = b'
    · by_cases h2 : c = c'
      · by_cases h3 : d = d'
        · simp [h0, h1, h2, h3, p0, p1, p2, p3, eqIn_int]
        · simp [h0, h1, h2, h3, p0, p1, p2, p3, eqIn_int]
      · simp [h0, h1, h2, p0, p1, p2, p3, eqIn_int]
    · simp [h0, h1, p0, p1, p2, p3, eqIn_int]
  · simp [h0, p0, p1, p2, p3, eqIn_int]

theorem eql_mask (a b c d a' b' c' d' : Int) (w : World) :
    (binOp .eql 46 (.agg #[.int .u64 a, .int .u64 b, .int .u64 c, .int .u64 d]) (.agg #[.int .u64 a', .int .u64 b', .int .u64 c', .int .u64 d'])).run Try.prog w = .ok (.bool (a == a' && (b == b' && (c == c' && d == d')))) w := by
  simp only [binOp]
  simp [Op.equal, Op.maxDepth, eqIn_mask 9998]
theorem neq_mask (a b c d a' b' c' d' : Int) (w : World) :
    (binOp .neq 46 (.agg #[.int .u64 a, .int .u64 b, .int .u64 c, .int .u64 d]) (.agg #[.int .u64 a', .int .u64 b', .int .u64 c', .int .u64 d'])).run Try.prog w = .ok (.bool (!(a == a' && (b == b' && (c == c' && d == d'))))) w := by
  simp only [binOp]
  simp [Op.equal, Op.maxDepth, eqIn_mask 9998]

/-! ### two sets that are alike are one mask -/
theorem word_ext {f g : Nat → Bool} (h : ∀ i, i < 256 → f i = g i) (j : Nat) (hj : j < 4) : word f j = word g j := wn_congr fun t ht => h _ (by omega)
theorem mv_ext {f g : Nat → Bool} (h : ∀ i, i < 256 → f i = g i) : MV f = MV g := by
  unfold MV; rw [word_ext h 0 (by omega), word_ext h 1 (by omega), word_ext h 2 (by omega), word_ext h 3 (by omega)]
theorem word_ne {f g : Nat → Bool} {i : Nat} (hi : i < 256) (h : f i ≠ g i) : word f (i / 64) ≠ word g (i / 64) := fun e => h (by
  have := wn_inj e (i % 64) (Nat.mod_lt _ (by omega))
  simpa [show 64 * (i / 64) + i % 64 = i by omega] using this)

/-! ### awake -/
def f3 : Nat → Bool := ofF [3, 200]
theorem ivs3 : ivs .u8 [3, 200] = [.int .u8 3, .int .u8 200] := rfl
theorem reads3 (w : World) : Reads (w.alloc (.cells #[.int .u8 3, .int .u8 200] 5)) (.slice (some ⟨w.heap.size, 0, none⟩) 2 2) (ivs .u8 [3, 200]) :=
  ⟨some ⟨w.heap.size, 0, none⟩, 2, rfl, by decide, by decide, fun i hi => ⟨w.heap.size, 0, rfl, by simp, by
    rw [World.cell?_alloc_new]
    match i, hi with
    | 0, _ => rfl
    | 1, _ => rfl⟩⟩
theorem reads1 (w : World) : Reads (w.alloc (.cells #[.int .u8 200] 5)) (.slice (some ⟨w.heap.size, 0, none⟩) 1 1) (ivs .u8 [200]) :=
  ⟨some ⟨w.heap.size, 0, none⟩, 1, rfl, by decide, by decide, fun i hi => ⟨w.heap.size, 0, rfl, by simp, by
    rw [World.cell?_alloc_new]
    match i, hi with
    | 0, _ => rfl⟩⟩
theorem of_any' (v : Value) (xs : List Int) (w : World) (hv : Reads w v (ivs .u8 xs)) (hx : ∀ x ∈ xs, 0 ≤ x ∧ x < 256) :
    Calls Try.prog 42 #[v] w fun e w' => e = .returned (.agg #[.int .u64 (word (ofF xs) 0 : Nat), .int .u64 (word (ofF xs) 1 : Nat), .int .u64 (word (ofF xs) 2 : Nat), .int .u64 (word (ofF xs) 3 : Nat)]) ∧ Touch (fun _ => False) w w' := of_any v xs w hv hx
theorem prev_any' (f : Nat → Bool) (b : Int) (w : World) (hV : V64 b) :
    Calls Try.prog 33 #[.agg #[.int .u64 (word (f) 0 : Nat), .int .u64 (word (f) 1 : Nat), .int .u64 (word (f) 2 : Nat), .int .u64 (word (f) 3 : Nat)], .int .i64 b] w fun e w' => e = .returned (.int .i64 (prevF f b)) ∧ Touch (fun _ => False) w w' := prev_any f b w hV
theorem rank_any' (f : Nat → Bool) (b : Int) (w : World) (hV : V64 b) :
    Calls Try.prog 35 #[.agg #[.int .u64 (word (f) 0 : Nat), .int .u64 (word (f) 1 : Nat), .int .u64 (word (f) 2 : Nat), .int .u64 (word (f) 3 : Nat)], .int .i64 b] w fun e w' => e = .returned (.int .i64 (rankF f b : Nat)) ∧ Touch (fun _ => False) w w' := rank_any f b w hV
theorem count_any' (f : Nat → Bool) (w : World) :
    Calls Try.prog 39 #[.agg #[.int .u64 (word (f) 0 : Nat), .int .u64 (word (f) 1 : Nat), .int .u64 (word (f) 2 : Nat), .int .u64 (word (f) 3 : Nat)]] w fun e w' => e = .returned (.int .i64 (cnt f 256 : Nat)) ∧ Touch (fun _ => False) w w' := count_any f w
theorem without_any' (f : Nat → Bool) (i : Nat) (hi : i < 256) (w : World) :
    Calls Try.prog 30 #[.agg #[.int .u64 (word (f) 0 : Nat), .int .u64 (word (f) 1 : Nat), .int .u64 (word (f) 2 : Nat), .int .u64 (word (f) 3 : Nat)], .int .u8 i] w fun e w' => e = .returned (.agg #[.int .u64 (word (setb f i false) 0 : Nat), .int .u64 (word (setb f i false) 1 : Nat), .int .u64 (word (setb f i false) 2 : Nat), .int .u64 (word (setb f i false) 3 : Nat)]) ∧ Touch (fun _ => False) w w' := without_any f i hi w
theorem all_any' (f : Nat → Bool) (w : World) :
    Calls Try.prog 26 #[.agg #[.int .u64 (word (f) 0 : Nat), .int .u64 (word (f) 1 : Nat), .int .u64 (word (f) 2 : Nat), .int .u64 (word (f) 3 : Nat)]] w fun e w' => ∃ v n, e = .returned v ∧ w'.ownsRow w.heap.size 5 1 v n (ivs .u8 (allF f 256)) ∧ Touch (fun _ => False) w w' := all_any f w

theorem of3 (w : World) : Calls Try.prog 42 #[.slice (some ⟨w.heap.size, 0, none⟩) 2 2] (w.alloc (.cells #[.int .u8 3, .int .u8 200] 5)) fun e w' => e = .returned (.agg #[.int .u64 (word (f3) 0 : Nat), .int .u64 (word (f3) 1 : Nat), .int .u64 (word (f3) 2 : Nat), .int .u64 (word (f3) 3 : Nat)]) ∧ Touch (fun _ => False) (w.alloc (.cells #[.int .u8 3, .int .u8 200] 5)) w' :=
  of_any' _ [3, 200] _ (reads3 w) (by decide)

set_option maxRecDepth 100000 in
set_option maxHeartbeats 1600000 in
theorem awake_any (w : World) : Calls Try.prog 41 #[] w fun e w' => e = .returned (.bool true) ∧ Touch (fun _ => False) w w' := by
  have he := fun a b c d a' b' c' d' W => eql_mask a b c d a' b' c' d' W
  have c1 : Hid (f3 3 = true) := Lib.hid (by decide)
  have c2 : Hid (nextF f3 4 = 200) := Lib.hid (by decide +kernel)
  have c3 : Hid (prevF f3 199 = 3) := Lib.hid (by decide +kernel)
  have c4 : Hid (rankF f3 200 = 1) := Lib.hid (by decide +kernel)
  have c5 : Hid (cnt f3 256 = 2) := Lib.hid (by decide +kernel)
  have z0 : word (ofF []) 0 = 0 := word_none 0
  have z1 : word (ofF []) 1 = 0 := word_none 1
  have z2 : word (ofF []) 2 = 0 := word_none 2
  have z3 : word (ofF []) 3 = 0 := word_none 3
  have hex : ∀ i, i < 256 → setb f3 3 false i = ofF [200] i := by decide +kernel
  have w0 := word_ext hex 0 (by omega)
  have w1' := word_ext hex 1 (by omega)
  have w2' := word_ext hex 2 (by omega)
  have w3' := word_ext hex 3 (by omega)
  clear hex
  go_enter Try.func41, Try.ntmps41
  go_wp2_with (fail)
  refine (of3 _).mono ?_
  rintro e w1 ⟨rfl, ht1⟩
  go_wp2_with (fail)
  refine (has_any' f3 3 (by omega) _).mono ?_
  rw [c1.out]
  rintro e w2 ⟨rfl, ht2⟩
  have m2 := (mat_new w1 f3 46).keep ht2 id
  obtain ⟨y0, y1, y2, y3⟩ := m2
  go_wp2_with (fail)
  refine (next_any' f3 4 _ (by unfold V64; omega)).mono ?_
  rw [c2.out]
  rintro e w3 ⟨rfl, ht3⟩
  have x0 := keepc ht3 id y0
  have x1 := keepc ht3 id y1
  have x2 := keepc ht3 id y2
  have x3 := keepc ht3 id y3
  clear y0 y1 y2 y3
  go_wp2_with (fail)
  refine (prev_any' f3 199 _ (by unfold V64; omega)).mono ?_
  rw [c3.out]
  rintro e w4 ⟨rfl, ht4⟩
  have y0 := keepc ht4 id x0
  have y1 := keepc ht4 id x1
  have y2 := keepc ht4 id x2
  have y3 := keepc ht4 id x3
  clear x0 x1 x2 x3
  go_wp2_with (fail)
  refine (rank_any' f3 200 _ (by unfold V64; omega)).mono ?_
  rw [c4.out]
  rintro e w5 ⟨rfl, ht5⟩
  have x0 := keepc ht5 id y0
  have x1 := keepc ht5 id y1
  have x2 := keepc ht5 id y2
  have x3 := keepc ht5 id y3
  clear y0 y1 y2 y3
  go_wp2_with (fail)
  refine (count_any' f3 _).mono ?_
  rw [c5.out]
  rintro e w6 ⟨rfl, ht6⟩
  have y0 := keepc ht6 id x0
  have y1 := keepc ht6 id x1
  have y2 := keepc ht6 id x2
  have y3 := keepc ht6 id x3
  clear x0 x1 x2 x3
  go_wp2_with (fail)
  refine (of_any' _ [] _ (Reads.nil _) (by simp)).mono ?_
  rintro e w7 ⟨rfl, ht7⟩
  have x0 := keepc ht7 id y0
  have x1 := keepc ht7 id y1
  have x2 := keepc ht7 id y2
  have x3 := keepc ht7 id y3
  clear y0 y1 y2 y3
  go_wp2_with (fail)
  refine (without_any' f3 3 (by omega) _).mono ?_
  rintro e w8 ⟨rfl, ht8⟩
  go_wp2_with (fail)
  refine (of_any' _ [200] _ (reads1 _) (by decide)).mono ?_
  rintro e w9 ⟨rfl, ht9⟩
  go_wp2_with (fail)
  go_ret
  refine ⟨rfl, ?_⟩
  have t1 := ((Touch.refl (fun _ => False) w).alloc (.cells #[.int .u8 3, .int .u8 200] 5)).trans' ht1
  have t2 := (t1.alloc _).trans' ht2
  exact ((t2.trans' (ht3.trans' (ht4.trans' (ht5.trans' (ht6.trans' (ht7.trans' ht8)))))).alloc _).trans' ht9
end MaskA
end Go.Proofs.Ytfibglpiohkcoaa
