/- bramblelaw0's functions over lists of int64. -/
import Derived.Test.YtfibglpiohkcoaaBase
namespace Go.Proofs.Ytfibglpiohkcoaa
open Go.RowKit
set_option linter.unusedVariables false
set_option linter.unusedSimpArgs false

namespace SameA
theorem take_succ_eq {α : Type} {xs ys : List α} {k : Nat} {d : α} (h : xs.take k = ys.take k) (h1 : xs[k]? = some d) (h2 : ys[k]? = some d) : xs.take (k + 1) = ys.take (k + 1) := by
  rw [List.take_add_one, List.take_add_one, h, h1, h2]

set_option maxHeartbeats 400000 in
theorem sameLongs_any (va vb : Value) (xs ys : List Int) (w : World) (ha : Reads w va (ivs .i64 xs)) (hb : Reads w vb (ivs .i64 ys)) (hm : xs.length ≤ 1000000) (hm2 : ys.length ≤ 1000000) :
    Calls Try.prog 22 #[va, vb] w fun e w' => e = .returned (.bool (decide (xs = ys))) ∧ Touch (fun _ => False) w w' := by
  obtain ⟨aa, ca, rfl, _, _⟩ := ha.shape
  obtain ⟨ab, cb, rfl, _, _⟩ := hb.shape
  simp only [ivs_length] at ha hb ⊢
  by_cases hl : xs.length = ys.length
  · have hl1 : ((xs.length : Int) != ys.length) = false := by simp [hl]
    have Hl := Lib.hid hl
    clear hl
    go_enter Try.func22, Try.ntmps22
    go_wp2
    go_loopw [5] (fun i5 wr => ∃ k : Nat, k ≤ xs.length ∧ i5 = .int .i64 k ∧ xs.take k = ys.take k ∧ Touch (fun _ => False) w wr) (fun i5 _ => xs.length - (intOf i5).toNat)
    case atStart => exact ⟨0, by omega, rfl, by simp, Touch.refl _ _⟩
    case round =>
      obtain ⟨k, hk, rfl, htake, ht⟩ := hrel
      have Ht := Lib.hid htake
      clear htake
      by_cases hlt : k < xs.length
      · obtain ⟨ba, oa, rfl⟩ := ha.addr (by simpa using (by omega : 0 < xs.length))
        obtain ⟨bb, ob, rfl⟩ := hb.addr (by have := Hl.out; simp; omega)
        obtain ⟨x, hx, h1⟩ := reads_cell (ha.keep ht (fun _ _ h => h)) k hlt
        obtain ⟨y, hy, h2⟩ := reads_cell (hb.keep ht (fun _ _ h => h)) k (by have := Hl.out; omega)
        have hltb : (k : Int) < (ys.length : Int) := by have := Hl.out; omega
        have Hx := Lib.hid hx
        have Hy := Lib.hid hy
        clear hx hy
        by_cases he : x = y
        · subst he
          go_wp2
          go_quiet (fail)
          go_wp2
          go_roundw
          case rel => exact ⟨k + 1, by omega, by go_num, take_succ_eq Ht.out Hx.out Hy.out, ht.drewN _⟩
          case measure => simp [intOf]; omega
        · have hne : (x != y) = true := by simpa using he
          have hfin : decide (xs = ys) = false := by
            rw [decide_eq_false_iff_not]; rintro rfl
            have h1 := Hx.out; have h2 := Hy.out
            rw [h1] at h2; exact he (Option.some.inj h2)
          have Hfin := Lib.hid hfin
          clear hfin he
          go_wp2
          go_quiet (fail)
          go_wp2
          go_ret
          rw [Hfin.out]
          exact ⟨rfl, ht.drewN _⟩
      · have hfin : decide (xs = ys) = true := by
          rw [decide_eq_true_iff]
          have h1 := Ht.out
          have h2 := Hl.out
          rwa [List.take_of_length_le (by omega), List.take_of_length_le (by omega)] at h1
        have Hfin := Lib.hid hfin
        clear hfin
        go_wp2
        go_ret
        rw [Hfin.out]
        exact ⟨rfl, ht⟩
  · have hl1 : ((xs.length : Int) != ys.length) = true := by simpa using (by omega : ¬ (xs.length : Int) = ys.length)
    have hfin : decide (xs = ys) = false := by rw [decide_eq_false_iff_not]; rintro rfl; exact hl rfl
    have Hfin := Lib.hid hfin
    clear hfin hl
    go_enter Try.func22, Try.ntmps22
    go_wp2
    go_ret
    rw [Hfin.out]
    exact ⟨rfl, Touch.refl _ _⟩

theorem sameLongs_same (va vb : Value) (xs : List Int) (w : World) (ha : Reads w va (ivs .i64 xs)) (hb : Reads w vb (ivs .i64 xs)) (hm : xs.length ≤ 1000000) :
    Calls Try.prog 22 #[va, vb] w fun e w' => e = .returned (.bool true) ∧ Touch (fun _ => False) w w' := by
  have h := sameLongs_any va vb xs xs w ha hb hm hm
  simpa using h

set_option maxHeartbeats 400000 in
theorem overLongs_any (v : Value) (n : Nat) (xs : List Value) (w : World) (base : Nat) (ho : w.ownsRow base 2 1 v n xs) (hn : n ≤ 1000000) (hbase : base ≤ w.heap.size) :
    Calls Try.prog 23 #[v] w fun e w' => e = .returned (.tuple #[]) ∧ Touch (fun k => v.ownBlock = some k) w w' := by
  obtain ⟨a, cap, rfl⟩ := own_len ho
  go_enter Try.func23, Try.ntmps23
  go_wp2
  go_loopw [2] (fun i2 wr => ∃ k : Nat, k ≤ n ∧ i2 = .int .i64 k ∧ (∃ xs', wr.ownsRow base 2 1 (.slice a n cap) n xs') ∧ Touch (fun k => (Value.slice a n cap).ownBlock = some k) w wr) (fun i2 _ => n - (intOf i2).toNat)
  case atStart => exact ⟨0, by omega, rfl, ⟨xs, ho⟩, Touch.refl _ _⟩
  case round =>
    obtain ⟨k, hk, rfl, ⟨xs', ho'⟩, ht⟩ := hrel
    have Ho := Lib.hid ho
    clear ho
    by_cases hlt : k < n
    · obtain ⟨g, rfl⟩ := own_addr ho' (by omega)
      obtain ⟨u, hu⟩ := own_cell ho' k hlt
      have hf := ho'.frozenAt k
      go_wp2
      go_roundw
      case rel =>
        obtain ⟨h1, h2⟩ := ho'.stored k (.int .i64 (-999))
        exact ⟨k + 1, by omega, by go_num, ⟨_, h1⟩, ht.trans' ((Touch.grown h2).mono (by intro i hi _; simpa [Value.ownBlock] using hi))⟩
      case measure => simp [intOf]; omega
    · have hsz := ht.size
      go_wp2_with (first
        | (at_builtin; refine wpList_push rfl _ _ 35 rfl base 2 (.int .i64 0) 8 Try.underlying35 (by kernel_rfl) rfl _ n _ rfl ho' _ rfl rfl ?c1 ?c2 ?c3 ?_; rotate_left 3; intro v' w1 hown1 ht1))
      case c1 => omega
      case c2 => simp [maxLen]; omega
      case c3 => omega
      go_end0
      exact ⟨rfl, ht.trans' ht1⟩

/-- Low: a number from 0 to below n -/
def low (x n : Int) : Int := x % 18446744073709551616 % n
theorem low_lt (x : Int) {n : Int} (hn : 0 < n) : 0 ≤ low x n ∧ low x n < n := by unfold low; exact ⟨Int.emod_nonneg _ (by omega), Int.emod_lt_of_pos _ hn⟩
theorem low_eq (x : Int) {n : Int} (hn : 0 < n) (hn2 : n < 1000000) : wrap64 ((IntKind.u64.wrap x).tmod n) = low x n := by
  have e : IntKind.u64.wrap x = x % 18446744073709551616 := by simp [IntKind.wrap, IntKind.signed, IntKind.bits]
  have h0 : 0 ≤ x % 18446744073709551616 := Int.emod_nonneg _ (by omega)
  rw [e, Int.tmod_eq_emod_of_nonneg h0]
  have := low_lt x hn
  unfold low at this ⊢
  exact w64 (by omega) (by omega)
theorem ret_int {k : IntKind} {a b : Int} (h : a = b) : Ending.returned (.int k a) = .returned (.int k b) := by rw [h]
theorem low_any (x n : Int) (w : World) (hx : V64 x) (hn : 0 < n) (hn2 : n < 1000000) :
    Calls Try.prog 24 #[.int .i64 x, .int .i64 n] w fun e w' => e = .returned (.int .i64 (low x n)) ∧ w = w' := by
  go_enter Try.func24, Try.ntmps24
  go_wp2
  go_ret
  exact ⟨ret_int (low_eq x hn hn2), rfl⟩
theorem low_ex (x n : Int) (w : World) (hx : V64 x) (hn : 0 < n) (hn2 : n < 1000000) :
    Calls Try.prog 24 #[.int .i64 x, .int .i64 n] w fun e w' => ∃ p : Int, 0 ≤ p ∧ p < n ∧ e = .returned (.int .i64 p) ∧ w = w' :=
  (low_any x n w hx hn hn2).mono fun e w' ⟨h1, h2⟩ => ⟨_, (low_lt x hn).1, (low_lt x hn).2, h1, h2⟩
end SameA
end Go.Proofs.Ytfibglpiohkcoaa
