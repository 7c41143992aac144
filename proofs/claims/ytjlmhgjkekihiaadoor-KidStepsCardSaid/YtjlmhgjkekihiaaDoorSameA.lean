/- bramblelaw0's small functions. -/
import Derived.Test.YtjlmhgjkekihiaaDoorBase
namespace Go.Proofs.YtjlmhgjkekihiaaDoor
open Go.RowKit
set_option linter.unusedVariables false
set_option linter.unusedSimpArgs false

namespace SameA
theorem take_succ_eq {α : Type} {xs ys : List α} {k : Nat} {d : α} (h : xs.take k = ys.take k) (h1 : xs[k]? = some d) (h2 : ys[k]? = some d) : xs.take (k + 1) = ys.take (k + 1) := by
  rw [List.take_add_one, List.take_add_one, h, h1, h2]

/-- Low: a number from 0 to below n -/
def low (x n : Int) : Int := x % 18446744073709551616 % n
theorem low_lt (x : Int) {n : Int} (hn : 0 < n) : 0 ≤ low x n ∧ low x n < n := by unfold low; exact ⟨Int.emod_nonneg _ (by omega), Int.emod_lt_of_pos _ hn⟩
theorem low_eq (x : Int) {n : Int} (hn : 0 < n) (hn2 : n < 1000000) : wrap64 ((IntKind.u64.wrap x).tmod n) = low x n := by
  have e : IntKind.u64.wrap x = x % 18446744073709551616 := by simp [IntKind.wrap, IntKind.signed, IntKind.bits]
  have h0 : 0 ≤ x % 18446744073709551616 := Int.emod_nonneg _ (by omega)
  rw [e, Int.tmod_eq_emod_of_nonneg h0]
  have := low_lt x hn
  unfold low at this ⊢
  exact w64 (by omega) (by omega)
theorem ret_int {k : IntKind} {a b : Int} (h : a = b) : Ending.returned (.int k a) = .returned (.int k b) := by rw [h]
theorem low_any (x n : Int) (w : World) (hx : V64 x) (hn : 0 < n) (hn2 : n < 1000000) :
    Calls Tryd.prog 7 #[.int .i64 x, .int .i64 n] w fun e w' => e = .returned (.int .i64 (low x n)) ∧ w = w' := by
  go_enter Tryd.func7, Tryd.ntmps7
  go_wp2
  go_ret
  exact ⟨ret_int (low_eq x hn hn2), rfl⟩
theorem low_ex (x n : Int) (w : World) (hx : V64 x) (hn : 0 < n) (hn2 : n < 1000000) :
    Calls Tryd.prog 7 #[.int .i64 x, .int .i64 n] w fun e w' => ∃ p : Int, 0 ≤ p ∧ p < n ∧ e = .returned (.int .i64 p) ∧ w = w' :=
  (low_any x n w hx hn hn2).mono fun e w' ⟨h1, h2⟩ => ⟨_, (low_lt x hn).1, (low_lt x hn).2, h1, h2⟩
end SameA
end Go.Proofs.YtjlmhgjkekihiaaDoor
