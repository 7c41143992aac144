/- The law's own small functions: awake; the lists of int64. -/
import Derived.Test.YtfibglpiohkcoaaMeterC
namespace Go.Proofs.Ytfibglpiohkcoaa
open Go.RowKit
set_option linter.unusedVariables false
set_option linter.unusedSimpArgs false

namespace MeterA
theorem met_congr {w : World} {b : Nat} {c d : Nat → Int} (h : Cnt w b c) (e : ∀ i, i < 12 → c i = d i) : Cnt w b d := fun i hi => by have := h i hi; rw [e i hi] at this; exact this

def c1 : Nat → Int := fun i => if i = 3 then 2 else 0
def c2 : Nat → Int := fun i => if i = 3 then 9 else 0

section
variable (b : Nat) (w : World)
theorem aw_add (hm : Cnt w b (fun _ => 0)) : Calls Try.prog 13 #[.pointer (some ⟨b, 0, none⟩), .int .i64 3, .int .i64 2] w (Left b c1 w (.int .i64 2)) :=
  (add_in b _ w 3 2 (by omega) (by omega) hm).mono fun e w' ⟨h1, h2, h3⟩ => ⟨by rw [h1, show wrap64 (0 + 2) = 2 from w64 (by omega) (by omega)], met_congr h2 fun i _ => by rw [show wrap64 (0 + 2) = 2 from w64 (by omega) (by omega)]; rfl, h3⟩
theorem aw_most (hm : Cnt w b c1) : Calls Try.prog 15 #[.pointer (some ⟨b, 0, none⟩), .int .i64 3, .int .i64 1] w (Left b c1 w (.int .i64 2)) :=
  (most_in b _ w 3 1 (by omega) (by omega) hm).mono fun e w' ⟨h1, h2, h3⟩ => ⟨h1, met_congr h2 fun i _ => by simp only [upd, c1]; by_cases h : i = 3 <;> simp [h] <;> rfl, h3⟩
theorem aw_swap (hm : Cnt w b c1) : Calls Try.prog 17 #[.pointer (some ⟨b, 0, none⟩), .int .i64 3, .int .i64 2, .int .i64 9] w (Left b c2 w (.bool true)) :=
  (swap_hit b c1 w 3 9 (by omega) (by omega) hm).mono fun e w' ⟨h1, h2, h3⟩ => ⟨h1, met_congr h2 fun i _ => by simp only [upd, c1, c2]; by_cases h : i = 3 <;> simp [h], h3⟩
theorem aw_swap2 (hm : Cnt w b c2) : Calls Try.prog 17 #[.pointer (some ⟨b, 0, none⟩), .int .i64 3, .int .i64 2, .int .i64 9] w fun e w' => e = .returned (.bool false) ∧ w = w' :=
  swap_miss b c2 w 3 2 9 (by omega) (by omega) hm (by decide)
theorem aw_get (hm : Cnt w b c2) : Calls Try.prog 21 #[.pointer (some ⟨b, 0, none⟩), .int .i64 3] w fun e w' => e = .returned (.int .i64 9) ∧ w = w' :=
  get_in b c2 w 3 (by omega) (by omega) hm
theorem aw_out : Calls Try.prog 13 #[.pointer (some ⟨b, 0, none⟩), .int .i64 (-1), .int .i64 5] w fun e w' => e = .returned (.int .i64 0) ∧ w = w' :=
  add_out b w (-1) 5 (by omega)
theorem aw_all (hm : Cnt w b c2) : Calls Try.prog 20 #[.pointer (some ⟨b, 0, none⟩)] w fun e w' => ∃ a cap, e = .returned (.slice a 12 cap) ∧ Touch (fun _ => False) w w' :=
  (all_in b c2 w hm).mono fun e w' ⟨v, h1, h2, h3⟩ => by obtain ⟨a, cap, rfl⟩ := own_len h2; exact ⟨a, cap, h1, h3⟩

set_option maxHeartbeats 800000 in
theorem awake_any : Calls Try.prog 10 #[] w fun e w' => e = .returned (.bool true) ∧ Touch (fun _ => False) w w' := by
  go_enter Try.func10, Try.ntmps10
  go_wp2_with (first | (go_at_call 11; refine (new_met _).mono ?_; rintro e w1 ⟨rfl, hm1, ht1⟩))
  have Ht1 := Lib.hid ht1
  go_wp2_with (first | (go_at_call 13; (with_reducible refine (aw_add _ _ hm1).mono ?_); rintro e w2 ⟨rfl, hm2, ht2⟩))
  go_wp2_with (first | (go_at_call 15; (with_reducible refine (aw_most _ _ hm2).mono ?_); rintro e w3 ⟨rfl, hm3, ht3⟩))
  go_wp2_with (first | (go_at_call 17; (with_reducible refine (aw_swap _ _ hm3).mono ?_); rintro e w4 ⟨rfl, hm4, ht4⟩))
  go_wp2_with (first | (go_at_call 17; (with_reducible refine (aw_swap2 _ _ hm4).mono ?_); rintro e w' ⟨rfl, rfl⟩))
  go_wp2_with (first | (go_at_call 21; (with_reducible refine (aw_get _ _ hm4).mono ?_); rintro e w' ⟨rfl, rfl⟩))
  go_wp2_with (first | (go_at_call 13; (with_reducible refine (aw_out _ _).mono ?_); rintro e w' ⟨rfl, rfl⟩))
  go_wp2_with (first | (go_at_call 20; (with_reducible refine (aw_all _ _ hm4).mono ?_); rintro e w5 ⟨a, cap, rfl, ht5⟩))
  go_ret
  refine ⟨rfl, ?_⟩
  have h2 := ht2.trans' (ht3.trans' (ht4.trans (T := fun _ => False) ht5 fun _ h => h.elim))
  exact ht1.trans h2 fun i hi hlt => by omega
end
end MeterA
end Go.Proofs.Ytfibglpiohkcoaa
