/- Contracts of package meter: Reset and All. -/
import Derived.Test.YtfibglpiohkcoaaMeterB
namespace Go.Proofs.Ytfibglpiohkcoaa
open Go.RowKit
set_option linter.unusedVariables false
set_option linter.unusedSimpArgs false

namespace MeterA
section
variable (b : Nat) (c : Nat → Int) (w : World)

theorem reset_nil : Calls Try.prog 19 #[.pointer none] w fun e w' => e = .returned (.tuple #[]) ∧ w = w' := by
  go_enter Try.func19, Try.ntmps19
  go_wp2
  go_loop [4] (fun k4 => ∃ k : Nat, k ≤ 12 ∧ k4 = .int .i64 k) (fun k4 => 12 - (intOf k4).toNat)
  case atStart => exact ⟨0, by omega, rfl⟩
  case round =>
    obtain ⟨k, hk, rfl⟩ := hrel
    by_cases hlt : k < 12
    · go_wp2_with (go_at_call 43; refine (at_nil _ _).mono ?_; rintro e w' ⟨rfl, rfl⟩)
      go_round
      case rel => exact ⟨k + 1, by omega, by go_num⟩
      case measure => simp [intOf]; omega
    · go_wp2
      go_end0
      exact ⟨rfl, rfl⟩

def zeroed (c : Nat → Int) (k : Nat) : Nat → Int := fun i => if i < k then 0 else c i

theorem zeroed_0 (c : Nat → Int) : zeroed c 0 = c := by funext j; simp [zeroed]

theorem reset_in (hm : Cnt w b c) : Calls Try.prog 19 #[.pointer (some ⟨b, 0, none⟩)] w (Left b (fun _ => 0) w (.tuple #[])) := by
  have Hm := Lib.hid hm
  clear hm
  go_enter Try.func19, Try.ntmps19
  go_wp2
  go_loopw [4] (fun k4 wr => ∃ k : Nat, k ≤ 12 ∧ k4 = .int .i64 k ∧ Cnt wr b (zeroed c k) ∧ Touch (· = b) w wr) (fun k4 _ => 12 - (intOf k4).toNat)
  case atStart => exact ⟨0, by omega, rfl, by rw [zeroed_0]; exact Hm.out, Touch.refl _ _⟩
  case round =>
    obtain ⟨k, hk, rfl, hm, ht⟩ := hrel
    by_cases hlt : k < 12
    · obtain ⟨hc, hf⟩ := hm k hlt
      have Hr := Lib.hid hm
      clear hm
      go_wp2_with (first
        | (go_at_call 43; refine (at_in _ _ _ (by omega) (by omega)).mono ?_; rintro e w' ⟨rfl, rfl⟩)
        | (go_at_call 48; refine (astore _ _ _ _ _ hc hf).mono ?_; rintro e w' ⟨rfl, rfl⟩))
      go_roundw
      case rel =>
        refine ⟨k + 1, by omega, by go_num, ?_, ht.trans' (touch_set (b := b) rfl _)⟩
        have h2 := Hr.out.set hlt 0
        have e : upd (zeroed c k) k 0 = zeroed c (k + 1) := by
          funext j
          simp only [upd, zeroed]
          by_cases h : j = k <;> by_cases h' : j < k <;> by_cases h'' : j < k + 1 <;> simp [h, h', h''] <;> omega
        rw [e] at h2
        exact h2
      case measure => simp [intOf]; omega
    · go_wp2
      go_end0
      have e : ∀ i, i < 12 → zeroed c k i = 0 := fun i hi => by simp only [zeroed]; rw [if_pos (by omega)]
      exact ⟨rfl, fun i hi => by have := hm i hi; rw [e i hi] at this; exact this, ht⟩

theorem all_nil : Calls Try.prog 20 #[.pointer none] w fun e w' => e = .returned (.slice none 0 0) ∧ w = w' := by
  go_enter Try.func20, Try.ntmps20
  go_wp2
  go_ret
  exact ⟨rfl, rfl⟩

/-- the values of the first k counters -/
def firsts (c : Nat → Int) (k : Nat) : List Value := (List.range k).map fun i => Value.int .i64 (c i)
theorem firsts_succ (c : Nat → Int) (k : Nat) : firsts c (k + 1) = firsts c k ++ [Value.int .i64 (c k)] := by simp [firsts, List.range_succ]

set_option maxHeartbeats 400000 in
theorem all_in (hm : Cnt w b c) : Calls Try.prog 20 #[.pointer (some ⟨b, 0, none⟩)] w fun e w' => ∃ v, e = .returned v ∧ w'.ownsRow w.heap.size 2 1 v 12 (firsts c 12) ∧ Touch (fun _ => False) w w' := by
  have Hm := Lib.hid hm
  clear hm
  go_enter Try.func20, Try.ntmps20
  go_wp2
  go_loopw [7, 3] (fun k7 v wr => ∃ k : Nat, k ≤ 12 ∧ k7 = .int .i64 k ∧ wr.ownsRow w.heap.size 2 1 v k (firsts c k) ∧ Touch (fun _ => False) w wr) (fun k7 _ _ => 12 - (intOf k7).toNat)
  case atStart => exact ⟨0, by omega, rfl, World.ownsRow_nil _ _ _ _, Touch.refl _ _⟩
  case round =>
    obtain ⟨k, hk, rfl, hown, ht⟩ := hrel
    by_cases hlt : k < 12
    · obtain ⟨hc, hf⟩ := (Hm.out.keep ht id) k hlt
      have hsz := ht.size
      go_wp2_with (first
        | (go_at_call 46; refine (aload _ _ _ _ hc).mono ?_; rintro e w' ⟨rfl, rfl⟩)
        | (at_builtin; refine wpList_push rfl _ _ 35 rfl w.heap.size 2 (.int .i64 0) 8 Try.underlying35 (by kernel_rfl) rfl _ k _ rfl hown _ rfl rfl ?c1 ?c2 ?c3 ?_; rotate_left 3; intro v' w1 hown1 ht1))
      case c1 => omega
      case c2 => simp [maxLen]; omega
      case c3 => exact hsz
      go_roundw
      case rel =>
        refine ⟨k + 1, by omega, by go_num, by rw [firsts_succ]; exact hown1, ht.trans ht1 ?_⟩
        intro i hi hlt'
        have := (hown.lt i hi).1
        omega
      case measure => simp [intOf]; omega
    · obtain rfl : k = 12 := by omega
      go_wp2
      go_ret
      exact ⟨_, rfl, hown, ht⟩
end
end MeterA
end Go.Proofs.Ytfibglpiohkcoaa
