/- Package kid: plain laws; awake. -/
import Derived.Test.YtclnnkacfanaiaaDoorKidB
import Derived.Test.YtclnnkacfanaiaaDoorSameX
namespace Go.Proofs.YtclnnkacfanaiaaDoor
open Go.RowKit
set_option linter.unusedVariables false
set_option linter.unusedSimpArgs false
namespace KidW
open MaskA MaskP KidA KidB
theorem cnt_setb (f : Nat → Bool) (b : Nat) (v : Bool) : ∀ n, b < n → cnt (setb f b v) n + (f b).toNat = cnt f n + v.toNat := by
  intro n
  induction n with
  | zero => intro h; omega
  | succ n ih =>
    intro h
    simp only [cnt]
    rcases Nat.eq_or_lt_of_le (Nat.le_of_lt_succ h) with e | e
    · subst e
      have h1 : cnt (setb f b v) b = cnt f b := cnt_congr fun i hi => by simp [setb, show ¬ i = b by omega]
      have h2 : setb f b v b = v := by simp [setb]
      rw [h1, h2]; omega
    · have h2 : setb f b v n = f n := by simp [setb, show ¬ n = b by omega]
      have := ih e
      rw [h2]; omega
theorem cnt_put (h : Nat → Int) {b : Nat} (hb : b < 256) {x : Int} (hx : x ≠ 0) (hz : h b = 0) : cnt (hs (seth h b x)) 256 = cnt (hs h) 256 + 1 := by
  have h1 := cnt_setb (hs h) b true 256 hb
  have h2 : hs h b = false := by simp [hs, hz]
  rw [hs_put h b hx]
  rw [h2] at h1
  simpa using h1
theorem cnt_again (h : Nat → Int) {b : Nat} (hb : b < 256) {x : Int} (hx : x ≠ 0) (hz : h b ≠ 0) : cnt (hs (seth h b x)) 256 = cnt (hs h) 256 := by
  have h1 := cnt_setb (hs h) b true 256 hb
  have h2 : hs h b = true := by simp [hs, hz]
  rw [hs_put h b hx]
  rw [h2] at h1
  simpa using h1
theorem cnt_drop (h : Nat → Int) {b : Nat} (hb : b < 256) (hz : h b ≠ 0) : cnt (hs (seth h b 0)) 256 + 1 = cnt (hs h) 256 := by
  have h1 := cnt_setb (hs h) b false 256 hb
  have h2 : hs h b = true := by simp [hs, hz]
  rw [hs_drop h b]
  rw [h2] at h1
  simpa using h1

def fives (j : Nat) : Nat → Int := fun i => if i < j then 7 else 0
theorem fives_put (j : Nat) : seth (fives j) j 7 = fives (j + 1) := by
  funext i; simp only [seth, fives]
  by_cases h : i = j
  · simp [h]
  · by_cases h2 : i < j
    · rw [if_neg h, if_pos h2, if_pos (by omega)]
    · rw [if_neg h, if_neg h2, if_neg (by omega)]
theorem fives_drop (j : Nat) : seth (fives (j + 1)) j 0 = fives j := by
  funext i; simp only [seth, fives]
  by_cases h : i = j
  · simp [h]
  · by_cases h2 : i < j
    · rw [if_neg h, if_pos (by omega), if_pos h2]
    · rw [if_neg h, if_neg (by omega), if_neg h2]
theorem fives_cnt (j : Nat) : j ≤ 5 → cnt (hs (fives j)) 256 = j := by
  induction j with
  | zero => intro _; exact cnt_none 256
  | succ j ih =>
    intro hj
    rw [← fives_put, cnt_put _ (by omega) (by omega) (by simp [fives]), ih (by omega)]

end KidW
end Go.Proofs.YtclnnkacfanaiaaDoor
