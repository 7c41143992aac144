/- The meters' methods whatever the number of the counter, and the reference's. -/
import Derived.Test.YtfibglpiohkcoaaMeterC
namespace Go.Proofs.Ytfibglpiohkcoaa
open Go.RowKit
set_option linter.unusedVariables false
set_option linter.unusedSimpArgs false

namespace MeterA
def There (i : Int) : Bool := decide (0 ≤ i ∧ i < 12)
def addC (c : Nat → Int) (i n : Int) : Nat → Int := if There i then upd c i.toNat (wrap64 (c i.toNat + n)) else c
def addV (c : Nat → Int) (i n : Int) : Int := if There i then wrap64 (c i.toNat + n) else 0
def getV (c : Nat → Int) (i : Int) : Int := if There i then c i.toNat else 0
def mostC (c : Nat → Int) (i n : Int) : Nat → Int := if There i then upd c i.toNat (max (c i.toNat) n) else c
def mostV (c : Nat → Int) (i n : Int) : Int := if There i then max (c i.toNat) n else 0
def swapC (c : Nat → Int) (i o n : Int) : Nat → Int := if There i && decide (c i.toNat = o) then upd c i.toNat n else c
def swapV (c : Nat → Int) (i o n : Int) : Bool := There i && decide (c i.toNat = o)

theorem there_yes {i : Int} (h0 : 0 ≤ i) (h1 : i < 12) : There i = true := by simp [There, h0, h1]
theorem there_no {i : Int} (h : ¬ (0 ≤ i ∧ i < 12)) : There i = false := by simp only [There, h]; rfl
theorem upd_self (c : Nat → Int) (i : Nat) : upd c i (c i) = c := by funext j; simp only [upd]; split <;> simp_all
theorem left_of_same {b : Nat} {c : Nat → Int} {w : World} {v : Value} (hm : Cnt w b c) {f : Nat} {args : Array Value} (h : Calls Try.prog f args w fun e w' => e = .returned v ∧ w = w') : Calls Try.prog f args w (Left b c w v) :=
  h.mono fun e w' ⟨he, hw⟩ => by subst hw; exact ⟨he, hm, Touch.refl _ _⟩

section
variable (b : Nat) (c : Nat → Int) (w : World)
theorem add_any (i n : Int) (hm : Cnt w b c) : Calls Try.prog 13 #[.pointer (some ⟨b, 0, none⟩), .int .i64 i, .int .i64 n] w (Left b (addC c i n) w (.int .i64 (addV c i n))) := by
  by_cases h : 0 ≤ i ∧ i < 12
  · simp only [addC, addV, there_yes h.1 h.2, if_true]; exact add_in b c w i n h.1 h.2 hm
  · simp only [addC, addV, there_no h]; exact left_of_same hm (add_out b w i n (by omega))
theorem get_any (i : Int) (hm : Cnt w b c) : Calls Try.prog 21 #[.pointer (some ⟨b, 0, none⟩), .int .i64 i] w fun e w' => e = .returned (.int .i64 (getV c i)) ∧ w = w' := by
  by_cases h : 0 ≤ i ∧ i < 12
  · simp only [getV, there_yes h.1 h.2, if_true]; exact get_in b c w i h.1 h.2 hm
  · simp only [getV, there_no h]; exact get_out b w i (by omega)
theorem most_any (i n : Int) (hm : Cnt w b c) : Calls Try.prog 15 #[.pointer (some ⟨b, 0, none⟩), .int .i64 i, .int .i64 n] w (Left b (mostC c i n) w (.int .i64 (mostV c i n))) := by
  by_cases h : 0 ≤ i ∧ i < 12
  · simp only [mostC, mostV, there_yes h.1 h.2, if_true]; exact most_in b c w i n h.1 h.2 hm
  · simp only [mostC, mostV, there_no h]; exact left_of_same hm (most_out b w i n (by omega))
theorem swap_any (i o n : Int) (hm : Cnt w b c) : Calls Try.prog 17 #[.pointer (some ⟨b, 0, none⟩), .int .i64 i, .int .i64 o, .int .i64 n] w (Left b (swapC c i o n) w (.bool (swapV c i o n))) := by
  by_cases h : 0 ≤ i ∧ i < 12
  · by_cases e : c i.toNat = o
    · subst e; simp only [swapC, swapV, there_yes h.1 h.2, decide_true, Bool.and_true, if_true]; exact swap_hit b c w i n h.1 h.2 hm
    · simp only [swapC, swapV, e, decide_false, Bool.and_false]; exact left_of_same hm (swap_miss b c w i o n h.1 h.2 hm e)
  · simp only [swapC, swapV, there_no h, Bool.false_and]; exact left_of_same hm (swap_out b w i o n (by omega))

theorem there_any (i : Int) : Calls Try.prog 45 #[.int .i64 i] w fun e w' => e = .returned (.bool (There i)) ∧ w = w' := by
  by_cases h0 : 0 ≤ i
  · by_cases h1 : i < 12
    · have H := Lib.hid (there_yes h0 h1)
      go_enter Try.func45, Try.ntmps45
      go_wp2
      go_ret
      rw [H.out]; exact ⟨rfl, rfl⟩
    · have H := Lib.hid (there_no (i := i) (by omega))
      go_enter Try.func45, Try.ntmps45
      go_wp2
      go_ret
      rw [H.out]; exact ⟨rfl, rfl⟩
  · have H := Lib.hid (there_no (i := i) (by omega))
    go_enter Try.func45, Try.ntmps45
    go_wp2
    go_ret
    rw [H.out]; exact ⟨rfl, rfl⟩

theorem radd_any (i n : Int) (hm : Cnt w b c) : Calls Try.prog 14 #[.pointer (some ⟨b, 0, none⟩), .int .i64 i, .int .i64 n] w (Left b (addC c i n) w (.int .i64 (addV c i n))) := by
  by_cases h : 0 ≤ i ∧ i < 12
  · obtain ⟨h0, h1⟩ := h
    obtain ⟨hc, hf⟩ := hm i.toNat (by omega)
    have Hm := Lib.hid hm
    clear hm
    simp only [addC, addV, there_yes h0 h1, if_true]
    have HT := Lib.hid (there_yes h0 h1)
    go_enter Try.func14, Try.ntmps14
    go_wp2_with (go_at_call 45; refine (there_any _ _).mono ?_; rw [HT.out]; rintro e w' ⟨rfl, rfl⟩)
    go_region
    go_wp2
    go_ret
    exact ⟨rfl, Hm.out.set (by omega) _, (touch_set (b := b) rfl _).drew⟩
  · have HT := Lib.hid (there_no h)
    simp only [addC, addV, there_no h]
    go_enter Try.func14, Try.ntmps14
    go_wp2_with (go_at_call 45; refine (there_any _ _).mono ?_; rw [HT.out]; rintro e w' ⟨rfl, rfl⟩)
    go_ret
    exact ⟨rfl, hm, Touch.refl _ _⟩

theorem cnt_new (t : Nat) : Cnt (w.alloc (.cells #[.int .i64 0, .int .i64 0, .int .i64 0, .int .i64 0, .int .i64 0, .int .i64 0, .int .i64 0, .int .i64 0, .int .i64 0, .int .i64 0, .int .i64 0, .int .i64 0] t)) w.heap.size (fun _ => 0) := by
  intro i hi
  refine ⟨?_, World.frozen?_alloc_new _ _ _ _⟩
  rw [World.cell?_alloc_new]
  match i, hi with
  | 0, _ | 1, _ | 2, _ | 3, _ | 4, _ | 5, _ | 6, _ | 7, _ | 8, _ | 9, _ | 10, _ | 11, _ => rfl
  | n + 12, h => omega

/-- each counter is an int64 -/
def In64 (c : Nat → Int) : Prop := ∀ i, -9223372036854775808 ≤ c i ∧ c i < 9223372036854775808
theorem in64_wrap (x : Int) : -9223372036854775808 ≤ wrap64 x ∧ wrap64 x < 9223372036854775808 := by unfold wrap64; omega
theorem in64_upd {c : Nat → Int} (h : In64 c) (i : Nat) {v : Int} (hv : -9223372036854775808 ≤ v ∧ v < 9223372036854775808) : In64 (upd c i v) := fun j => by
  simp only [MeterA.upd]; split
  · exact hv
  · exact h j
theorem in64_addC {c : Nat → Int} (h : In64 c) (i n : Int) : In64 (addC c i n) := by
  unfold MeterA.addC; split
  · exact in64_upd h _ (in64_wrap _)
  · exact h
theorem in64_mostC {c : Nat → Int} (h : In64 c) (i n : Int) (hn : -9223372036854775808 ≤ n ∧ n < 9223372036854775808) : In64 (mostC c i n) := by
  unfold MeterA.mostC; split
  · exact in64_upd h _ (by have := h i.toNat; omega)
  · exact h
theorem in64_swapC {c : Nat → Int} (h : In64 c) (i o n : Int) (hn : -9223372036854775808 ≤ n ∧ n < 9223372036854775808) : In64 (swapC c i o n) := by
  unfold MeterA.swapC; split
  · exact in64_upd h _ hn
  · exact h
theorem in64_add0 {c : Nat → Int} (h : In64 c) (i : Int) : addC c i 0 = c ∧ addV c i 0 = getV c i := by
  have := h i.toNat
  unfold MeterA.addC addV getV
  rw [Int.add_zero, w64 this.1 this.2]
  split
  · exact ⟨upd_self _ _, rfl⟩
  · exact ⟨rfl, rfl⟩

theorem rget_any (i : Int) (hm : Cnt w b c) (hc : In64 c) : Calls Try.prog 12 #[.pointer (some ⟨b, 0, none⟩), .int .i64 i] w (Left b c w (.int .i64 (getV c i))) := by
  obtain ⟨e1, e2⟩ := in64_add0 hc i
  have E1 := Lib.hid e1
  have E2 := Lib.hid e2
  have H := Lib.hid hm
  clear e1 e2 hc hm
  go_enter Try.func12, Try.ntmps12
  go_wp2_with (go_at_call 14; refine (radd_any _ _ _ _ _ H.out).mono ?_; rw [E1.out, E2.out]; rintro e w1 ⟨rfl, hm1, ht1⟩)
  go_ret
  exact ⟨rfl, hm1, ht1⟩

theorem rmost_any (i n : Int) (hm : Cnt w b c) (hc : In64 c) (hn : -9223372036854775808 ≤ n ∧ n < 9223372036854775808) : Calls Try.prog 16 #[.pointer (some ⟨b, 0, none⟩), .int .i64 i, .int .i64 n] w (Left b (mostC c i n) w (.int .i64 (mostV c i n))) := by
  have hgv : getV (mostC c i n) i = mostV c i n := by
    unfold getV mostC mostV
    by_cases ht : There i = true
    · simp only [ht, if_true]; simp [upd]
    · simp only [ht]; rfl
  have Hgv := Lib.hid hgv
  have Hm := Lib.hid hm
  have Hc := Lib.hid (in64_mostC hc i n hn)
  clear hgv
  by_cases h : 0 ≤ i ∧ i < 12
  · obtain ⟨h0, h1⟩ := h
    obtain ⟨hc1, hf⟩ := hm i.toNat (by omega)
    clear hm hc
    have HT := Lib.hid (there_yes h0 h1)
    by_cases hgt : n > c i.toNat
    · have e1 : Hid (mostC c i n = upd c i.toNat n) := Lib.hid (by unfold mostC; rw [HT.out, if_pos rfl, show max (c i.toNat) n = n from by omega])
      go_enter Try.func16, Try.ntmps16
      go_wp2_with (go_at_call 45; refine (there_any _ _).mono ?_; rw [HT.out]; rintro e w' ⟨rfl, rfl⟩)
      have Hm2 := Lib.hid (Hm.out.set (o := i.toNat) (by omega) n)
      refine (rget_any b (mostC c i n) _ i ?_ Hc.out).mono ?_
      · rw [e1.out]; exact Hm2.out
      rw [Hgv.out]
      rintro e w1 ⟨rfl, hm1, ht1⟩
      go_wp2
      go_ret
      exact ⟨rfl, hm1, (touch_set (b := b) rfl _).trans' ht1⟩
    · have e1 : Hid (mostC c i n = c) := Lib.hid (by unfold mostC; rw [HT.out, if_pos rfl, show max (c i.toNat) n = c i.toNat from by omega, upd_self])
      go_enter Try.func16, Try.ntmps16
      go_wp2_with (go_at_call 45; refine (there_any _ _).mono ?_; rw [HT.out]; rintro e w' ⟨rfl, rfl⟩)
      refine (rget_any b (mostC c i n) _ i ?_ Hc.out).mono ?_
      · rw [e1.out]; exact Hm.out
      rw [Hgv.out]
      rintro e w1 ⟨rfl, hm1, ht1⟩
      go_wp2
      go_ret
      exact ⟨rfl, hm1, ht1⟩
  · have HT := Lib.hid (there_no h)
    have e1 : Hid (mostC c i n = c) := Lib.hid (by unfold mostC; rw [HT.out]; rfl)
    go_enter Try.func16, Try.ntmps16
    go_wp2_with (go_at_call 45; refine (there_any _ _).mono ?_; rw [HT.out]; rintro e w' ⟨rfl, rfl⟩)
    refine (rget_any b (mostC c i n) _ i ?_ Hc.out).mono ?_
    · rw [e1.out]; exact Hm.out
    rw [Hgv.out]
    rintro e w1 ⟨rfl, hm1, ht1⟩
    go_wp2
    go_ret
    exact ⟨rfl, hm1, ht1⟩

theorem rswap_any (i o n : Int) (hm : Cnt w b c) : Calls Try.prog 18 #[.pointer (some ⟨b, 0, none⟩), .int .i64 i, .int .i64 o, .int .i64 n] w (Left b (swapC c i o n) w (.bool (swapV c i o n))) := by
  by_cases h : 0 ≤ i ∧ i < 12
  · obtain ⟨h0, h1⟩ := h
    obtain ⟨hc1, hf⟩ := hm i.toNat (by omega)
    have HT := Lib.hid (there_yes h0 h1)
    have Hm := Lib.hid hm
    clear hm
    by_cases e : c i.toNat = o
    · simp only [swapC, swapV, there_yes h0 h1, e, decide_true, Bool.and_true, if_true]
      subst e
      go_enter Try.func18, Try.ntmps18
      go_wp2_with (go_at_call 45; refine (there_any _ _).mono ?_; rw [HT.out]; rintro e w' ⟨rfl, rfl⟩)
      go_ret
      exact ⟨rfl, Hm.out.set (by omega) _, touch_set (b := b) rfl _⟩
    · simp only [swapC, swapV, e, decide_false, Bool.and_false]
      go_enter Try.func18, Try.ntmps18
      go_wp2_with (go_at_call 45; refine (there_any _ _).mono ?_; rw [HT.out]; rintro e w' ⟨rfl, rfl⟩)
      go_ret
      exact ⟨rfl, Hm.out, Touch.refl _ _⟩
  · have HT := Lib.hid (there_no h)
    simp only [swapC, swapV, there_no h, Bool.false_and]
    go_enter Try.func18, Try.ntmps18
    go_wp2_with (go_at_call 45; refine (there_any _ _).mono ?_; rw [HT.out]; rintro e w' ⟨rfl, rfl⟩)
    go_ret
    exact ⟨rfl, hm, Touch.refl _ _⟩
end

def vals (c : Nat → Int) : List Int := (List.range 12).map c
theorem firsts_vals (c : Nat → Int) : firsts c 12 = ivs .i64 (vals c) := by simp [firsts, ivs, vals]
theorem reads_all {w : World} {base e : Nat} {v : Value} {c : Nat → Int} (h : w.ownsRow base e 1 v 12 (firsts c 12)) : Reads w v (ivs .i64 (vals c)) := by
  rw [← firsts_vals]; exact Reads.of_own h
theorem Cnt.reads {w : World} {b : Nat} {c : Nat → Int} (h : Cnt w b c) : Reads w (.slice (some ⟨b, 0, none⟩) 12 12) (ivs .i64 (vals c)) := by
  refine ⟨some ⟨b, 0, none⟩, 12, by simp [ivs, vals], by simp [ivs, vals], by simp [maxLen], fun i hi => ⟨b, 0, rfl, h.lt, ?_⟩⟩
  have hi' : i < 12 := by simpa [ivs, vals] using hi
  rw [Nat.zero_add, (h i hi').1]
  simp [ivs, vals]


def zeros12 : Array Value := #[.int .i64 0, .int .i64 0, .int .i64 0, .int .i64 0, .int .i64 0, .int .i64 0, .int .i64 0, .int .i64 0, .int .i64 0, .int .i64 0, .int .i64 0, .int .i64 0]
theorem reads_zeros (w : World) (t : Nat) : Reads (w.alloc (.cells #[.int .i64 0, .int .i64 0, .int .i64 0, .int .i64 0, .int .i64 0, .int .i64 0, .int .i64 0, .int .i64 0, .int .i64 0, .int .i64 0, .int .i64 0, .int .i64 0] t)) (.slice (some ⟨w.heap.size, 0, none⟩) 12 12) (ivs .i64 (vals fun _ => 0)) :=
  (cnt_new w t).reads
end MeterA
end Go.Proofs.Ytfibglpiohkcoaa
