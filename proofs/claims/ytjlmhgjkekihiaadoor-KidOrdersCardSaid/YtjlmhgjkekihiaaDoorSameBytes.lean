/- bramblelaw0's functions over lists of bytes. -/
import Derived.Test.YtjlmhgjkekihiaaDoorSameA
namespace Go.Proofs.YtjlmhgjkekihiaaDoor
open Go.RowKit
set_option linter.unusedVariables false
set_option linter.unusedSimpArgs false

namespace SameA
set_option maxRecDepth 100000 in
set_option maxHeartbeats 400000 in
theorem sameBytes_any (va vb : Value) (xs ys : List Int) (w : World) (ha : Reads w va (ivs .u8 xs)) (hb : Reads w vb (ivs .u8 ys)) (hm : xs.length ≤ 1000000) (hm2 : ys.length ≤ 1000000) :
    Calls Tryd.prog 15 #[va, vb] w fun e w' => e = .returned (.bool (decide (xs = ys))) ∧ Touch (fun _ => False) w w' := by
  obtain ⟨aa, ca, rfl, _, _⟩ := ha.shape
  obtain ⟨ab, cb, rfl, _, _⟩ := hb.shape
  simp only [ivs_length] at ha hb ⊢
  by_cases hl : xs.length = ys.length
  · have hl1 : ((xs.length : Int) != ys.length) = false := by simp [hl]
    have Hl := Lib.hid hl
    clear hl
    go_enter Tryd.func15, Tryd.ntmps15
    go_wp2
    go_loopw [5] (fun i5 wr => ∃ k : Nat, k ≤ xs.length ∧ i5 = .int .i64 k ∧ xs.take k = ys.take k ∧ Touch (fun _ => False) w wr) (fun i5 _ => xs.length - (intOf i5).toNat)
    case atStart => exact ⟨0, by omega, rfl, by simp, Touch.refl _ _⟩
    case round =>
      obtain ⟨k, hk, rfl, htake, ht⟩ := hrel
      have Ht := Lib.hid htake
      clear htake
      by_cases hlt : k < xs.length
      · obtain ⟨ba, oa, rfl⟩ := ha.addr (by simpa using (by omega : 0 < xs.length))
        obtain ⟨bb, ob, rfl⟩ := hb.addr (by have := Hl.out; simp; omega)
        obtain ⟨x, hx, h1⟩ := reads_cell (ha.keep ht (fun _ _ h => h)) k hlt
        obtain ⟨y, hy, h2⟩ := reads_cell (hb.keep ht (fun _ _ h => h)) k (by have := Hl.out; omega)
        have hltb : (k : Int) < (ys.length : Int) := by have := Hl.out; omega
        have Hx := Lib.hid hx
        have Hy := Lib.hid hy
        clear hx hy
        by_cases he : x = y
        · subst he
          go_wp2
          go_quiet (fail)
          go_wp2
          go_roundw
          case rel => exact ⟨k + 1, by omega, by go_num, take_succ_eq Ht.out Hx.out Hy.out, ht.drewN _⟩
          case measure => simp [intOf]; omega
        · have hne : (x != y) = true := by simpa using he
          have hfin : decide (xs = ys) = false := by
            rw [decide_eq_false_iff_not]; rintro rfl
            have h1 := Hx.out; have h2 := Hy.out
            rw [h1] at h2; exact he (Option.some.inj h2)
          have Hfin := Lib.hid hfin
          clear hfin he
          go_wp2
          go_quiet (fail)
          go_wp2
          go_ret
          rw [Hfin.out]
          exact ⟨rfl, ht.drewN _⟩
      · have hfin : decide (xs = ys) = true := by
          rw [decide_eq_true_iff]
          have h1 := Ht.out
          have h2 := Hl.out
          rwa [List.take_of_length_le (by omega), List.take_of_length_le (by omega)] at h1
        have Hfin := Lib.hid hfin
        clear hfin
        go_wp2
        go_ret
        rw [Hfin.out]
        exact ⟨rfl, ht⟩
  · have hl1 : ((xs.length : Int) != ys.length) = true := by simpa using (by omega : ¬ (xs.length : Int) = ys.length)
    have hfin : decide (xs = ys) = false := by rw [decide_eq_false_iff_not]; rintro rfl; exact hl rfl
    have Hfin := Lib.hid hfin
    clear hfin hl
    go_enter Tryd.func15, Tryd.ntmps15
    go_wp2
    go_ret
    rw [Hfin.out]
    exact ⟨rfl, Touch.refl _ _⟩

theorem sameBytes_same (va vb : Value) (xs : List Int) (w : World) (ha : Reads w va (ivs .u8 xs)) (hb : Reads w vb (ivs .u8 xs)) (hm : xs.length ≤ 1000000) :
    Calls Tryd.prog 15 #[va, vb] w fun e w' => e = .returned (.bool true) ∧ Touch (fun _ => False) w w' := by
  have h := sameBytes_any va vb xs xs w ha hb hm hm
  simpa using h

set_option maxRecDepth 100000 in
set_option maxHeartbeats 400000 in
theorem overBytes_any (v : Value) (n : Nat) (xs : List Value) (w : World) (base : Nat) (ho : w.ownsRow base 5 1 v n xs) (hn : n ≤ 1000000) (hbase : base ≤ w.heap.size) :
    Calls Tryd.prog 37 #[v] w fun e w' => e = .returned (.tuple #[]) ∧ Touch (fun k => v.ownBlock = some k) w w' := by
  obtain ⟨a, cap, rfl⟩ := own_len ho
  go_enter Tryd.func37, Tryd.ntmps37
  go_wp2
  go_loopw [2] (fun i2 wr => ∃ k : Nat, k ≤ n ∧ i2 = .int .i64 k ∧ (∃ xs', wr.ownsRow base 5 1 (.slice a n cap) n xs') ∧ Touch (fun k => (Value.slice a n cap).ownBlock = some k) w wr) (fun i2 _ => n - (intOf i2).toNat)
  case atStart => exact ⟨0, by omega, rfl, ⟨xs, ho⟩, Touch.refl _ _⟩
  case round =>
    obtain ⟨k, hk, rfl, ⟨xs', ho'⟩, ht⟩ := hrel
    have Ho := Lib.hid ho
    clear ho
    by_cases hlt : k < n
    · obtain ⟨g, rfl⟩ := own_addr ho' (by omega)
      obtain ⟨u, hu⟩ := own_cell ho' k hlt
      have hf := ho'.frozenAt k
      go_wp2
      go_roundw
      case rel =>
        obtain ⟨h1, h2⟩ := ho'.stored k (.int .u8 238)
        exact ⟨k + 1, by omega, by go_num, ⟨_, h1⟩, ht.trans' ((Touch.grown h2).mono (by intro i hi _; simpa [Value.ownBlock] using hi))⟩
      case measure => simp [intOf]; omega
    · have hsz := ht.size
      go_wp2_with (first
        | (at_builtin; refine wpList_push rfl _ _ 31 rfl base 5 (.int .u8 0) 1 Tryd.underlying31 (by kernel_rfl) rfl _ n _ rfl ho' _ rfl rfl ?c1 ?c2 ?c3 ?_; rotate_left 3; intro v' w1 hown1 ht1))
      case c1 => omega
      case c2 => simp [maxLen]; omega
      case c3 => omega
      go_end0
      exact ⟨rfl, ht.trans' ht1⟩

end SameA
end Go.Proofs.YtjlmhgjkekihiaaDoor
