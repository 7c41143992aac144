/- Contracts of package meter. -/
import Derived.Test.YtfibglpiohkcoaaBase
namespace Go.Proofs.Ytfibglpiohkcoaa
open Go.RowKit
set_option linter.unusedVariables false
set_option linter.unusedSimpArgs false

namespace MeterA
/-- Block b holds twelve counters. -/
def Cnt (w : World) (b : Nat) (c : Nat → Int) : Prop := ∀ i, i < 12 → w.cell? ⟨b, i, none⟩ = some (.int .i64 (c i)) ∧ w.frozen? ⟨b, i, none⟩ = false
def upd (c : Nat → Int) (i : Nat) (v : Int) : Nat → Int := fun j => if j = i then v else c j

theorem Cnt.lt {w : World} {b : Nat} {c : Nat → Int} (h : Cnt w b c) : b < w.heap.size := World.block_lt_of_cell? _ _ (h 0 (by omega)).1
theorem Cnt.keep {w w' : World} {b : Nat} {c : Nat → Int} {S : Nat → Prop} (h : Cnt w b c) (ht : Touch S w w') (hn : ¬ S b) : Cnt w' b c := fun i hi =>
  ⟨(ht.cell (p := ⟨b, i, none⟩) h.lt hn).trans (h i hi).1, (ht.frozen (p := ⟨b, i, none⟩) h.lt hn).trans (h i hi).2⟩
theorem Cnt.keep1 {w w' : World} {b b' : Nat} {c : Nat → Int} (h : Cnt w b c) (ht : Touch (· = b') w w') (hn : b ≠ b') : Cnt w' b c := h.keep ht hn
theorem Cnt.set {w : World} {b : Nat} {c : Nat → Int} (h : Cnt w b c) {o : Nat} (ho : o < 12) (v : Int) : Cnt (w.setCell ⟨b, o, none⟩ (.int .i64 v)) b (upd c o v) := fun i hi => by
  refine ⟨?_, by rw [World.frozen?_setCell]; exact (h i hi).2⟩
  by_cases e : i = o
  · subst e; rw [World.cell?_setCell_same _ _ _ (h i hi).1]; simp [upd]
  · rw [World.cell?_setCell_other _ _ _ _ (by simp [Ne.symm e])]; simp only [upd, if_neg e]; exact (h i hi).1
theorem touch_set {w : World} {b : Nat} {p : Addr} (hp : p.block = b) (v : Value) : Touch (· = b) w (w.setCell p v) := (Touch.refl _ w).setCell (Or.inl hp) v

theorem at_nil (i : Int) (w : World) :
    Calls Try.prog 43 #[.pointer none, .int .i64 i] w fun e w' => e = .returned (.pointer none) ∧ w = w' := by
  go_enter Try.func43, Try.ntmps43
  go_wp2
  go_ret
  exact ⟨rfl, rfl⟩

theorem at_out (b : Nat) (i : Int) (w : World) (h : i < 0 ∨ 12 ≤ i) :
    Calls Try.prog 43 #[.pointer (some ⟨b, 0, none⟩), .int .i64 i] w fun e w' => e = .returned (.pointer none) ∧ w = w' := by
  rcases h with h | h
  all_goals
    go_enter Try.func43, Try.ntmps43
    go_wp2
    go_ret
    exact ⟨rfl, rfl⟩

theorem at_in (b : Nat) (i : Int) (w : World) (h0 : 0 ≤ i) (h1 : i < 12) :
    Calls Try.prog 43 #[.pointer (some ⟨b, 0, none⟩), .int .i64 i] w fun e w' => e = .returned (.pointer (some ⟨b, i.toNat, none⟩)) ∧ w = w' := by
  go_enter Try.func43, Try.ntmps43
  go_wp2
  go_ret
  exact ⟨rfl, rfl⟩

theorem aadd (b o : Nat) (n c : Int) (w : World) (hc : w.cell? ⟨b, o, none⟩ = some (.int .i64 c)) (hf : w.frozen? ⟨b, o, none⟩ = false) :
    Calls Try.prog 44 #[.pointer (some ⟨b, o, none⟩), .int .i64 n] w fun e w' => e = .returned (.int .i64 (wrap64 (c + n))) ∧ w.setCell ⟨b, o, none⟩ (.int .i64 (wrap64 (c + n))) = w' := by
  have hadd := run_call_add (P := Try.prog) Try.func50 (by kernel_rfl) (by kernel_rfl) (by kernel_rfl) .i64 (by kernel_rfl) (y := n) (s := wrap64 (c + n)) hc hf (by simp [go_sem, wrap64, IntKind.wrap_i64])
  go_enter Try.func44, Try.ntmps44
  go_wp2
  go_ret
  exact ⟨rfl, rfl⟩

theorem aload (b o : Nat) (c : Int) (w : World) (hc : w.cell? ⟨b, o, none⟩ = some (.int .i64 c)) :
    Calls Try.prog 46 #[.pointer (some ⟨b, o, none⟩)] w fun e w' => e = .returned (.int .i64 c) ∧ w = w' := by
  have hl := run_call_load (P := Try.prog) Try.func51 (by kernel_rfl) (by kernel_rfl) (by kernel_rfl) .i64 (by kernel_rfl) hc
  go_enter Try.func46, Try.ntmps46
  go_wp2
  go_ret
  exact ⟨rfl, rfl⟩

theorem astore (b o : Nat) (c n : Int) (w : World) (hc : w.cell? ⟨b, o, none⟩ = some (.int .i64 c)) (hf : w.frozen? ⟨b, o, none⟩ = false) :
    Calls Try.prog 48 #[.pointer (some ⟨b, o, none⟩), .int .i64 n] w fun e w' => e = .returned (.tuple #[]) ∧ w.setCell ⟨b, o, none⟩ (.int .i64 n) = w' := by
  have hl := run_call_store (P := Try.prog) Try.func53 (by kernel_rfl) (by kernel_rfl) (by kernel_rfl) (by kernel_rfl) (k := .i64) (y := n) hc hf
  go_enter Try.func48, Try.ntmps48
  go_wp2
  go_end0
  exact ⟨rfl, rfl⟩

theorem acas_hit (b o : Nat) (c n : Int) (w : World) (hc : w.cell? ⟨b, o, none⟩ = some (.int .i64 c)) (hf : w.frozen? ⟨b, o, none⟩ = false) :
    Calls Try.prog 47 #[.pointer (some ⟨b, o, none⟩), .int .i64 c, .int .i64 n] w fun e w' => e = .returned (.bool true) ∧ w.setCell ⟨b, o, none⟩ (.int .i64 n) = w' := by
  have hl := run_call_cas_hit (P := Try.prog) Try.func52 (by kernel_rfl) (by kernel_rfl) (by kernel_rfl) .i64 (by kernel_rfl) (y := n) hc hf
  go_enter Try.func47, Try.ntmps47
  go_wp2
  go_ret
  exact ⟨rfl, rfl⟩

theorem acas_miss (b o : Nat) (c d n : Int) (w : World) (hc : w.cell? ⟨b, o, none⟩ = some (.int .i64 c)) (hf : w.frozen? ⟨b, o, none⟩ = false) (hne : ¬ c = d) :
    Calls Try.prog 47 #[.pointer (some ⟨b, o, none⟩), .int .i64 d, .int .i64 n] w fun e w' => e = .returned (.bool false) ∧ w = w' := by
  have hl := run_call_cas_miss (P := Try.prog) Try.func52 (by kernel_rfl) (by kernel_rfl) (by kernel_rfl) .i64 (by kernel_rfl) (y := n) (o := d) hc hf hne
  go_enter Try.func47, Try.ntmps47
  go_wp2
  go_ret
  exact ⟨rfl, rfl⟩
end MeterA
end Go.Proofs.Ytfibglpiohkcoaa
