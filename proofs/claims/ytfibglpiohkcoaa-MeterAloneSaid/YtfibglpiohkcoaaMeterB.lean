/- Contracts of package meter: the methods. -/
import Derived.Test.YtfibglpiohkcoaaMeterA
namespace Go.Proofs.Ytfibglpiohkcoaa
open Go.RowKit
set_option linter.unusedVariables false
set_option linter.unusedSimpArgs false

namespace MeterA
/-- what a method leaves: the counters c', nothing else written -/
def Left (b : Nat) (c : Nat → Int) (w : World) (v : Value) (e : Ending) (w' : World) : Prop := e = .returned v ∧ Cnt w' b c ∧ Touch (· = b) w w'

section
variable (b : Nat) (c : Nat → Int) (w : World)

theorem add_nil (i n : Int) : Calls Try.prog 13 #[.pointer none, .int .i64 i, .int .i64 n] w fun e w' => e = .returned (.int .i64 0) ∧ w = w' := by
  go_enter Try.func13, Try.ntmps13
  go_wp2_with (go_at_call 43; refine (at_nil _ _).mono ?_; rintro e w' ⟨rfl, rfl⟩)
  go_ret
  exact ⟨rfl, rfl⟩

theorem add_out (i n : Int) (h : i < 0 ∨ 12 ≤ i) : Calls Try.prog 13 #[.pointer (some ⟨b, 0, none⟩), .int .i64 i, .int .i64 n] w fun e w' => e = .returned (.int .i64 0) ∧ w = w' := by
  have H := Lib.hid h
  clear h
  go_enter Try.func13, Try.ntmps13
  go_wp2_with (go_at_call 43; refine (at_out _ _ _ H.out).mono ?_; rintro e w' ⟨rfl, rfl⟩)
  go_ret
  exact ⟨rfl, rfl⟩

theorem add_in (i n : Int) (h0 : 0 ≤ i) (h1 : i < 12) (hm : Cnt w b c) :
    Calls Try.prog 13 #[.pointer (some ⟨b, 0, none⟩), .int .i64 i, .int .i64 n] w (Left b (upd c i.toNat (wrap64 (c i.toNat + n))) w (.int .i64 (wrap64 (c i.toNat + n)))) := by
  obtain ⟨hc, hf⟩ := hm i.toNat (by omega)
  have Hm := Lib.hid hm
  clear hm
  go_enter Try.func13, Try.ntmps13
  go_wp2_with (first
    | (go_at_call 43; refine (at_in _ _ _ h0 h1).mono ?_; rintro e w' ⟨rfl, rfl⟩)
    | (go_at_call 44; refine (aadd _ _ _ _ _ hc hf).mono ?_; rintro e w' ⟨rfl, rfl⟩))
  go_ret
  exact ⟨rfl, Hm.out.set (by omega) _, touch_set (b := b) rfl _⟩

theorem get_nil (i : Int) : Calls Try.prog 21 #[.pointer none, .int .i64 i] w fun e w' => e = .returned (.int .i64 0) ∧ w = w' := by
  go_enter Try.func21, Try.ntmps21
  go_wp2_with (go_at_call 43; refine (at_nil _ _).mono ?_; rintro e w' ⟨rfl, rfl⟩)
  go_ret
  exact ⟨rfl, rfl⟩

theorem get_out (i : Int) (h : i < 0 ∨ 12 ≤ i) : Calls Try.prog 21 #[.pointer (some ⟨b, 0, none⟩), .int .i64 i] w fun e w' => e = .returned (.int .i64 0) ∧ w = w' := by
  have H := Lib.hid h
  clear h
  go_enter Try.func21, Try.ntmps21
  go_wp2_with (go_at_call 43; refine (at_out _ _ _ H.out).mono ?_; rintro e w' ⟨rfl, rfl⟩)
  go_ret
  exact ⟨rfl, rfl⟩

theorem get_in (i : Int) (h0 : 0 ≤ i) (h1 : i < 12) (hm : Cnt w b c) :
    Calls Try.prog 21 #[.pointer (some ⟨b, 0, none⟩), .int .i64 i] w fun e w' => e = .returned (.int .i64 (c i.toNat)) ∧ w = w' := by
  obtain ⟨hc, hf⟩ := hm i.toNat (by omega)
  clear hm
  go_enter Try.func21, Try.ntmps21
  go_wp2_with (first
    | (go_at_call 43; refine (at_in _ _ _ h0 h1).mono ?_; rintro e w' ⟨rfl, rfl⟩)
    | (go_at_call 46; refine (aload _ _ _ _ hc).mono ?_; rintro e w' ⟨rfl, rfl⟩))
  go_ret
  exact ⟨rfl, rfl⟩

theorem most_nil (i n : Int) : Calls Try.prog 15 #[.pointer none, .int .i64 i, .int .i64 n] w fun e w' => e = .returned (.int .i64 0) ∧ w = w' := by
  go_enter Try.func15, Try.ntmps15
  go_wp2_with (go_at_call 43; refine (at_nil _ _).mono ?_; rintro e w' ⟨rfl, rfl⟩)
  go_ret
  exact ⟨rfl, rfl⟩

theorem most_out (i n : Int) (h : i < 0 ∨ 12 ≤ i) : Calls Try.prog 15 #[.pointer (some ⟨b, 0, none⟩), .int .i64 i, .int .i64 n] w fun e w' => e = .returned (.int .i64 0) ∧ w = w' := by
  have H := Lib.hid h
  clear h
  go_enter Try.func15, Try.ntmps15
  go_wp2_with (go_at_call 43; refine (at_out _ _ _ H.out).mono ?_; rintro e w' ⟨rfl, rfl⟩)
  go_ret
  exact ⟨rfl, rfl⟩

theorem most_in (i n : Int) (h0 : 0 ≤ i) (h1 : i < 12) (hm : Cnt w b c) :
    Calls Try.prog 15 #[.pointer (some ⟨b, 0, none⟩), .int .i64 i, .int .i64 n] w (Left b (upd c i.toNat (max (c i.toNat) n)) w (.int .i64 (max (c i.toNat) n))) := by
  obtain ⟨hc, hf⟩ := hm i.toNat (by omega)
  have Hm := Lib.hid hm
  clear hm
  by_cases hle : n ≤ c i.toNat
  · have e1 : Hid (max (c i.toNat) n = c i.toNat) := Lib.hid (by omega)
    go_enter Try.func15, Try.ntmps15
    go_wp2_with (first
      | (go_at_call 43; refine (at_in _ _ _ h0 h1).mono ?_; rintro e w' ⟨rfl, rfl⟩))
    refine wp_loop_once ?_
    go_wp2_with (first
      | (go_at_call 46; refine (aload _ _ _ _ hc).mono ?_; rintro e w' ⟨rfl, rfl⟩))
    go_ret
    rw [e1.out]
    refine ⟨rfl, ?_, Touch.refl _ _⟩
    have : upd c i.toNat (c i.toNat) = c := by funext j; simp only [upd]; split <;> simp_all
    rw [this]; exact Hm.out
  · have e1 : Hid (max (c i.toNat) n = n) := Lib.hid (by omega)
    go_enter Try.func15, Try.ntmps15
    go_wp2_with (first
      | (go_at_call 43; refine (at_in _ _ _ h0 h1).mono ?_; rintro e w' ⟨rfl, rfl⟩))
    refine wp_loop_once ?_
    go_wp2_with (first
      | (go_at_call 46; refine (aload _ _ _ _ hc).mono ?_; rintro e w' ⟨rfl, rfl⟩)
      | (go_at_call 47; refine (acas_hit _ _ _ _ _ hc hf).mono ?_; rintro e w' ⟨rfl, rfl⟩))
    go_ret
    rw [e1.out]
    exact ⟨rfl, Hm.out.set (by omega) _, touch_set (b := b) rfl _⟩

theorem swap_nil (i o n : Int) : Calls Try.prog 17 #[.pointer none, .int .i64 i, .int .i64 o, .int .i64 n] w fun e w' => e = .returned (.bool false) ∧ w = w' := by
  go_enter Try.func17, Try.ntmps17
  go_wp2_with (go_at_call 43; refine (at_nil _ _).mono ?_; rintro e w' ⟨rfl, rfl⟩)
  go_ret
  exact ⟨rfl, rfl⟩

theorem swap_out (i o n : Int) (h : i < 0 ∨ 12 ≤ i) : Calls Try.prog 17 #[.pointer (some ⟨b, 0, none⟩), .int .i64 i, .int .i64 o, .int .i64 n] w fun e w' => e = .returned (.bool false) ∧ w = w' := by
  have H := Lib.hid h
  clear h
  go_enter Try.func17, Try.ntmps17
  go_wp2_with (go_at_call 43; refine (at_out _ _ _ H.out).mono ?_; rintro e w' ⟨rfl, rfl⟩)
  go_ret
  exact ⟨rfl, rfl⟩

theorem swap_hit (i n : Int) (h0 : 0 ≤ i) (h1 : i < 12) (hm : Cnt w b c) :
    Calls Try.prog 17 #[.pointer (some ⟨b, 0, none⟩), .int .i64 i, .int .i64 (c i.toNat), .int .i64 n] w (Left b (upd c i.toNat n) w (.bool true)) := by
  obtain ⟨hc, hf⟩ := hm i.toNat (by omega)
  have Hm := Lib.hid hm
  clear hm
  go_enter Try.func17, Try.ntmps17
  go_wp2_with (first
    | (go_at_call 43; refine (at_in _ _ _ h0 h1).mono ?_; rintro e w' ⟨rfl, rfl⟩)
    | (go_at_call 47; refine (acas_hit _ _ _ _ _ hc hf).mono ?_; rintro e w' ⟨rfl, rfl⟩))
  go_ret
  exact ⟨rfl, Hm.out.set (by omega) _, touch_set (b := b) rfl _⟩

theorem swap_miss (i o n : Int) (h0 : 0 ≤ i) (h1 : i < 12) (hm : Cnt w b c) (hne : ¬ c i.toNat = o) :
    Calls Try.prog 17 #[.pointer (some ⟨b, 0, none⟩), .int .i64 i, .int .i64 o, .int .i64 n] w fun e w' => e = .returned (.bool false) ∧ w = w' := by
  obtain ⟨hc, hf⟩ := hm i.toNat (by omega)
  clear hm
  go_enter Try.func17, Try.ntmps17
  go_wp2_with (first
    | (go_at_call 43; refine (at_in _ _ _ h0 h1).mono ?_; rintro e w' ⟨rfl, rfl⟩)
    | (go_at_call 47; refine (acas_miss _ _ _ _ _ _ hc hf hne).mono ?_; rintro e w' ⟨rfl, rfl⟩))
  go_ret
  exact ⟨rfl, rfl⟩

theorem new_met : Calls Try.prog 11 #[] w fun e w' => e = .returned (.pointer (some ⟨w.heap.size, 0, none⟩)) ∧ Cnt w' w.heap.size (fun _ => 0) ∧ Touch (fun _ => False) w w' := by
  go_enter Try.func11, Try.ntmps11
  go_wp2
  go_ret
  refine ⟨rfl, ?_, (Touch.refl _ _).alloc _⟩
  intro i hi
  refine ⟨?_, World.frozen?_alloc_new _ _ _ _⟩
  rw [World.cell?_alloc_new]
  match i, hi with
  | 0, _ | 1, _ | 2, _ | 3, _ | 4, _ | 5, _ | 6, _ | 7, _ | 8, _ | 9, _ | 10, _ | 11, _ => rfl
  | n + 12, h => omega
end
end MeterA
end Go.Proofs.Ytfibglpiohkcoaa
