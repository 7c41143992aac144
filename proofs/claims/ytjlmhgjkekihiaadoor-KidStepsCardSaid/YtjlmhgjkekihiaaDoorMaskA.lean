/- Contracts of package mask: one byte. -/
import Derived.Test.YtjlmhgjkekihiaaDoorMaskP
namespace Go.Proofs.YtjlmhgjkekihiaaDoor
open Go.RowKit
set_option linter.unusedVariables false
set_option linter.unusedSimpArgs false

namespace MaskA
open MaskP
theorem four (i : Nat) (h : i < 256) : i / 64 = 0 ∨ i / 64 = 1 ∨ i / 64 = 2 ∨ i / 64 = 3 := by omega

theorem with_any (f : Nat → Bool) (i : Nat) (hi : i < 256) (w : World) :
    Calls Tryd.prog 23 #[MV f, .int .u8 i] w fun e w' => e = .returned (MV (setb f i true)) ∧ Touch (fun _ => False) w w' := by
  have E := or_bit f i
  rcases four i hi with h | h | h | h
  · have h1 : (i : Int) / 64 = 0 := by omega
    have hv : Hid (MV (setb f i true) = .agg #[.int .u64 (bits .or .u64 (word f 0 : Nat) (IntKind.u64.wrap (2 ^ (i % 64)))), .int .u64 (word f 1 : Nat), .int .u64 (word f 2 : Nat), .int .u64 (word f 3 : Nat)]) := Lib.hid (by rw [h] at E; unfold MV; rw [word_other f i 1 true (by omega), word_other f i 2 true (by omega), word_other f i 3 true (by omega), E])
    clear E
    unfold MV
    change Calls _ _ _ _ fun e w' => e = .returned (MV (setb f i true)) ∧ _
    go_enter Tryd.func23, Tryd.ntmps23
    go_wp2
    refine bodyPost_ret (v := MV (setb f i true)) ?_ rfl ⟨rfl, ((Touch.refl _ _).alloc _).alloc _⟩
    rw [hv.out]
    simp [results, Tryd.results23, go_sem]
  · have h1 : (i : Int) / 64 = 1 := by omega
    have hv : Hid (MV (setb f i true) = .agg #[.int .u64 (word f 0 : Nat), .int .u64 (bits .or .u64 (word f 1 : Nat) (IntKind.u64.wrap (2 ^ (i % 64)))), .int .u64 (word f 2 : Nat), .int .u64 (word f 3 : Nat)]) := Lib.hid (by rw [h] at E; unfold MV; rw [word_other f i 0 true (by omega), word_other f i 2 true (by omega), word_other f i 3 true (by omega), E])
    clear E
    unfold MV
    change Calls _ _ _ _ fun e w' => e = .returned (MV (setb f i true)) ∧ _
    go_enter Tryd.func23, Tryd.ntmps23
    go_wp2
    refine bodyPost_ret (v := MV (setb f i true)) ?_ rfl ⟨rfl, ((Touch.refl _ _).alloc _).alloc _⟩
    rw [hv.out]
    simp [results, Tryd.results23, go_sem]
  · have h1 : (i : Int) / 64 = 2 := by omega
    have hv : Hid (MV (setb f i true) = .agg #[.int .u64 (word f 0 : Nat), .int .u64 (word f 1 : Nat), .int .u64 (bits .or .u64 (word f 2 : Nat) (IntKind.u64.wrap (2 ^ (i % 64)))), .int .u64 (word f 3 : Nat)]) := Lib.hid (by rw [h] at E; unfold MV; rw [word_other f i 0 true (by omega), word_other f i 1 true (by omega), word_other f i 3 true (by omega), E])
    clear E
    unfold MV
    change Calls _ _ _ _ fun e w' => e = .returned (MV (setb f i true)) ∧ _
    go_enter Tryd.func23, Tryd.ntmps23
    go_wp2
    refine bodyPost_ret (v := MV (setb f i true)) ?_ rfl ⟨rfl, ((Touch.refl _ _).alloc _).alloc _⟩
    rw [hv.out]
    simp [results, Tryd.results23, go_sem]
  · have h1 : (i : Int) / 64 = 3 := by omega
    have hv : Hid (MV (setb f i true) = .agg #[.int .u64 (word f 0 : Nat), .int .u64 (word f 1 : Nat), .int .u64 (word f 2 : Nat), .int .u64 (bits .or .u64 (word f 3 : Nat) (IntKind.u64.wrap (2 ^ (i % 64))))]) := Lib.hid (by rw [h] at E; unfold MV; rw [word_other f i 0 true (by omega), word_other f i 1 true (by omega), word_other f i 2 true (by omega), E])
    clear E
    unfold MV
    change Calls _ _ _ _ fun e w' => e = .returned (MV (setb f i true)) ∧ _
    go_enter Tryd.func23, Tryd.ntmps23
    go_wp2
    refine bodyPost_ret (v := MV (setb f i true)) ?_ rfl ⟨rfl, ((Touch.refl _ _).alloc _).alloc _⟩
    rw [hv.out]
    simp [results, Tryd.results23, go_sem]

theorem without_any (f : Nat → Bool) (i : Nat) (hi : i < 256) (w : World) :
    Calls Tryd.prog 26 #[MV f, .int .u8 i] w fun e w' => e = .returned (MV (setb f i false)) ∧ Touch (fun _ => False) w w' := by
  have E := andNot_bit f i
  rcases four i hi with h | h | h | h
  · have h1 : (i : Int) / 64 = 0 := by omega
    have hv : Hid (MV (setb f i false) = .agg #[.int .u64 (bits .andNot .u64 (word f 0 : Nat) (IntKind.u64.wrap (2 ^ (i % 64)))), .int .u64 (word f 1 : Nat), .int .u64 (word f 2 : Nat), .int .u64 (word f 3 : Nat)]) := Lib.hid (by rw [h] at E; unfold MV; rw [word_other f i 1 false (by omega), word_other f i 2 false (by omega), word_other f i 3 false (by omega), E])
    clear E
    unfold MV
    change Calls _ _ _ _ fun e w' => e = .returned (MV (setb f i false)) ∧ _
    go_enter Tryd.func26, Tryd.ntmps26
    go_wp2
    refine bodyPost_ret (v := MV (setb f i false)) ?_ rfl ⟨rfl, ((Touch.refl _ _).alloc _).alloc _⟩
    rw [hv.out]
    simp [results, Tryd.results26, go_sem]
  · have h1 : (i : Int) / 64 = 1 := by omega
    have hv : Hid (MV (setb f i false) = .agg #[.int .u64 (word f 0 : Nat), .int .u64 (bits .andNot .u64 (word f 1 : Nat) (IntKind.u64.wrap (2 ^ (i % 64)))), .int .u64 (word f 2 : Nat), .int .u64 (word f 3 : Nat)]) := Lib.hid (by rw [h] at E; unfold MV; rw [word_other f i 0 false (by omega), word_other f i 2 false (by omega), word_other f i 3 false (by omega), E])
    clear E
    unfold MV
    change Calls _ _ _ _ fun e w' => e = .returned (MV (setb f i false)) ∧ _
    go_enter Tryd.func26, Tryd.ntmps26
    go_wp2
    refine bodyPost_ret (v := MV (setb f i false)) ?_ rfl ⟨rfl, ((Touch.refl _ _).alloc _).alloc _⟩
    rw [hv.out]
    simp [results, Tryd.results26, go_sem]
  · have h1 : (i : Int) / 64 = 2 := by omega
    have hv : Hid (MV (setb f i false) = .agg #[.int .u64 (word f 0 : Nat), .int .u64 (word f 1 : Nat), .int .u64 (bits .andNot .u64 (word f 2 : Nat) (IntKind.u64.wrap (2 ^ (i % 64)))), .int .u64 (word f 3 : Nat)]) := Lib.hid (by rw [h] at E; unfold MV; rw [word_other f i 0 false (by omega), word_other f i 1 false (by omega), word_other f i 3 false (by omega), E])
    clear E
    unfold MV
    change Calls _ _ _ _ fun e w' => e = .returned (MV (setb f i false)) ∧ _
    go_enter Tryd.func26, Tryd.ntmps26
    go_wp2
    refine bodyPost_ret (v := MV (setb f i false)) ?_ rfl ⟨rfl, ((Touch.refl _ _).alloc _).alloc _⟩
    rw [hv.out]
    simp [results, Tryd.results26, go_sem]
  · have h1 : (i : Int) / 64 = 3 := by omega
    have hv : Hid (MV (setb f i false) = .agg #[.int .u64 (word f 0 : Nat), .int .u64 (word f 1 : Nat), .int .u64 (word f 2 : Nat), .int .u64 (bits .andNot .u64 (word f 3 : Nat) (IntKind.u64.wrap (2 ^ (i % 64))))]) := Lib.hid (by rw [h] at E; unfold MV; rw [word_other f i 0 false (by omega), word_other f i 1 false (by omega), word_other f i 2 false (by omega), E])
    clear E
    unfold MV
    change Calls _ _ _ _ fun e w' => e = .returned (MV (setb f i false)) ∧ _
    go_enter Tryd.func26, Tryd.ntmps26
    go_wp2
    refine bodyPost_ret (v := MV (setb f i false)) ?_ rfl ⟨rfl, ((Touch.refl _ _).alloc _).alloc _⟩
    rw [hv.out]
    simp [results, Tryd.results26, go_sem]

theorem has_any (f : Nat → Bool) (i : Nat) (hi : i < 256) (w : World) :
    Calls Tryd.prog 25 #[MV f, .int .u8 i] w fun e w' => e = .returned (.bool (f i)) ∧ Touch (fun _ => False) w w' := by
  have E := has_bit f i
  rcases four i hi with h | h | h | h
  · have h1 : (i : Int) / 64 = 0 := by omega
    have hv : Hid ((bits .and .u64 ((word f 0 : Nat) / 2 ^ (i % 64)) 1 == 1) = f i) := Lib.hid (by rw [h] at E; exact E)
    clear E
    unfold MV
    go_enter Tryd.func25, Tryd.ntmps25
    go_wp2
    go_ret
    exact ⟨by rw [← hv.out]; rfl, (Touch.refl _ _).alloc _⟩
  · have h1 : (i : Int) / 64 = 1 := by omega
    have hv : Hid ((bits .and .u64 ((word f 1 : Nat) / 2 ^ (i % 64)) 1 == 1) = f i) := Lib.hid (by rw [h] at E; exact E)
    clear E
    unfold MV
    go_enter Tryd.func25, Tryd.ntmps25
    go_wp2
    go_ret
    exact ⟨by rw [← hv.out]; rfl, (Touch.refl _ _).alloc _⟩
  · have h1 : (i : Int) / 64 = 2 := by omega
    have hv : Hid ((bits .and .u64 ((word f 2 : Nat) / 2 ^ (i % 64)) 1 == 1) = f i) := Lib.hid (by rw [h] at E; exact E)
    clear E
    unfold MV
    go_enter Tryd.func25, Tryd.ntmps25
    go_wp2
    go_ret
    exact ⟨by rw [← hv.out]; rfl, (Touch.refl _ _).alloc _⟩
  · have h1 : (i : Int) / 64 = 3 := by omega
    have hv : Hid ((bits .and .u64 ((word f 3 : Nat) / 2 ^ (i % 64)) 1 == 1) = f i) := Lib.hid (by rw [h] at E; exact E)
    clear E
    unfold MV
    go_enter Tryd.func25, Tryd.ntmps25
    go_wp2
    go_ret
    exact ⟨by rw [← hv.out]; rfl, (Touch.refl _ _).alloc _⟩
end MaskA
end Go.Proofs.YtjlmhgjkekihiaaDoor
