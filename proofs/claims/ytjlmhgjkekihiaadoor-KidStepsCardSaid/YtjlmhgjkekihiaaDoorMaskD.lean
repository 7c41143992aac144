/- Contracts of package mask: what some bytes make; when two masks are one. -/
import Derived.Test.YtjlmhgjkekihiaaDoorMaskC
namespace Go.Proofs.YtjlmhgjkekihiaaDoor
open Go.RowKit
set_option linter.unusedVariables false
set_option linter.unusedSimpArgs false

namespace MaskA
open MaskP

/-- the set of some bytes -/
def ofF (xs : List Int) : Nat → Bool := xs.foldl (fun f b => setb f b.toNat true) (fun _ => false)
theorem ofF_snoc (xs : List Int) (b : Int) : ofF (xs ++ [b]) = setb (ofF xs) b.toNat true := by simp [ofF]

theorem with_any' (f : Nat → Bool) (i : Nat) (hi : i < 256) (w : World) :
    Calls Tryd.prog 23 #[.agg #[.int .u64 (word f 0 : Nat), .int .u64 (word f 1 : Nat), .int .u64 (word f 2 : Nat), .int .u64 (word f 3 : Nat)], .int .u8 i] w fun e w' => e = .returned (.agg #[.int .u64 (word (setb f i true) 0 : Nat), .int .u64 (word (setb f i true) 1 : Nat), .int .u64 (word (setb f i true) 2 : Nat), .int .u64 (word (setb f i true) 3 : Nat)]) ∧ Touch (fun _ => False) w w' :=
  with_any f i hi w

theorem word_none (j : Nat) : word (fun _ => false) j = 0 := by
  apply Nat.eq_of_testBit_eq
  intro i
  simp [word, testBit_wn]

theorem mat_set {w : World} {b : Nat} {f : Nat → Bool} (h : MAt w b f) (g : Nat → Bool) :
    MAt ((((w.setCell ⟨b, 0, none⟩ (.int .u64 (word g 0 : Nat))).setCell ⟨b, 1, none⟩ (.int .u64 (word g 1 : Nat))).setCell ⟨b, 2, none⟩ (.int .u64 (word g 2 : Nat))).setCell ⟨b, 3, none⟩ (.int .u64 (word g 3 : Nat))) b g := by
  obtain ⟨h0, h1, h2, h3⟩ := h
  have a0 := World.cell?_setCell_same w ⟨b, 0, none⟩ (.int .u64 (word g 0 : Nat)) h0
  have o : ∀ (W : World) (i j : Nat) (v : Value), i ≠ j → (W.setCell ⟨b, i, none⟩ v).cell? ⟨b, j, none⟩ = W.cell? ⟨b, j, none⟩ := fun W i j v hij => World.cell?_setCell_other _ _ _ _ (by simp [hij])
  refine ⟨?_, ?_, ?_, ?_⟩
  · rw [o _ _ _ _ (by omega), o _ _ _ _ (by omega), o _ _ _ _ (by omega)]; exact a0
  · rw [o _ _ _ _ (by omega), o _ _ _ _ (by omega)]; exact World.cell?_setCell_same _ _ _ (by rw [o _ _ _ _ (by omega)]; exact h1)
  · rw [o _ _ _ _ (by omega)]; exact World.cell?_setCell_same _ _ _ (by rw [o _ _ _ _ (by omega), o _ _ _ _ (by omega)]; exact h2)
  · exact World.cell?_setCell_same _ _ _ (by rw [o _ _ _ _ (by omega), o _ _ _ _ (by omega), o _ _ _ _ (by omega)]; exact h3)
theorem touch_set4 (w : World) (b : Nat) (v0 v1 v2 v3 : Value) : Touch (· = b) w ((((w.setCell ⟨b, 0, none⟩ v0).setCell ⟨b, 1, none⟩ v1).setCell ⟨b, 2, none⟩ v2).setCell ⟨b, 3, none⟩ v3) :=
  ((((Touch.refl (fun k => k = b) w).setCell (p := ⟨b, 0, none⟩) (Or.inl rfl) _).setCell (p := ⟨b, 1, none⟩) (Or.inl rfl) _).setCell (p := ⟨b, 2, none⟩) (Or.inl rfl) _).setCell (p := ⟨b, 3, none⟩) (Or.inl rfl) _
theorem mat_zero (w : World) (t : Nat) : MAt (w.alloc (.cells #[.int .u64 0, .int .u64 0, .int .u64 0, .int .u64 0] t)) w.heap.size (fun _ => false) := by
  have h := mat_new w (fun _ => false) t
  simp only [word_none] at h
  exact h

end MaskA
end Go.Proofs.YtjlmhgjkekihiaaDoor
