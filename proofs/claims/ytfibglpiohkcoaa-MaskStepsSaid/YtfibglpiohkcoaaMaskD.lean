/- Contracts of package mask: what some bytes make; when two masks are one. -/
import Derived.Test.YtfibglpiohkcoaaMaskC
namespace Go.Proofs.Ytfibglpiohkcoaa
open Go.RowKit
set_option linter.unusedVariables false
set_option linter.unusedSimpArgs false

namespace MaskA
open MaskP

/-- the set of some bytes -/
def ofF (xs : List Int) : Nat → Bool := xs.foldl (fun f b => setb f b.toNat true) (fun _ => false)
theorem ofF_snoc (xs : List Int) (b : Int) : ofF (xs ++ [b]) = setb (ofF xs) b.toNat true := by simp [ofF]

theorem with_any' (f : Nat → Bool) (i : Nat) (hi : i < 256) (w : World) :
    Calls Try.prog 28 #[.agg #[.int .u64 (word f 0 : Nat), .int .u64 (word f 1 : Nat), .int .u64 (word f 2 : Nat), .int .u64 (word f 3 : Nat)], .int .u8 i] w fun e w' => e = .returned (.agg #[.int .u64 (word (setb f i true) 0 : Nat), .int .u64 (word (setb f i true) 1 : Nat), .int .u64 (word (setb f i true) 2 : Nat), .int .u64 (word (setb f i true) 3 : Nat)]) ∧ Touch (fun _ => False) w w' :=
  with_any f i hi w

theorem word_none (j : Nat) : word (fun _ => false) j = 0 := by
  apply Nat.eq_of_testBit_eq
  intro i
  simp [word, testBit_wn]

theorem mat_set {w : World} {b : Nat} {f : Nat → Bool} (h : MAt w b f) (g : Nat → Bool) :
    MAt ((((w.setCell ⟨b, 0, none⟩ (.int .u64 (word g 0 : Nat))).setCell ⟨b, 1, none⟩ (.int .u64 (word g 1 : Nat))).setCell ⟨b, 2, none⟩ (.int .u64 (word g 2 : Nat))).setCell ⟨b, 3, none⟩ (.int .u64 (word g 3 : Nat))) b g := by
  obtain ⟨h0, h1, h2, h3⟩ := h
  have a0 := World.cell?_setCell_same w ⟨b, 0, none⟩ (.int .u64 (word g 0 : Nat)) h0
  have o : ∀ (W : World) (i j : Nat) (v : Value), i ≠ j → (W.setCell ⟨b, i, none⟩ v).cell? ⟨b, j, none⟩ = W.cell? ⟨b, j, none⟩ := fun W i j v hij => World.cell?_setCell_other _ _ _ _ (by simp [hij])
  refine ⟨?_, ?_, ?_, ?_⟩
  · rw [o _ _ _ _ (by omega), o _ _ _ _ (by omega), o _ _ _ _ (by omega)]; exact a0
  · rw [o _ _ _ _ (by omega), o _ _ _ _ (by omega)]; exact World.cell?_setCell_same _ _ _ (by rw [o _ _ _ _ (by omega)]; exact h1)
  · rw [o _ _ _ _ (by omega)]; exact World.cell?_setCell_same _ _ _ (by rw [o _ _ _ _ (by omega), o _ _ _ _ (by omega)]; exact h2)
  · exact World.cell?_setCell_same _ _ _ (by rw [o _ _ _ _ (by omega), o _ _ _ _ (by omega), o _ _ _ _ (by omega)]; exact h3)
theorem touch_set4 (w : World) (b : Nat) (v0 v1 v2 v3 : Value) : Touch (· = b) w ((((w.setCell ⟨b, 0, none⟩ v0).setCell ⟨b, 1, none⟩ v1).setCell ⟨b, 2, none⟩ v2).setCell ⟨b, 3, none⟩ v3) :=
  ((((Touch.refl (fun k => k = b) w).setCell (p := ⟨b, 0, none⟩) (Or.inl rfl) _).setCell (p := ⟨b, 1, none⟩) (Or.inl rfl) _).setCell (p := ⟨b, 2, none⟩) (Or.inl rfl) _).setCell (p := ⟨b, 3, none⟩) (Or.inl rfl) _
theorem mat_zero (w : World) (t : Nat) : MAt (w.alloc (.cells #[.int .u64 0, .int .u64 0, .int .u64 0, .int .u64 0] t)) w.heap.size (fun _ => false) := by
  have h := mat_new w (fun _ => false) t
  simp only [word_none] at h
  exact h

set_option maxRecDepth 100000 in
set_option maxHeartbeats 400000 in
theorem of_any (v : Value) (xs : List Int) (w : World) (hv : Reads w v (ivs .u8 xs)) (hx : ∀ x ∈ xs, 0 ≤ x ∧ x < 256) :
    Calls Try.prog 42 #[v] w fun e w' => e = .returned (MV (ofF xs)) ∧ Touch (fun _ => False) w w' := by
  obtain ⟨a, cap, rfl, hl, hm⟩ := hv.shape
  simp only [ivs_length] at hv hl ⊢
  unfold maxLen at hm
  have HX := Lib.hid hx
  clear hx
  go_enter Try.func42, Try.ntmps42
  go_wp2_with (fail)
  go_loopw [9] (fun s9 wr => ∃ k : Nat, k ≤ xs.length ∧ s9 = .int .i64 k ∧ MAt wr (w.heap.size + 1) (ofF (xs.take k)) ∧ (∀ i, i < 4 → wr.frozen? ⟨w.heap.size + 1, i, none⟩ = false) ∧ MAt wr w.heap.size (fun _ => false) ∧ (∀ i, i < 4 → wr.frozen? ⟨w.heap.size, i, none⟩ = false) ∧ Touch (fun _ => False) w wr) (fun s9 _ => xs.length - (intOf s9).toNat)
  case atStart =>
    have h1 := mat_zero (w.alloc (.cells #[.int .u64 0, .int .u64 0, .int .u64 0, .int .u64 0] 46)) 46
    rw [World.size_alloc] at h1
    refine ⟨0, by omega, rfl, h1, fun i _ => ?_, (mat_zero w _).keep (S := fun _ => False) ((Touch.refl _ _).alloc _) id, fun i _ => ?_, ((Touch.refl _ _).alloc _).alloc _⟩
    · have := World.frozen?_alloc_new (w.alloc (.cells #[.int .u64 0, .int .u64 0, .int .u64 0, .int .u64 0] 46)) #[.int .u64 0, .int .u64 0, .int .u64 0, .int .u64 0] 46 i
      rw [World.size_alloc] at this
      exact this
    · rw [World.frozen?_alloc_old _ _ _ (by simp)]
      exact World.frozen?_alloc_new _ _ _ _
  case round =>
    obtain ⟨k, hk, rfl, hmat, hfz, hres, hrfz, ht⟩ := hrel
    have hsz := ht.size
    by_cases hlt : k < xs.length
    · obtain ⟨b0, o0, rfl⟩ := hv.addr (by simpa using (by omega : 0 < xs.length))
      obtain ⟨x, hxk, y⟩ := reads_cell (hv.keep ht (fun _ _ h => h)) k hlt
      have hb := HX.out x (List.mem_of_getElem? hxk)
      obtain ⟨x, rfl⟩ : ∃ m : Nat, x = (m : Int) := ⟨x.toNat, by omega⟩
      have hx256 : x < 256 := by omega
      have HXK := Lib.hid hxk
      clear hxk hb
      obtain ⟨y0, y1, y2, y3⟩ := hmat
      have f0 := hfz 0 (by omega)
      have f1 := hfz 1 (by omega)
      have f2 := hfz 2 (by omega)
      have f3 := hfz 3 (by omega)
      have hbx := World.block_lt_of_cell? _ _ y0
      simp only at hbx
      have Hres := Lib.hid hres
      clear hres hfz
      go_wp2_with (fail)
      refine (with_any' _ x hx256 _).mono ?_
      rintro e w2 ⟨rfl, ht2⟩
      have z0 := keepc ht2 id y0
      have z1 := keepc ht2 id y1
      have z2 := keepc ht2 id y2
      have z3 := keepc ht2 id y3
      have g0 := keepf ht2 hbx id f0
      have g1 := keepf ht2 hbx id f1
      have g2 := keepf ht2 hbx id f2
      have g3 := keepf ht2 hbx id f3
      clear y0 y1 y2 y3 f0 f1 f2 f3
      go_wp2_with (fail)
      go_roundw
      case rel =>
        have e : ofF (xs.take (k + 1)) = setb (ofF (xs.take k)) x true := by
          rw [List.take_add_one, HXK.out]; exact ofF_snoc _ _
        refine ⟨k + 1, by omega, by go_num, by rw [e]; exact mat_set ⟨z0, z1, z2, z3⟩ _, ?_, (Hres.out.keep ht2 id).keep (touch_set4 w2 (w.heap.size + 1) _ _ _ _) (by omega), ?_, (ht.trans ht2 (fun _ h _ => h)).trans (touch_set4 w2 (w.heap.size + 1) _ _ _ _) (fun j hj hlt => by omega)⟩
        · intro i hi
          simp only [World.frozen?_setCell]
          match i, hi with
          | 0, _ => exact g0
          | 1, _ => exact g1
          | 2, _ => exact g2
          | 3, _ => exact g3
        · intro i hi
          simp only [World.frozen?_setCell]
          exact keepf ht2 (by simp; omega) id (hrfz i hi)
      case measure => simp [intOf]; omega
    · obtain rfl : k = xs.length := by omega
      rw [List.take_length] at hmat
      obtain ⟨y0, y1, y2, y3⟩ := hmat
      obtain ⟨r0, r1, r2, r3⟩ := hres
      have f0 := hrfz 0 (by omega)
      have f1 := hrfz 1 (by omega)
      have f2 := hrfz 2 (by omega)
      have f3 := hrfz 3 (by omega)
      have R := mat_set ⟨r0, r1, r2, r3⟩ (ofF xs)
      obtain ⟨R0, R1, R2, R3⟩ := R
      have H0 := Lib.hid R0
      have H1 := Lib.hid R1
      have H2 := Lib.hid R2
      have H3 := Lib.hid R3
      clear hfz hrfz R0 R1 R2 R3
      go_wp2_with (fail)
      refine bodyPost_ret (v := MV (ofF xs)) ?_ rfl ⟨rfl, ht.trans (touch_set4 wr w.heap.size _ _ _ _) (fun j hj hlt => by omega)⟩
      have h0 := H0.out
      have h1 := H1.out
      have h2 := H2.out
      have h3 := H3.out
      clear r0 r1 r2 r3 y0 y1 y2 y3
      simp [results, Try.results42, go_sem, MV, h0, h1, h2, h3]
end MaskA
end Go.Proofs.Ytfibglpiohkcoaa
