/- Contracts of package mask: the walks over all bytes. -/
import Derived.Test.YtjlmhgjkekihiaaDoorMaskA
namespace Go.Proofs.YtjlmhgjkekihiaaDoor
open Go.RowKit
set_option linter.unusedVariables false
set_option linter.unusedSimpArgs false

namespace MaskA
open MaskP
/-- block b holds the words of a mask -/
def MAt (w : World) (b : Nat) (f : Nat → Bool) : Prop := w.cell? ⟨b, 0, none⟩ = some (.int .u64 (word f 0 : Nat)) ∧ w.cell? ⟨b, 1, none⟩ = some (.int .u64 (word f 1 : Nat)) ∧
  w.cell? ⟨b, 2, none⟩ = some (.int .u64 (word f 2 : Nat)) ∧ w.cell? ⟨b, 3, none⟩ = some (.int .u64 (word f 3 : Nat))
abbrev MC (f : Nat → Bool) : Array Value := #[.int .u64 (word f 0 : Nat), .int .u64 (word f 1 : Nat), .int .u64 (word f 2 : Nat), .int .u64 (word f 3 : Nat)]
theorem mat_new (w : World) (f : Nat → Bool) (t : Nat) : MAt (w.alloc (.cells #[.int .u64 (word f 0 : Nat), .int .u64 (word f 1 : Nat), .int .u64 (word f 2 : Nat), .int .u64 (word f 3 : Nat)] t)) w.heap.size f :=
  ⟨World.cell?_alloc_new _ _ _ _, World.cell?_alloc_new _ _ _ _, World.cell?_alloc_new _ _ _ _, World.cell?_alloc_new _ _ _ _⟩
theorem MAt.keep {S : Nat → Prop} {w w' : World} {b : Nat} {f : Nat → Bool} (h : MAt w b f) (ht : Touch S w w') (hn : ¬ S b) : MAt w' b f :=
  ⟨keepc ht hn h.1, keepc ht hn h.2.1, keepc ht hn h.2.2.1, keepc ht hn h.2.2.2⟩
theorem has_any' (f : Nat → Bool) (i : Nat) (hi : i < 256) (w : World) :
    Calls Tryd.prog 25 #[.agg #[.int .u64 (word f 0 : Nat), .int .u64 (word f 1 : Nat), .int .u64 (word f 2 : Nat), .int .u64 (word f 3 : Nat)], .int .u8 i] w fun e w' => e = .returned (.bool (f i)) ∧ Touch (fun _ => False) w w' :=
  has_any f i hi w

theorem next_walk (f : Nat → Bool) (b : Int) (m : Nat) (w : World) (hm : startN b = m) (hb : (b < 0 ∧ m = 0) ∨ b = m) (hV : V64 b) :
    Calls Tryd.prog 29 #[MV f, .int .i64 b] w fun e w' => e = .returned (.int .i64 (nextF f b)) ∧ Touch (fun _ => False) w w' := by
  have hN : Hid (nextF f b = scan f (256 - m) m) := Lib.hid (by unfold nextF; rw [hm])
  unfold MV
  clear hm
  unfold V64 at hV
  rcases hb with ⟨hb, rfl⟩ | rfl
  all_goals
    go_enter Tryd.func29, Tryd.ntmps29
    go_wp2_with (fail)
    go_loopw [5] (fun s5 wr => ∃ k : Nat, k < 9223372036854775808 ∧ s5 = .int .i64 k ∧ Hid (nextF f _ = scan f (256 - k) k) ∧ MAt wr w.heap.size f ∧ Touch (fun _ => False) w wr) (fun s5 _ => 256 - (intOf s5).toNat)
    case atStart => first | exact ⟨0, by decide, rfl, hN, mat_new _ _ _, (Touch.refl _ _).alloc _⟩ | exact ⟨m, by omega, rfl, hN, mat_new _ _ _, (Touch.refl _ _).alloc _⟩
    case round =>
      clear hN
      obtain ⟨k, hk, rfl, hN, hmat, ht⟩ := hrel
      by_cases hlt : k ≤ 255
      · obtain ⟨y0, y1, y2, y3⟩ := hmat
        go_wp2_with (fail)
        refine (has_any' f k (by omega) _).mono ?_
        rintro e w2 ⟨rfl, ht2⟩
        have hs := scan_step f (i := k) (by omega)
        have Hs := Lib.hid hs
        have Y := Lib.hid (show MAt wr w.heap.size f from ⟨y0, y1, y2, y3⟩)
        clear hs y0 y1 y2 y3
        cases hf : f k with
        | true =>
          have HF := Lib.hid hf
          go_wp2_with (fail)
          go_ret
          refine ⟨?_, ht.trans ht2 (fun _ h _ => h)⟩
          rw [hN.out, Hs.out, HF.out]; rfl
        | false =>
          have HF := Lib.hid hf
          go_wp2_with (fail)
          go_roundw
          case rel => exact ⟨k + 1, by omega, by go_num, Lib.hid (by rw [hN.out, Hs.out, HF.out]; rfl), Y.out.keep ht2 id, ht.trans ht2 (fun _ h _ => h)⟩
          case measure => simp [intOf]; omega
      · have hz : Hid (256 - k = 0) := Lib.hid (by omega)
        go_wp2_with (fail)
        go_ret
        refine ⟨?_, ht⟩
        rw [hN.out, hz.out]; rfl
theorem next_any (f : Nat → Bool) (b : Int) (w : World) (hV : V64 b) :
    Calls Tryd.prog 29 #[MV f, .int .i64 b] w fun e w' => e = .returned (.int .i64 (nextF f b)) ∧ Touch (fun _ => False) w w' := by
  refine next_walk f b (startN b) w rfl ?_ hV
  unfold startN
  by_cases h : b < 0
  · exact Or.inl ⟨h, by omega⟩
  · exact Or.inr (by omega)

theorem next_any' (f : Nat → Bool) (b : Int) (w : World) (hV : V64 b) :
    Calls Tryd.prog 29 #[.agg #[.int .u64 (word f 0 : Nat), .int .u64 (word f 1 : Nat), .int .u64 (word f 2 : Nat), .int .u64 (word f 3 : Nat)], .int .i64 b] w fun e w' => e = .returned (.int .i64 (nextF f b)) ∧ Touch (fun _ => False) w w' :=
  next_any f b w hV

theorem prev_any (f : Nat → Bool) (b : Int) (w : World) (hV : V64 b) :
    Calls Tryd.prog 30 #[MV f, .int .i64 b] w fun e w' => e = .returned (.int .i64 (prevF f b)) ∧ Touch (fun _ => False) w w' := by
  obtain ⟨m, hm⟩ : ∃ m, (min b 255 + 1).toNat = m := ⟨_, rfl⟩
  have hN : Hid (prevF f b = scanD f m) := Lib.hid (by unfold prevF; rw [hm])
  unfold MV
  unfold V64 at hV
  have hm' : m ≤ 256 ∧ ((b < 0 ∧ m = 0) ∨ (0 ≤ b ∧ b ≤ 255 ∧ (m : Int) = b + 1) ∨ (255 < b ∧ m = 256)) := by omega
  clear hm
  obtain ⟨hml, hb | hb | hb⟩ := hm'
  · obtain ⟨hb, rfl⟩ := hb
    go_enter Tryd.func30, Tryd.ntmps30
    go_wp2_with (fail)
    refine wp_loop_once ?_
    go_wp2_with (fail)
    go_ret
    exact ⟨by rw [hN.out]; rfl, (Touch.refl _ _).alloc _⟩
  all_goals
    obtain ⟨n, rfl⟩ : ∃ n, m = n + 1 := ⟨m - 1, by omega⟩
    have hb0 := hb.1
    replace hb := hb.2
    first
      | (have hb1 := hb.1
         have hb2 := hb.2
         obtain rfl : b = (n : Int) := by omega)
      | (have hn1 : n ≤ 255 := by omega
         have hn2 : 255 ≤ n := by omega)
    go_enter Tryd.func30, Tryd.ntmps30
    go_wp2_with (fail)
    go_loopw [5] (fun s5 wr => ∃ k : Nat, k ≤ 256 ∧ s5 = .int .i64 ((k : Int) - 1) ∧ Hid (prevF f _ = scanD f k) ∧ MAt wr w.heap.size f ∧ Touch (fun _ => False) w wr) (fun s5 _ => (intOf s5 + 1).toNat)
    case atStart => exact ⟨n + 1, by omega, by (congr 1; omega), hN, mat_new _ _ _, (Touch.refl _ _).alloc _⟩
    case round =>
      clear hN
      obtain ⟨k, hk, rfl, hN, hmat, ht⟩ := hrel
      by_cases hlt : 0 < k
      · obtain ⟨j, rfl⟩ : ∃ j, k = j + 1 := ⟨k - 1, by omega⟩
        obtain ⟨y0, y1, y2, y3⟩ := hmat
        have e1 : ((j + 1 : Nat) : Int) - 1 = (j : Int) := by omega
        rw [e1]
        clear e1
        go_wp2_with (fail)
        refine (has_any' f j (by omega) _).mono ?_
        rintro e w2 ⟨rfl, ht2⟩
        have Y := Lib.hid (show MAt wr w.heap.size f from ⟨y0, y1, y2, y3⟩)
        clear y0 y1 y2 y3
        cases hf : f j with
        | true =>
          have HF := Lib.hid hf
          go_wp2_with (fail)
          go_ret
          refine ⟨?_, ht.trans ht2 (fun _ h _ => h)⟩
          rw [hN.out]; simp only [scanD]; rw [HF.out]; rfl
        | false =>
          have HF := Lib.hid hf
          go_wp2_with (fail)
          go_roundw
          case rel => exact ⟨j, by omega, rfl, Lib.hid (by rw [hN.out]; simp only [scanD]; rw [HF.out]; rfl), Y.out.keep ht2 id, ht.trans ht2 (fun _ h _ => h)⟩
          case measure => simp [intOf]; try omega
      · obtain rfl : k = 0 := by omega
        go_wp2_with (fail)
        go_ret
        refine ⟨?_, ht⟩
        rw [hN.out]; rfl

set_option maxRecDepth 100000 in
set_option maxHeartbeats 400000 in
theorem all_any (f : Nat → Bool) (w : World) :
    Calls Tryd.prog 27 #[MV f] w fun e w' => ∃ v n, e = .returned v ∧ w'.ownsRow w.heap.size 5 1 v n (ivs .u8 (allF f 256)) ∧ Touch (fun _ => False) w w' := by
  unfold MV
  go_enter Tryd.func27, Tryd.ntmps27
  go_wp2_with (fail)
  refine (next_any' f 0 _ (by unfold V64; omega)).mono ?_
  rintro e w1 ⟨rfl, ht1⟩
  have hmat := (mat_new w f 49).keep ht1 id
  have HM := Lib.hid hmat
  have HT := Lib.hid (((Touch.refl (fun _ => False) w).alloc _).trans ht1 (fun _ h _ => h))
  clear hmat
  go_wp2_with (fail)
  go_loopw [3, 4] (fun v s4 wr => ∃ k : Nat, k ≤ 256 ∧ s4 = .int .i64 (nextF f k) ∧ wr.ownsRow (w.heap.size + 1) 5 1 v (cnt f k) (ivs .u8 (allF f k)) ∧ MAt wr w.heap.size f ∧ Touch (fun _ => False) w wr) (fun _ s4 _ => match s4 with | .int _ n => if n < 0 then 0 else 257 - n.toNat | _ => 0)
  case atStart => exact ⟨0, by omega, rfl, World.ownsRow_nil _ _ _ _, HM.out, HT.out⟩
  case round =>
    clear HM HT
    obtain ⟨k, hk, rfl, hown, hmat, ht⟩ := hrel
    have hob := fun j hj => (hown.lt j hj).1
    have hck := cnt_le f k
    rcases next_cases f hk with ⟨h1, h2⟩ | ⟨i, h1, h2, h3, h4, h5⟩
    · obtain ⟨d, hd⟩ : ∃ d, 256 = k + d := ⟨256 - k, by omega⟩
      obtain ⟨e1, e2⟩ := allF_gap f k d fun j h6 h7 => h2 j h6 (by omega)
      rw [← hd] at e1 e2
      rw [h1]
      have H1 := Lib.hid e1
      have H2 := Lib.hid e2
      clear e1 e2 h1 h2 hd
      go_wp2_with (fail)
      go_ret
      rw [H1.out]
      exact ⟨_, _, rfl, own_mono hown (by omega), ht⟩
    · obtain ⟨e1, e2⟩ := allF_next f h1 h4 h5
      rw [h3]
      have H1 := Lib.hid e1
      have H2 := Lib.hid e2
      have hlen : (allF f k).length = cnt f k := allF_length f k
      have Hl := Lib.hid hlen
      clear e1 e2 h3 h4 h5 hlen
      obtain ⟨y0, y1, y2, y3⟩ := hmat
      have Y := Lib.hid (show MAt wr w.heap.size f from ⟨y0, y1, y2, y3⟩)
      have nob : ¬ (u3.ownBlock = some w.heap.size) := fun h => by have := hob _ h; omega
      have hsz := ht.size
      have hbx := World.block_lt_of_cell? _ _ y0
      simp only at hbx
      have Hown := Lib.hid hown
      clear hown
      go_wp2_with (at_builtin; go_must (refine wpList_push rfl _ _ 31 rfl (w.heap.size + 1) 5 (.int .u8 0) 1 Tryd.underlying31 (by kernel_rfl) rfl u3 (cnt f k) _ rfl Hown.out _ rfl rfl ?c1 ?c2 ?c3 ?_); go_must (rotate_left 3; intro v' w1 hown1 ht1); go_must (have z0 := keepc ht1 nob y0; have z1 := keepc ht1 nob y1; have z2 := keepc ht1 nob y2; have z3 := keepc ht1 nob y3; clear y0 y1 y2 y3))
      case c1 => omega
      case c2 => simp [maxLen]; omega
      case c3 => omega
      refine (next_any' f _ _ (by unfold V64; omega)).mono ?_
      rintro e w2 ⟨rfl, ht2⟩
      have Z := Lib.hid (show MAt w1 w.heap.size f from ⟨z0, z1, z2, z3⟩)
      have Hown1 := Lib.hid hown1
      clear z0 z1 z2 z3 hown1
      go_wp2_with (fail)
      go_roundw
      case rel =>
        refine ⟨i + 1, by omega, by simp, ?_, Z.out.keep ht2 id, (ht.trans ht1 (fun j hj _ => by have := hob j hj; omega)).trans ht2 (fun _ h _ => h)⟩
        · rw [H2.out, H1.out]
          have := own_keep Hown1.out ht2 (fun _ _ h => h)
          simpa [ivs] using this
      case measure =>
        have hn := next_cases f (k := i + 1) (by omega)
        simp only [intOf, Int.natCast_add] at hn ⊢
        rw [if_neg (by omega : ¬ (i : Int) < 0)]
        rcases hn with ⟨h6, _⟩ | ⟨i', h6, h7, h8, _⟩
        · have h6' : nextF f ((i : Int) + 1) = -1 := h6
          rw [h6']; simp; omega
        · have h8' : nextF f ((i : Int) + 1) = i' := h8
          rw [h8', if_neg (by omega)]; simp; omega
end MaskA
end Go.Proofs.YtjlmhgjkekihiaaDoor
