/- bramblelaw0's functions that lend and copy. -/
import Derived.Test.YthfnacadabhpdaaSameP
namespace Go.Proofs.Ythfnacadabhpdaa
open Go.RowKit
set_option linter.unusedVariables false
set_option linter.unusedSimpArgs false

/-- what was lent: the bytes, and three marked places behind them -/
def Lent (w : World) (g : Nat) (k : List Int) : Prop := w.ownsRow 0 5 1 (.slice (some ⟨g, 0, none⟩) k.length (k.length + 3)) k.length (ivs .u8 k) ∧ ∀ j, j < 3 → w.cell? ⟨g, k.length + j, none⟩ = some (.int .u8 119)
namespace Lent
variable {w w' : World} {g : Nat} {k : List Int} {S : Nat → Prop}
theorem keep (h : Lent w g k) (t : Touch S w w') (hn : ¬ S g) : Lent w' g k := ⟨own_keep h.1 t fun b hb => by cases hb; exact hn, fun j hj => keepc t hn (h.2 j hj)⟩
theorem ext (h : Lent w g k) (t : Ext w w') : Lent w' g k := h.keep t id
theorem ob (h : Lent w g k) : OB w (fun b => b = g) (.slice (some ⟨g, 0, none⟩) k.length (k.length + 3)) k := ⟨h.1, fun b hb => by cases hb; rfl⟩
theorem rb (h : Lent w g k) : RB w (fun b => b = g) (.slice (some ⟨g, 0, none⟩) k.length (k.length + 3)) k := h.ob.rb
end Lent

namespace SameP
open SameA
set_option maxRecDepth 100000 in
set_option maxHeartbeats 800000 in
theorem lend_any (w : World) (F : Nat → Prop) (v : Value) (k : List Int) (h : RB w F v k) (hm : k.length ≤ 1000000) :
    Calls Try.prog 71 #[v] w fun e w' => (∃ g, e = .returned (.slice (some ⟨g, 0, none⟩) k.length (k.length + 3)) ∧ Lent w' g k ∧ w.heap.size ≤ g) ∧ Ext w w' := by
  obtain ⟨a, c, rfl, l1, m1, hn⟩ := h.shape
  obtain ⟨i0, hi0, hz0, hz1, hz2⟩ := info_parts info_u8
  have e3 : k.length + 3 - k.length = 3 := by omega
  go_enter Try.func71, Try.ntmps71
  go_wp2_with (first
    | (at_make; refine wpList_make_own _ rfl _ _ 23 rfl 0 5 i0 (.int .u8 0) 1 Try.underlying23 hi0 hz0 hz1 .i64 .i64 _ (k.length + 3) rfl rfl (by first | rfl | omega | (simp; done)) (by rw [hz2]; omega) (by unfold maxLen; omega) (Nat.zero_le _) ?_; intro w1 hown1 hgrow1)
    | (at_builtin; refine wpList_push_room _ rfl _ _ 23 rfl 5 (.int .u8 0) 1 1 Try.underlying23 info_u8 (by decide) w.heap.size 0 (k.length + 3) [] rfl hown1 a k.length c rfl hn (ivs .u8 k) l1 (by simp [ivs]) (h.src.ext ((Touch.grown hgrow1).mono (by intro i hi _; cases hi))) (ivs_one _ _) (by omega) ?_; intro w2 hown2 ht2; simp only [Nat.zero_add, List.nil_append] at hown2))
  have ht0 : Ext w w2 := ((Touch.grown hgrow1).mono (fun i hi _ => by cases hi)).ext_new ht2 (fun i hi => by omega)
  clear hgrow1 hown1 ht2 e3
  have H := Lib.hid h
  clear h
  go_loopw [5] (fun i5 wr => ∃ j : Nat, j ≤ 3 ∧ i5 = .int .i64 j ∧ wr.ownsRow 0 5 1 (.slice (some ⟨w.heap.size, 0, none⟩) k.length (k.length + 3)) k.length (ivs .u8 k) ∧ (∀ i, i < j → wr.cell? ⟨w.heap.size, k.length + i, none⟩ = some (.int .u8 119)) ∧ Ext w wr) (fun i5 _ => 3 - (intOf i5).toNat)
  case atStart => exact ⟨0, by omega, rfl, hown2, fun i hi => by omega, ht0⟩
  case round =>
    clear hown2 ht0
    obtain ⟨j, hj, rfl, hown, hmark, ht⟩ := hrel
    have Hown := Lib.hid hown
    have Hmark := Lib.hid hmark
    clear hmark
    by_cases hlt : j < 3
    · obtain ⟨u, hu⟩ := own_spare hown (k.length + j) (by omega)
      have hf := hown.frozenAt (k.length + j)
      clear hown
      have j0 : (0 : Int) ≤ (j : Int) := by omega
      have j1 : (j : Int) < 3 := by omega
      go_wp2
      go_roundw
      case rel =>
        obtain ⟨h1, h2⟩ := Hown.out.stored (k.length + j) (.int .u8 119)
        rw [List.set_eq_of_length_le (by simp [ivs])] at h1
        refine ⟨j + 1, by omega, by go_num, h1, ?_, ht.ext_new (Touch.grown h2) (fun i hi => by have := Option.some.inj hi; omega)⟩
        intro i hi
        by_cases hij : i = j
        · subst hij
          exact World.cell?_setCell_same _ _ _ hu
        · rw [World.cell?_setCell_other _ _ _ _ (by simp <;> omega)]
          exact Hmark.out i (by omega)
      case measure => simp [intOf]; omega
    · clear hown
      have hj3 : j = 3 := by omega
      subst hj3
      go_wp2
      go_ret
      exact ⟨⟨w.heap.size, rfl, ⟨Hown.out, fun i hi => Hmark.out i hi⟩, Nat.le_refl _⟩, ht⟩

set_option maxRecDepth 100000 in
set_option maxHeartbeats 800000 in
theorem kept_any (w : World) (F : Nat → Prop) (v : Value) (g : Nat) (k : List Int) (h : Lent w g k) (hv : RB w F v k) (hm : k.length ≤ 1000000) :
    Calls Try.prog 72 #[.slice (some ⟨g, 0, none⟩) k.length (k.length + 3), v] w fun e w' => e = .returned (.bool true) ∧ Ext w w' := by
  have e3 : k.length + 3 - k.length = 3 := by omega
  have H := Lib.hid h
  have HV := Lib.hid hv
  clear h hv
  go_enter Try.func72, Try.ntmps72
  go_wp2_with (fail)
  clear e3
  go_loopw [6] (fun i6 wr => ∃ j : Nat, j ≤ 3 ∧ i6 = .int .i64 j ∧ Ext w wr) (fun i6 _ => 3 - (intOf i6).toNat)
  case atStart => exact ⟨0, by omega, rfl, Touch.refl _ _⟩
  case round =>
    obtain ⟨j, hj, rfl, ht⟩ := hrel
    by_cases hlt : j < 3
    · have hc := (H.out.ext ht).2 j hlt
      have j0 : (0 : Int) ≤ (j : Int) := by omega
      have j1 : (j : Int) < 3 := by omega
      go_wp2
      go_roundw
      case rel => exact ⟨j + 1, by omega, by go_num, ht⟩
      case measure => simp [intOf]; omega
    · have hj3 : j = 3 := by omega
      subst hj3
      go_wp2_with (fail)
      (with_reducible refine (same_bytes_yes _ _ _ k (H.out.ext ht).rb (HV.out.ext ht) hm).mono ?_)
      rintro e w1 ⟨rfl, ht1⟩
      go_wp2_with (fail)
      go_ret
      exact ⟨rfl, ht.trans' ht1⟩

/-- are pairs more than are gone through? -/
def great (ps : Prs) (most long : Int) : Bool := decide (most < ps.length) || ps.any fun p => decide (long < p.1.length)
set_option maxRecDepth 100000 in
set_option maxHeartbeats 800000 in
theorem great_any (w : World) (F : Nat → Prop) (v : Value) (ps : Prs) (most long : Int) (h : RP w F v ps) (hm : 0 ≤ most) (hm2 : most ≤ 1000000) (hl : 0 ≤ long) (hl2 : long ≤ 1000000) :
    Calls Try.prog 14 #[v, .int .i64 most, .int .i64 long] w fun e w' => e = .returned (.bool (great ps most long)) ∧ w = w' := by
  obtain ⟨a, c, rfl, l1, m1, hn⟩ := h.shape
  have H := Lib.hid h
  clear h
  unfold maxLen at m1
  by_cases hmost : (ps.length : Int) ≤ most
  · have hb : decide ((ps.length : Int) ≤ most) = true := by simpa using hmost
    go_enter Try.func14, Try.ntmps14
    go_wp2_with (fail)
    go_loop [7] (fun i7 => ∃ j : Nat, j ≤ ps.length ∧ i7 = .int .i64 j ∧ ∀ i p, i < j → ps[i]? = some p → (p.1.length : Int) ≤ long) (fun i7 => ps.length - (intOf i7).toNat)
    case atStart => exact ⟨0, by omega, rfl, fun i p hi => by omega⟩
    case round =>
      obtain ⟨j, hj, rfl, hall⟩ := hrel
      have Hall := Lib.hid hall
      clear hall
      by_cases hlt : j < ps.length
      · obtain ⟨b, off, rfl, _⟩ := H.out.addr (by omega)
        have hg := List.getElem?_eq_getElem hlt
        obtain ⟨kv, c0, c1, hk⟩ := H.out.get j _ hg
        generalize ps[j] = p at *
        obtain ⟨ka, kc, rfl, l2, m2, _⟩ := hk.shape
        have Hg := Lib.hid hg
        clear hg hk
        unfold maxLen at m2
        by_cases hlong : long < (p.1.length : Int)
        · have hfin : great ps most long = true := by
            unfold great
            rw [Bool.or_eq_true]
            exact Or.inr (List.any_eq_true.2 ⟨p, List.mem_of_getElem? Hg.out, by simpa using hlong⟩)
          have Hfin := Lib.hid hfin
          clear hfin
          go_wp2_with (fail)
          go_ret
          rw [Hfin.out]
          exact ⟨rfl, rfl⟩
        · go_wp2_with (fail)
          go_round
          case rel =>
            refine ⟨j + 1, by omega, by go_num, fun i q hi hq => ?_⟩
            by_cases hij : i = j
            · subst hij
              rw [Hg.out] at hq
              cases hq
              omega
            · exact Hall.out i q (by omega) hq
          case measure => simp [intOf]; omega
      · have hfin : great ps most long = false := by
          unfold great
          rw [Bool.or_eq_false_iff]
          refine ⟨by simpa using hmost, ?_⟩
          rw [List.any_eq_false]
          intro p hp
          obtain ⟨i, hi⟩ := List.mem_iff_getElem?.1 hp
          have := Hall.out i p (by have := (List.getElem?_eq_some_iff.1 hi).1; omega) hi
          simpa using this
        have hfin2 : decide (most < (ps.length : Int)) = false := by simpa using hmost
        have Hfin := Lib.hid hfin
        clear hfin
        go_wp2_with (fail)
        go_ret
        rw [Hfin.out]
        exact ⟨rfl, rfl⟩
  · have hb : decide ((ps.length : Int) ≤ most) = false := by simpa using hmost
    have hfin : great ps most long = true := by
      unfold great
      rw [Bool.or_eq_true]
      exact Or.inl (by simpa using hmost)
    have hb2 : decide (most < (ps.length : Int)) = true := by simpa using hmost
    have hpos : 0 < ps.length := by omega
    have Hfin := Lib.hid hfin
    clear hfin
    go_enter Try.func14, Try.ntmps14
    go_wp2_with (fail)
    go_loop [7] (fun i7 => i7 = .int .i64 0) (fun i7 => 0)
    case atStart => rfl
    case round =>
      subst hrel
      go_wp2_with (fail)
      go_ret
      rw [Hfin.out]
      exact ⟨rfl, rfl⟩
end SameP
end Go.Proofs.Ythfnacadabhpdaa
