/- The document's chapter 1: Common, Begins. -/
import Derived.Test.YtclnnkacfanaiaaDoorKeyW
import Derived.Test.YtclnnkacfanaiaaDoorPlan
namespace Go.Proofs.YtclnnkacfanaiaaDoor
open Go.RowKit
set_option linter.unusedVariables false
set_option linter.unusedSimpArgs false

/-- how many bytes two keys share at their beginnings -/
def comK : List Int → List Int → Nat
  | x :: a, y :: b => if x = y then comK a b + 1 else 0
  | _, _ => 0
theorem comK_lt : ∀ {a b : List Int} {j : Nat}, j < comK a b → ∃ x, a[j]? = some x ∧ b[j]? = some x
  | [], b, j, h => by simp [comK] at h
  | x :: a, [], j, h => by simp [comK] at h
  | x :: a, y :: b, j, h => by
    unfold comK at h
    split at h
    · rename_i e; subst e
      cases j with
      | zero => exact ⟨x, rfl, rfl⟩
      | succ j => simpa using comK_lt (a := a) (b := b) (j := j) (by omega)
    · omega
theorem comK_at : ∀ {a b : List Int} {x y : Int}, a[comK a b]? = some x → b[comK a b]? = some y → x ≠ y
  | [], b, x, y, h, _ => by simp at h
  | _ :: a, [], x, y, _, h => by simp at h
  | u :: a, v :: b, x, y, h1, h2 => by
    unfold comK at h1 h2
    split at h1
    · rename_i e
      rw [if_pos e] at h2
      exact comK_at (a := a) (b := b) (by simpa using h1) (by simpa using h2)
    · rename_i e
      rw [if_neg e] at h2
      simp at h1 h2
      rw [← h1, ← h2]; exact e
theorem comK_le : ∀ (a b : List Int), comK a b ≤ a.length ∧ comK a b ≤ b.length
  | [], b => by simp [comK]
  | _ :: _, [] => by simp [comK]
  | x :: a, y :: b => by
    have := comK_le a b
    unfold comK
    split <;> simp <;> omega
theorem comK_begins : ∀ (k p : List Int), decide (comK k p = p.length) = begK k p
  | k, [] => by cases k <;> simp [comK, begK]
  | [], y :: p => by simp [comK, begK]
  | x :: k, y :: p => by
    have ih : decide (comK k p = p.length) = (k.take p.length == p) := comK_begins k p
    show decide ((if x = y then comK k p + 1 else 0) = p.length + 1) = ((x :: k).take (p.length + 1) == y :: p)
    by_cases e : x = y
    · subst e
      rw [if_pos rfl, show decide (comK k p + 1 = p.length + 1) = decide (comK k p = p.length) by simp, ih]
      simp
    · rw [if_neg e]
      simp [e]

namespace RefC
variable {F G : Nat → Prop}
set_option maxRecDepth 100000 in
set_option maxHeartbeats 1600000 in
theorem common_any (w : World) (va vb : Value) (a b : List Int) (ha : RB w F va a) (hb : RB w G vb b) (hm : a.length ≤ 1000000) (hn : b.length ≤ 1000000) :
    Calls Tryd.prog 38 #[va, vb] w fun e w' => e = .returned (.int .i64 (comK a b)) ∧ Ext w w' := by
  obtain ⟨a0, c0, rfl, _⟩ := ha.shape
  obtain ⟨b0, d0, rfl, _⟩ := hb.shape
  have hle := comK_le a b
  have hlt := fun j (h : j < comK a b) => comK_lt h
  have hat := fun x y => comK_at (a := a) (b := b) (x := x) (y := y)
  generalize comK a b = n at *
  have Ha := Lib.hid ha
  clear ha
  have Hb := Lib.hid hb
  clear hb
  have Hlt := Lib.hid hlt
  clear hlt
  have Hat := Lib.hid hat
  clear hat
  go_enter Tryd.func38, Tryd.ntmps38
  go_wp2_with (fail)
  go_loopw [5] (fun s5 wr => ∃ j : Nat, j ≤ n ∧ s5 = .int .i64 j ∧ Ext w wr) (fun s5 _ => n - (intOf s5).toNat)
  case atStart => exact ⟨0, by omega, rfl, Touch.refl _ _⟩
  case round =>
    obtain ⟨j, hj, rfl, ht⟩ := hrel
    have i0 : (0 : Int) ≤ (j : Int) := by omega
    by_cases hlt2 : j < n
    · obtain ⟨x, hx, hy⟩ := Hlt.out j hlt2
      have i1 : (j : Int) < (a.length : Int) := by omega
      have i2 : (j : Int) < (b.length : Int) := by omega
      obtain ⟨ab, ao, rfl, _⟩ := Ha.out.addr (by omega)
      obtain ⟨bb, bo, rfl, _⟩ := Hb.out.addr (by omega)
      have e0 := (Ha.out.ext ht).cell j (by omega)
      have e1 := (Hb.out.ext ht).cell j (by omega)
      rw [show a[j] = x from by rw [List.getElem?_eq_getElem (by omega)] at hx; exact Option.some.inj hx] at e0
      rw [show b[j] = x from by rw [List.getElem?_eq_getElem (by omega)] at hy; exact Option.some.inj hy] at e1
      have Hx := Lib.hid hx
      clear hx
      have Hy := Lib.hid hy
      clear hy
      go_wp2_with (fail)
      refine wp_region_plan (.take 0 (.take 1 (.take 2 (.take 3 (.take 4 (.take 5 (.take 6 (.take 7 (.take 8 (.take 9 (.take 10 (.take 11 (.take 12 (.take 13 (.take 14 (.take 15 (.take 16 (.take 17 (.take 18 (.take 19 (.take 20 .done))))))))))))))))))))) (fun wy => wy.cell? ⟨ab, ao + j, none⟩ = some (.int .u8 x) ∧ wy.cell? ⟨bb, bo + j, none⟩ = some (.int .u8 x)) (by kernel_rfl) (by kernel_rfl) (by kernel_rfl) rfl ?_ (fun KK hKK => ?_)
      · exact ⟨e0, e1⟩
      repeat (first
        | (refine wpPlan_take (v := ?_) rfl (by rfl) (fun W hW => ?_) ?_; rotate_left; (focus ((try dsimp only at hW); go_split_ands; go_simp; (try with_reducible rfl); done)); (try simp only [Act.put, List.setIfInBounds_toArray, List.set_cons_zero, List.set_cons_succ]))
        | (refine wpPlan_skip rfl (by rfl) ?_; (try simp only [Act.put, List.setIfInBounds_toArray, List.set_cons_zero, List.set_cons_succ])))
      refine wpPlan_done (hKK.out _ _ ?_)
      clear hKK KK
      go_wp2_with (fail)
      go_roundw
      case rel => exact ⟨j + 1, by omega, by go_num, ht.drew⟩
      case measure => simp [intOf]; omega
    · obtain rfl : j = n := by omega
      by_cases ja : j < a.length
      · by_cases jb : j < b.length
        · have i1 : (j : Int) < (a.length : Int) := by omega
          have i2 : (j : Int) < (b.length : Int) := by omega
          obtain ⟨ab, ao, rfl, _⟩ := Ha.out.addr (by omega)
          obtain ⟨bb, bo, rfl, _⟩ := Hb.out.addr (by omega)
          have e0 := (Ha.out.ext ht).cell j (by omega)
          have e1 := (Hb.out.ext ht).cell j (by omega)
          have hne := Hat.out _ _ (List.getElem?_eq_getElem ja) (List.getElem?_eq_getElem jb)
          generalize a[j] = x at *
          generalize b[j] = y at *
          go_wp2_with (fail)
          refine wp_region_plan (.take 0 (.take 1 (.take 2 (.take 3 (.take 4 (.take 5 (.take 6 (.take 7 (.take 8 (.take 9 (.take 10 (.take 11 (.take 12 (.take 13 (.take 14 (.take 15 (.take 16 (.take 17 (.take 18 (.take 19 (.take 20 .done))))))))))))))))))))) (fun wy => wy.cell? ⟨ab, ao + j, none⟩ = some (.int .u8 x) ∧ wy.cell? ⟨bb, bo + j, none⟩ = some (.int .u8 y)) (by kernel_rfl) (by kernel_rfl) (by kernel_rfl) rfl ?_ (fun KK hKK => ?_)
          · exact ⟨e0, e1⟩
          repeat (first
            | (refine wpPlan_take (v := ?_) rfl (by rfl) (fun W hW => ?_) ?_; rotate_left; (focus ((try dsimp only at hW); go_split_ands; go_simp; (try with_reducible rfl); done)); (try simp only [Act.put, List.setIfInBounds_toArray, List.set_cons_zero, List.set_cons_succ]))
            | (refine wpPlan_skip rfl (by rfl) ?_; (try simp only [Act.put, List.setIfInBounds_toArray, List.set_cons_zero, List.set_cons_succ])))
          refine wpPlan_done (hKK.out _ _ ?_)
          clear hKK KK
          go_wp2_with (fail)
          go_ret
          exact ⟨rfl, ht.drew⟩
        · have i1 : (j : Int) < (a.length : Int) := by omega
          have i2 : decide ((j : Int) < (b.length : Int)) = false := by simp; omega
          go_wp2_with (fail)
          refine wp_region_plan (.take 0 (.take 1 (.take 2 (.take 3 (.take 4 (.take 5 (.take 6 (.take 7 (.take 8 (.take 9 (.take 10 (.take 11 (.take 12 (.take 13 (.take 14 (.take 15 (.take 16 (.take 17 (.take 18 (.take 19 (.take 20 .done))))))))))))))))))))) (fun wy => True) (by kernel_rfl) (by kernel_rfl) (by kernel_rfl) rfl ?_ (fun KK hKK => ?_)
          · exact trivial
          repeat (first
            | (refine wpPlan_take (v := ?_) rfl (by rfl) (fun W hW => ?_) ?_; rotate_left; (focus ((try dsimp only at hW); go_split_ands; go_simp; (try with_reducible rfl); done)); (try simp only [Act.put, List.setIfInBounds_toArray, List.set_cons_zero, List.set_cons_succ]))
            | (refine wpPlan_skip rfl (by rfl) ?_; (try simp only [Act.put, List.setIfInBounds_toArray, List.set_cons_zero, List.set_cons_succ])))
          refine wpPlan_done (hKK.out _ _ ?_)
          clear hKK KK
          go_wp2_with (fail)
          go_ret
          exact ⟨rfl, ht.drew⟩
      · have i1 : decide ((j : Int) < (a.length : Int)) = false := by simp; omega
        go_wp2_with (fail)
        refine wp_region_plan (.take 0 (.take 1 (.take 2 (.take 3 (.take 4 (.take 5 (.take 6 (.take 7 (.take 8 (.take 9 (.take 10 (.take 11 (.take 12 (.take 13 (.take 14 (.take 15 (.take 16 (.take 17 (.take 18 (.take 19 (.take 20 .done))))))))))))))))))))) (fun wy => True) (by kernel_rfl) (by kernel_rfl) (by kernel_rfl) rfl ?_ (fun KK hKK => ?_)
        · exact trivial
        repeat (first
          | (refine wpPlan_take (v := ?_) rfl (by rfl) (fun W hW => ?_) ?_; rotate_left; (focus ((try dsimp only at hW); go_split_ands; go_simp; (try with_reducible rfl); done)); (try simp only [Act.put, List.setIfInBounds_toArray, List.set_cons_zero, List.set_cons_succ]))
          | (refine wpPlan_skip rfl (by rfl) ?_; (try simp only [Act.put, List.setIfInBounds_toArray, List.set_cons_zero, List.set_cons_succ])))
        refine wpPlan_done (hKK.out _ _ ?_)
        clear hKK KK
        go_wp2_with (fail)
        go_ret
        exact ⟨rfl, ht.drew⟩

theorem rbegins_any (w : World) (va vb : Value) (a b : List Int) (ha : RB w F va a) (hb : RB w G vb b) (hm : a.length ≤ 1000000) (hn : b.length ≤ 1000000) :
    Calls Tryd.prog 31 #[va, vb] w fun e w' => e = .returned (.bool (begK a b)) ∧ Ext w w' := by
  have hc := common_any w va vb a b ha hb hm hn
  have hbk := comK_begins a b
  obtain ⟨b0, d0, rfl, _⟩ := hb.shape
  generalize begK a b = bk at *
  generalize comK a b = n at *
  clear ha hb
  have Hc := Lib.hid hc
  clear hc
  have Hbk := Lib.hid hbk
  clear hbk
  go_enter Tryd.func31, Tryd.ntmps31
  go_wp2_with (fail)
  (with_reducible refine Hc.out.mono ?_)
  rintro e w1 ⟨rfl, ht⟩
  go_wp2_with (fail)
  go_ret
  have hb2 : ((n : Int) == (b.length : Int)) = bk := by rw [← Hbk.out, Bool.eq_iff_iff]; simp; omega
  rw [← hb2]
  exact ⟨rfl, ht⟩
end RefC
end Go.Proofs.YtclnnkacfanaiaaDoor
