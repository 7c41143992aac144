/- Package key: Common. -/
import Derived.Test.YtclnnkacfanaiaaDoorRefC
namespace Go.Proofs.YtclnnkacfanaiaaDoor
open Go.RowKit
set_option linter.unusedVariables false
set_option linter.unusedSimpArgs false
namespace KeyC
variable {F G : Nat → Prop}
set_option maxRecDepth 100000 in
set_option maxHeartbeats 1600000 in
theorem common_any (w : World) (va vb : Value) (a b : List Int) (ha : RB w F va a) (hb : RB w G vb b) (hm : a.length ≤ 1000000) (hn : b.length ≤ 1000000) :
    Calls Tryd.prog 71 #[va, vb] w fun e w' => e = .returned (.int .i64 (comK a b)) ∧ Ext w w' := by
  obtain ⟨a0, c0, rfl, _⟩ := ha.shape
  obtain ⟨b0, d0, rfl, _⟩ := hb.shape
  have hle := comK_le a b
  have hlt := fun j (h : j < comK a b) => comK_lt h
  have hat := fun x y => comK_at (a := a) (b := b) (x := x) (y := y)
  generalize comK a b = n at *
  have Ha := Lib.hid ha
  clear ha
  have Hb := Lib.hid hb
  clear hb
  have Hlt := Lib.hid hlt
  clear hlt
  have Hat := Lib.hid hat
  clear hat
  go_enter Tryd.func71, Tryd.ntmps71
  go_wp2_with (fail)
  go_loopw [5] (fun s5 wr => ∃ j : Nat, j ≤ n ∧ s5 = .int .i64 j ∧ Ext w wr) (fun s5 _ => n - (intOf s5).toNat)
  case atStart => exact ⟨0, by omega, rfl, Touch.refl _ _⟩
  case round =>
    obtain ⟨j, hj, rfl, ht⟩ := hrel
    have i0 : (0 : Int) ≤ (j : Int) := by omega
    by_cases hlt2 : j < n
    · obtain ⟨x, hx, hy⟩ := Hlt.out j hlt2
      have i1 : (j : Int) < (a.length : Int) := by omega
      have i2 : (j : Int) < (b.length : Int) := by omega
      obtain ⟨ab, ao, rfl, _⟩ := Ha.out.addr (by omega)
      obtain ⟨bb, bo, rfl, _⟩ := Hb.out.addr (by omega)
      have e0 := (Ha.out.ext ht).cell j (by omega)
      have e1 := (Hb.out.ext ht).cell j (by omega)
      rw [show a[j] = x from by rw [List.getElem?_eq_getElem (by omega)] at hx; exact Option.some.inj hx] at e0
      rw [show b[j] = x from by rw [List.getElem?_eq_getElem (by omega)] at hy; exact Option.some.inj hy] at e1
      have Hx := Lib.hid hx
      clear hx
      have Hy := Lib.hid hy
      clear hy
      go_wp2_with (fail)
      refine wp_region_plan (.take 0 (.take 1 (.take 2 (.take 3 (.take 4 (.take 5 (.take 6 (.take 7 (.take 8 (.take 9 (.take 10 (.take 11 (.take 12 (.take 13 (.take 14 (.take 15 (.take 16 (.take 17 (.take 18 (.take 19 (.take 20 .done))))))))))))))))))))) (fun wy => wy.cell? ⟨ab, ao + j, none⟩ = some (.int .u8 x) ∧ wy.cell? ⟨bb, bo + j, none⟩ = some (.int .u8 x)) (by kernel_rfl) (by kernel_rfl) (by kernel_rfl) rfl ?_ (fun KK hKK => ?_)
      · exact ⟨e0, e1⟩
      repeat (first
        | (refine wpPlan_take (v := ?_) rfl (by rfl) (fun W hW => ?_) ?_; rotate_left; (focus ((try dsimp only at hW); go_split_ands; go_simp; (try with_reducible rfl); done)); (try simp only [Act.put, List.setIfInBounds_toArray, List.set_cons_zero, List.set_cons_succ]))
        | (refine wpPlan_skip rfl (by rfl) ?_; (try simp only [Act.put, List.setIfInBounds_toArray, List.set_cons_zero, List.set_cons_succ])))
      refine wpPlan_done (hKK.out _ _ ?_)
      clear hKK KK
      go_wp2_with (fail)
      go_roundw
      case rel => exact ⟨j + 1, by omega, by go_num, ht.drew⟩
      case measure => simp [intOf]; omega
    · obtain rfl : j = n := by omega
      by_cases ja : j < a.length
      · by_cases jb : j < b.length
        · have i1 : (j : Int) < (a.length : Int) := by omega
          have i2 : (j : Int) < (b.length : Int) := by omega
          obtain ⟨ab, ao, rfl, _⟩ := Ha.out.addr (by omega)
          obtain ⟨bb, bo, rfl, _⟩ := Hb.out.addr (by omega)
          have e0 := (Ha.out.ext ht).cell j (by omega)
          have e1 := (Hb.out.ext ht).cell j (by omega)
          have hne := Hat.out _ _ (List.getElem?_eq_getElem ja) (List.getElem?_eq_getElem jb)
          generalize a[j] = x at *
          generalize b[j] = y at *
          go_wp2_with (fail)
          refine wp_region_plan (.take 0 (.take 1 (.take 2 (.take 3 (.take 4 (.take 5 (.take 6 (.take 7 (.take 8 (.take 9 (.take 10 (.take 11 (.take 12 (.take 13 (.take 14 (.take 15 (.take 16 (.take 17 (.take 18 (.take 19 (.take 20 .done))))))))))))))))))))) (fun wy => wy.cell? ⟨ab, ao + j, none⟩ = some (.int .u8 x) ∧ wy.cell? ⟨bb, bo + j, none⟩ = some (.int .u8 y)) (by kernel_rfl) (by kernel_rfl) (by kernel_rfl) rfl ?_ (fun KK hKK => ?_)
          · exact ⟨e0, e1⟩
          repeat (first
            | (refine wpPlan_take (v := ?_) rfl (by rfl) (fun W hW => ?_) ?_; rotate_left; (focus ((try dsimp only at hW); go_split_ands; go_simp; (try with_reducible rfl); done)); (try simp only [Act.put, List.setIfInBounds_toArray, List.set_cons_zero, List.set_cons_succ]))
            | (refine wpPlan_skip rfl (by rfl) ?_; (try simp only [Act.put, List.setIfInBounds_toArray, List.set_cons_zero, List.set_cons_succ])))
          refine wpPlan_done (hKK.out _ _ ?_)
          clear hKK KK
          go_wp2_with (fail)
          go_ret
          exact ⟨rfl, ht.drew⟩
        · have i1 : (j : Int) < (a.length : Int) := by omega
          have i2 : decide ((j : Int) < (b.length : Int)) = false := by simp; omega
          go_wp2_with (fail)
          refine wp_region_plan (.take 0 (.take 1 (.take 2 (.take 3 (.take 4 (.take 5 (.take 6 (.take 7 (.take 8 (.take 9 (.take 10 (.take 11 (.take 12 (.take 13 (.take 14 (.take 15 (.take 16 (.take 17 (.take 18 (.take 19 (.take 20 .done))))))))))))))))))))) (fun wy => True) (by kernel_rfl) (by kernel_rfl) (by kernel_rfl) rfl ?_ (fun KK hKK => ?_)
          · exact trivial
          repeat (first
            | (refine wpPlan_take (v := ?_) rfl (by rfl) (fun W hW => ?_) ?_; rotate_left; (focus ((try dsimp only at hW); go_split_ands; go_simp; (try with_reducible rfl); done)); (try simp only [Act.put, List.setIfInBounds_toArray, List.set_cons_zero, List.set_cons_succ]))
            | (refine wpPlan_skip rfl (by rfl) ?_; (try simp only [Act.put, List.setIfInBounds_toArray, List.set_cons_zero, List.set_cons_succ])))
          refine wpPlan_done (hKK.out _ _ ?_)
          clear hKK KK
          go_wp2_with (fail)
          go_ret
          exact ⟨rfl, ht.drew⟩
      · have i1 : decide ((j : Int) < (a.length : Int)) = false := by simp; omega
        go_wp2_with (fail)
        refine wp_region_plan (.take 0 (.take 1 (.take 2 (.take 3 (.take 4 (.take 5 (.take 6 (.take 7 (.take 8 (.take 9 (.take 10 (.take 11 (.take 12 (.take 13 (.take 14 (.take 15 (.take 16 (.take 17 (.take 18 (.take 19 (.take 20 .done))))))))))))))))))))) (fun wy => True) (by kernel_rfl) (by kernel_rfl) (by kernel_rfl) rfl ?_ (fun KK hKK => ?_)
        · exact trivial
        repeat (first
          | (refine wpPlan_take (v := ?_) rfl (by rfl) (fun W hW => ?_) ?_; rotate_left; (focus ((try dsimp only at hW); go_split_ands; go_simp; (try with_reducible rfl); done)); (try simp only [Act.put, List.setIfInBounds_toArray, List.set_cons_zero, List.set_cons_succ]))
          | (refine wpPlan_skip rfl (by rfl) ?_; (try simp only [Act.put, List.setIfInBounds_toArray, List.set_cons_zero, List.set_cons_succ])))
        refine wpPlan_done (hKK.out _ _ ?_)
        clear hKK KK
        go_wp2_with (fail)
        go_ret
        exact ⟨rfl, ht.drew⟩
end KeyC
end Go.Proofs.YtclnnkacfanaiaaDoor
