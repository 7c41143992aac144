/- A tree is not built where there is no room. -/
import Derived.Test.YtmdgmkmddkaadaaTreeD
namespace Go.Proofs.Ytmdgmkmddkaadaa
open Go.RowKit
set_option linter.unusedVariables false
set_option linter.unusedSimpArgs false
namespace TreeE
open ModF (NewRet PutRet DropRet risesB risesB_step)
open ModA (Mq)
open TreeB TreeD
variable {F G : Nat → Prop}
set_option maxRecDepth 100000 in
set_option maxHeartbeats 1600000 in
theorem build_full (w : World) (t : Nat) (v : Value) (qs ps : Prs) (most : Int) (ht : Tp w t F qs most) (h : RP w G v ps) (hm : ps.length ≤ 1000000) (hpk : PK ps) (hr : Rises ps) (hroom : most < (szK ps : Int)) :
    Calls Try.prog 41 #[.pointer (some ⟨t, 0, none⟩), v] w fun e w' => e = .returned (.int .i64 4) ∧ Ext w w' := by
  obtain ⟨a, c, rfl, l1, m1, hn⟩ := h.shape
  unfold maxLen at m1
  have hmy := may_ok w _ ps h hm hpk
  rw [risesB_step.2 hr] at hmy
  simp only [if_true] at hmy
  obtain ⟨g, Fm, c0, c1, f0, f1, hmp, hF, hFt, hlt, hsz, hmost⟩ := ht
  have hcl := fun W => cells_any ps.length W (by omega) (by omega)
  have hz : max (2 * (ps.length : Int) - 1) 0 = ((szK ps : Nat) : Int) := by unfold szK; omega
  rw [hz] at hcl
  have hb : decide (most < ((szK ps : Nat) : Int)) = true := by simpa using hroom
  generalize hgz : szK ps = z at *
  have Hmy := Lib.hid hmy
  clear hmy
  have Hmp := Lib.hid hmp
  clear hmp
  have HF := Lib.hid hF
  clear hF
  have HFt := Lib.hid hFt
  clear hFt
  have Hlt := Lib.hid hlt
  clear hlt
  have Hsz := Lib.hid hsz
  clear hsz
  have Hz := Lib.hid hz
  clear hz
  have Hcl := Lib.hid hcl
  clear hcl
  have Hroom := Lib.hid hroom
  clear hroom
  have H := Lib.hid h
  clear h
  have Hpk := Lib.hid hpk
  clear hpk
  have Hr := Lib.hid hr
  clear hr
  have Hgz := Lib.hid hgz
  clear hgz
  go_enter Try.func41, Try.ntmps41
  go_wp2_with (fail)
  (with_reducible refine Hmy.out.mono ?_)
  rintro e w2 ⟨rfl, t2⟩
  have d1 := keepc t2 id c1
  go_wp2_with (fail)
  refine wp_region_plan (.take 0 (.take 1 (.take 3 (.take 4 (.take 5 (.take 6 (.must 2 (.take 7 .done)))))))) (fun wy => wy.cell? ⟨t, 1, none⟩ = some (.int .i64 most)) (by kernel_rfl) (by kernel_rfl) (by kernel_rfl) rfl ?_ (fun KK hKK => ?_)
  · exact d1
  repeat (first
    | (refine wpPlan_take (v := ?_) rfl (by rfl) (fun W hW => ?_) ?_; rotate_left; (focus ((try dsimp only at hW); go_split_ands; go_simp; (try with_reducible rfl); done)); (try simp only [Act.put, List.setIfInBounds_toArray, List.set_cons_zero, List.set_cons_succ]))
    | (refine wpPlan_skip rfl (by rfl) ?_; (try simp only [Act.put, List.setIfInBounds_toArray, List.set_cons_zero, List.set_cons_succ])))
  refine wpPlan_must rfl (by rfl) (fun K hK => ?_)
  go_simp
  (with_reducible refine (Hcl.out _).mono ?_)
  rintro e w3 ⟨rfl, rfl⟩
  refine hK.out _ _ ?_ ?_
  · exact d1
  clear hK K
  (try simp only [Act.put, List.setIfInBounds_toArray, List.set_cons_zero, List.set_cons_succ])
  repeat (first
    | (refine wpPlan_take (v := ?_) rfl (by rfl) (fun W hW => ?_) ?_; rotate_left; (focus ((try dsimp only at hW); go_split_ands; go_simp; (try with_reducible rfl); done)); (try simp only [Act.put, List.setIfInBounds_toArray, List.set_cons_zero, List.set_cons_succ]))
    | (refine wpPlan_skip rfl (by rfl) ?_; (try simp only [Act.put, List.setIfInBounds_toArray, List.set_cons_zero, List.set_cons_succ])))
  refine wpPlan_done (hKK.out _ _ ?_)
  clear hKK KK
  go_wp2_with (fail)
  go_ret
  exact ⟨rfl, t2.drew⟩
end TreeE
end Go.Proofs.Ytmdgmkmddkaadaa
