/- A radix tree's Shape. -/
import Derived.Test.YtclnnkacfanaiaaDoorRadI
import Derived.Test.YtclnnkacfanaiaaDoorTreeB
namespace Go.Proofs.YtclnnkacfanaiaaDoor
open Go.RowKit
set_option linter.unusedVariables false
set_option linter.unusedSimpArgs false
namespace RadV
open MaskA MaskP KidA KidB RadK RadM RadA RadB RadG RadH TreeA TreeB
/-- a tree's cells, of some pairs -/
def RK (ps : Prs) (cs : Cls) : Prop := ∃ T, RT.Ok [] T ∧ T.prs = ps ∧ cs = T.CK
theorem RK.length {ps : Prs} {cs : Cls} (h : RK ps cs) : cs.length = szK ps := by
  obtain ⟨T, h1, rfl, rfl⟩ := h
  rw [RT.CK_length, RadS.cells_sz h1]
theorem shape_none {F : Nat → Prop} (w : World) (v : Value) (h : Tq w v F []) : Calls Tryd.prog 29 #[v] w fun e w' => e = .returned (.slice none 0 0) ∧ Ext w w' := by
  have hl := TreeA.len_any w v [] h
  have Hl := Lib.hid hl
  clear hl
  have H := Lib.hid h
  clear h
  go_enter Tryd.func29, Tryd.ntmps29
  go_wp2_with (fail)
  (with_reducible refine Hl.out.mono ?_)
  rintro e w1 ⟨rfl, rfl⟩
  go_wp2_with (fail)
  go_ret
  exact ⟨rfl, Touch.refl _ _⟩
theorem shape_any (w : World) (t : Nat) (F : Nat → Prop) (ps : Prs) (most : Int) (h : Tp w t F ps most) :
    Calls Tryd.prog 29 #[.pointer (some ⟨t, 0, none⟩)] w fun e w' => (∃ v' cs, e = .returned v' ∧ RK ps cs ∧ RC w' (fun b => b < w'.heap.size) v' cs ∧ (ps = [] → v' = .slice none 0 0)) ∧ Ext w w' := by
  rcases Nat.eq_zero_or_pos ps.length with h0 | h0
  · obtain rfl := List.eq_nil_of_length_eq_zero h0
    refine (shape_none w _ h.tq).mono ?_
    rintro e w' ⟨rfl, t1⟩
    exact ⟨⟨_, [], rfl, ⟨RT.nil, by rw [RT.Ok]; trivial, rfl, rfl⟩, RC.nil _ _, fun _ => rfl⟩, t1⟩
  · have hm := h.few
    have hl := TreeA.len_any w _ ps h.tq
    have hlong := h.long
    obtain ⟨g, Fm, v, Fr, Kr, T, h⟩ := h
    have hpr := h.pr
    have his : T.is = true := by
      cases T with
      | nil => rw [← hpr, RT.prs] at h0; simp at h0
      | leaf k x => rfl
      | node k o kd f => rfl
    have hcl := RadS.cells_sz h.ok
    rw [hpr] at hcl
    have hft := h.fit
    have hce := RadI.cells_any T Kr w Fr v [] his h.rn h.ok (by rw [hpr]; exact hlong) (by omega) (by rw [hpr]; omega)
    have hok := h.ok
    have c2 := h.c2
    have b0 : ((ps.length : Int) == 0) = false := beq_eq_false_iff_ne.2 (by omega)
    clear hcl hft
    have Hl := Lib.hid hl
    clear hl
    have Hce := Lib.hid hce
    clear hce
    have Hok := Lib.hid hok
    clear hok
    have Hpr := Lib.hid hpr
    clear hpr
    have Hlong := Lib.hid hlong
    clear hlong
    have H := Lib.hid h
    clear h
    have His := Lib.hid his
    clear his
    go_enter Tryd.func29, Tryd.ntmps29
    go_wp2_with (fail)
    (with_reducible refine Hl.out.mono ?_)
    rintro e w1 ⟨rfl, rfl⟩
    go_wp2_with (fail)
    (with_reducible refine Hce.out.mono ?_)
    rintro e w3 ⟨v3, rfl, hnc, t3⟩
    obtain ⟨oa, oc, hv3⟩ := hnc.shape
    have hrc := hnc.rc
    subst hv3
    have Hrc := Lib.hid hrc
    clear hrc
    have Hnc := Lib.hid hnc
    clear hnc
    go_wp2_with (fail)
    go_ret
    exact ⟨⟨_, _, rfl, ⟨T, Hok.out, Hpr.out, rfl⟩, Hrc.out, fun h9 => by subst h9; simp at h0⟩, t3⟩
end RadV
end Go.Proofs.YtclnnkacfanaiaaDoor
