/- The document's Rises. -/
import Derived.Test.YthfnacadabhpdaaModH
import Derived.Test.YthfnacadabhpdaaRefA
namespace Go.Proofs.Ythfnacadabhpdaa
open Go.RowKit
set_option linter.unusedVariables false
set_option linter.unusedSimpArgs false
namespace RefI
open ModA ModF
variable {F G : Nat → Prop}
set_option maxRecDepth 100000 in
set_option maxHeartbeats 1600000 in
theorem rises_any (w : World) (v : Value) (ps : Prs) (h : RP w G v ps) (hm : ps.length ≤ 1000000) (hpk : ∀ p ∈ ps, KB p.1) :
    Calls Try.prog 23 #[v] w fun e w' => e = .returned (.bool (risesB ps)) ∧ Ext w w' := by
  obtain ⟨a, c, rfl, l1, m1, hn⟩ := h.shape
  unfold maxLen at m1
  have H := Lib.hid h
  clear h
  have Hpk := Lib.hid hpk
  clear hpk
  go_enter Try.func23, Try.ntmps23
  go_wp2_with (fail)
  go_loopw [3] (fun s3 wr => ∃ j : Nat, 1 ≤ j ∧ (j ≤ ps.length ∨ j = 1) ∧ s3 = .int .i64 j ∧ (∀ i p q, i + 1 < j → ps[i]? = some p → ps[i + 1]? = some q → cmpK p.1 q.1 < 0) ∧ Ext w wr) (fun s3 _ => ps.length + 1 - (intOf s3).toNat)
  case atStart => exact ⟨1, by omega, Or.inr rfl, rfl, fun i p q hi => by omega, Touch.refl _ _⟩
  case round =>
    obtain ⟨j, hj1, hj, rfl, hall, ht⟩ := hrel
    have Hall := Lib.hid hall
    clear hall
    by_cases hlt : j < ps.length
    · obtain ⟨b, off, rfl, _⟩ := H.out.addr (by omega)
      have hlt' : j - 1 < ps.length := by omega
      have hg := List.getElem?_eq_getElem hlt
      have hg' := List.getElem?_eq_getElem hlt'
      obtain ⟨kv, c0, c1, hkb⟩ := (H.out.ext ht).get j _ hg
      obtain ⟨kw, d0, d1, hkb'⟩ := (H.out.ext ht).get (j - 1) _ hg'
      have hpp := Hpk.out _ (List.mem_of_getElem? hg)
      have hpp' := Hpk.out _ (List.mem_of_getElem? hg')
      generalize ps[j] = p at *
      generalize ps[j - 1] = q at *
      obtain ⟨ka, kc, rfl, _⟩ := hkb.shape
      obtain ⟨qa, qc, rfl, _⟩ := hkb'.shape
      have i0 : (0 : Int) ≤ (j : Int) := by omega
      have i1 : (j : Int) < (ps.length : Int) := by omega
      have i2 : (0 : Int) ≤ (j : Int) - 1 := by omega
      have i3 : (j : Int) - 1 < (ps.length : Int) := by omega
      have i4 : IntKind.i64.wrap ((j : Int) - 1) = (j : Int) - 1 := by rw [IntKind.wrap_i64]; omega
      have i5 : ((j : Int) - 1).toNat = j - 1 := by omega
      have i6 : (1 : Int) ≤ (j : Int) := by omega
      have hc1 := conv_any wr.drew G ka p.1.length kc p.1 (hkb.ext (Touch.refl _ _).drew)
      have hc2 := conv_any wr.drew G qa q.1.length qc q.1 (hkb'.ext (Touch.refl _ _).drew)
      have hls := less_str hpp hpp'
      have heq := same_str hpp hpp'
      have Hg := Lib.hid hg
      clear hg
      have Hg' := Lib.hid hg'
      clear hg'
      have Hkb := Lib.hid hkb
      clear hkb
      have Hkb' := Lib.hid hkb'
      clear hkb'
      have Hpp := Lib.hid hpp
      clear hpp
      have Hpp' := Lib.hid hpp'
      clear hpp'
      by_cases hc : cmpK q.1 p.1 < 0
      · have hne : p.1 ≠ q.1 := fun h => by rw [h, cmpK_iff.2 rfl] at hc; omega
        rw [ltK_false.2 (fun h => by have := cmpK_trans h hc; rw [cmpK_iff.2 rfl] at this; omega)] at hls
        rw [beq_eq_false_iff_ne.2 hne] at heq
        have Hne := Lib.hid hne
        clear hne
        go_wp2_with (fail)
        refine wp_region_plan (.take 0 (.take 1 (.take 2 (.take 3 (.take 4 (.take 5 (.take 6 (.take 7 (.take 8 (.take 9 (.take 10 (.take 11 (.take 12 (.take 13 .done)))))))))))))) (fun wy => wy.cell? ⟨b, off + j * 2, none⟩ = some (.slice ka p.1.length kc) ∧ wy.cell? ⟨b, off + (j - 1) * 2, none⟩ = some (.slice qa q.1.length qc) ∧ (convert 23 9 (.slice ka p.1.length kc)).run Try.prog wy = .ok (.string (strOfNums p.1)) wy ∧ (convert 23 9 (.slice qa q.1.length qc)).run Try.prog wy = .ok (.string (strOfNums q.1)) wy) (by kernel_rfl) (by kernel_rfl) (by kernel_rfl) rfl ?_ (fun KK hKK => ?_)
        · exact ⟨c0, d0, hc1, hc2⟩
        repeat (first
          | (refine wpPlan_take (v := ?_) rfl (by rfl) (fun W hW => ?_) ?_; rotate_left; (focus ((try dsimp only at hW); go_split_ands; go_simp; (try with_reducible rfl); done)); (try simp only [Act.put, List.setIfInBounds_toArray, List.set_cons_zero, List.set_cons_succ]))
          | (refine wpPlan_skip rfl (by rfl) ?_; (try simp only [Act.put, List.setIfInBounds_toArray, List.set_cons_zero, List.set_cons_succ])))
        refine wpPlan_done (hKK.out _ _ ?_)
        clear hKK KK
        clear i4
        go_wp2_with (fail)
        go_roundw
        case rel =>
          refine ⟨j + 1, by omega, Or.inl (by omega), by go_num, fun i p' q' hi hp' hq' => ?_, ht.drew⟩
          rcases Nat.eq_or_lt_of_le (Nat.le_of_lt_succ hi) with he | hl
          · have e1 : i = j - 1 := by omega
            have e2 : i + 1 = j := he
            rw [e2, Hg.out] at hq'
            rw [e1, Hg'.out] at hp'
            cases hp'; cases hq'; exact hc
          · exact Hall.out i p' q' hl hp' hq'
        case measure => simp [intOf]; omega
      · have hfin : risesB ps = false := by
          cases hh : risesB ps with
          | false => rfl
          | true =>
            have := risesB_iff.1 hh (j - 1) q p Hg'.out (by rw [show j - 1 + 1 = j by omega]; exact Hg.out)
            omega
        have Hfin := Lib.hid hfin
        clear hfin
        rcases Bool.eq_false_or_eq_true (ltK p.1 q.1) with hlt2 | hlt2
        · rw [hlt2] at hls
          clear heq
          have Hlt2 := Lib.hid hlt2
          clear hlt2
          go_wp2_with (fail)
          refine wp_region_plan (.take 0 (.take 1 (.take 2 (.take 3 (.take 4 (.take 5 (.take 6 (.take 7 (.take 8 (.take 9 (.take 10 (.take 11 (.take 12 (.take 13 .done)))))))))))))) (fun wy => wy.cell? ⟨b, off + j * 2, none⟩ = some (.slice ka p.1.length kc) ∧ wy.cell? ⟨b, off + (j - 1) * 2, none⟩ = some (.slice qa q.1.length qc) ∧ (convert 23 9 (.slice ka p.1.length kc)).run Try.prog wy = .ok (.string (strOfNums p.1)) wy ∧ (convert 23 9 (.slice qa q.1.length qc)).run Try.prog wy = .ok (.string (strOfNums q.1)) wy) (by kernel_rfl) (by kernel_rfl) (by kernel_rfl) rfl ?_ (fun KK hKK => ?_)
          · exact ⟨c0, d0, hc1, hc2⟩
          repeat (first
            | (refine wpPlan_take (v := ?_) rfl (by rfl) (fun W hW => ?_) ?_; rotate_left; (focus ((try dsimp only at hW); go_split_ands; go_simp; (try with_reducible rfl); done)); (try simp only [Act.put, List.setIfInBounds_toArray, List.set_cons_zero, List.set_cons_succ]))
            | (refine wpPlan_skip rfl (by rfl) ?_; (try simp only [Act.put, List.setIfInBounds_toArray, List.set_cons_zero, List.set_cons_succ])))
          refine wpPlan_done (hKK.out _ _ ?_)
          clear hKK KK
          clear i4
          go_wp2_with (fail)
          go_ret
          rw [Hfin.out]
          exact ⟨rfl, ht.drew⟩
        · have hpq : p.1 = q.1 := cmpK_eq (by have h1 := ltK_false.1 hlt2; have h2 := cmpK_neg q.1 p.1; omega)
          rw [hlt2] at hls
          rw [beq_iff_eq.2 hpq] at heq
          have Hlt2 := Lib.hid hlt2
          clear hlt2
          have Hpq := Lib.hid hpq
          clear hpq
          go_wp2_with (fail)
          refine wp_region_plan (.take 0 (.take 1 (.take 2 (.take 3 (.take 4 (.take 5 (.take 6 (.take 7 (.take 8 (.take 9 (.take 10 (.take 11 (.take 12 (.take 13 .done)))))))))))))) (fun wy => wy.cell? ⟨b, off + j * 2, none⟩ = some (.slice ka p.1.length kc) ∧ wy.cell? ⟨b, off + (j - 1) * 2, none⟩ = some (.slice qa q.1.length qc) ∧ (convert 23 9 (.slice ka p.1.length kc)).run Try.prog wy = .ok (.string (strOfNums p.1)) wy ∧ (convert 23 9 (.slice qa q.1.length qc)).run Try.prog wy = .ok (.string (strOfNums q.1)) wy) (by kernel_rfl) (by kernel_rfl) (by kernel_rfl) rfl ?_ (fun KK hKK => ?_)
          · exact ⟨c0, d0, hc1, hc2⟩
          repeat (first
            | (refine wpPlan_take (v := ?_) rfl (by rfl) (fun W hW => ?_) ?_; rotate_left; (focus ((try dsimp only at hW); go_split_ands; go_simp; (try with_reducible rfl); done)); (try simp only [Act.put, List.setIfInBounds_toArray, List.set_cons_zero, List.set_cons_succ]))
            | (refine wpPlan_skip rfl (by rfl) ?_; (try simp only [Act.put, List.setIfInBounds_toArray, List.set_cons_zero, List.set_cons_succ])))
          refine wpPlan_done (hKK.out _ _ ?_)
          clear hKK KK
          clear i4
          go_wp2_with (fail)
          go_ret
          rw [Hfin.out]
          exact ⟨rfl, ht.drew⟩
    · have hfin : risesB ps = true := by
        refine risesB_iff.2 fun i p q hp hq => ?_
        have := (List.getElem?_eq_some_iff.1 hq).1
        exact Hall.out i p q (by omega) hp hq
      have Hfin := Lib.hid hfin
      clear hfin
      go_wp2_with (fail)
      go_ret
      rw [Hfin.out]
      exact ⟨rfl, ht⟩
end RefI
end Go.Proofs.Ythfnacadabhpdaa
