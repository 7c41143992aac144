/- The document's own map (brambleref7): where a key stands. -/
import Derived.Test.YtclnnkacfanaiaaDoorModY
namespace Go.Proofs.YtclnnkacfanaiaaDoor
open Go.RowKit
set_option linter.unusedVariables false
set_option linter.unusedSimpArgs false

/-- a map of the document at block r: its row is read only; a change lays a new one -/
def Rf (w : World) (r : Nat) (F : Nat → Prop) (ps : Prs) : Prop :=
  ∃ v, w.cell? ⟨r, 0, none⟩ = some v ∧ w.frozen? ⟨r, 0, none⟩ = false ∧ RP w (fun b => F b ∧ b ≠ r) v ps ∧ F r ∧ (∀ b, F b → b < w.heap.size) ∧ Rises ps ∧ (∀ p ∈ ps, KB p.1 ∧ p.1.length ≤ 65535)
namespace Rf
variable {w w' : World} {r : Nat} {F S : Nat → Prop} {ps : Prs}
theorem keep (h : Rf w r F ps) (t : Touch S w w') (hd : ∀ b, F b → ¬ S b) : Rf w' r F ps := by
  obtain ⟨v, h1, h2, h3, h4, h5, h6, h7⟩ := h
  exact ⟨v, keepc t (hd r h4) h1, keepf (p := ⟨r, 0, none⟩) t (World.block_lt_of_cell? _ _ h1) (hd r h4) h2, h3.keep t (fun b hb => hd b hb.1), h4, fun b hb => Nat.lt_of_lt_of_le (h5 b hb) t.size, h6, h7⟩
theorem ext (h : Rf w r F ps) (t : Ext w w') : Rf w' r F ps := h.keep t (fun _ _ h => h)
theorem row (h : Rf w r F ps) : ∃ v, w.cell? ⟨r, 0, none⟩ = some v ∧ RP w F v ps := by
  obtain ⟨v, h1, _, h3, _⟩ := h; exact ⟨v, h1, h3.mono fun b hb => hb.1⟩
theorem rises (h : Rf w r F ps) : Rises ps := by obtain ⟨_, _, _, _, _, _, h, _⟩ := h; exact h
theorem kb (h : Rf w r F ps) : ∀ p ∈ ps, KB p.1 := by obtain ⟨_, _, _, _, _, _, _, h⟩ := h; exact fun p hp => (h p hp).1
theorem long (h : Rf w r F ps) : ∀ p ∈ ps, p.1.length ≤ 65535 := by obtain ⟨_, _, _, _, _, _, _, h⟩ := h; exact fun p hp => (h p hp).2
end Rf

namespace RefA
variable {F G : Nat → Prop}

set_option maxRecDepth 100000 in
set_option maxHeartbeats 1600000 in
theorem rank_any (w : World) (r : Nat) (kw : Value) (ps : Prs) (k : List Int) (h : Rf w r F ps) (hk : RB w G kw k) (kb : KB k) (hm : ps.length ≤ 1000000) :
    Calls Tryd.prog 64 #[.pointer (some ⟨r, 0, none⟩), kw] w fun e w' => e = .returned (.int .i64 (rk ps k)) ∧ Ext w w' := by
  obtain ⟨v, c0, hrp⟩ := h.row
  obtain ⟨a, c, rfl, l1, m1, _⟩ := hrp.shape
  obtain ⟨ka, kc, rfl, _⟩ := hk.shape
  unfold maxLen at m1
  have hrl := rk_le ps k
  have hlt := fun j p (hj : j < rk ps k) (hp : ps[j]? = some p) => rk_lt hj hp
  have hge := fun p (hp : ps[rk ps k]? = some p) => rk_ge hp
  generalize rk ps k = n at *
  have H := Lib.hid h
  clear h
  have Hrp := Lib.hid hrp
  clear hrp
  have Hk := Lib.hid hk
  clear hk
  have Kb := Lib.hid kb
  clear kb
  have Hlt := Lib.hid hlt
  clear hlt
  have Hge := Lib.hid hge
  clear hge
  go_enter Tryd.func64, Tryd.ntmps64
  go_wp2_with (fail)
  go_loopw [5] (fun s5 wr => ∃ j : Nat, j ≤ n ∧ s5 = .int .i64 j ∧ Ext w wr) (fun s5 _ => n - (intOf s5).toNat)
  case atStart => exact ⟨0, by omega, rfl, Touch.refl _ _⟩
  case round =>
    obtain ⟨j, hj, rfl, ht⟩ := hrel
    have y0 := keepc ht id c0
    by_cases hjl : j < ps.length
    · obtain ⟨b, off, rfl, _⟩ := Hrp.out.addr (by omega)
      have hg := List.getElem?_eq_getElem hjl
      obtain ⟨kv, d0, d1, hkv⟩ := (Hrp.out.ext ht).get _ _ hg
      have hpk := H.out.kb _ (List.mem_of_getElem? hg)
      have hlt' := Hlt.out j ps[j]
      have hge' := Hge.out ps[j]
      generalize ps[j] = p at *
      obtain ⟨qa, qc, rfl, _⟩ := hkv.shape
      have i1 : (j : Int) < (ps.length : Int) := by omega
      have i2 : (0 : Int) ≤ (j : Int) := by omega
      have hc1 := conv_any wr.drew F qa p.1.length qc p.1 (hkv.ext (Touch.refl _ _).drew)
      have hc2 := conv_any wr.drew G ka k.length kc k ((Hk.out.ext ht).ext (Touch.refl _ _).drew)
      have hls := less_str hpk Kb.out
      by_cases hlt2 : j < n
      · rw [hlt' hlt2 hg] at hls
        have Hg := Lib.hid hg
        clear hg
        have Hkv := Lib.hid hkv
        clear hkv
        have Hpk := Lib.hid hpk
        clear hpk
        have Hlt' := Lib.hid hlt'
        clear hlt'
        have Hge' := Lib.hid hge'
        clear hge'
        go_wp2_with (fail)
        refine wp_region_plan (.take 0 (.take 1 (.take 2 (.take 3 (.take 4 (.take 5 (.take 6 (.take 7 (.take 8 (.take 9 (.take 10 (.take 11 (.take 12 (.take 13 (.take 14 (.take 15 (.take 16 (.take 17 (.take 18 (.take 19 (.take 20 .done))))))))))))))))))))) (fun wy => wy.cell? ⟨r, 0, none⟩ = some (.slice (some ⟨b, off, none⟩) ps.length c) ∧ wy.cell? ⟨b, off + j * 2, none⟩ = some (.slice qa p.1.length qc) ∧ (convert 23 9 (.slice qa p.1.length qc)).run Tryd.prog wy = .ok (.string (strOfNums p.1)) wy ∧ (convert 23 9 (.slice ka k.length kc)).run Tryd.prog wy = .ok (.string (strOfNums k)) wy) (by kernel_rfl) (by kernel_rfl) (by kernel_rfl) rfl ?_ (fun KK hKK => ?_)
        · exact ⟨y0, d0, hc1, hc2⟩
        repeat (first
          | (refine wpPlan_take (v := ?_) rfl (by rfl) (fun W hW => ?_) ?_; rotate_left; (focus ((try dsimp only at hW); go_split_ands; go_simp; (try with_reducible rfl); done)); (try simp only [Act.put, List.setIfInBounds_toArray, List.set_cons_zero, List.set_cons_succ]))
          | (refine wpPlan_skip rfl (by rfl) ?_; (try simp only [Act.put, List.setIfInBounds_toArray, List.set_cons_zero, List.set_cons_succ])))
        refine wpPlan_done (hKK.out _ _ ?_)
        clear hKK KK
        clear hc1 hc2 hls
        go_wp2_with (fail)
        go_roundw
        case rel => exact ⟨j + 1, by omega, by go_num, ht.drew⟩
        case measure => simp [intOf]; omega
      · obtain rfl : j = n := by omega
        rw [hge' hg] at hls
        have Hg := Lib.hid hg
        clear hg
        have Hkv := Lib.hid hkv
        clear hkv
        have Hpk := Lib.hid hpk
        clear hpk
        have Hlt' := Lib.hid hlt'
        clear hlt'
        have Hge' := Lib.hid hge'
        clear hge'
        go_wp2_with (fail)
        refine wp_region_plan (.take 0 (.take 1 (.take 2 (.take 3 (.take 4 (.take 5 (.take 6 (.take 7 (.take 8 (.take 9 (.take 10 (.take 11 (.take 12 (.take 13 (.take 14 (.take 15 (.take 16 (.take 17 (.take 18 (.take 19 (.take 20 .done))))))))))))))))))))) (fun wy => wy.cell? ⟨r, 0, none⟩ = some (.slice (some ⟨b, off, none⟩) ps.length c) ∧ wy.cell? ⟨b, off + j * 2, none⟩ = some (.slice qa p.1.length qc) ∧ (convert 23 9 (.slice qa p.1.length qc)).run Tryd.prog wy = .ok (.string (strOfNums p.1)) wy ∧ (convert 23 9 (.slice ka k.length kc)).run Tryd.prog wy = .ok (.string (strOfNums k)) wy) (by kernel_rfl) (by kernel_rfl) (by kernel_rfl) rfl ?_ (fun KK hKK => ?_)
        · exact ⟨y0, d0, hc1, hc2⟩
        repeat (first
          | (refine wpPlan_take (v := ?_) rfl (by rfl) (fun W hW => ?_) ?_; rotate_left; (focus ((try dsimp only at hW); go_split_ands; go_simp; (try with_reducible rfl); done)); (try simp only [Act.put, List.setIfInBounds_toArray, List.set_cons_zero, List.set_cons_succ]))
          | (refine wpPlan_skip rfl (by rfl) ?_; (try simp only [Act.put, List.setIfInBounds_toArray, List.set_cons_zero, List.set_cons_succ])))
        refine wpPlan_done (hKK.out _ _ ?_)
        clear hKK KK
        clear hc1 hc2 hls
        go_wp2_with (fail)
        go_ret
        exact ⟨rfl, ht.drew⟩
    · obtain rfl : j = ps.length := by omega
      obtain rfl : n = ps.length := by omega
      have i1 : ¬ ((ps.length : Nat) : Int) < (ps.length : Int) := by omega
      go_wp2_with (fail)
      refine wp_region_plan (.take 0 (.take 1 (.take 2 (.take 3 (.take 4 (.take 5 (.take 6 (.take 7 (.take 8 (.take 9 (.take 10 (.take 11 (.take 12 (.take 13 (.take 14 (.take 15 (.take 16 (.take 17 (.take 18 (.take 19 (.take 20 .done))))))))))))))))))))) (fun wy => wy.cell? ⟨r, 0, none⟩ = some (.slice a ps.length c)) (by kernel_rfl) (by kernel_rfl) (by kernel_rfl) rfl ?_ (fun KK hKK => ?_)
      · exact y0
      repeat (first
        | (refine wpPlan_take (v := ?_) rfl (by rfl) (fun W hW => ?_) ?_; rotate_left; (focus ((try dsimp only at hW); go_split_ands; go_simp; (try with_reducible rfl); done)); (try simp only [Act.put, List.setIfInBounds_toArray, List.set_cons_zero, List.set_cons_succ]))
        | (refine wpPlan_skip rfl (by rfl) ?_; (try simp only [Act.put, List.setIfInBounds_toArray, List.set_cons_zero, List.set_cons_succ])))
      refine wpPlan_done (hKK.out _ _ ?_)
      clear hKK KK
      go_wp2_with (fail)
      go_ret
      exact ⟨rfl, ht.drew⟩

set_option maxRecDepth 100000 in
set_option maxHeartbeats 1600000 in
theorem find_any (w : World) (r : Nat) (kw : Value) (ps : Prs) (k : List Int) (h : Rf w r F ps) (hk : RB w G kw k) (kb : KB k) (hm : ps.length ≤ 1000000) :
    Calls Tryd.prog 39 #[.pointer (some ⟨r, 0, none⟩), kw] w fun e w' => e = .returned (.tuple #[.int .i64 (rk ps k), .bool (hasK ps k)]) ∧ Ext w w' := by
  have hrank := rank_any w r kw ps k h hk kb hm
  obtain ⟨v, c0, hrp⟩ := h.row
  obtain ⟨a, c, rfl, l1, m1, _⟩ := hrp.shape
  obtain ⟨ka, kc, rfl, _⟩ := hk.shape
  unfold maxLen at m1
  have hrl := rk_le ps k
  have hh : hasK ps k = match ps[rk ps k]? with | some p => p.1 == k | none => false := rfl
  generalize rk ps k = n at *
  have H := Lib.hid h
  clear h
  have Hrp := Lib.hid hrp
  clear hrp
  have Hk := Lib.hid hk
  clear hk
  have Kb := Lib.hid kb
  clear kb
  have Hrank := Lib.hid hrank
  clear hrank
  go_enter Tryd.func39, Tryd.ntmps39
  by_cases hjl : n < ps.length
  · obtain ⟨b, off, rfl, _⟩ := Hrp.out.addr (by omega)
    have hg := List.getElem?_eq_getElem hjl
    have hpk := H.out.kb _ (List.mem_of_getElem? hg)
    rw [hg] at hh
    simp only at hh
    generalize ps[n] = p at *
    have hls := same_str hpk Kb.out
    rw [← hh] at hls
    generalize hasK ps k = hb at *
    have i1 : (n : Int) < (ps.length : Int) := by omega
    have i2 : (0 : Int) ≤ (n : Int) := by omega
    have Hg := Lib.hid hg
    clear hg
    have Hpk := Lib.hid hpk
    clear hpk
    have Hh := Lib.hid hh
    clear hh
    have Hls := Lib.hid hls
    clear hls
    go_wp2_with (fail)
    (with_reducible refine Hrank.out.mono ?_)
    rintro e w1 ⟨rfl, ht⟩
    obtain ⟨kv, d0, d1, hkv⟩ := (Hrp.out.ext ht).get _ _ Hg.out
    obtain ⟨qa, qc, rfl, _⟩ := hkv.shape
    have y0 := keepc ht id c0
    have hc1 := conv_any w1.drew F qa p.1.length qc p.1 (hkv.ext (Touch.refl _ _).drew)
    have hc2 := conv_any w1.drew G ka k.length kc k ((Hk.out.ext ht).ext (Touch.refl _ _).drew)
    have hls := Hls.out
    have Hkv := Lib.hid hkv
    clear hkv
    go_wp2_with (fail)
    refine wp_region_plan (.take 0 (.take 1 (.take 2 (.take 3 (.take 4 (.take 5 (.take 6 (.take 7 (.take 8 (.take 9 (.take 10 (.take 11 (.take 12 (.take 13 (.take 14 (.take 15 (.take 16 (.take 17 (.take 18 (.take 19 (.take 20 (.take 21 (.take 22 (.take 23 .done)))))))))))))))))))))))) (fun wy => wy.cell? ⟨r, 0, none⟩ = some (.slice (some ⟨b, off, none⟩) ps.length c) ∧ wy.cell? ⟨b, off + n * 2, none⟩ = some (.slice qa p.1.length qc) ∧ (convert 23 9 (.slice qa p.1.length qc)).run Tryd.prog wy = .ok (.string (strOfNums p.1)) wy ∧ (convert 23 9 (.slice ka k.length kc)).run Tryd.prog wy = .ok (.string (strOfNums k)) wy) (by kernel_rfl) (by kernel_rfl) (by kernel_rfl) rfl ?_ (fun KK hKK => ?_)
    · exact ⟨y0, d0, hc1, hc2⟩
    repeat (first
      | (refine wpPlan_take (v := ?_) rfl (by rfl) (fun W hW => ?_) ?_; rotate_left; (focus ((try dsimp only at hW); go_split_ands; go_simp; (try with_reducible rfl); done)); (try simp only [Act.put, List.setIfInBounds_toArray, List.set_cons_zero, List.set_cons_succ]))
      | (refine wpPlan_skip rfl (by rfl) ?_; (try simp only [Act.put, List.setIfInBounds_toArray, List.set_cons_zero, List.set_cons_succ])))
    refine wpPlan_done (hKK.out _ _ ?_)
    clear hKK KK
    clear hc1 hc2 hls
    go_wp2_with (fail)
    go_ret2
    exact ⟨rfl, ht.drew⟩
  · obtain rfl : n = ps.length := by omega
    rw [List.getElem?_eq_none (Nat.le_refl _)] at hh
    simp only at hh
    have i1 : ¬ ((ps.length : Nat) : Int) < (ps.length : Int) := by omega
    rw [hh]
    have Hh := Lib.hid hh
    clear hh
    go_wp2_with (fail)
    (with_reducible refine Hrank.out.mono ?_)
    rintro e w1 ⟨rfl, ht⟩
    have y0 := keepc ht id c0
    go_wp2_with (fail)
    refine wp_region_plan (.take 0 (.take 1 (.take 2 (.take 3 (.take 4 (.take 5 (.take 6 (.take 7 (.take 8 (.take 9 (.take 10 (.take 11 (.take 12 (.take 13 (.take 14 (.take 15 (.take 16 (.take 17 (.take 18 (.take 19 (.take 20 (.take 21 (.take 22 (.take 23 .done)))))))))))))))))))))))) (fun wy => wy.cell? ⟨r, 0, none⟩ = some (.slice a ps.length c)) (by kernel_rfl) (by kernel_rfl) (by kernel_rfl) rfl ?_ (fun KK hKK => ?_)
    · exact y0
    repeat (first
      | (refine wpPlan_take (v := ?_) rfl (by rfl) (fun W hW => ?_) ?_; rotate_left; (focus ((try dsimp only at hW); go_split_ands; go_simp; (try with_reducible rfl); done)); (try simp only [Act.put, List.setIfInBounds_toArray, List.set_cons_zero, List.set_cons_succ]))
      | (refine wpPlan_skip rfl (by rfl) ?_; (try simp only [Act.put, List.setIfInBounds_toArray, List.set_cons_zero, List.set_cons_succ])))
    refine wpPlan_done (hKK.out _ _ ?_)
    clear hKK KK
    go_wp2_with (fail)
    go_ret2
    exact ⟨rfl, ht.drew⟩

theorem get_any (w : World) (r : Nat) (kw : Value) (ps : Prs) (k : List Int) (h : Rf w r F ps) (hk : RB w G kw k) (kb : KB k) (hm : ps.length ≤ 1000000) :
    Calls Tryd.prog 30 #[.pointer (some ⟨r, 0, none⟩), kw] w fun e w' => e = .returned (.tuple #[.int .u64 (valK ps k), .bool (hasK ps k)]) ∧ Ext w w' := by
  have hfind := find_any w r kw ps k h hk kb hm
  obtain ⟨v, c0, hrp⟩ := h.row
  obtain ⟨a, c, rfl, l1, m1, _⟩ := hrp.shape
  unfold maxLen at m1
  cases hh : hasK ps k with
  | false =>
    rw [valK_none hh]
    rw [hh] at hfind
    have H := Lib.hid h
    clear h
    have Hrp := Lib.hid hrp
    clear hrp
    have Hk := Lib.hid hk
    clear hk
    have Hfind := Lib.hid hfind
    clear hfind
    have Hh := Lib.hid hh
    clear hh
    go_enter Tryd.func30, Tryd.ntmps30
    go_wp2_with (fail)
    (with_reducible refine Hfind.out.mono ?_)
    rintro e w1 ⟨rfl, ht⟩
    go_wp2_with (fail)
    go_ret2
    exact ⟨rfl, ht⟩
  | true =>
    rw [hh] at hfind
    obtain ⟨x, hx, hv⟩ := hasK_some hh
    have hjl := hasK_lt hh
    rw [hv]
    generalize rk ps k = n at *
    obtain ⟨b, off, rfl, _⟩ := hrp.addr (by omega)
    obtain ⟨kv, d0, d1, hkv⟩ := hrp.get _ _ hx
    have i1 : (n : Int) < (ps.length : Int) := by omega
    have i2 : (0 : Int) ≤ (n : Int) := by omega
    have H := Lib.hid h
    clear h
    have Hrp := Lib.hid hrp
    clear hrp
    have Hk := Lib.hid hk
    clear hk
    have Hfind := Lib.hid hfind
    clear hfind
    have Hh := Lib.hid hh
    clear hh
    have Hx := Lib.hid hx
    clear hx
    have Hv := Lib.hid hv
    clear hv
    have Hkv := Lib.hid hkv
    clear hkv
    go_enter Tryd.func30, Tryd.ntmps30
    go_wp2_with (fail)
    (with_reducible refine Hfind.out.mono ?_)
    rintro e w1 ⟨rfl, ht⟩
    have y0 := keepc ht id c0
    have y1 := keepc ht id d1
    go_wp2_with (fail)
    go_ret2
    exact ⟨rfl, ht⟩
end RefA
end Go.Proofs.YtclnnkacfanaiaaDoor
