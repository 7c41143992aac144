/- A tree is built of pairs. -/
import Derived.Test.YtmdgmkmddkaadaaTreeB
import Derived.Test.YtmdgmkmddkaadaaModR
namespace Go.Proofs.Ytmdgmkmddkaadaa
open Go.RowKit
set_option linter.unusedVariables false
set_option linter.unusedSimpArgs false
namespace TreeD
open ModF (NewRet PutRet DropRet risesB risesB_step)
open ModA (Mq)
open TreeB
variable {F G : Nat → Prop}

set_option maxRecDepth 100000 in
set_option maxHeartbeats 1600000 in
/-- no key is too long -/
theorem may_ok (w : World) (v : Value) (ps : Prs) (h : RP w G v ps) (hm : ps.length ≤ 1000000) (hpk : PK ps) :
    Calls Try.prog 82 #[v] w fun e w' => e = .returned (.int .i64 (if risesB ps then 0 else 9)) ∧ Ext w w' := by
  obtain ⟨a, c, rfl, l1, m1, hn⟩ := h.shape
  unfold maxLen at m1
  have H := Lib.hid h
  clear h
  have Hpk := Lib.hid hpk
  clear hpk
  go_enter Try.func82, Try.ntmps82
  go_wp2_with (fail)
  go_loopw [7] (fun s7 wr => ∃ j : Nat, j ≤ ps.length ∧ s7 = .int .i64 j ∧ Ext w wr) (fun s7 _ => ps.length - (intOf s7).toNat)
  case atStart => exact ⟨0, by omega, rfl, Touch.refl _ _⟩
  case round =>
    obtain ⟨j, hj, rfl, ht⟩ := hrel
    by_cases hlt : j < ps.length
    · obtain ⟨b, off, rfl, _⟩ := H.out.addr (by omega)
      have hg := List.getElem?_eq_getElem hlt
      obtain ⟨kv, c0, c1, hkb⟩ := (H.out.ext ht).get j _ hg
      have hpp := Hpk.out _ (List.mem_of_getElem? hg)
      generalize ps[j] = p at *
      obtain ⟨ka, kc, rfl, l2, m2, n2⟩ := hkb.shape
      have i0 : (0 : Int) ≤ (j : Int) := by omega
      have i1 : (j : Int) < (ps.length : Int) := by omega
      have ta : Ext wr (wr.alloc (.cells #[.slice ka p.1.length kc, .int .u64 p.2] 33)) := (Touch.refl _ _).alloc _
      have hmay := may_any _ _ _ p.1 (hkb.ext ta)
      rw [decide_eq_true hpp.2] at hmay
      have Hg := Lib.hid hg
      clear hg
      have Hkb := Lib.hid hkb
      clear hkb
      have Hpp := Lib.hid hpp
      clear hpp
      have Hmay := Lib.hid hmay
      clear hmay
      go_wp2_with (fail)
      refine Hmay.out.mono ?_
      rintro e w2 ⟨rfl, rfl⟩
      go_wp2_with (fail)
      go_roundw
      case rel => exact ⟨j + 1, by omega, by go_num, ht.trans' ta⟩
      case measure => simp [intOf]; omega
    · have i1 : ¬ (j : Int) < (ps.length : Int) := by omega
      have hri := ModF.rises_any wr _ ps (H.out.ext ht) hm (fun p hp => (Hpk.out p hp).1)
      cases hb : risesB ps with
      | true =>
        rw [hb] at hri
        have Hri := Lib.hid hri
        clear hri
        go_wp2_with (fail)
        (with_reducible refine Hri.out.mono ?_)
        rintro e w2 ⟨rfl, t2⟩
        go_wp2_with (fail)
        all_goals
          go_ret
          exact ⟨rfl, ht.trans' t2⟩
      | false =>
        rw [hb] at hri
        have Hri := Lib.hid hri
        clear hri
        go_wp2_with (fail)
        (with_reducible refine Hri.out.mono ?_)
        rintro e w2 ⟨rfl, t2⟩
        go_wp2_with (fail)
        all_goals
          go_ret
          exact ⟨rfl, ht.trans' t2⟩

set_option maxRecDepth 100000 in
set_option maxHeartbeats 1600000 in
/-- the first key is too long -/
theorem may_long (w : World) (v : Value) (p : List Int × Int) (ps : Prs) (h : RP w G v (p :: ps)) (hm : ps.length ≤ 1000000) (hl : 65535 < p.1.length) :
    Calls Try.prog 82 #[v] w fun e w' => e = .returned (.int .i64 3) ∧ Ext w w' := by
  obtain ⟨a, c, rfl, l1, m1, hn⟩ := h.shape
  unfold maxLen at m1
  obtain ⟨b, off, rfl, _⟩ := h.addr (by simp)
  obtain ⟨kv, c0, c1, hkb⟩ := h.get 0 p rfl
  obtain ⟨ka, kc, rfl, l2, m2, n2⟩ := hkb.shape
  have ta : Ext w (w.alloc (.cells #[.slice ka p.1.length kc, .int .u64 p.2] 33)) := (Touch.refl _ _).alloc _
  have hmay := may_any _ _ _ p.1 (hkb.ext ta)
  rw [decide_eq_false (by omega)] at hmay
  have hn1 : (p :: ps).length = ps.length + 1 := rfl
  rw [hn1] at l1 ⊢
  have i1 : (0 : Int) < ((ps.length + 1 : Nat) : Int) := by omega
  simp only [Nat.zero_mul, Nat.add_zero] at c0 c1
  have H := Lib.hid h
  clear h
  have Hkb := Lib.hid hkb
  clear hkb
  have Hmay := Lib.hid hmay
  clear hmay
  go_enter Try.func82, Try.ntmps82
  go_wp2_with (fail)
  refine wp_loop_rounds 1 ?_
  rw [rounds_succ]
  go_wp2_with (fail)
  refine Hmay.out.mono ?_
  rintro e w2 ⟨rfl, rfl⟩
  go_wp2_with (fail)
  go_ret
  exact ⟨rfl, ta⟩

theorem build_nil (w : World) (v : Value) : Calls Try.prog 41 #[.pointer none, v] w fun e w' => e = .returned (.int .i64 1) ∧ w = w' := by
  go_enter Try.func41, Try.ntmps41
  go_wp2_with (fail)
  go_ret
  exact ⟨rfl, rfl⟩
theorem build_long (w : World) (t : Nat) (v : Value) (p : List Int × Int) (ps : Prs) (h : RP w G v (p :: ps)) (hm : ps.length ≤ 1000000) (hl : 65535 < p.1.length) :
    Calls Try.prog 41 #[.pointer (some ⟨t, 0, none⟩), v] w fun e w' => e = .returned (.int .i64 3) ∧ Ext w w' := by
  have hmy := may_long w v p ps h hm hl
  have Hmy := Lib.hid hmy
  clear hmy
  have H := Lib.hid h
  clear h
  go_enter Try.func41, Try.ntmps41
  go_wp2_with (fail)
  (with_reducible refine Hmy.out.mono ?_)
  rintro e w2 ⟨rfl, t2⟩
  go_wp2_with (fail)
  go_ret
  exact ⟨rfl, t2⟩
theorem build_order (w : World) (t : Nat) (v : Value) (ps : Prs) (h : RP w G v ps) (hm : ps.length ≤ 1000000) (hpk : PK ps) (hr : risesB ps = false) :
    Calls Try.prog 41 #[.pointer (some ⟨t, 0, none⟩), v] w fun e w' => e = .returned (.int .i64 9) ∧ Ext w w' := by
  have hmy := may_ok w v ps h hm hpk
  rw [hr] at hmy
  simp only [Bool.false_eq_true, if_false] at hmy
  have Hmy := Lib.hid hmy
  clear hmy
  have H := Lib.hid h
  clear h
  have Hr := Lib.hid hr
  clear hr
  have Hpk := Lib.hid hpk
  clear hpk
  go_enter Try.func41, Try.ntmps41
  go_wp2_with (fail)
  (with_reducible refine Hmy.out.mono ?_)
  rintro e w2 ⟨rfl, t2⟩
  go_wp2_with (fail)
  go_ret
  exact ⟨rfl, t2⟩

/-- what Build comes to where there is room -/
def TBuild (w : World) (t : Nat) (F : Nat → Prop) (ps : Prs) (most : Int) (e : Ending) (w' : World) : Prop :=
  e = .returned (.int .i64 0) ∧ ∃ F', Tp w' t F' ps most ∧ Touch (fun b => b = t) w w' ∧ ∀ b, F' b → b = t ∨ w.heap.size ≤ b

theorem sz_one (k : List Int) (v : Int) : 0 < szK (putK [] k v) := by simp [szK, putK, rk, hasK]
theorem shape_none (w : World) (v : Value) (h : Tq w v F []) : Calls Try.prog 30 #[v] w fun e w' => e = .returned (.slice none 0 0) ∧ Ext w w' := by
  have hl := TreeA.len_any w v [] h
  have Hl := Lib.hid hl
  clear hl
  have H := Lib.hid h
  clear h
  go_enter Try.func30, Try.ntmps30
  go_wp2_with (fail)
  (with_reducible refine Hl.out.mono ?_)
  rintro e w1 ⟨rfl, rfl⟩
  go_wp2_with (fail)
  go_ret
  exact ⟨rfl, Touch.refl _ _⟩
set_option maxRecDepth 100000 in
set_option maxHeartbeats 1600000 in
theorem build_ok (w : World) (t : Nat) (v : Value) (qs ps : Prs) (most : Int) (ht : Tp w t F qs most) (h : RP w G v ps) (hm : ps.length ≤ 1000000) (hpk : PK ps) (hr : Rises ps) (hroom : (szK ps : Int) ≤ most) :
    Calls Try.prog 41 #[.pointer (some ⟨t, 0, none⟩), v] w (TBuild w t F ps most) := by
  obtain ⟨a, c, rfl, l1, m1, hn⟩ := h.shape
  unfold maxLen at m1
  have hmy := may_ok w _ ps h hm hpk
  rw [risesB_step.2 hr] at hmy
  simp only [if_true] at hmy
  obtain ⟨g, Fm, c0, c1, f0, f1, hmp, hF, hFt, hlt, hsz, hmost⟩ := ht
  have hcl := fun W => cells_any ps.length W (by omega) (by omega)
  have hz : max (2 * (ps.length : Int) - 1) 0 = ((szK ps : Nat) : Int) := by unfold szK; omega
  rw [hz] at hcl
  have hb : decide (most < ((szK ps : Nat) : Int)) = false := by simp; omega
  have hnew := fun W (x : Ext w W) => ModF.new_any W _ ps (h.ext x) hm hpk
  rw [ModR.mk_self hr] at hnew
  unfold NewRet at hnew
  have hszp := hroom
  generalize hgz : szK ps = z at *
  unfold TBuild
  have htl := World.block_lt_of_cell? _ _ c0
  simp only at htl
  have Hmy := Lib.hid hmy
  clear hmy
  have Hmp := Lib.hid hmp
  clear hmp
  have HF := Lib.hid hF
  clear hF
  have HFt := Lib.hid hFt
  clear hFt
  have Hlt := Lib.hid hlt
  clear hlt
  have Hsz := Lib.hid hsz
  clear hsz
  have Hz := Lib.hid hz
  clear hz
  have Hcl := Lib.hid hcl
  clear hcl
  have Hnew := Lib.hid hnew
  clear hnew
  have Hszp := Lib.hid hszp
  clear hszp
  have Hroom := Lib.hid hroom
  clear hroom
  have H := Lib.hid h
  clear h
  have Hpk := Lib.hid hpk
  clear hpk
  have Hr := Lib.hid hr
  clear hr
  have Hgz := Lib.hid hgz
  clear hgz
  go_enter Try.func41, Try.ntmps41
  go_wp2_with (fail)
  (with_reducible refine Hmy.out.mono ?_)
  rintro e w2 ⟨rfl, t2⟩
  have d0 := keepc t2 id c0
  have d1 := keepc t2 id c1
  go_wp2_with (fail)
  refine wp_region_plan (.take 0 (.take 1 (.take 3 (.take 4 (.take 5 (.take 6 (.must 2 (.take 7 .done)))))))) (fun wy => wy.cell? ⟨t, 1, none⟩ = some (.int .i64 most)) (by kernel_rfl) (by kernel_rfl) (by kernel_rfl) rfl ?_ (fun KK hKK => ?_)
  · exact d1
  repeat (first
    | (refine wpPlan_take (v := ?_) rfl (by rfl) (fun W hW => ?_) ?_; rotate_left; (focus ((try dsimp only at hW); go_split_ands; go_simp; (try with_reducible rfl); done)); (try simp only [Act.put, List.setIfInBounds_toArray, List.set_cons_zero, List.set_cons_succ]))
    | (refine wpPlan_skip rfl (by rfl) ?_; (try simp only [Act.put, List.setIfInBounds_toArray, List.set_cons_zero, List.set_cons_succ])))
  refine wpPlan_must rfl (by rfl) (fun K hK => ?_)
  go_simp
  (with_reducible refine (Hcl.out _).mono ?_)
  rintro e w3 ⟨rfl, rfl⟩
  refine hK.out _ _ ?_ ?_
  · exact d1
  clear hK K
  (try simp only [Act.put, List.setIfInBounds_toArray, List.set_cons_zero, List.set_cons_succ])
  repeat (first
    | (refine wpPlan_take (v := ?_) rfl (by rfl) (fun W hW => ?_) ?_; rotate_left; (focus ((try dsimp only at hW); go_split_ands; go_simp; (try with_reducible rfl); done)); (try simp only [Act.put, List.setIfInBounds_toArray, List.set_cons_zero, List.set_cons_succ]))
    | (refine wpPlan_skip rfl (by rfl) ?_; (try simp only [Act.put, List.setIfInBounds_toArray, List.set_cons_zero, List.set_cons_succ])))
  refine wpPlan_done (hKK.out _ _ ?_)
  clear hKK KK
  go_wp2_with (fail)
  (with_reducible refine (Hnew.out _ t2.drew).mono ?_)
  rintro e w4 ⟨g2, F2, rfl, hm2, hF2, t4⟩
  have x4 := t2.drew.trans' t4
  have e0 := keepc x4 id c0
  have e1 := keepc x4 id c1
  have g0 := keepf (p := ⟨t, 0, none⟩) x4 htl id f0
  have g1 := keepf (p := ⟨t, 1, none⟩) x4 htl id f1
  have hs := t2.size
  have Hm2 := Lib.hid hm2
  clear hm2
  have HF2 := Lib.hid hF2
  clear hF2
  go_wp2_with (fail)
  go_ret
  have tt : Touch (fun b => b = t) w4 (w4.setCell ⟨t, 0, none⟩ (.pointer (some ⟨g2, 0, none⟩))) := Touch.setCell (S := fun b => b = t) (Touch.refl _ _) (p := ⟨t, 0, none⟩) (Or.inl rfl) _
  have hne : ∀ b, F2 b → b ≠ t := fun b hb h => by have h1 : w2.heap.size ≤ b := HF2.out b hb; omega
  refine ⟨rfl, fun b => b = t ∨ F2 b, ⟨g2, F2, World.cell?_setCell_same _ _ _ e0, by rw [World.cell?_setCell_other _ _ _ _ (by simp)]; exact e1, by rw [World.frozen?_setCell]; exact g0, by rw [World.frozen?_setCell]; exact g1,
    Hm2.out.keep tt (fun b hb h => hne b hb h), fun b hb => ⟨Or.inr hb, hne b hb⟩, Or.inl rfl, fun b hb => ?_, by rw [Hgz.out]; exact Hszp.out, hmost⟩, x4.ext_trans tt, fun b hb => ?_⟩
  · rcases hb with rfl | hb
    · exact Nat.lt_of_lt_of_le htl (Nat.le_trans x4.size tt.size)
    · exact Nat.lt_of_lt_of_le (Hm2.out.lt b hb) tt.size
  · rcases hb with rfl | hb
    · exact Or.inl rfl
    · exact Or.inr (Nat.le_trans hs (HF2.out b hb))
end TreeD
end Go.Proofs.Ytmdgmkmddkaadaa
