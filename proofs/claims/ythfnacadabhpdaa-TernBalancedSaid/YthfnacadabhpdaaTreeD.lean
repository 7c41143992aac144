/- A tree is built of pairs. -/
import Derived.Test.YthfnacadabhpdaaTreeB
import Derived.Test.YthfnacadabhpdaaModR
namespace Go.Proofs.Ythfnacadabhpdaa
open Go.RowKit
set_option linter.unusedVariables false
set_option linter.unusedSimpArgs false
namespace TreeD
open ModF (NewRet PutRet DropRet risesB risesB_step)
open ModA (Mq)
open TreeB
variable {F G : Nat → Prop}

set_option maxRecDepth 100000 in
set_option maxHeartbeats 1600000 in
/-- no key is too long -/
theorem may_ok (w : World) (v : Value) (ps : Prs) (h : RP w G v ps) (hm : ps.length ≤ 1000000) (hpk : PK ps) :
    Calls Try.prog 69 #[v] w fun e w' => e = .returned (.int .i64 (if risesB ps then 0 else 9)) ∧ Ext w w' := by
  obtain ⟨a, c, rfl, l1, m1, hn⟩ := h.shape
  unfold maxLen at m1
  have H := Lib.hid h
  clear h
  have Hpk := Lib.hid hpk
  clear hpk
  go_enter Try.func69, Try.ntmps69
  go_wp2_with (fail)
  go_loopw [7] (fun s7 wr => ∃ j : Nat, j ≤ ps.length ∧ s7 = .int .i64 j ∧ Ext w wr) (fun s7 _ => ps.length - (intOf s7).toNat)
  case atStart => exact ⟨0, by omega, rfl, Touch.refl _ _⟩
  case round =>
    obtain ⟨j, hj, rfl, ht⟩ := hrel
    by_cases hlt : j < ps.length
    · obtain ⟨b, off, rfl, _⟩ := H.out.addr (by omega)
      have hg := List.getElem?_eq_getElem hlt
      obtain ⟨kv, c0, c1, hkb⟩ := (H.out.ext ht).get j _ hg
      have hpp := Hpk.out _ (List.mem_of_getElem? hg)
      generalize ps[j] = p at *
      obtain ⟨ka, kc, rfl, l2, m2, n2⟩ := hkb.shape
      have i0 : (0 : Int) ≤ (j : Int) := by omega
      have i1 : (j : Int) < (ps.length : Int) := by omega
      have ta : Ext wr (wr.alloc (.cells #[.slice ka p.1.length kc, .int .u64 p.2] 33)) := (Touch.refl _ _).alloc _
      have hmay := may_any _ _ _ p.1 (hkb.ext ta)
      rw [decide_eq_true hpp.2] at hmay
      have Hg := Lib.hid hg
      clear hg
      have Hkb := Lib.hid hkb
      clear hkb
      have Hpp := Lib.hid hpp
      clear hpp
      have Hmay := Lib.hid hmay
      clear hmay
      go_wp2_with (fail)
      refine Hmay.out.mono ?_
      rintro e w2 ⟨rfl, rfl⟩
      go_wp2_with (fail)
      go_roundw
      case rel => exact ⟨j + 1, by omega, by go_num, ht.trans' ta⟩
      case measure => simp [intOf]; omega
    · have i1 : ¬ (j : Int) < (ps.length : Int) := by omega
      have hri := ModF.rises_any wr _ ps (H.out.ext ht) hm (fun p hp => (Hpk.out p hp).1)
      cases hb : risesB ps with
      | true =>
        rw [hb] at hri
        have Hri := Lib.hid hri
        clear hri
        go_wp2_with (fail)
        (with_reducible refine Hri.out.mono ?_)
        rintro e w2 ⟨rfl, t2⟩
        go_wp2_with (fail)
        all_goals
          go_ret
          exact ⟨rfl, ht.trans' t2⟩
      | false =>
        rw [hb] at hri
        have Hri := Lib.hid hri
        clear hri
        go_wp2_with (fail)
        (with_reducible refine Hri.out.mono ?_)
        rintro e w2 ⟨rfl, t2⟩
        go_wp2_with (fail)
        all_goals
          go_ret
          exact ⟨rfl, ht.trans' t2⟩

set_option maxRecDepth 100000 in
set_option maxHeartbeats 1600000 in
/-- the first key is too long -/
theorem may_long (w : World) (v : Value) (p : List Int × Int) (ps : Prs) (h : RP w G v (p :: ps)) (hm : ps.length ≤ 1000000) (hl : 65535 < p.1.length) :
    Calls Try.prog 69 #[v] w fun e w' => e = .returned (.int .i64 3) ∧ Ext w w' := by
  obtain ⟨a, c, rfl, l1, m1, hn⟩ := h.shape
  unfold maxLen at m1
  obtain ⟨b, off, rfl, _⟩ := h.addr (by simp)
  obtain ⟨kv, c0, c1, hkb⟩ := h.get 0 p rfl
  obtain ⟨ka, kc, rfl, l2, m2, n2⟩ := hkb.shape
  have ta : Ext w (w.alloc (.cells #[.slice ka p.1.length kc, .int .u64 p.2] 33)) := (Touch.refl _ _).alloc _
  have hmay := may_any _ _ _ p.1 (hkb.ext ta)
  rw [decide_eq_false (by omega)] at hmay
  have hn1 : (p :: ps).length = ps.length + 1 := rfl
  rw [hn1] at l1 ⊢
  have i1 : (0 : Int) < ((ps.length + 1 : Nat) : Int) := by omega
  simp only [Nat.zero_mul, Nat.add_zero] at c0 c1
  have H := Lib.hid h
  clear h
  have Hkb := Lib.hid hkb
  clear hkb
  have Hmay := Lib.hid hmay
  clear hmay
  go_enter Try.func69, Try.ntmps69
  go_wp2_with (fail)
  refine wp_loop_rounds 1 ?_
  rw [rounds_succ]
  go_wp2_with (fail)
  refine Hmay.out.mono ?_
  rintro e w2 ⟨rfl, rfl⟩
  go_wp2_with (fail)
  go_ret
  exact ⟨rfl, ta⟩

theorem build_nil (w : World) (v : Value) : Calls Try.prog 40 #[.pointer none, v] w fun e w' => e = .returned (.int .i64 1) ∧ w = w' := by
  go_enter Try.func40, Try.ntmps40
  go_wp2_with (fail)
  go_ret
  exact ⟨rfl, rfl⟩
theorem build_long (w : World) (t : Nat) (v : Value) (p : List Int × Int) (ps : Prs) (h : RP w G v (p :: ps)) (hm : ps.length ≤ 1000000) (hl : 65535 < p.1.length) :
    Calls Try.prog 40 #[.pointer (some ⟨t, 0, none⟩), v] w fun e w' => e = .returned (.int .i64 3) ∧ Ext w w' := by
  have hmy := may_long w v p ps h hm hl
  have Hmy := Lib.hid hmy
  clear hmy
  have H := Lib.hid h
  clear h
  go_enter Try.func40, Try.ntmps40
  go_wp2_with (fail)
  (with_reducible refine Hmy.out.mono ?_)
  rintro e w2 ⟨rfl, t2⟩
  go_wp2_with (fail)
  go_ret
  exact ⟨rfl, t2⟩
theorem build_order (w : World) (t : Nat) (v : Value) (ps : Prs) (h : RP w G v ps) (hm : ps.length ≤ 1000000) (hpk : PK ps) (hr : risesB ps = false) :
    Calls Try.prog 40 #[.pointer (some ⟨t, 0, none⟩), v] w fun e w' => e = .returned (.int .i64 9) ∧ Ext w w' := by
  have hmy := may_ok w v ps h hm hpk
  rw [hr] at hmy
  simp only [Bool.false_eq_true, if_false] at hmy
  have Hmy := Lib.hid hmy
  clear hmy
  have H := Lib.hid h
  clear h
  have Hr := Lib.hid hr
  clear hr
  have Hpk := Lib.hid hpk
  clear hpk
  go_enter Try.func40, Try.ntmps40
  go_wp2_with (fail)
  (with_reducible refine Hmy.out.mono ?_)
  rintro e w2 ⟨rfl, t2⟩
  go_wp2_with (fail)
  go_ret
  exact ⟨rfl, t2⟩

/-- what Build comes to where there is room -/
def TBuild (w : World) (t : Nat) (F : Nat → Prop) (ps : Prs) (most : Int) (e : Ending) (w' : World) : Prop :=
  e = .returned (.int .i64 0) ∧ ∃ F', Tp w' t F' ps most ∧ Touch (fun b => b = t) w w' ∧ ∀ b, F' b → b = t ∨ w.heap.size ≤ b

theorem sz_take (ps : Prs) (j : Nat) (p : List Int × Int) (h : ps[j]? = some p) : szK (ps.take (j + 1)) = szK (ps.take j) + ownT (lastT none (ps.take j)) p.1 := by
  unfold szK
  rw [List.take_add_one, h]
  show szT none (ps.take j ++ [p]) = _
  rw [szT_append]
  rfl
theorem last_zero (ps : Prs) : lastT none (ps.take 0) = none := rfl
theorem last_pred (ps : Prs) (i : Nat) (q : List Int × Int) (h : ps[i]? = some q) : lastT none (ps.take (i + 1)) = some q.1 := by
  have hl := (List.getElem?_eq_some_iff.1 h).1
  rw [lastT_get]
  have e : (ps.take (i + 1)).length - 1 = i := by simp; omega
  rw [e, List.getElem?_take, if_pos (by omega), h]
theorem own_nil (pr : Option (List Int)) : ownT pr [] = 1 := by simp [ownT]
theorem own_none {k : List Int} (h : k ≠ []) : ownT none k = k.length := by simp [ownT, h]
theorem own_some (q : List Int) {k : List Int} (h : k ≠ []) : ownT (some q) k = k.length - comK q k := by simp [ownT, h]


set_option maxRecDepth 100000 in
set_option maxHeartbeats 3200000 in
theorem build_full (w : World) (t : Nat) (v : Value) (qs ps : Prs) (most : Int) (ht : Tp w t F qs most) (h : RP w G v ps) (hm : ps.length ≤ 1000000) (hpk : PK ps) (hr : Rises ps) (hroom : most < (szK ps : Int)) :
    Calls Try.prog 40 #[.pointer (some ⟨t, 0, none⟩), v] w fun e w' => e = .returned (.int .i64 4) ∧ Ext w w' := by
  obtain ⟨a, c, rfl, l1, m1, hn⟩ := h.shape
  unfold maxLen at m1
  have hmy := may_ok w _ ps h hm hpk
  rw [risesB_step.2 hr] at hmy
  simp only [if_true] at hmy
  have hbd : ∀ j, szK (ps.take j) ≤ 70000000000 := fun j => by
    have h1 := sz_bound_aux 65535 (ps.take j) none (fun p hp => (hpk p (List.mem_of_mem_take hp)).2)
    have h2 : (ps.take j).length * (65535 + 2) ≤ 1000000 * (65535 + 2) := Nat.mul_le_mul_right _ (by simp; omega)
    unfold szK; omega
  obtain ⟨g, Fm, c0, c1, c2, f0, f1, f2, hmp, hF, hFt, hlt, hsz, hmost, hmn⟩ := ht
  have htl := World.block_lt_of_cell? _ _ c0
  simp only at htl
  have H := Lib.hid h
  clear h
  have Hpk := Lib.hid hpk
  clear hpk
  have Hr := Lib.hid hr
  clear hr
  have Hmy := Lib.hid hmy
  clear hmy
  have Hbd := Lib.hid hbd
  clear hbd
  have Hmp := Lib.hid hmp
  clear hmp
  have HF := Lib.hid hF
  clear hF
  have HFt := Lib.hid hFt
  clear hFt
  have Hlt := Lib.hid hlt
  clear hlt
  have Hsz := Lib.hid hsz
  clear hsz
  have Hroom := Lib.hid hroom
  clear hroom
  go_enter Try.func40, Try.ntmps40
  go_wp2_with (fail)
  (with_reducible refine Hmy.out.mono ?_)
  rintro e w2 ⟨rfl, t2⟩
  go_wp2_with (fail)
  go_loopw [6, 18] (fun s6 s18 wr => ∃ j : Nat, j ≤ ps.length ∧ s18 = .int .i64 j ∧ s6 = .int .i64 (szK (ps.take j) : Nat) ∧ Ext w wr) (fun _ s18 _ => ps.length - (intOf s18).toNat)
  case atStart => exact ⟨0, by omega, rfl, rfl, t2⟩
  case round =>
    obtain ⟨j, hj, rfl, rfl, ht⟩ := hrel
    clear t2
    by_cases hjl : j < ps.length
    · obtain ⟨b, off, rfl, _⟩ := H.out.addr (by omega)
      have hg := List.getElem?_eq_getElem hjl
      obtain ⟨kv, d0, d1, hkb⟩ := (H.out.ext ht).get j _ hg
      have hpp := Hpk.out _ (List.mem_of_getElem? hg)
      have hst := sz_take ps j _ hg
      have hb1 := Hbd.out j
      have hb2 := Hbd.out (j + 1)
      generalize ps[j] = p at *
      obtain ⟨ka, kc, rfl, l2, m2, n2⟩ := hkb.shape
      unfold maxLen at m2
      have hpl := hpp.2
      have i0 : (0 : Int) ≤ (j : Int) := by omega
      have i1 : (j : Int) < (ps.length : Int) := by omega
      by_cases hnil : p.1 = []
      · have hz : p.1.length = 0 := by rw [hnil]; rfl
        rw [hnil, own_nil] at hst
        have hzb : ((p.1.length : Int) == 0) = true := by simp; omega
        have hst2 : ((szK (ps.take j) : Nat) : Int) + 1 = ((szK (ps.take (j + 1)) : Nat) : Int) := by omega
        have hz0 : szK (ps.take j) ≤ 70000000000 := hb1
        generalize szK (ps.take j) = sz at *
        clear hb1 hb2
        have Hg := Lib.hid hg
        clear hg
        have Hkb := Lib.hid hkb
        clear hkb
        have Hpp := Lib.hid hpp
        clear hpp
        have Hst := Lib.hid hst
        clear hst
        have Hnil := Lib.hid hnil
        clear hnil
        have Hz := Lib.hid hz
        clear hz
        have Hst2 := Lib.hid hst2
        clear hst2
        go_wp2_with (fail)
        go_roundw
        case rel => exact ⟨j + 1, by omega, by go_num, by rw [Hst2.out], ht.alloc _⟩
        case measure => simp [intOf]; omega
      · have hz : 0 < p.1.length := by rcases Nat.eq_zero_or_pos p.1.length with h | h; exact absurd (List.eq_nil_of_length_eq_zero h) hnil; exact h
        have hzb : ((p.1.length : Int) == 0) = false := by simp; omega
        by_cases hj0 : j = 0
        · subst hj0
          rw [last_zero, own_none hnil] at hst
          simp only [Nat.zero_mul, Nat.add_zero] at d0 d1
          have hst2 : ((szK (ps.take 0) : Nat) : Int) + (p.1.length : Int) = ((szK (ps.take (0 + 1)) : Nat) : Int) := by omega
          generalize szK (ps.take 0) = sz at *
          have Hg := Lib.hid hg
          clear hg
          have Hkb := Lib.hid hkb
          clear hkb
          have Hpp := Lib.hid hpp
          clear hpp
          have Hst := Lib.hid hst
          clear hst
          have Hst2 := Lib.hid hst2
          clear hst2
          go_wp2_with (fail)
          go_roundw
          case rel => exact ⟨0 + 1, by omega, by go_num, by rw [Hst2.out], ht.alloc _⟩
          case measure => simp [intOf]; omega
        · obtain ⟨i, rfl⟩ : ∃ i, j = i + 1 := ⟨j - 1, by omega⟩
          have hil : i < ps.length := by omega
          have hgi := List.getElem?_eq_getElem hil
          obtain ⟨kw, e0, e1, hkw⟩ := (H.out.ext ht).get i _ hgi
          have hqq := Hpk.out _ (List.mem_of_getElem? hgi)
          rw [last_pred ps i _ hgi, own_some _ hnil] at hst
          generalize ps[i] = q at *
          obtain ⟨qa, qc, rfl, _⟩ := hkw.shape
          have hcl := comK_le q.1 p.1
          obtain ⟨wx, hwx⟩ : ∃ wx, wx = wr.alloc (.cells #[.slice ka p.1.length kc, .int .u64 p.2] 33) := ⟨_, rfl⟩
          have xa : Ext wr wx := by rw [hwx]; exact (Touch.refl _ _).alloc _
          have g0 : wx.cell? ⟨wr.heap.size, 0, none⟩ = some (.slice ka p.1.length kc) := by rw [hwx]; simp
          have e0 := keepc xa id e0
          have hcm := KeyC.common_any wx.drew _ _ q.1 p.1 ((hkw.ext xa).ext (Touch.refl _ _).drew) ((hkb.ext xa).ext (Touch.refl _ _).drew) (by have := hqq.2; omega) (by omega)
          generalize comK q.1 p.1 = cm at *
          have hst2 : ((szK (ps.take (i + 1)) : Nat) : Int) + ((p.1.length : Int) - (cm : Int)) = ((szK (ps.take (i + 1 + 1)) : Nat) : Int) := by omega
          generalize szK (ps.take (i + 1)) = sz at *
          have hji : (((i + 1 : Nat) : Int) == 0) = false := by simp; omega
          have hji2 : ((i : Int) + 1 == 0) = false := by simp; omega
          have w1 : IntKind.i64.wrap (i : Int) = (i : Int) := by rw [IntKind.wrap_i64]; omega
          have w2' : IntKind.i64.wrap ((p.1.length : Int) - (cm : Int)) = (p.1.length : Int) - (cm : Int) := by rw [IntKind.wrap_i64]; omega
          have w3 : IntKind.i64.wrap ((sz : Int) + ((p.1.length : Int) - (cm : Int))) = (sz : Int) + ((p.1.length : Int) - (cm : Int)) := by rw [IntKind.wrap_i64]; omega
          have w4 : (0 : Int) ≤ (i : Int) := by omega
          have w5 : (i : Int) < (ps.length : Int) := by omega
          have Hg := Lib.hid hg
          clear hg
          have Hkb := Lib.hid hkb
          clear hkb
          have Hpp := Lib.hid hpp
          clear hpp
          have Hst := Lib.hid hst
          clear hst
          have Hst2 := Lib.hid hst2
          clear hst2
          have Hgi := Lib.hid hgi
          clear hgi
          have Hkw := Lib.hid hkw
          clear hkw
          have Hqq := Lib.hid hqq
          clear hqq
          have Hcm := Lib.hid hcm
          clear hcm
          have Xa := Lib.hid xa
          clear xa
          go_wp2_with (fail)
          rw [← hwx]
          clear hwx
          go_wp2_with (fail)
          refine wp_region_plan (.take 0 (.take 1 (.take 2 (.take 3 (.take 4 (.take 5 (.take 6 (.take 7 (.take 8 (.take 9 (.take 10 (.take 11 (.must 12 (.take 13 (.take 14 (.take 15 .done)))))))))))))))) (fun wy => wy.cell? ⟨wr.heap.size, 0, none⟩ = some (.slice ka p.1.length kc) ∧ wy.cell? ⟨b, off + i * 2, none⟩ = some (.slice qa q.1.length qc)) (by kernel_rfl) (by kernel_rfl) (by kernel_rfl) rfl ?_ (fun KK hKK => ?_)
          · exact ⟨g0, e0⟩
          repeat (first
            | (refine wpPlan_take (v := ?_) rfl (by rfl) (fun W hW => ?_) ?_; rotate_left; (focus ((try dsimp only at hW); go_split_ands; go_simp; (try with_reducible rfl); done)); (try simp only [Act.put, List.setIfInBounds_toArray, List.set_cons_zero, List.set_cons_succ]))
            | (refine wpPlan_skip rfl (by rfl) ?_; (try simp only [Act.put, List.setIfInBounds_toArray, List.set_cons_zero, List.set_cons_succ])))
          refine wpPlan_must rfl (by rfl) (fun K hK => ?_)
          go_simp
          (with_reducible refine Hcm.out.mono ?_)
          rintro e w5' ⟨rfl, t5⟩
          refine hK.out _ _ ?_ ?_
          · exact ⟨keepc t5 id g0, keepc t5 id e0⟩
          clear hK K
          (try simp only [Act.put, List.setIfInBounds_toArray, List.set_cons_zero, List.set_cons_succ])
          repeat (first
            | (refine wpPlan_take (v := ?_) rfl (by rfl) (fun W hW => ?_) ?_; rotate_left; (focus ((try dsimp only at hW); go_split_ands; go_simp; (try with_reducible rfl); done)); (try simp only [Act.put, List.setIfInBounds_toArray, List.set_cons_zero, List.set_cons_succ]))
            | (refine wpPlan_skip rfl (by rfl) ?_; (try simp only [Act.put, List.setIfInBounds_toArray, List.set_cons_zero, List.set_cons_succ])))
          refine wpPlan_done (hKK.out _ _ ?_)
          clear hKK KK
          clear w1 w2' w3
          go_wp2_with (fail)
          go_roundw
          case rel => exact ⟨i + 1 + 1, by omega, by go_num, by rw [Hst2.out], (ht.trans' Xa.out).trans' ((Touch.refl _ _).drew.trans' t5)⟩
          case measure => simp [intOf]; omega
    · obtain rfl : j = ps.length := by omega
      have i1 : ¬ ((ps.length : Nat) : Int) < (ps.length : Int) := by omega
      rw [List.take_length]
      have d0 := keepc ht id c0
      have d1 := keepc ht id c1
      have d2 := keepc ht id c2
      have g0 := keepf (p := ⟨t, 0, none⟩) ht htl id f0
      have g1 := keepf (p := ⟨t, 1, none⟩) ht htl id f1
      have g2 := keepf (p := ⟨t, 2, none⟩) ht htl id f2
      have hb : decide (most < ((szK ps : Nat) : Int)) = true := by simpa using Hroom.out
      generalize szK ps = z at *
      go_wp2_with (fail)
      go_ret
      exact ⟨rfl, ht⟩

set_option maxRecDepth 100000 in
set_option maxHeartbeats 3200000 in
theorem build_ok (w : World) (t : Nat) (v : Value) (qs ps : Prs) (most : Int) (ht : Tp w t F qs most) (h : RP w G v ps) (hm : ps.length ≤ 1000000) (hpk : PK ps) (hr : Rises ps) (hroom : (szK ps : Int) ≤ most) :
    Calls Try.prog 40 #[.pointer (some ⟨t, 0, none⟩), v] w (TBuild w t F ps most) := by
  obtain ⟨a, c, rfl, l1, m1, hn⟩ := h.shape
  unfold maxLen at m1
  have hmy := may_ok w _ ps h hm hpk
  rw [risesB_step.2 hr] at hmy
  simp only [if_true] at hmy
  have hbd : ∀ j, szK (ps.take j) ≤ 70000000000 := fun j => by
    have h1 := sz_bound_aux 65535 (ps.take j) none (fun p hp => (hpk p (List.mem_of_mem_take hp)).2)
    have h2 : (ps.take j).length * (65535 + 2) ≤ 1000000 * (65535 + 2) := Nat.mul_le_mul_right _ (by simp; omega)
    unfold szK; omega
  obtain ⟨g, Fm, c0, c1, c2, f0, f1, f2, hmp, hF, hFt, hlt, hsz, hmost, hmn⟩ := ht
  have htl := World.block_lt_of_cell? _ _ c0
  simp only at htl
  have hnew := fun W (x : Ext w W) => ModF.new_any W _ ps (h.ext x) hm hpk
  rw [ModR.mk_self hr] at hnew
  unfold NewRet at hnew
  unfold TBuild
  have H := Lib.hid h
  clear h
  have Hpk := Lib.hid hpk
  clear hpk
  have Hr := Lib.hid hr
  clear hr
  have Hmy := Lib.hid hmy
  clear hmy
  have Hbd := Lib.hid hbd
  clear hbd
  have Hmp := Lib.hid hmp
  clear hmp
  have HF := Lib.hid hF
  clear hF
  have HFt := Lib.hid hFt
  clear hFt
  have Hlt := Lib.hid hlt
  clear hlt
  have Hsz := Lib.hid hsz
  clear hsz
  have Hroom := Lib.hid hroom
  clear hroom
  have Hnew := Lib.hid hnew
  clear hnew
  go_enter Try.func40, Try.ntmps40
  go_wp2_with (fail)
  (with_reducible refine Hmy.out.mono ?_)
  rintro e w2 ⟨rfl, t2⟩
  go_wp2_with (fail)
  go_loopw [6, 18] (fun s6 s18 wr => ∃ j : Nat, j ≤ ps.length ∧ s18 = .int .i64 j ∧ s6 = .int .i64 (szK (ps.take j) : Nat) ∧ Ext w wr) (fun _ s18 _ => ps.length - (intOf s18).toNat)
  case atStart => exact ⟨0, by omega, rfl, rfl, t2⟩
  case round =>
    obtain ⟨j, hj, rfl, rfl, ht⟩ := hrel
    clear t2
    by_cases hjl : j < ps.length
    · obtain ⟨b, off, rfl, _⟩ := H.out.addr (by omega)
      have hg := List.getElem?_eq_getElem hjl
      obtain ⟨kv, d0, d1, hkb⟩ := (H.out.ext ht).get j _ hg
      have hpp := Hpk.out _ (List.mem_of_getElem? hg)
      have hst := sz_take ps j _ hg
      have hb1 := Hbd.out j
      have hb2 := Hbd.out (j + 1)
      generalize ps[j] = p at *
      obtain ⟨ka, kc, rfl, l2, m2, n2⟩ := hkb.shape
      unfold maxLen at m2
      have hpl := hpp.2
      have i0 : (0 : Int) ≤ (j : Int) := by omega
      have i1 : (j : Int) < (ps.length : Int) := by omega
      by_cases hnil : p.1 = []
      · have hz : p.1.length = 0 := by rw [hnil]; rfl
        rw [hnil, own_nil] at hst
        have hzb : ((p.1.length : Int) == 0) = true := by simp; omega
        have hst2 : ((szK (ps.take j) : Nat) : Int) + 1 = ((szK (ps.take (j + 1)) : Nat) : Int) := by omega
        have hz0 : szK (ps.take j) ≤ 70000000000 := hb1
        generalize szK (ps.take j) = sz at *
        clear hb1 hb2
        have Hg := Lib.hid hg
        clear hg
        have Hkb := Lib.hid hkb
        clear hkb
        have Hpp := Lib.hid hpp
        clear hpp
        have Hst := Lib.hid hst
        clear hst
        have Hnil := Lib.hid hnil
        clear hnil
        have Hz := Lib.hid hz
        clear hz
        have Hst2 := Lib.hid hst2
        clear hst2
        go_wp2_with (fail)
        go_roundw
        case rel => exact ⟨j + 1, by omega, by go_num, by rw [Hst2.out], ht.alloc _⟩
        case measure => simp [intOf]; omega
      · have hz : 0 < p.1.length := by rcases Nat.eq_zero_or_pos p.1.length with h | h; exact absurd (List.eq_nil_of_length_eq_zero h) hnil; exact h
        have hzb : ((p.1.length : Int) == 0) = false := by simp; omega
        by_cases hj0 : j = 0
        · subst hj0
          rw [last_zero, own_none hnil] at hst
          simp only [Nat.zero_mul, Nat.add_zero] at d0 d1
          have hst2 : ((szK (ps.take 0) : Nat) : Int) + (p.1.length : Int) = ((szK (ps.take (0 + 1)) : Nat) : Int) := by omega
          generalize szK (ps.take 0) = sz at *
          have Hg := Lib.hid hg
          clear hg
          have Hkb := Lib.hid hkb
          clear hkb
          have Hpp := Lib.hid hpp
          clear hpp
          have Hst := Lib.hid hst
          clear hst
          have Hst2 := Lib.hid hst2
          clear hst2
          go_wp2_with (fail)
          go_roundw
          case rel => exact ⟨0 + 1, by omega, by go_num, by rw [Hst2.out], ht.alloc _⟩
          case measure => simp [intOf]; omega
        · obtain ⟨i, rfl⟩ : ∃ i, j = i + 1 := ⟨j - 1, by omega⟩
          have hil : i < ps.length := by omega
          have hgi := List.getElem?_eq_getElem hil
          obtain ⟨kw, e0, e1, hkw⟩ := (H.out.ext ht).get i _ hgi
          have hqq := Hpk.out _ (List.mem_of_getElem? hgi)
          rw [last_pred ps i _ hgi, own_some _ hnil] at hst
          generalize ps[i] = q at *
          obtain ⟨qa, qc, rfl, _⟩ := hkw.shape
          have hcl := comK_le q.1 p.1
          obtain ⟨wx, hwx⟩ : ∃ wx, wx = wr.alloc (.cells #[.slice ka p.1.length kc, .int .u64 p.2] 33) := ⟨_, rfl⟩
          have xa : Ext wr wx := by rw [hwx]; exact (Touch.refl _ _).alloc _
          have g0 : wx.cell? ⟨wr.heap.size, 0, none⟩ = some (.slice ka p.1.length kc) := by rw [hwx]; simp
          have e0 := keepc xa id e0
          have hcm := KeyC.common_any wx.drew _ _ q.1 p.1 ((hkw.ext xa).ext (Touch.refl _ _).drew) ((hkb.ext xa).ext (Touch.refl _ _).drew) (by have := hqq.2; omega) (by omega)
          generalize comK q.1 p.1 = cm at *
          have hst2 : ((szK (ps.take (i + 1)) : Nat) : Int) + ((p.1.length : Int) - (cm : Int)) = ((szK (ps.take (i + 1 + 1)) : Nat) : Int) := by omega
          generalize szK (ps.take (i + 1)) = sz at *
          have hji : (((i + 1 : Nat) : Int) == 0) = false := by simp; omega
          have hji2 : ((i : Int) + 1 == 0) = false := by simp; omega
          have w1 : IntKind.i64.wrap (i : Int) = (i : Int) := by rw [IntKind.wrap_i64]; omega
          have w2' : IntKind.i64.wrap ((p.1.length : Int) - (cm : Int)) = (p.1.length : Int) - (cm : Int) := by rw [IntKind.wrap_i64]; omega
          have w3 : IntKind.i64.wrap ((sz : Int) + ((p.1.length : Int) - (cm : Int))) = (sz : Int) + ((p.1.length : Int) - (cm : Int)) := by rw [IntKind.wrap_i64]; omega
          have w4 : (0 : Int) ≤ (i : Int) := by omega
          have w5 : (i : Int) < (ps.length : Int) := by omega
          have Hg := Lib.hid hg
          clear hg
          have Hkb := Lib.hid hkb
          clear hkb
          have Hpp := Lib.hid hpp
          clear hpp
          have Hst := Lib.hid hst
          clear hst
          have Hst2 := Lib.hid hst2
          clear hst2
          have Hgi := Lib.hid hgi
          clear hgi
          have Hkw := Lib.hid hkw
          clear hkw
          have Hqq := Lib.hid hqq
          clear hqq
          have Hcm := Lib.hid hcm
          clear hcm
          have Xa := Lib.hid xa
          clear xa
          go_wp2_with (fail)
          rw [← hwx]
          clear hwx
          go_wp2_with (fail)
          refine wp_region_plan (.take 0 (.take 1 (.take 2 (.take 3 (.take 4 (.take 5 (.take 6 (.take 7 (.take 8 (.take 9 (.take 10 (.take 11 (.must 12 (.take 13 (.take 14 (.take 15 .done)))))))))))))))) (fun wy => wy.cell? ⟨wr.heap.size, 0, none⟩ = some (.slice ka p.1.length kc) ∧ wy.cell? ⟨b, off + i * 2, none⟩ = some (.slice qa q.1.length qc)) (by kernel_rfl) (by kernel_rfl) (by kernel_rfl) rfl ?_ (fun KK hKK => ?_)
          · exact ⟨g0, e0⟩
          repeat (first
            | (refine wpPlan_take (v := ?_) rfl (by rfl) (fun W hW => ?_) ?_; rotate_left; (focus ((try dsimp only at hW); go_split_ands; go_simp; (try with_reducible rfl); done)); (try simp only [Act.put, List.setIfInBounds_toArray, List.set_cons_zero, List.set_cons_succ]))
            | (refine wpPlan_skip rfl (by rfl) ?_; (try simp only [Act.put, List.setIfInBounds_toArray, List.set_cons_zero, List.set_cons_succ])))
          refine wpPlan_must rfl (by rfl) (fun K hK => ?_)
          go_simp
          (with_reducible refine Hcm.out.mono ?_)
          rintro e w5' ⟨rfl, t5⟩
          refine hK.out _ _ ?_ ?_
          · exact ⟨keepc t5 id g0, keepc t5 id e0⟩
          clear hK K
          (try simp only [Act.put, List.setIfInBounds_toArray, List.set_cons_zero, List.set_cons_succ])
          repeat (first
            | (refine wpPlan_take (v := ?_) rfl (by rfl) (fun W hW => ?_) ?_; rotate_left; (focus ((try dsimp only at hW); go_split_ands; go_simp; (try with_reducible rfl); done)); (try simp only [Act.put, List.setIfInBounds_toArray, List.set_cons_zero, List.set_cons_succ]))
            | (refine wpPlan_skip rfl (by rfl) ?_; (try simp only [Act.put, List.setIfInBounds_toArray, List.set_cons_zero, List.set_cons_succ])))
          refine wpPlan_done (hKK.out _ _ ?_)
          clear hKK KK
          clear w1 w2' w3
          go_wp2_with (fail)
          go_roundw
          case rel => exact ⟨i + 1 + 1, by omega, by go_num, by rw [Hst2.out], (ht.trans' Xa.out).trans' ((Touch.refl _ _).drew.trans' t5)⟩
          case measure => simp [intOf]; omega
    · obtain rfl : j = ps.length := by omega
      have i1 : ¬ ((ps.length : Nat) : Int) < (ps.length : Int) := by omega
      rw [List.take_length]
      have d0 := keepc ht id c0
      have d1 := keepc ht id c1
      have d2 := keepc ht id c2
      have g0 := keepf (p := ⟨t, 0, none⟩) ht htl id f0
      have g1 := keepf (p := ⟨t, 1, none⟩) ht htl id f1
      have g2 := keepf (p := ⟨t, 2, none⟩) ht htl id f2
      have hb : decide (most < ((szK ps : Nat) : Int)) = false := by have := Hroom.out; simp; omega
      have hroom := Hroom.out
      generalize hzz : szK ps = z at *
      have Hroom := Lib.hid hroom
      clear hroom
      have Hzz := Lib.hid hzz
      clear hzz
      have Ht := Lib.hid ht
      clear ht
      go_wp2_with (fail)
      (with_reducible refine (Hnew.out _ Ht.out).mono ?_)
      rintro e w4 ⟨g2', F2, rfl, hm2, hF2, t4⟩
      have x4 := Ht.out.trans' t4
      have e0 := keepc t4 id d0
      have e1 := keepc t4 id d1
      have e2 := keepc t4 id d2
      have k0 := keepf (p := ⟨t, 0, none⟩) x4 htl id f0
      have k1 := keepf (p := ⟨t, 1, none⟩) x4 htl id f1
      have k2 := keepf (p := ⟨t, 2, none⟩) x4 htl id f2
      have hs := Ht.out.size
      clear d0 d1 d2 g0 g1 g2
      have Hm2 := Lib.hid hm2
      clear hm2
      have HF2 := Lib.hid hF2
      clear hF2
      have T4 := Lib.hid t4
      clear t4
      go_wp2_with (fail)
      go_ret
      have tt : Touch (fun b => b = t) w4 ((w4.setCell ⟨t, 0, none⟩ (.pointer (some ⟨g2', 0, none⟩))).setCell ⟨t, 2, none⟩ (.int .i64 (z : Int))) := Touch.setCell (S := fun b => b = t) (Touch.setCell (S := fun b => b = t) (Touch.refl _ _) (p := ⟨t, 0, none⟩) (Or.inl rfl) _) (p := ⟨t, 2, none⟩) (Or.inl rfl) _
      have hne : ∀ b, F2 b → b ≠ t := fun b hb h => by have h1 : wr.heap.size ≤ b := HF2.out b hb; omega
      refine ⟨rfl, fun b => b = t ∨ F2 b, ⟨g2', F2, by rw [World.cell?_setCell_other _ _ _ _ (by simp)]; exact World.cell?_setCell_same _ _ _ e0, by rw [World.cell?_setCell_other _ _ _ _ (by simp), World.cell?_setCell_other _ _ _ _ (by simp)]; exact e1, by rw [Hzz.out]; exact World.cell?_setCell_same _ _ _ (by rw [World.cell?_setCell_other _ _ _ _ (by simp)]; exact e2),
        by rw [World.frozen?_setCell, World.frozen?_setCell]; exact k0, by rw [World.frozen?_setCell, World.frozen?_setCell]; exact k1, by rw [World.frozen?_setCell, World.frozen?_setCell]; exact k2,
        Hm2.out.keep tt (fun b hb h => hne b hb h), fun b hb => ⟨Or.inr hb, hne b hb⟩, Or.inl rfl, fun b hb => ?_, by rw [Hzz.out]; exact Hroom.out, hmost, hm⟩, x4.ext_trans tt, fun b hb => ?_⟩
      · rcases hb with rfl | hb
        · exact Nat.lt_of_lt_of_le htl (Nat.le_trans x4.size tt.size)
        · exact Nat.lt_of_lt_of_le (Hm2.out.lt b hb) tt.size
      · rcases hb with rfl | hb
        · exact Or.inl rfl
        · exact Or.inr (Nat.le_trans hs (HF2.out b hb))
end TreeD
end Go.Proofs.Ythfnacadabhpdaa
