/- A tree is built of pairs. -/
import Derived.Test.YtclnnkacfanaiaaDoorTreeB
import Derived.Test.YtclnnkacfanaiaaDoorModX
namespace Go.Proofs.YtclnnkacfanaiaaDoor
open Go.RowKit
set_option linter.unusedVariables false
set_option linter.unusedSimpArgs false
namespace TreeD
open ModF (NewRet PutRet DropRet risesB risesB_step)
open ModA (Mq)
open TreeB
variable {F G : Nat → Prop}

set_option maxRecDepth 100000 in
set_option maxHeartbeats 1600000 in
/-- no key is too long -/
theorem may_ok (w : World) (v : Value) (ps : Prs) (h : RP w G v ps) (hm : ps.length ≤ 1000000) (hpk : PK ps) :
    Calls Tryd.prog 68 #[v] w fun e w' => e = .returned (.int .i64 (if risesB ps then 0 else 9)) ∧ Ext w w' := by
  obtain ⟨a, c, rfl, l1, m1, hn⟩ := h.shape
  unfold maxLen at m1
  have H := Lib.hid h
  clear h
  have Hpk := Lib.hid hpk
  clear hpk
  go_enter Tryd.func68, Tryd.ntmps68
  go_wp2_with (fail)
  go_loopw [7] (fun s7 wr => ∃ j : Nat, j ≤ ps.length ∧ s7 = .int .i64 j ∧ Ext w wr) (fun s7 _ => ps.length - (intOf s7).toNat)
  case atStart => exact ⟨0, by omega, rfl, Touch.refl _ _⟩
  case round =>
    obtain ⟨j, hj, rfl, ht⟩ := hrel
    by_cases hlt : j < ps.length
    · obtain ⟨b, off, rfl, _⟩ := H.out.addr (by omega)
      have hg := List.getElem?_eq_getElem hlt
      obtain ⟨kv, c0, c1, hkb⟩ := (H.out.ext ht).get j _ hg
      have hpp := Hpk.out _ (List.mem_of_getElem? hg)
      generalize ps[j] = p at *
      obtain ⟨ka, kc, rfl, l2, m2, n2⟩ := hkb.shape
      have i0 : (0 : Int) ≤ (j : Int) := by omega
      have i1 : (j : Int) < (ps.length : Int) := by omega
      have ta : Ext wr (wr.alloc (.cells #[.slice ka p.1.length kc, .int .u64 p.2] 33)) := (Touch.refl _ _).alloc _
      have hmay := may_any _ _ _ p.1 (hkb.ext ta)
      rw [decide_eq_true hpp.2] at hmay
      have Hg := Lib.hid hg
      clear hg
      have Hkb := Lib.hid hkb
      clear hkb
      have Hpp := Lib.hid hpp
      clear hpp
      have Hmay := Lib.hid hmay
      clear hmay
      go_wp2_with (fail)
      refine Hmay.out.mono ?_
      rintro e w2 ⟨rfl, rfl⟩
      go_wp2_with (fail)
      go_roundw
      case rel => exact ⟨j + 1, by omega, by go_num, ht.trans' ta⟩
      case measure => simp [intOf]; omega
    · have i1 : ¬ (j : Int) < (ps.length : Int) := by omega
      have hri := ModF.rises_any wr _ ps (H.out.ext ht) hm (fun p hp => (Hpk.out p hp).1)
      cases hb : risesB ps with
      | true =>
        rw [hb] at hri
        have Hri := Lib.hid hri
        clear hri
        go_wp2_with (fail)
        (with_reducible refine Hri.out.mono ?_)
        rintro e w2 ⟨rfl, t2⟩
        go_wp2_with (fail)
        all_goals
          go_ret
          exact ⟨rfl, ht.trans' t2⟩
      | false =>
        rw [hb] at hri
        have Hri := Lib.hid hri
        clear hri
        go_wp2_with (fail)
        (with_reducible refine Hri.out.mono ?_)
        rintro e w2 ⟨rfl, t2⟩
        go_wp2_with (fail)
        all_goals
          go_ret
          exact ⟨rfl, ht.trans' t2⟩

set_option maxRecDepth 100000 in
set_option maxHeartbeats 1600000 in
/-- the first key is too long -/
theorem may_long (w : World) (v : Value) (p : List Int × Int) (ps : Prs) (h : RP w G v (p :: ps)) (hm : ps.length ≤ 1000000) (hl : 65535 < p.1.length) :
    Calls Tryd.prog 68 #[v] w fun e w' => e = .returned (.int .i64 3) ∧ Ext w w' := by
  obtain ⟨a, c, rfl, l1, m1, hn⟩ := h.shape
  unfold maxLen at m1
  obtain ⟨b, off, rfl, _⟩ := h.addr (by simp)
  obtain ⟨kv, c0, c1, hkb⟩ := h.get 0 p rfl
  obtain ⟨ka, kc, rfl, l2, m2, n2⟩ := hkb.shape
  have ta : Ext w (w.alloc (.cells #[.slice ka p.1.length kc, .int .u64 p.2] 33)) := (Touch.refl _ _).alloc _
  have hmay := may_any _ _ _ p.1 (hkb.ext ta)
  rw [decide_eq_false (by omega)] at hmay
  have hn1 : (p :: ps).length = ps.length + 1 := rfl
  rw [hn1] at l1 ⊢
  have i1 : (0 : Int) < ((ps.length + 1 : Nat) : Int) := by omega
  simp only [Nat.zero_mul, Nat.add_zero] at c0 c1
  have H := Lib.hid h
  clear h
  have Hkb := Lib.hid hkb
  clear hkb
  have Hmay := Lib.hid hmay
  clear hmay
  go_enter Tryd.func68, Tryd.ntmps68
  go_wp2_with (fail)
  refine wp_loop_rounds 1 ?_
  rw [rounds_succ]
  go_wp2_with (fail)
  refine Hmay.out.mono ?_
  rintro e w2 ⟨rfl, rfl⟩
  go_wp2_with (fail)
  go_ret
  exact ⟨rfl, ta⟩

theorem build_nil (w : World) (v : Value) : Calls Tryd.prog 42 #[.pointer none, v] w fun e w' => e = .returned (.int .i64 1) ∧ w = w' := by
  go_enter Tryd.func42, Tryd.ntmps42
  go_wp2_with (fail)
  go_ret
  exact ⟨rfl, rfl⟩
theorem build_long (w : World) (t : Nat) (v : Value) (p : List Int × Int) (ps : Prs) (h : RP w G v (p :: ps)) (hm : ps.length ≤ 1000000) (hl : 65535 < p.1.length) :
    Calls Tryd.prog 42 #[.pointer (some ⟨t, 0, none⟩), v] w fun e w' => e = .returned (.int .i64 3) ∧ Ext w w' := by
  have hmy := may_long w v p ps h hm hl
  have Hmy := Lib.hid hmy
  clear hmy
  have H := Lib.hid h
  clear h
  go_enter Tryd.func42, Tryd.ntmps42
  go_wp2_with (fail)
  (with_reducible refine Hmy.out.mono ?_)
  rintro e w2 ⟨rfl, t2⟩
  go_wp2_with (fail)
  go_ret
  exact ⟨rfl, t2⟩
theorem build_order (w : World) (t : Nat) (v : Value) (ps : Prs) (h : RP w G v ps) (hm : ps.length ≤ 1000000) (hpk : PK ps) (hr : risesB ps = false) :
    Calls Tryd.prog 42 #[.pointer (some ⟨t, 0, none⟩), v] w fun e w' => e = .returned (.int .i64 9) ∧ Ext w w' := by
  have hmy := may_ok w v ps h hm hpk
  rw [hr] at hmy
  simp only [Bool.false_eq_true, if_false] at hmy
  have Hmy := Lib.hid hmy
  clear hmy
  have H := Lib.hid h
  clear h
  have Hr := Lib.hid hr
  clear hr
  have Hpk := Lib.hid hpk
  clear hpk
  go_enter Tryd.func42, Tryd.ntmps42
  go_wp2_with (fail)
  (with_reducible refine Hmy.out.mono ?_)
  rintro e w2 ⟨rfl, t2⟩
  go_wp2_with (fail)
  go_ret
  exact ⟨rfl, t2⟩

/-- what Build comes to where there is room -/
def TBuild (w : World) (t : Nat) (F : Nat → Prop) (ps : Prs) (most : Int) (e : Ending) (w' : World) : Prop :=
  e = .returned (.int .i64 0) ∧ ∃ F', Tp w' t F' ps most ∧ Touch (fun b => b = t) w w' ∧ ∀ b, F' b → b = t ∨ w.heap.size ≤ b

theorem sz_one (k : List Int) (v : Int) (hk : KB k) : 0 < szK (putK [] k v) := by
  have h : RT.Ok [] (RT.leaf k v) := ⟨List.nil_prefix, hk⟩
  have h1 := RadS.cells_sz h
  have h2 : putK [] k v = (RT.leaf k v).prs := by rw [RT.prs]; simp [putK, rk, hasK]
  rw [h2, ← h1, RT.cells]; omega
theorem take_put {ps : Prs} (hr : Rises ps) {j : Nat} {p : List Int × Int} (hp : ps[j]? = some p) : putK (ps.take j) p.1 p.2 = ps.take (j + 1) ∧ hasK (ps.take j) p.1 = false := by
  have hlt : ∀ q ∈ ps.take j, cmpK q.1 p.1 < 0 := by
    intro q hq
    obtain ⟨i, hi⟩ := List.mem_iff_getElem?.1 hq
    rw [List.getElem?_take] at hi
    split at hi
    · exact hr.get hi hp (by assumption)
    · cases hi
  refine ⟨by rw [ModR.put_end hlt, List.take_add_one, hp]; rfl, ?_⟩
  cases hh : hasK (ps.take j) p.1 with
  | false => rfl
  | true =>
    have h1 := hlt _ (ModP.of_has hh)
    rw [cmpK_self] at h1
    exact absurd h1 (by decide)
theorem rises_take {ps : Prs} (hr : Rises ps) (j : Nat) : Rises (ps.take j) := List.Pairwise.sublist (List.take_sublist j ps) hr
theorem sz_take {ps : Prs} (hr : Rises ps) : ∀ j, szK (ps.take j) ≤ 2 * j := by
  intro j
  induction j with
  | zero => rw [List.take_zero]; rw [show szK ([] : Prs) = 0 from rfl]; omega
  | succ j ih =>
    cases hp : ps[j]? with
    | none =>
      have hl : ps.length ≤ j := by simpa using hp
      rw [List.take_of_length_le (by omega)] at ih ⊢
      omega
    | some p =>
      obtain ⟨h1, h2⟩ := take_put hr hp
      have := RadS.sz_put_le2 (rises_take hr j) p.2 h2
      rw [h1] at this
      omega
theorem rb_bound {w : World} {F : Nat → Prop} {v : Value} {k : List Int} (h : RB w F v k) : RB w (fun b => b < w.heap.size) v k := by
  obtain ⟨a, cap, h1, h2, h3, h4, h5⟩ := h
  refine ⟨a, cap, h1, h2, h3, h4, fun i hi => ?_⟩
  obtain ⟨b, off, h6, h7, h8⟩ := h5 i hi
  exact ⟨b, off, h6, World.block_lt_of_cell? _ _ h8, h8⟩
theorem rp_bound {w : World} {F : Nat → Prop} {v : Value} {ps : Prs} (h : RP w F v ps) : RP w (fun b => b < w.heap.size) v ps := by
  obtain ⟨es, h1, ⟨a, cap, g1, g2, g3, g4, g5⟩, h3⟩ := h
  refine ⟨es, h1, ⟨a, cap, g1, g2, g3, g4, fun i e he => ?_⟩, fun e he => rb_bound (h3 e he)⟩
  obtain ⟨b, off, h6, h7, h8, h9⟩ := g5 i e he
  exact ⟨b, off, h6, World.block_lt_of_cell? _ _ h8, h8, h9⟩
theorem build_ok (w : World) (t : Nat) (v : Value) (qs ps : Prs) (most : Int) (ht : Tp w t F qs most) (h : RP w G v ps) (hm : ps.length ≤ 1000) (hpk : PK ps) (hr : Rises ps) (hroom : (szK ps : Int) ≤ most) :
    Calls Tryd.prog 42 #[.pointer (some ⟨t, 0, none⟩), v] w (TBuild w t F ps most) := by
  have hcmp : decide (most < ((szK ps : Nat) : Int)) = false := by simp; omega
  unfold TBuild
  obtain ⟨a, c, rfl, l1, m1, hn⟩ := h.shape
  unfold maxLen at m1
  have hmy := may_ok w _ ps h (by omega) hpk
  rw [risesB_step.2 hr] at hmy
  simp only [if_true] at hmy
  have hbd := rp_bound h
  have htr := ht.tr
  have hrb := ht.rf
  obtain ⟨g, Fm, v0, Fr, Kr, T, ht⟩ := ht
  obtain ⟨gv, rfl⟩ : ∃ gv, v0 = .pointer gv := by
    have hrn := ht.rn
    cases hX : T.is with
    | false => rw [RT.is_false hX] at hrn; exact ⟨_, hrn⟩
    | true => obtain ⟨gr, h1, _⟩ := hrn.ptr hX; exact ⟨_, h1⟩
  have c0 := ht.c0
  have c1 := ht.c1
  have c2 := ht.c2
  have c3 := ht.c3
  have f0 := ht.f0
  have f2 := ht.f2
  have f3 := ht.f3
  have hlt := ht.lt t ht.self
  have Hmy := Lib.hid hmy
  clear hmy
  have H := Lib.hid h
  clear h
  have Hbd := Lib.hid hbd
  clear hbd
  have Hpk := Lib.hid hpk
  clear hpk
  have Hr := Lib.hid hr
  clear hr
  have Htr := Lib.hid htr
  clear htr
  have Ht := Lib.hid ht
  clear ht
  go_enter Tryd.func42, Tryd.ntmps42
  go_wp2_with (fail)
  (with_reducible refine Hmy.out.mono ?_)
  rintro e w2 ⟨rfl, t2⟩
  have hnew := new_yes w2 (Htr.out.ext t2) 1048576 (by decide) (by decide)
  have Hnew := Lib.hid hnew
  clear hnew
  go_wp2_with (fail)
  (with_reducible refine Hnew.out.mono ?_)
  rintro e w3 ⟨x, F0, rfl, hx, hxf, t3⟩
  have hs2 := t2.size
  have x3 := t2.trans' t3
  have hxf' : ∀ b, F0 b → w.heap.size ≤ b := fun b hb => Nat.le_trans hs2 (hxf b hb)
  clear hs2 hxf
  have Hx := Lib.hid hx
  clear hx
  have X3 := Lib.hid x3
  clear x3
  go_wp2_with (fail)
  go_loopw [22] (fun s22 wr => ∃ j : Nat, ∃ Fx : Nat → Prop, j ≤ ps.length ∧ s22 = .int .i64 j ∧ Tp wr x Fx (ps.take j) 1048576 ∧ (∀ b, Fx b → w.heap.size ≤ b) ∧ Ext w wr) (fun s22 _ => ps.length - (intOf s22).toNat)
  case atStart => exact ⟨0, F0, by omega, rfl, Hx.out, hxf', X3.out⟩
  case round =>
    obtain ⟨j, Fx, hj, rfl, hxj, hxf, hx3⟩ := hrel
    by_cases hjl : j < ps.length
    · obtain ⟨b, off, rfl, _⟩ := H.out.addr (by omega)
      have hg := List.getElem?_eq_getElem hjl
      obtain ⟨kv, d0, d1, hkb⟩ := (Hbd.out.ext hx3).get j _ hg
      have hpp := Hpk.out _ (List.mem_of_getElem? hg)
      obtain ⟨hput, hhas⟩ := take_put Hr.out hg
      have hsz := sz_take Hr.out (j + 1)
      generalize ps[j] = p at *
      obtain ⟨ka, kc, rfl, l2, m2, n2⟩ := hkb.shape
      have i0 : (0 : Int) ≤ (j : Int) := by omega
      have i1 : (j : Int) < (ps.length : Int) := by omega
      have ta : Ext wr (wr.alloc (.cells #[.slice ka p.1.length kc, .int .u64 p.2] 33)) := (Touch.refl _ _).alloc _
      have hpt := put_new _ x _ _ 1048576 p.1 p.2 (hxj.ext ta) (by simp; omega) ((hkb.ext ta).mono (fun b hb hf => by have := hxf b hf; omega)) hpp.1 hpp.2 hhas (by rw [hput]; omega)
      unfold TPut at hpt
      rw [hput, hhas] at hpt
      have Hg := Lib.hid hg
      clear hg
      have Hkb := Lib.hid hkb
      clear hkb
      have Hpp := Lib.hid hpp
      clear hpp
      have Hpt := Lib.hid hpt
      clear hpt
      have Hput := Lib.hid hput
      clear hput
      have Hhas := Lib.hid hhas
      clear hhas
      have Hsz := Lib.hid hsz
      clear hsz
      have Hxj := Lib.hid hxj
      clear hxj
      have Hx3 := Lib.hid hx3
      clear hx3
      go_wp2_with (fail)
      (with_reducible refine Hpt.out.mono ?_)
      rintro e w5 ⟨rfl, F5, h5, u5, uf⟩
      have x5 : Ext w w5 := (Hx3.out.trans' ta).ext_new u5 (fun i hi => hxf i hi)
      have hs5 := (Hx3.out.trans' ta).size
      have H5 := Lib.hid h5
      clear h5
      have X5 := Lib.hid x5
      clear x5
      have U5 := Lib.hid u5
      clear u5
      go_wp2_with (fail)
      go_roundw
      case rel => exact ⟨j + 1, F5, by omega, by go_num, H5.out, fun b hb => by rcases uf b hb with h | h; exact hxf b h; omega, X5.out⟩
      case measure => simp [intOf]; omega
    · obtain rfl : j = ps.length := by omega
      have i1 : ¬ ((ps.length : Nat) : Int) < (ps.length : Int) := by omega
      rw [List.take_length] at hxj
      obtain ⟨g2, Fm2, v2, Fr2, Kr2, T2, hy⟩ := hxj
      have hxt : t ≠ x := fun h => by have := hxf x hy.self; omega
      obtain ⟨ga, rfl⟩ : ∃ ga, v2 = .pointer ga := by
        have hrn := hy.rn
        cases hX : T2.is with
        | false => rw [RT.is_false hX] at hrn; exact ⟨_, hrn⟩
        | true => obtain ⟨gr, h1, _⟩ := hrn.ptr hX; exact ⟨_, h1⟩
      have z0 := hy.c0
      have z2 := hy.c2
      have z3 := hy.c3
      have d0 := keepc hx3 id c0
      have d1 := keepc hx3 id c1
      have hx3' := hx3.drew
      have Hy := Lib.hid hy
      clear hy
      have Hx3 := Lib.hid hx3
      clear hx3
      have Hxf := Lib.hid hxf
      clear hxf
      have Hx3' := Lib.hid hx3'
      clear hx3'
      go_wp2_with (fail)
      refine wp_region_plan (.take 0 (.take 1 (.take 2 (.take 3 (.take 4 (.take 5 (.take 6 (.take 7 (.take 8 .done))))))))) (fun W => W.cell? ⟨x, 3, none⟩ = some (.int .i64 ((szK ps : Nat) : Int)) ∧ W.cell? ⟨t, 1, none⟩ = some (.int .i64 most)) (by kernel_rfl) (by kernel_rfl) (by kernel_rfl) rfl ?_ (fun KK hKK => ?_)
      · exact ⟨z3, d1⟩
      repeat (first
        | (refine wpPlan_take (v := ?_) rfl (by rfl) (fun W hW => ?_) ?_; rotate_left; (focus ((try dsimp only at hW); go_split_ands; go_simp; (try with_reducible rfl); done)); (try simp only [Act.put, List.setIfInBounds_toArray, List.set_cons_zero, List.set_cons_succ]))
        | (refine wpPlan_skip rfl (by rfl) ?_; (try simp only [Act.put, List.setIfInBounds_toArray, List.set_cons_zero, List.set_cons_succ])))
      refine wpPlan_done (hKK.out _ _ ?_)
      clear hKK KK
      go_wp2_with (fail)
      have e0 := keepc Hx3'.out id c0
      have e2 := keepc Hx3'.out id c2
      have e3 := keepc Hx3'.out id c3
      have hne : t ≠ x := hxt
      have k0 := keepf (p := ⟨t, 0, none⟩) Hx3'.out hlt id f0
      have k2 := keepf (p := ⟨t, 2, none⟩) Hx3'.out hlt id f2
      have k3 := keepf (p := ⟨t, 3, none⟩) Hx3'.out hlt id f3
      refine wp_region_plan (.take 0 (.take 1 (.take 2 (.take 3 (.take 4 (.take 5 (.take 6 (.take 7 (.take 8 (.take 9 (.take 10 (.take 11 (.take 12 (.take 13 (.take 14 (.take 15 (.take 16 (.must 17 (.take 18 (.take 19 (.must 20 (.take 21 (.take 22 (.last 23 .done)))))))))))))))))))))))) (fun W => W.cell? ⟨x, 0, none⟩ = some (.pointer (some ⟨g2, 0, none⟩)) ∧ W.cell? ⟨x, 2, none⟩ = some (.pointer ga) ∧ W.cell? ⟨x, 3, none⟩ = some (.int .i64 ((szK ps : Nat) : Int))) (by kernel_rfl) (by kernel_rfl) (by kernel_rfl) rfl ?_ (fun KK hKK => ?_)
      · exact ⟨z0, z2, z3⟩
      repeat (first
        | (refine wpPlan_take (v := ?_) rfl (by rfl) (fun W hW => ?_) ?_; rotate_left; (focus ((try dsimp only at hW); go_split_ands; go_simp; (try with_reducible rfl); done)); (try simp only [Act.put, List.setIfInBounds_toArray, List.set_cons_zero, List.set_cons_succ]))
        | (refine wpPlan_skip rfl (by rfl) ?_; (try simp only [Act.put, List.setIfInBounds_toArray, List.set_cons_zero, List.set_cons_succ])))
      refine wpPlan_must rfl (by rfl) (fun K hK => ?_)
      go_simp
      obtain ⟨wa, hwa⟩ : ∃ wa, wa = (wr.setCell ⟨t, 0, none⟩ (.pointer (some ⟨g2, 0, none⟩))).drew.drew := ⟨_, rfl⟩
      have oa : ∀ j, j ≠ 0 → wa.cell? ⟨t, j, none⟩ = wr.cell? ⟨t, j, none⟩ := fun j hj => by rw [hwa]; exact World.cell?_setCell_other wr _ _ _ (by simp [hj, Ne.symm hj])
      have of' : ∀ p, wa.frozen? p = wr.frozen? p := fun p => by rw [hwa]; exact World.frozen?_setCell _ _ _ _
      have ea0 : wa.cell? ⟨t, 0, none⟩ = some (.pointer (some ⟨g2, 0, none⟩)) := by rw [hwa]; exact World.cell?_setCell_same wr _ _ e0
      have ea1 : wa.cell? ⟨t, 1, none⟩ = some (.int .i64 most) := by rw [oa 1 (by decide)]; exact d1
      have ea2 : wa.cell? ⟨t, 2, none⟩ = some (.pointer gv) := by rw [oa 2 (by decide)]; exact e2
      have ea3 : wa.cell? ⟨t, 3, none⟩ = some (.int .i64 ((szK qs : Nat) : Int)) := by rw [oa 3 (by decide)]; exact e3
      have ka0 : wa.frozen? ⟨t, 0, none⟩ = false := by rw [of']; exact k0
      have ka2 : wa.frozen? ⟨t, 2, none⟩ = false := by rw [of']; exact k2
      have ka3 : wa.frozen? ⟨t, 3, none⟩ = false := by rw [of']; exact k3
      have ta : Touch (fun b => b = t) wr wa := by rw [hwa]; exact ((Touch.refl (fun b => b = t) wr).setCell (p := ⟨t, 0, none⟩) (Or.inl rfl) _).drew.drew
      have hxn : ¬ x = t := fun h => hne h.symm
      have q0 := keepc ta hxn z0
      have q2 := keepc ta hxn z2
      have q3 := keepc ta hxn z3
      rw [← hwa]
      clear hwa oa of'
      have Ta := Lib.hid ta
      clear ta
      refine hK.out _ _ ?_ ?_
      · exact ⟨q0, q2, q3⟩
      clear hK K
      (try simp only [Act.put, List.setIfInBounds_toArray, List.set_cons_zero, List.set_cons_succ])
      repeat (first
        | (refine wpPlan_take (v := ?_) rfl (by rfl) (fun W hW => ?_) ?_; rotate_left; (focus ((try dsimp only at hW); go_split_ands; go_simp; (try with_reducible rfl); done)); (try simp only [Act.put, List.setIfInBounds_toArray, List.set_cons_zero, List.set_cons_succ]))
        | (refine wpPlan_skip rfl (by rfl) ?_; (try simp only [Act.put, List.setIfInBounds_toArray, List.set_cons_zero, List.set_cons_succ])))
      refine wpPlan_must rfl (by rfl) (fun K hK => ?_)
      go_simp
      obtain ⟨wb, hwb⟩ : ∃ wb, wb = wa.setCell ⟨t, 2, none⟩ (.pointer ga) := ⟨_, rfl⟩
      have ob : ∀ j, j ≠ 2 → wb.cell? ⟨t, j, none⟩ = wa.cell? ⟨t, j, none⟩ := fun j hj => by rw [hwb]; exact World.cell?_setCell_other wa _ _ _ (by simp [hj, Ne.symm hj])
      have ogb : ∀ p, wb.frozen? p = wa.frozen? p := fun p => by rw [hwb]; exact World.frozen?_setCell _ _ _ _
      have eb0 : wb.cell? ⟨t, 0, none⟩ = some (.pointer (some ⟨g2, 0, none⟩)) := by rw [ob 0 (by decide)]; exact ea0
      have eb1 : wb.cell? ⟨t, 1, none⟩ = some (.int .i64 most) := by rw [ob 1 (by decide)]; exact ea1
      have eb2 : wb.cell? ⟨t, 2, none⟩ = some (.pointer ga) := by rw [hwb]; exact World.cell?_setCell_same wa _ _ ea2
      have eb3 : wb.cell? ⟨t, 3, none⟩ = some (.int .i64 ((szK qs : Nat) : Int)) := by rw [ob 3 (by decide)]; exact ea3
      have kb0 : wb.frozen? ⟨t, 0, none⟩ = false := by rw [ogb]; exact ka0
      have kb2 : wb.frozen? ⟨t, 2, none⟩ = false := by rw [ogb]; exact ka2
      have kb3 : wb.frozen? ⟨t, 3, none⟩ = false := by rw [ogb]; exact ka3
      have tb : Touch (fun b => b = t) wr wb := by rw [hwb]; exact Ta.out.setCell (p := ⟨t, 2, none⟩) (Or.inl rfl) _
      have s0 := keepc tb hxn z0
      have s2 := keepc tb hxn z2
      have s3 := keepc tb hxn z3
      rw [← hwb]
      clear hwb ob ogb ea0 ea1 ea2 ea3 ka0 ka2 ka3 q0 q2 q3
      have Tb := Lib.hid tb
      clear tb
      refine hK.out _ _ ?_ ?_
      · exact ⟨s0, s2, s3⟩
      clear hK K
      (try simp only [Act.put, List.setIfInBounds_toArray, List.set_cons_zero, List.set_cons_succ])
      repeat (first
        | (refine wpPlan_take (v := ?_) rfl (by rfl) (fun W hW => ?_) ?_; rotate_left; (focus ((try dsimp only at hW); go_split_ands; go_simp; (try with_reducible rfl); done)); (try simp only [Act.put, List.setIfInBounds_toArray, List.set_cons_zero, List.set_cons_succ]))
        | (refine wpPlan_skip rfl (by rfl) ?_; (try simp only [Act.put, List.setIfInBounds_toArray, List.set_cons_zero, List.set_cons_succ])))
      refine wpPlan_last rfl (by rfl) (fun K hK => ?_)
      go_simp
      obtain ⟨wc, hwc⟩ : ∃ wc, wc = wb.setCell ⟨t, 3, none⟩ (.int .i64 ((szK ps : Nat) : Int)) := ⟨_, rfl⟩
      have oc : ∀ j, j ≠ 3 → wc.cell? ⟨t, j, none⟩ = wb.cell? ⟨t, j, none⟩ := fun j hj => by rw [hwc]; exact World.cell?_setCell_other wb _ _ _ (by simp [hj, Ne.symm hj])
      have ogc : ∀ p, wc.frozen? p = wb.frozen? p := fun p => by rw [hwc]; exact World.frozen?_setCell _ _ _ _
      have ec0 : wc.cell? ⟨t, 0, none⟩ = some (.pointer (some ⟨g2, 0, none⟩)) := by rw [oc 0 (by decide)]; exact eb0
      have ec1 : wc.cell? ⟨t, 1, none⟩ = some (.int .i64 most) := by rw [oc 1 (by decide)]; exact eb1
      have ec2 : wc.cell? ⟨t, 2, none⟩ = some (.pointer ga) := by rw [oc 2 (by decide)]; exact eb2
      have ec3 : wc.cell? ⟨t, 3, none⟩ = some (.int .i64 ((szK ps : Nat) : Int)) := by rw [hwc]; exact World.cell?_setCell_same wb _ _ eb3
      have kc0 : wc.frozen? ⟨t, 0, none⟩ = false := by rw [ogc]; exact kb0
      have kc2 : wc.frozen? ⟨t, 2, none⟩ = false := by rw [ogc]; exact kb2
      have kc3 : wc.frozen? ⟨t, 3, none⟩ = false := by rw [ogc]; exact kb3
      have tc : Touch (fun b => b = t) wr wc := by rw [hwc]; exact Tb.out.setCell (p := ⟨t, 3, none⟩) (Or.inl rfl) _
      rw [← hwc]
      clear hwc oc ogc eb0 eb1 eb2 eb3 kb0 kb2 kb3 s0 s2 s3
      have Tc := Lib.hid tc
      clear tc
      refine hK.out _ _ ?_
      clear hK K
      (try simp only [Act.put, List.setIfInBounds_toArray, List.set_cons_zero, List.set_cons_succ])
      refine wpPlan_done (hKK.out _ _ ?_)
      clear hKK KK
      go_wp2_with (fail)
      go_ret
      have hx9 : ∀ b, Fx b → ¬ b = t := fun b hb h => by have := Hxf.out b hb; omega
      have htn : ¬ (1 : Nat) = t := fun h => hrb (h ▸ Ht.out.self)
      refine ⟨rfl, fun b => b = t ∨ Fx b, ⟨g2, Fm2, .pointer ga, Fr2, Kr2, T2, ?_⟩, Hx3.out.ext_trans Tc.out, fun b hb => hb.imp id (Hxf.out b)⟩
      refine ⟨ec0, ec1, ec2, ec3, kc0, kc2, kc3, Hy.out.mp.keep Tc.out (fun b hb => hx9 b (Hy.out.hm b hb).1), Hy.out.rn.keep Tc.out (fun b hb => hx9 b (Hy.out.hr b hb).1) (fun b hb => hx9 b (Hy.out.hk b hb).1), Hy.out.ok, Hy.out.pr,
        fun b hb => ⟨Or.inr (Hy.out.hm b hb).1, hx9 b (Hy.out.hm b hb).1⟩, fun b hb => ⟨Or.inr (Hy.out.hr b hb).1, hx9 b (Hy.out.hr b hb).1, (Hy.out.hr b hb).2.2⟩, fun b hb => ⟨Or.inr (Hy.out.hk b hb).1, hx9 b (Hy.out.hk b hb).1, (Hy.out.hk b hb).2.2⟩,
        Or.inl rfl, fun b hb => ?_, ⟨hroom, Ht.out.fit.2⟩, Hy.out.few, Hy.out.tr.keep Tc.out htn, fun h => h.elim htn Hy.out.rf⟩
      rcases hb with rfl | hb
      · exact Nat.lt_of_lt_of_le (Nat.lt_of_lt_of_le (Ht.out.lt _ Ht.out.self) Hx3.out.size) Tc.out.size
      · exact Nat.lt_of_lt_of_le (Hy.out.lt b hb) Tc.out.size
theorem build_full (w : World) (t : Nat) (v : Value) (qs ps : Prs) (most : Int) (ht : Tp w t F qs most) (h : RP w G v ps) (hm : ps.length ≤ 1000) (hpk : PK ps) (hr : Rises ps) (hroom : most < (szK ps : Int)) :
    Calls Tryd.prog 42 #[.pointer (some ⟨t, 0, none⟩), v] w fun e w' => e = .returned (.int .i64 4) ∧ Ext w w' := by
  have hcmp : decide (most < ((szK ps : Nat) : Int)) = true := by simp; omega
  obtain ⟨a, c, rfl, l1, m1, hn⟩ := h.shape
  unfold maxLen at m1
  have hmy := may_ok w _ ps h (by omega) hpk
  rw [risesB_step.2 hr] at hmy
  simp only [if_true] at hmy
  have hbd := rp_bound h
  have htr := ht.tr
  have hrb := ht.rf
  obtain ⟨g, Fm, v0, Fr, Kr, T, ht⟩ := ht
  obtain ⟨gv, rfl⟩ : ∃ gv, v0 = .pointer gv := by
    have hrn := ht.rn
    cases hX : T.is with
    | false => rw [RT.is_false hX] at hrn; exact ⟨_, hrn⟩
    | true => obtain ⟨gr, h1, _⟩ := hrn.ptr hX; exact ⟨_, h1⟩
  have c0 := ht.c0
  have c1 := ht.c1
  have c2 := ht.c2
  have c3 := ht.c3
  have f0 := ht.f0
  have f2 := ht.f2
  have f3 := ht.f3
  have hlt := ht.lt t ht.self
  have Hmy := Lib.hid hmy
  clear hmy
  have H := Lib.hid h
  clear h
  have Hbd := Lib.hid hbd
  clear hbd
  have Hpk := Lib.hid hpk
  clear hpk
  have Hr := Lib.hid hr
  clear hr
  have Htr := Lib.hid htr
  clear htr
  have Ht := Lib.hid ht
  clear ht
  go_enter Tryd.func42, Tryd.ntmps42
  go_wp2_with (fail)
  (with_reducible refine Hmy.out.mono ?_)
  rintro e w2 ⟨rfl, t2⟩
  have hnew := new_yes w2 (Htr.out.ext t2) 1048576 (by decide) (by decide)
  have Hnew := Lib.hid hnew
  clear hnew
  go_wp2_with (fail)
  (with_reducible refine Hnew.out.mono ?_)
  rintro e w3 ⟨x, F0, rfl, hx, hxf, t3⟩
  have hs2 := t2.size
  have x3 := t2.trans' t3
  have hxf' : ∀ b, F0 b → w.heap.size ≤ b := fun b hb => Nat.le_trans hs2 (hxf b hb)
  clear hs2 hxf
  have Hx := Lib.hid hx
  clear hx
  have X3 := Lib.hid x3
  clear x3
  go_wp2_with (fail)
  go_loopw [22] (fun s22 wr => ∃ j : Nat, ∃ Fx : Nat → Prop, j ≤ ps.length ∧ s22 = .int .i64 j ∧ Tp wr x Fx (ps.take j) 1048576 ∧ (∀ b, Fx b → w.heap.size ≤ b) ∧ Ext w wr) (fun s22 _ => ps.length - (intOf s22).toNat)
  case atStart => exact ⟨0, F0, by omega, rfl, Hx.out, hxf', X3.out⟩
  case round =>
    obtain ⟨j, Fx, hj, rfl, hxj, hxf, hx3⟩ := hrel
    by_cases hjl : j < ps.length
    · obtain ⟨b, off, rfl, _⟩ := H.out.addr (by omega)
      have hg := List.getElem?_eq_getElem hjl
      obtain ⟨kv, d0, d1, hkb⟩ := (Hbd.out.ext hx3).get j _ hg
      have hpp := Hpk.out _ (List.mem_of_getElem? hg)
      obtain ⟨hput, hhas⟩ := take_put Hr.out hg
      have hsz := sz_take Hr.out (j + 1)
      generalize ps[j] = p at *
      obtain ⟨ka, kc, rfl, l2, m2, n2⟩ := hkb.shape
      have i0 : (0 : Int) ≤ (j : Int) := by omega
      have i1 : (j : Int) < (ps.length : Int) := by omega
      have ta : Ext wr (wr.alloc (.cells #[.slice ka p.1.length kc, .int .u64 p.2] 33)) := (Touch.refl _ _).alloc _
      have hpt := put_new _ x _ _ 1048576 p.1 p.2 (hxj.ext ta) (by simp; omega) ((hkb.ext ta).mono (fun b hb hf => by have := hxf b hf; omega)) hpp.1 hpp.2 hhas (by rw [hput]; omega)
      unfold TPut at hpt
      rw [hput, hhas] at hpt
      have Hg := Lib.hid hg
      clear hg
      have Hkb := Lib.hid hkb
      clear hkb
      have Hpp := Lib.hid hpp
      clear hpp
      have Hpt := Lib.hid hpt
      clear hpt
      have Hput := Lib.hid hput
      clear hput
      have Hhas := Lib.hid hhas
      clear hhas
      have Hsz := Lib.hid hsz
      clear hsz
      have Hxj := Lib.hid hxj
      clear hxj
      have Hx3 := Lib.hid hx3
      clear hx3
      go_wp2_with (fail)
      (with_reducible refine Hpt.out.mono ?_)
      rintro e w5 ⟨rfl, F5, h5, u5, uf⟩
      have x5 : Ext w w5 := (Hx3.out.trans' ta).ext_new u5 (fun i hi => hxf i hi)
      have hs5 := (Hx3.out.trans' ta).size
      have H5 := Lib.hid h5
      clear h5
      have X5 := Lib.hid x5
      clear x5
      have U5 := Lib.hid u5
      clear u5
      go_wp2_with (fail)
      go_roundw
      case rel => exact ⟨j + 1, F5, by omega, by go_num, H5.out, fun b hb => by rcases uf b hb with h | h; exact hxf b h; omega, X5.out⟩
      case measure => simp [intOf]; omega
    · obtain rfl : j = ps.length := by omega
      have i1 : ¬ ((ps.length : Nat) : Int) < (ps.length : Int) := by omega
      rw [List.take_length] at hxj
      obtain ⟨g2, Fm2, v2, Fr2, Kr2, T2, hy⟩ := hxj
      have hxt : t ≠ x := fun h => by have := hxf x hy.self; omega
      obtain ⟨ga, rfl⟩ : ∃ ga, v2 = .pointer ga := by
        have hrn := hy.rn
        cases hX : T2.is with
        | false => rw [RT.is_false hX] at hrn; exact ⟨_, hrn⟩
        | true => obtain ⟨gr, h1, _⟩ := hrn.ptr hX; exact ⟨_, h1⟩
      have z0 := hy.c0
      have z2 := hy.c2
      have z3 := hy.c3
      have d0 := keepc hx3 id c0
      have d1 := keepc hx3 id c1
      have hx3' := hx3.drew
      have Hy := Lib.hid hy
      clear hy
      have Hx3 := Lib.hid hx3
      clear hx3
      have Hxf := Lib.hid hxf
      clear hxf
      have Hx3' := Lib.hid hx3'
      clear hx3'
      go_wp2_with (fail)
      refine wp_region_plan (.take 0 (.take 1 (.take 2 (.take 3 (.take 4 (.take 5 (.take 6 (.take 7 (.take 8 .done))))))))) (fun W => W.cell? ⟨x, 3, none⟩ = some (.int .i64 ((szK ps : Nat) : Int)) ∧ W.cell? ⟨t, 1, none⟩ = some (.int .i64 most)) (by kernel_rfl) (by kernel_rfl) (by kernel_rfl) rfl ?_ (fun KK hKK => ?_)
      · exact ⟨z3, d1⟩
      repeat (first
        | (refine wpPlan_take (v := ?_) rfl (by rfl) (fun W hW => ?_) ?_; rotate_left; (focus ((try dsimp only at hW); go_split_ands; go_simp; (try with_reducible rfl); done)); (try simp only [Act.put, List.setIfInBounds_toArray, List.set_cons_zero, List.set_cons_succ]))
        | (refine wpPlan_skip rfl (by rfl) ?_; (try simp only [Act.put, List.setIfInBounds_toArray, List.set_cons_zero, List.set_cons_succ])))
      refine wpPlan_done (hKK.out _ _ ?_)
      clear hKK KK
      go_wp2_with (fail)
      go_ret
      exact ⟨rfl, Hx3.out.drew⟩
end TreeD
end Go.Proofs.YtclnnkacfanaiaaDoor
