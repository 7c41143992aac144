/- The statement TernCells: there are as many cells as all keys have beginnings in all, each once, but the one without bytes, which counts if it is a key. Conditions: none beyond the statement's own guards. -/
import Derived.Test.YthfnacadabhpdaaTreeST
import Derived.Test.YthfnacadabhpdaaArg
import Derived.Test.YthfnacadabhpdaaRows
namespace Go.Proofs.Ythfnacadabhpdaa
open Go.ChangeShapes Go.WideShapes Go.ChangeAt Go.RowKit Go.Deep
set_option linter.unusedVariables false
set_option linter.unusedSimpArgs false
namespace LawTernCells
open TreeB TreeP TreeD TreeS ModF RefF ModP
open ModS (great_not)

theorem sz_small (X : Prs) (hl : X.length ≤ 30) (h : ∀ p ∈ X, p.1.length ≤ 20) : szK X ≤ 700 := by
  have h1 := sz_bound_aux 20 X none h
  have h2 : X.length * (20 + 2) ≤ 30 * (20 + 2) := Nat.mul_le_mul_right _ hl
  unfold szK; omega


set_option maxRecDepth 100000 in
set_option maxHeartbeats 8000000 in
theorem walk_small (v0 : Value) (bits : Int) (ps : Prs) (w : World) (h0 : RP w (In w) v0 ps) (hpk : PK ps) (hg : SameP.great ps 30 20 = false) (hm : ps.length ≤ 30) (hL : ∀ p ∈ ps, p.1.length ≤ 20) (hb64 : V64 bits) :
    Calls Try.prog 7 #[v0, .int .i64 bits] w fun e w' => e = .returned (.bool true) ∧ Ext w w' := by
  obtain ⟨a0, c0, rfl, l1, l2, _⟩ := h0.shape
  unfold maxLen at l2
  have hgr := SameP.great_any w _ _ ps 30 20 h0 (by decide) (by decide) (by decide) (by decide)
  rw [hg] at hgr
  have hnew := new_yes w 1000 (by decide) (by decide)
  unfold TNew at hnew
  have Hgr := Lib.hid hgr
  clear hgr
  have Hnew := Lib.hid hnew
  clear hnew
  have H0 := Lib.hid h0
  clear h0
  have Hpk := Lib.hid hpk
  clear hpk
  have HL := Lib.hid hL
  clear hL
  have Hb64 := Lib.hid hb64
  clear hb64
  clear hg
  go_enter Try.func7, Try.ntmps7
  go_wp2_with (fail)
  refine Hgr.out.mono ?_
  rintro e w' ⟨rfl, rfl⟩
  go_wp2_with (fail)
  (with_reducible refine Hnew.out.mono ?_)
  rintro e w1 ⟨t, F, rfl, htp, hF, t1⟩
  have hs := sx_new (Q := In w) (fun b hb => Nat.lt_of_lt_of_le hb t1.size) (fun b hb hq => by have h3 := hF b hb; have h4 : b < w.heap.size := hq; omega) htp
  have t3 := t1.alloc (.cells #[.slice none 0 0] 55)
  have Hs := Lib.hid hs
  clear hs
  have T3 := Lib.hid t3
  clear t3
  clear htp hF t1
  go_wp2_with (fail)
  generalize w1.heap.size = r at *
  generalize w1.alloc (.cells #[.slice none 0 0] 55) = w3 at *
  go_loopw [7] (fun s7 wr => ∃ (j : Nat) (M : Prs), j ≤ ps.length ∧ s7 = .int .i64 j ∧ M.length ≤ j ∧ (∀ p ∈ M, p.1.length ≤ 20) ∧ Sx (In w) wr t r M M 1000 ∧ Ext w wr) (fun s7 _ => ps.length - (intOf s7).toNat)
  case atStart => exact ⟨0, [], by omega, rfl, by simp, (fun p hp => by simp at hp), Hs.out, T3.out⟩
  case round =>
    obtain ⟨j, M, hj, rfl, hMl, hMk, hs, ht⟩ := hrel
    clear Hs T3
    by_cases hjk : j < ps.length
    · obtain ⟨b, off, rfl, hb⟩ := H0.out.addr (by omega)
      have hbw : b < w.heap.size := hb
      have hgj := List.getElem?_eq_getElem hjk
      have hpp := Hpk.out _ (List.mem_of_getElem? hgj)
      have hp20 := HL.out _ (List.mem_of_getElem? hgj)
      obtain ⟨kv, d0, d1, hkv⟩ := (H0.out.ext ht).get _ _ hgj
      generalize ps[j] = p at *
      obtain ⟨ka, kc, rfl, y1, y2, y3⟩ := hkv.shape
      unfold maxLen at y2
      have hj2 : j / 2 < ps.length := by omega
      have hgh := List.getElem?_eq_getElem hj2
      have hqq := Hpk.out _ (List.mem_of_getElem? hgh)
      generalize ps[j / 2] = q at *
      have hl1 : (putK M p.1 p.2).length ≤ j + 1 := by have := putK_length M p.1 p.2; split at this <;> omega
      have hk1 : ∀ x ∈ putK M p.1 p.2, x.1.length ≤ 20 := fun x hx => (putK_mem hx).elim (fun h => by rw [h]; exact hp20) (hMk x)
      have hr2 := sz_small _ (by omega) hk1
      have j1 : (j : Int) < (ps.length : Int) := by omega
      have j2 : (0 : Int) ≤ (j : Int) := by omega
      have hpu := sput (hs.ext (Touch.refl _ _).drew) (by omega) _ p.1 p.2 (hkv.ext (Touch.refl _ _).drew) hpp.1 hpp.2 (Or.inr (by omega))
      unfold SPut at hpu
      have Hgj := Lib.hid hgj
      clear hgj
      have Hgh := Lib.hid hgh
      clear hgh
      have Hqq := Lib.hid hqq
      clear hqq
      have Hpp := Lib.hid hpp
      clear hpp
      have Hkv := Lib.hid hkv
      clear hkv
      have Hs := Lib.hid hs
      clear hs
      have Ht := Lib.hid ht
      clear ht
      have Hpu := Lib.hid hpu
      clear hpu
      have Hr2 := Lib.hid hr2
      clear hr2
      have Hk1 := Lib.hid hk1
      clear hk1
      have HMk := Lib.hid hMk
      clear hMk
      go_wp2_with (fail)
      refine wp_region_plan (.take 0 (.take 1 (.take 2 (.take 3 (.take 4 (.take 5 (.take 6 (.take 7 (.take 8 (.take 9 (.take 10 (.must 11 (.take 12 (.take 13 (.take 14 (.take 15 (.take 16 (.take 17 (.take 18 .done))))))))))))))))))) (fun wy => wy.cell? ⟨b, off + j * 2, none⟩ = some (.slice ka p.1.length kc) ∧ wy.cell? ⟨b, off + j * 2 + 1, none⟩ = some (.int .u64 p.2)) (by kernel_rfl) (by kernel_rfl) (by kernel_rfl) rfl ?_ (fun KK hKK => ?_)
      · exact ⟨d0, d1⟩
      repeat (first
        | (refine wpPlan_take (v := ?_) rfl (by rfl) (fun W hW => ?_) ?_; rotate_left; (focus ((try dsimp only at hW); go_split_ands; go_simp; (try with_reducible rfl); done)); (try simp only [Act.put, List.setIfInBounds_toArray, List.set_cons_zero, List.set_cons_succ]))
        | (refine wpPlan_skip rfl (by rfl) ?_; (try simp only [Act.put, List.setIfInBounds_toArray, List.set_cons_zero, List.set_cons_succ])))
      refine wpPlan_must rfl (by rfl) (fun K hK => ?_)
      go_simp
      (with_reducible refine Hpu.out.mono ?_)
      rintro e w4 ⟨rfl, hs4, x4⟩
      have d0 := keepq x4 hbw d0
      have d1 := keepq x4 hbw d1
      have t4 := extq Ht.out.drew x4 (fun _ h => h)
      have hkv4 := rbq (Hkv.out.ext (Touch.refl _ _).drew) x4 (fun b hb => hb)
      clear x4
      have Hs4 := Lib.hid hs4
      clear hs4
      have T4 := Lib.hid t4
      clear t4
      have Hkv4 := Lib.hid hkv4
      clear hkv4
      refine hK.out _ _ ?_ ?_
      · exact ⟨d0, d1⟩
      clear hK K
      (try simp only [Act.put, List.setIfInBounds_toArray, List.set_cons_zero, List.set_cons_succ])
      repeat (first
        | (refine wpPlan_take (v := ?_) rfl (by rfl) (fun W hW => ?_) ?_; rotate_left; (focus ((try dsimp only at hW); go_split_ands; go_simp; (try with_reducible rfl); done)); (try simp only [Act.put, List.setIfInBounds_toArray, List.set_cons_zero, List.set_cons_succ]))
        | (refine wpPlan_skip rfl (by rfl) ?_; (try simp only [Act.put, List.setIfInBounds_toArray, List.set_cons_zero, List.set_cons_succ])))
      refine wpPlan_done (hKK.out _ _ ?_)
      clear hKK KK
      have hpr := srput (Hs4.out.ext (Touch.refl _ _).drew) (by omega) _ p.1 p.2 (Hkv4.out.ext (Touch.refl _ _).drew) Hpp.out.1 Hpp.out.2
      unfold SRPut at hpr
      have Hpr := Lib.hid hpr
      clear hpr
      go_wp2_with (fail)
      refine wp_region_plan (.take 0 (.take 1 (.take 2 (.take 3 (.take 4 (.take 5 (.take 6 (.take 7 (.take 8 (.take 9 (.take 10 (.must 11 .done)))))))))))) (fun wy => wy.cell? ⟨b, off + j * 2, none⟩ = some (.slice ka p.1.length kc) ∧ wy.cell? ⟨b, off + j * 2 + 1, none⟩ = some (.int .u64 p.2)) (by kernel_rfl) (by kernel_rfl) (by kernel_rfl) rfl ?_ (fun KK hKK => ?_)
      · exact ⟨d0, d1⟩
      repeat (first
        | (refine wpPlan_take (v := ?_) rfl (by rfl) (fun W hW => ?_) ?_; rotate_left; (focus ((try dsimp only at hW); go_split_ands; go_simp; (try with_reducible rfl); done)); (try simp only [Act.put, List.setIfInBounds_toArray, List.set_cons_zero, List.set_cons_succ]))
        | (refine wpPlan_skip rfl (by rfl) ?_; (try simp only [Act.put, List.setIfInBounds_toArray, List.set_cons_zero, List.set_cons_succ])))
      refine wpPlan_must rfl (by rfl) (fun K hK => ?_)
      go_simp
      (with_reducible refine Hpr.out.mono ?_)
      rintro e w5 ⟨rfl, hs5, x5⟩
      have d0 := keepq x5 hbw d0
      have d1 := keepq x5 hbw d1
      have t5 := extq T4.out.drew x5 (fun _ h => h)
      clear x5
      have Hs5 := Lib.hid hs5
      clear hs5
      have T5 := Lib.hid t5
      clear t5
      refine hK.out _ _ ?_ ?_
      · exact ⟨d0, d1⟩
      clear hK K
      (try simp only [Act.put, List.setIfInBounds_toArray, List.set_cons_zero, List.set_cons_succ])
      refine wpPlan_done (hKK.out _ _ ?_)
      clear hKK KK
      have hs1 := Hs5.out
      have t1 := T5.out
      have hk1 := Hk1.out
      clear Hs Hs4 T4 Hpu Hpr Hs5 T5 Hk1 Hr2 HMk hMl Hkv4
      generalize putK M p.1 p.2 = M1 at *
      obtain ⟨wc, rfl⟩ : ∃ wc, wc = w5 := ⟨_, rfl⟩
      cases hdb : (Go.bits BinOp.and IntKind.i64 (bits / 2 ^ (j % 60)) 1 == 1) with
      | false =>
        obtain ⟨M2, rfl⟩ : ∃ M2, M2 = M1 := ⟨_, rfl⟩
        obtain ⟨wd, rfl⟩ : ∃ wd, wd = wc := ⟨_, rfl⟩
        have hs2 := hs1
        have t2 := t1
        have hk2 := hk1
        have hl2 := hl1
        clear hs1 t1 hk1 hl1
        obtain ⟨ra, rc, r0, hrow⟩ := hs2.row
        obtain ⟨F9, htp⟩ := hs2.tree
        have hli := fun W (x : Ext wd W) => live_tp W t M2 1000 (htp.ext x)
        have hsh := fun W (x : Ext wd W) => TernT.shape_any W t M2 1000 (htp.ext x)
        unfold TernT.ShapeRet at hsh
        have hM30 : M2.length ≤ 30 := by omega
        have hkb := htp.kb
        clear htp
        have Hs2 := Lib.hid hs2
        clear hs2
        have T2 := Lib.hid t2
        clear t2
        have Hk2 := Lib.hid hk2
        clear hk2
        have Hrow := Lib.hid hrow
        clear hrow
        have Hli := Lib.hid hli
        clear hli
        have Hsh := Lib.hid hsh
        clear hsh
        have Hkb := Lib.hid hkb
        clear hkb
        go_wp2_with (fail)
        go_loopw [11, 12] (fun s11 s12 wx => ∃ q : Nat, q ≤ M2.length ∧ s12 = .int .i64 q ∧ s11 = .int .i64 (szK (M2.take q) : Nat) ∧ Ext wd wx) (fun _ s12 _ => M2.length - (intOf s12).toNat)
        case atStart => exact ⟨0, by omega, rfl, rfl, Touch.refl _ _⟩
        case round =>
          obtain ⟨q, hq, rfl, rfl, hx⟩ := hrel
          have r0x := keepc hx id r0
          have hb1 := sz_small (M2.take q) (by simp; omega) (fun p hp => Hk2.out p (List.mem_of_mem_take hp))
          by_cases hql : q < M2.length
          · obtain ⟨b2, off2, rfl, _⟩ := Hrow.out.addr (by omega)
            have hgq := List.getElem?_eq_getElem hql
            obtain ⟨xv, e0, e1, hxv⟩ := (Hrow.out.ext hx).get q _ hgq
            have hxl := Hk2.out _ (List.mem_of_getElem? hgq)
            have hst := sz_take M2 q _ hgq
            generalize M2[q] = x at *
            obtain ⟨xa, xc, rfl, y1, y2, y3⟩ := hxv.shape
            unfold maxLen at y2
            have q1 : (q : Int) < (M2.length : Int) := by omega
            have q2 : (0 : Int) ≤ (q : Int) := by omega
            by_cases hq0 : q = 0
            · subst hq0
              rw [last_zero] at hst
              by_cases hnil : x.1 = []
              · have hz : x.1.length = 0 := by rw [hnil]; rfl
                have hzb : ((x.1.length : Int) == 0) = true := by simp; omega
                rw [hnil, own_nil] at hst
                generalize szK (M2.take 0) = sz at *
                have Hgq := Lib.hid hgq
                clear hgq
                have Hxv := Lib.hid hxv
                clear hxv
                have Hst := Lib.hid hst
                clear hst
                have Hz := Lib.hid hz
                clear hz
                have Hnil := Lib.hid hnil
                clear hnil
                simp only [Nat.zero_mul, Nat.add_zero] at e0 e1
                go_wp2_with (fail)
                go_roundw
                case rel => exact ⟨0 + 1, by omega, by go_num, congrArg (Value.int .i64) (by have h1 := Hst.out; have h2 := Hz.out; omega), hx⟩
                case measure => simp [intOf]; omega
              · have hz : 0 < x.1.length := List.length_pos_iff.2 hnil
                have hzb : ((x.1.length : Int) == 0) = false := by simp; omega
                rw [own_none hnil] at hst
                generalize szK (M2.take 0) = sz at *
                have Hgq := Lib.hid hgq
                clear hgq
                have Hxv := Lib.hid hxv
                clear hxv
                have Hst := Lib.hid hst
                clear hst
                have Hnil := Lib.hid hnil
                clear hnil
                simp only [Nat.zero_mul, Nat.add_zero] at e0 e1
                go_wp2_with (fail)
                go_roundw
                case rel => exact ⟨0 + 1, by omega, by go_num, congrArg (Value.int .i64) (by have h1 := Hst.out; omega), hx⟩
                case measure => simp [intOf]; omega
            · obtain ⟨i, rfl⟩ : ∃ i, q = i + 1 := ⟨q - 1, by omega⟩
              have hil : i < M2.length := by omega
              have hgi := List.getElem?_eq_getElem hil
              obtain ⟨yv, e2, e3, hyv⟩ := (Hrow.out.ext hx).get i _ hgi
              have hyl := Hk2.out _ (List.mem_of_getElem? hgi)
              rw [last_pred M2 i _ hgi] at hst
              generalize M2[i] = y at *
              obtain ⟨ya, yc, rfl, _⟩ := hyv.shape
              have hcl := comK_le y.1 x.1
              have hcm := fun W (t : Ext wr W) => RefC.common_any W _ _ y.1 x.1 (hyv.ext t) (hxv.ext t) (by omega) (by omega)
              have q3 : (0 : Int) < (i : Int) + 1 := by omega
              have q4 : (0 : Int) ≤ (i : Int) := by omega
              have q5 : (i : Int) < (M2.length : Int) := by omega
              by_cases hnil : x.1 = []
              · have hz : x.1.length = 0 := by rw [hnil]; rfl
                have hzb : ((x.1.length : Int) == 0) = true := by simp; omega
                have hst : szK (M2.take (i + 1 + 1)) = szK (M2.take (i + 1)) + 1 := by rw [hst, hnil, own_nil]
                generalize comK y.1 x.1 = cm at *
                generalize szK (M2.take (i + 1)) = sz at *
                have Hgq := Lib.hid hgq
                clear hgq
                have Hgi := Lib.hid hgi
                clear hgi
                have Hxv := Lib.hid hxv
                clear hxv
                have Hyv := Lib.hid hyv
                clear hyv
                have Hst := Lib.hid hst
                clear hst
                have Hz := Lib.hid hz
                clear hz
                have Hnil := Lib.hid hnil
                clear hnil
                have Hcm := Lib.hid hcm
                clear hcm
                go_wp2_with (fail)
                (with_reducible refine (Hcm.out _ (Touch.refl _ _)).mono ?_)
                rintro e w7 ⟨rfl, t7⟩
                go_wp2_with (fail)
                go_roundw
                case rel => exact ⟨i + 1 + 1, by omega, by go_num, congrArg (Value.int .i64) (by have h1 := Hst.out; have h2 := Hz.out; omega), hx.trans' t7⟩
                case measure => simp [intOf]; omega
              · have hz : 0 < x.1.length := List.length_pos_iff.2 hnil
                have hzb : ((x.1.length : Int) == 0) = false := by simp; omega
                rw [own_some _ hnil] at hst
                generalize comK y.1 x.1 = cm at *
                generalize szK (M2.take (i + 1)) = sz at *
                have Hgq := Lib.hid hgq
                clear hgq
                have Hgi := Lib.hid hgi
                clear hgi
                have Hxv := Lib.hid hxv
                clear hxv
                have Hyv := Lib.hid hyv
                clear hyv
                have Hst := Lib.hid hst
                clear hst
                have Hnil := Lib.hid hnil
                clear hnil
                have Hcm := Lib.hid hcm
                clear hcm
                go_wp2_with (fail)
                (with_reducible refine (Hcm.out _ (Touch.refl _ _)).mono ?_)
                rintro e w7 ⟨rfl, t7⟩
                go_wp2_with (fail)
                go_roundw
                case rel => exact ⟨i + 1 + 1, by omega, by go_num, congrArg (Value.int .i64) (by have h1 := Hst.out; omega), hx.trans' t7⟩
                case measure => simp [intOf]; omega
          · obtain rfl : q = M2.length := by omega
            have q1 : ¬ ((M2.length : Nat) : Int) < (M2.length : Int) := by omega
            rw [List.take_length] at hb1 ⊢
            have hlz : ∀ cs d, TernT.TK M2 cs d → cs.length = szK M2 := fun _ _ h => h.length
            generalize szK M2 = z at *
            have z1 : ((z : Int) != (z : Int)) = false := by simp
            have Hlz := Lib.hid hlz
            clear hlz
            go_wp2_with (fail)
            (with_reducible refine (Hli.out _ hx).mono ?_)
            rintro e w8 ⟨rfl, rfl⟩
            go_wp2_with (fail)
            (with_reducible refine (Hsh.out _ hx).mono ?_)
            rintro e w9 ⟨⟨v1, cs, d, rfl, htk, hrc⟩, t9⟩
            have hcz := Hlz.out _ _ htk
            obtain ⟨sa, sc, rfl, s1, s2, _⟩ := hrc.shape
            rw [hcz] at s1 ⊢
            unfold maxLen at s2
            have Hcz := Lib.hid hcz
            clear hcz
            have Htk := Lib.hid htk
            clear htk
            have Hrc := Lib.hid hrc
            clear hrc
            go_wp2_with (fail)
            go_roundw
            case rel => exact ⟨j + 1, M2, by omega, by go_num, hl2, Hk2.out, Hs2.out.ext (hx.trans' t9), T2.out.trans' (hx.trans' t9)⟩
            case measure => simp [intOf]; omega
      | true =>
        have hx1 : Go.bits BinOp.and IntKind.i64 (bits / 2 ^ (j % 60)) 1 = 1 := by simpa using hdb
        clear hdb
        obtain ⟨hv, f0, _, hhv⟩ := (H0.out.ext t1).get _ _ Hgh.out
        obtain ⟨ha, hc, rfl, _⟩ := hhv.shape
        have hdr := sdrop hs1 _ q.1 hhv Hqq.out.1 Hqq.out.2
        unfold SDrop at hdr
        have Hdr := Lib.hid hdr
        clear hdr
        have Hhv := Lib.hid hhv
        clear hhv
        have Hs1 := Lib.hid hs1
        clear hs1
        have T1 := Lib.hid t1
        clear t1
        have Hk1 := Lib.hid hk1
        clear hk1
        go_wp2_with (fail)
        (with_reducible refine Hdr.out.mono ?_)
        rintro e w6 ⟨rfl, hs6, x6⟩
        have f0 := keepq x6 hbw f0
        have t6 := extq T1.out x6 (fun _ h => h)
        have hhv6 := rbq Hhv.out x6 (fun b hb => hb)
        have hrd := srdrop hs6 (by omega) _ q.1 hhv6 Hqq.out.1
        unfold SRDrop at hrd
        clear x6
        have Hrd := Lib.hid hrd
        clear hrd
        have T6 := Lib.hid t6
        clear t6
        have Hhv6 := Lib.hid hhv6
        clear hhv6
        have Hs6 := Lib.hid hs6
        clear hs6
        go_wp2_with (fail)
        (with_reducible refine Hrd.out.mono ?_)
        rintro e w7 ⟨rfl, hs2, x7⟩
        have t2 := extq T6.out x7 (fun _ h => h)
        have hl2 : (dropK M1 q.1).length ≤ j + 1 := by rw [dropK_length]; omega
        have hk2 : ∀ x ∈ dropK M1 q.1, x.1.length ≤ 20 := fun x hx => Hk1.out x (dropK_mem hx)
        clear x7 Hrd Hdr Hs1 T1 Hk1 hl1 T6 Hhv Hhv6 Hs6 f0
        generalize dropK M1 q.1 = M2 at *
        obtain ⟨wd, rfl⟩ : ∃ wd, wd = w7 := ⟨_, rfl⟩
        obtain ⟨ra, rc, r0, hrow⟩ := hs2.row
        obtain ⟨F9, htp⟩ := hs2.tree
        have hli := fun W (x : Ext wd W) => live_tp W t M2 1000 (htp.ext x)
        have hsh := fun W (x : Ext wd W) => TernT.shape_any W t M2 1000 (htp.ext x)
        unfold TernT.ShapeRet at hsh
        have hM30 : M2.length ≤ 30 := by omega
        have hkb := htp.kb
        clear htp
        have Hs2 := Lib.hid hs2
        clear hs2
        have T2 := Lib.hid t2
        clear t2
        have Hk2 := Lib.hid hk2
        clear hk2
        have Hrow := Lib.hid hrow
        clear hrow
        have Hli := Lib.hid hli
        clear hli
        have Hsh := Lib.hid hsh
        clear hsh
        have Hkb := Lib.hid hkb
        clear hkb
        go_wp2_with (fail)
        go_loopw [11, 12] (fun s11 s12 wx => ∃ q : Nat, q ≤ M2.length ∧ s12 = .int .i64 q ∧ s11 = .int .i64 (szK (M2.take q) : Nat) ∧ Ext wd wx) (fun _ s12 _ => M2.length - (intOf s12).toNat)
        case atStart => exact ⟨0, by omega, rfl, rfl, Touch.refl _ _⟩
        case round =>
          obtain ⟨q, hq, rfl, rfl, hx⟩ := hrel
          have r0x := keepc hx id r0
          have hb1 := sz_small (M2.take q) (by simp; omega) (fun p hp => Hk2.out p (List.mem_of_mem_take hp))
          by_cases hql : q < M2.length
          · obtain ⟨b2, off2, rfl, _⟩ := Hrow.out.addr (by omega)
            have hgq := List.getElem?_eq_getElem hql
            obtain ⟨xv, e0, e1, hxv⟩ := (Hrow.out.ext hx).get q _ hgq
            have hxl := Hk2.out _ (List.mem_of_getElem? hgq)
            have hst := sz_take M2 q _ hgq
            generalize M2[q] = x at *
            obtain ⟨xa, xc, rfl, y1, y2, y3⟩ := hxv.shape
            unfold maxLen at y2
            have q1 : (q : Int) < (M2.length : Int) := by omega
            have q2 : (0 : Int) ≤ (q : Int) := by omega
            by_cases hq0 : q = 0
            · subst hq0
              rw [last_zero] at hst
              by_cases hnil : x.1 = []
              · have hz : x.1.length = 0 := by rw [hnil]; rfl
                have hzb : ((x.1.length : Int) == 0) = true := by simp; omega
                rw [hnil, own_nil] at hst
                generalize szK (M2.take 0) = sz at *
                have Hgq := Lib.hid hgq
                clear hgq
                have Hxv := Lib.hid hxv
                clear hxv
                have Hst := Lib.hid hst
                clear hst
                have Hz := Lib.hid hz
                clear hz
                have Hnil := Lib.hid hnil
                clear hnil
                simp only [Nat.zero_mul, Nat.add_zero] at e0 e1
                go_wp2_with (fail)
                go_roundw
                case rel => exact ⟨0 + 1, by omega, by go_num, congrArg (Value.int .i64) (by have h1 := Hst.out; have h2 := Hz.out; omega), hx⟩
                case measure => simp [intOf]; omega
              · have hz : 0 < x.1.length := List.length_pos_iff.2 hnil
                have hzb : ((x.1.length : Int) == 0) = false := by simp; omega
                rw [own_none hnil] at hst
                generalize szK (M2.take 0) = sz at *
                have Hgq := Lib.hid hgq
                clear hgq
                have Hxv := Lib.hid hxv
                clear hxv
                have Hst := Lib.hid hst
                clear hst
                have Hnil := Lib.hid hnil
                clear hnil
                simp only [Nat.zero_mul, Nat.add_zero] at e0 e1
                go_wp2_with (fail)
                go_roundw
                case rel => exact ⟨0 + 1, by omega, by go_num, congrArg (Value.int .i64) (by have h1 := Hst.out; omega), hx⟩
                case measure => simp [intOf]; omega
            · obtain ⟨i, rfl⟩ : ∃ i, q = i + 1 := ⟨q - 1, by omega⟩
              have hil : i < M2.length := by omega
              have hgi := List.getElem?_eq_getElem hil
              obtain ⟨yv, e2, e3, hyv⟩ := (Hrow.out.ext hx).get i _ hgi
              have hyl := Hk2.out _ (List.mem_of_getElem? hgi)
              rw [last_pred M2 i _ hgi] at hst
              generalize M2[i] = y at *
              obtain ⟨ya, yc, rfl, _⟩ := hyv.shape
              have hcl := comK_le y.1 x.1
              have hcm := fun W (t : Ext wr W) => RefC.common_any W _ _ y.1 x.1 (hyv.ext t) (hxv.ext t) (by omega) (by omega)
              have q3 : (0 : Int) < (i : Int) + 1 := by omega
              have q4 : (0 : Int) ≤ (i : Int) := by omega
              have q5 : (i : Int) < (M2.length : Int) := by omega
              by_cases hnil : x.1 = []
              · have hz : x.1.length = 0 := by rw [hnil]; rfl
                have hzb : ((x.1.length : Int) == 0) = true := by simp; omega
                have hst : szK (M2.take (i + 1 + 1)) = szK (M2.take (i + 1)) + 1 := by rw [hst, hnil, own_nil]
                generalize comK y.1 x.1 = cm at *
                generalize szK (M2.take (i + 1)) = sz at *
                have Hgq := Lib.hid hgq
                clear hgq
                have Hgi := Lib.hid hgi
                clear hgi
                have Hxv := Lib.hid hxv
                clear hxv
                have Hyv := Lib.hid hyv
                clear hyv
                have Hst := Lib.hid hst
                clear hst
                have Hz := Lib.hid hz
                clear hz
                have Hnil := Lib.hid hnil
                clear hnil
                have Hcm := Lib.hid hcm
                clear hcm
                go_wp2_with (fail)
                (with_reducible refine (Hcm.out _ (Touch.refl _ _)).mono ?_)
                rintro e w7 ⟨rfl, t7⟩
                go_wp2_with (fail)
                go_roundw
                case rel => exact ⟨i + 1 + 1, by omega, by go_num, congrArg (Value.int .i64) (by have h1 := Hst.out; have h2 := Hz.out; omega), hx.trans' t7⟩
                case measure => simp [intOf]; omega
              · have hz : 0 < x.1.length := List.length_pos_iff.2 hnil
                have hzb : ((x.1.length : Int) == 0) = false := by simp; omega
                rw [own_some _ hnil] at hst
                generalize comK y.1 x.1 = cm at *
                generalize szK (M2.take (i + 1)) = sz at *
                have Hgq := Lib.hid hgq
                clear hgq
                have Hgi := Lib.hid hgi
                clear hgi
                have Hxv := Lib.hid hxv
                clear hxv
                have Hyv := Lib.hid hyv
                clear hyv
                have Hst := Lib.hid hst
                clear hst
                have Hnil := Lib.hid hnil
                clear hnil
                have Hcm := Lib.hid hcm
                clear hcm
                go_wp2_with (fail)
                (with_reducible refine (Hcm.out _ (Touch.refl _ _)).mono ?_)
                rintro e w7 ⟨rfl, t7⟩
                go_wp2_with (fail)
                go_roundw
                case rel => exact ⟨i + 1 + 1, by omega, by go_num, congrArg (Value.int .i64) (by have h1 := Hst.out; omega), hx.trans' t7⟩
                case measure => simp [intOf]; omega
          · obtain rfl : q = M2.length := by omega
            have q1 : ¬ ((M2.length : Nat) : Int) < (M2.length : Int) := by omega
            rw [List.take_length] at hb1 ⊢
            have hlz : ∀ cs d, TernT.TK M2 cs d → cs.length = szK M2 := fun _ _ h => h.length
            generalize szK M2 = z at *
            have z1 : ((z : Int) != (z : Int)) = false := by simp
            have Hlz := Lib.hid hlz
            clear hlz
            go_wp2_with (fail)
            (with_reducible refine (Hli.out _ hx).mono ?_)
            rintro e w8 ⟨rfl, rfl⟩
            go_wp2_with (fail)
            (with_reducible refine (Hsh.out _ hx).mono ?_)
            rintro e w9 ⟨⟨v1, cs, d, rfl, htk, hrc⟩, t9⟩
            have hcz := Hlz.out _ _ htk
            obtain ⟨sa, sc, rfl, s1, s2, _⟩ := hrc.shape
            rw [hcz] at s1 ⊢
            unfold maxLen at s2
            have Hcz := Lib.hid hcz
            clear hcz
            have Htk := Lib.hid htk
            clear htk
            have Hrc := Lib.hid hrc
            clear hrc
            go_wp2_with (fail)
            go_roundw
            case rel => exact ⟨j + 1, M2, by omega, by go_num, hl2, Hk2.out, Hs2.out.ext (hx.trans' t9), T2.out.trans' (hx.trans' t9)⟩
            case measure => simp [intOf]; omega
    · obtain rfl : j = ps.length := by omega
      have i1 : ¬ ((ps.length : Nat) : Int) < (ps.length : Int) := by omega
      have Ht := Lib.hid ht
      clear ht
      have Hs := Lib.hid hs
      clear hs
      have HMk := Lib.hid hMk
      clear hMk
      go_wp2_with (fail)
      refine (TreeW.awake_any _).mono ?_
      rintro e w7 ⟨rfl, t7⟩
      go_wp2_with (fail)
      go_ret
      exact ⟨rfl, Ht.out.trans' t7⟩

set_option maxRecDepth 100000 in
set_option maxHeartbeats 400000 in
theorem walk_great (v0 : Value) (bits : Int) (ps : Prs) (F : Nat → Prop) (w : World) (h0 : RP w F v0 ps) (hg : SameP.great ps 30 20 = true) :
    Calls Try.prog 7 #[v0, .int .i64 bits] w fun e w' => e = .returned (.bool true) ∧ Ext w w' := by
  obtain ⟨a0, c0, rfl, l1, l2, _⟩ := h0.shape
  unfold maxLen at l2
  have hgr := SameP.great_any w F _ ps 30 20 h0 (by decide) (by decide) (by decide) (by decide)
  rw [hg] at hgr
  have Hgr := Lib.hid hgr
  clear hgr
  have Hg := Lib.hid hg
  clear hg
  go_enter Try.func7, Try.ntmps7
  go_wp2_with (fail)
  refine Hgr.out.mono ?_
  rintro e w' ⟨rfl, rfl⟩
  go_wp2_with (fail)
  refine (TreeW.awake_any _).mono ?_
  rintro e w' ⟨rfl, ht⟩
  go_wp2_with (fail)
  go_ret
  exact ⟨rfl, ht⟩

set_option maxRecDepth 100000 in
theorem lifted (os : Os) (started : os.Started) (H : Type) (enc : TypeId × Value → H) :
    ReturnsInHanded {} Try.checked os 7 .any (Rows.ternCellsSpec.pre6 enc Try.prog Try.f7 Rows.ternCellsRow.domain false) (Rows.ternCellsSpec.post enc Try.prog Try.f7 false true false false) := by
  refine returnsInHanded_of_change (C := Try.checked) Try.own started (by kernel_rfl) Try.func7
    (ChangeSpec.witness6 (enc := enc) (C := Try.checked) false ⟨#[], #[.slice none 0 0, .int .i64 0], []⟩ 8 (by kernel_rfl) (by kernel_rfl) (by kernel_rfl) (by kernel_rfl)) ?_
  intro W base args ds gs before hval0 hW hcnd _
  have hval : ∀ (j : Nat) t v, Try.f7.params[j]? = some t → args[j]? = some v → Value.okWide Try.prog W .any base t v := hval0
  have hW' := hW
  obtain ⟨p, q, hA0, hV, rfl, hfz, hnd⟩ := hW
  have hA : DataW.TrodAll enc Try.prog W 0 (fun _ => true) true Try.f7.params.toList args.toList ds p := hA0
  rw [Try.params7] at hA hval
  obtain ⟨v0, v1, d0, d1, p0, p1, rfl, rfl, rfl, h0, h1⟩ := trodAll_two hA
  obtain ⟨rfl, rfl⟩ := trodVars_none hV
  refine Calls.mono (R := fun e w' => e = .returned (.bool true) ∧ Touch (fun _ => False) W w') ?_ fun e W' ⟨he, hw⟩ => (by subst he; exact ⟨_, rfl, law_post Try.laidOut (by kernel_rfl) rfl Try.underlying4 rfl rfl ⟨rfl, rfl, rfl⟩ hW' (hw.below fun _ h _ => h)⟩)
  obtain ⟨ps, hps, hpp⟩ := rp_of_arg (hval 0 22 v0 rfl rfl) h0
  obtain ⟨n1, rfl, rfl, rfl, hV1⟩ := open_int Try.underlying3 (hval 1 3 v1 rfl rfl) h1
  by_cases hg : SameP.great ps 30 20 = true
  · exact walk_great v0 n1 ps _ W hps hg
  · have hg : SameP.great ps 30 20 = false := by simpa using hg
    have hgn := great_not (most := 30) (long := 20) hg
    exact walk_small v0 n1 ps W hps (fun p hp => ⟨(hpp p hp).1, by have := hgn.2 p hp; omega⟩) hg hgn.1 hgn.2 (v64_wf hV1)
theorem ternCells_holds : Rows.TernCellsSaid :=
  OpenClaim.holds_of_wide 7 Try.f7 rfl rfl rfl rfl rfl rfl rfl ⟨rfl, rfl, rfl, rfl, rfl⟩ rfl rfl rfl rfl rfl (by kernel_rfl) Try.func7 (by kernel_rfl)
    (of_decide_eq_true (by kernel_rfl)) (by unfold Func.isWrapper; first | (rw [if_pos (by decide +kernel)]; kernel_rfl) | (rw [if_neg (by decide +kernel)]; exact ⟨rfl, rfl⟩))
    (fun os started H enc _ => lifted os started H enc)
end LawTernCells
end Go.Proofs.Ythfnacadabhpdaa
