/- The statement ModelLast. -/
import Derived.Test.YthannllagabclaaModS
import Derived.Test.YthannllagabclaaRows
namespace Go.Proofs.Ythannllagabclaa
open Go.ChangeShapes Go.WideShapes Go.ChangeAt Go.RowKit Go.Deep
set_option linter.unusedVariables false
set_option linter.unusedSimpArgs false
namespace LawModelLast
open ModA ModB ModF ModI ModL ModP ModR ModS



set_option maxRecDepth 100000 in
set_option maxHeartbeats 4000000 in
theorem walk_small (v0 v1 : Value) (ps : Prs) (k : List Int) (w : World) (h0 : RP w (fun b => b < w.heap.size) v0 ps) (h1 : RB w (fun b => b < w.heap.size) v1 k) (hpk : PK ps) (kb : KB k) (hg : SameP.great ps 40 10 = false) (hm : ps.length ≤ 40) (hk : k.length ≤ 10) :
    Calls Try.prog 4 #[v0, v1] w fun e w' => e = .returned (.bool true) ∧ Ext w w' := by
  obtain ⟨a0, c0, rfl, l1, l2⟩ := h0.shape
  obtain ⟨a1, c1, rfl, l3, l4⟩ := h1.shape
  unfold maxLen at l2 l4
  have hgr := SameP.great_any w _ _ ps 40 10 h0 (by decide) (by decide) (by decide) (by decide)
  have hnew := new_any w _ ps h0 (by omega) hpk
  rw [hg] at hgr
  have hr := mkK_rises ps
  have hml := mkK_length ps
  have hmm := fun p (hp : p ∈ mkK ps) => hpk p (mkK_mem hp)
  have hself := mk_self hr
  have hlast := lastV_law ps k ps.length
  rw [List.take_length] at hlast
  have hstep := fun j p (h : ps[j]? = some p) => mkK_take ps j p h
  have hlv := fun j p (h : ps[j]? = some p) => lastV_take ps k j p h
  have hmj : ∀ j, (mkK (ps.take j)).length ≤ j := fun j => Nat.le_trans (mkK_length _) (by simp; omega)
  generalize hMe : mkK ps = M at *
  have hM : M.length ≤ 40 := by omega
  have Hgr := Lib.hid hgr
  clear hgr
  have Hnew := Lib.hid hnew
  clear hnew
  have Hr := Lib.hid hr
  clear hr
  have Hmm := Lib.hid hmm
  clear hmm
  have Hself := Lib.hid hself
  clear hself
  have Hlast := Lib.hid hlast
  clear hlast
  have Hstep := Lib.hid hstep
  clear hstep
  have Hlv := Lib.hid hlv
  clear hlv
  have Hmj := Lib.hid hmj
  clear hmj
  have H0 := Lib.hid h0
  clear h0
  have H1 := Lib.hid h1
  clear h1
  have Hpk := Lib.hid hpk
  clear hpk
  have Kb := Lib.hid kb
  clear kb
  have HMe := Lib.hid hMe
  clear hMe
  clear hg hml
  go_enter Try.func4, Try.ntmps4
  go_wp2_with (fail)
  refine Hgr.out.mono ?_
  rintro e w' ⟨rfl, rfl⟩
  have dk : decide ((10 : Int) < (k.length : Int)) = false := by simp; omega
  go_wp2_with (fail)
  refine Hnew.out.mono ?_
  rintro e w1 ⟨g, Fm, rfl, hmp, hFm, ht1⟩
  have Hmp := Lib.hid hmp
  clear hmp
  have HFm := Lib.hid hFm
  clear hFm
  have Ht1 := Lib.hid ht1
  clear ht1
  go_wp2_with (fail)
  refine (new_any (G := Any) w1 _ [] (RP.nil _ _) (by decide) (fun p hp => by simp at hp)).mono ?_
  rintro e w2 ⟨g2, Fn, rfl, hnp, hFn, ht2⟩
  have Hnp := Lib.hid hnp
  clear hnp
  have HFn := Lib.hid hFn
  clear hFn
  have Ht2 := Lib.hid ht2
  clear ht2
  go_wp2_with (fail)
  go_loopw [7, 8, 9] (fun s7 s8 s9 wr => ∃ (j : Nat) (F : Nat → Prop), j ≤ ps.length ∧ s9 = .int .i64 j ∧ s7 = .int .u64 (lastV (ps.take j) k).1 ∧ s8 = .bool (lastV (ps.take j) k).2 ∧ Mp wr g2 F (mkK (ps.take j)) ∧ (∀ b, F b → w1.heap.size ≤ b) ∧ Ext w1 wr) (fun _ _ s9 _ => ps.length - (intOf s9).toNat)
  case atStart => exact ⟨0, Fn, by omega, rfl, rfl, rfl, Hnp.out, HFn.out, Ht2.out⟩
  case round =>
    obtain ⟨j, F, hj, rfl, rfl, rfl, hnj, hF, ht⟩ := hrel
    by_cases hjk : j < ps.length
    · obtain ⟨b, off, rfl, hb⟩ := H0.out.addr (by omega)
      have hgj := List.getElem?_eq_getElem hjk
      obtain ⟨kv, d0, d1, hkv⟩ := H0.out.get _ _ hgj
      have hpp := Hpk.out _ (List.mem_of_getElem? hgj)
      have hst := Hstep.out j _ hgj
      have hl' := Hlv.out j _ hgj
      generalize ps[j] = p at *
      obtain ⟨ka, kc, rfl, _⟩ := hkv.shape
      have i1 : (j : Int) < (ps.length : Int) := by omega
      have i2 : (0 : Int) ≤ (j : Int) := by omega
      have htw := Ht1.out.trans' ht
      have e0 := keepc htw id d0
      have e1 := keepc htw id d1
      have hput := fun W (t : Ext wr W) => put_any W g2 (.slice ka p.1.length kc) (mkK (ps.take j)) p.1 p.2 (hnj.ext t) ((hkv.ext htw).ext t) hpp.1 hpp.2 (by have := Hmj.out j; omega)
      have hlen1 := Hmj.out j
      have hlen2 := putK_length (mkK (ps.take j)) p.1 p.2
      unfold PutRet at hput
      rw [← hst] at hput hlen2
      obtain ⟨N', hN'⟩ : ∃ N', mkK (ps.take (j + 1)) = N' := ⟨_, rfl⟩
      rw [hN'] at hput hlen2
      generalize mkK (ps.take j) = N at *
      generalize lastV (ps.take j) k = L at *
      obtain ⟨lv, lo⟩ := L
      have HN' := Lib.hid hN'
      clear hN'
      cases hb : hasK N p.1 with
      | false =>
        rw [hb] at hput hlen2
        have Hput := Lib.hid hput
        clear hput
        have Hst := Lib.hid hst
        clear hst
        have Hl' := Lib.hid hl'
        clear hl'
        have Hb := Lib.hid hb
        clear hb
        have Hkv := Lib.hid hkv
        clear hkv
        have Hnj := Lib.hid hnj
        clear hnj
        have HF := Lib.hid hF
        clear hF
        go_wp2_with (fail)
        refine wp_region_plan (.take 0 (.take 1 (.take 2 (.take 3 (.take 4 (.take 5 (.take 6 (.take 7 (.take 8 (.take 9 (.take 10 (.must 11 (.take 12 (.take 13 (.take 14 (.take 15 (.take 16 (.take 17 (.take 18 .done))))))))))))))))))) (fun wy => Ext w wy ∧ wy.cell? ⟨b, off + j * 2, none⟩ = some (.slice ka p.1.length kc) ∧ wy.cell? ⟨b, off + j * 2 + 1, none⟩ = some (.int .u64 p.2)) (by kernel_rfl) (by kernel_rfl) (by kernel_rfl) rfl ?_ (fun KK hKK => ?_)
        · exact ⟨htw.drew, e0, e1⟩
        repeat (first
          | (refine wpPlan_take (v := ?_) rfl (by rfl) (fun W hW => ?_) ?_; rotate_left; (focus ((try dsimp only at hW); go_split_ands; go_simp; (try with_reducible rfl); done)); (try simp only [Act.put, List.setIfInBounds_toArray, List.set_cons_zero, List.set_cons_succ]))
          | (refine wpPlan_skip rfl (by rfl) ?_; (try simp only [Act.put, List.setIfInBounds_toArray, List.set_cons_zero, List.set_cons_succ])))
        refine wpPlan_must rfl (by rfl) (fun K hK => ?_)
        go_simp
        (with_reducible refine (Hput.out _ (Touch.refl _ _).drew).mono ?_)
        rintro e w3 ⟨rfl, F', hn', hu, hsub⟩
        have x3 : Ext w1 w3 := (ht.drew).ext_new hu HF.out
        have hF' : ∀ b, F' b → w1.heap.size ≤ b := fun b hb => by
          rcases hsub b hb with h | h
          · exact HF.out b h
          · exact Nat.le_trans ht.drew.size h
        have y0 := keepc (Ht1.out.trans' x3) id d0
        have y1 := keepc (Ht1.out.trans' x3) id d1
        clear hu hsub
        have Hn' := Lib.hid hn'
        clear hn'
        refine hK.out _ _ ?_ ?_
        · exact ⟨Ht1.out.trans' x3, y0, y1⟩
        clear hK K
        (try simp only [Act.put, List.setIfInBounds_toArray, List.set_cons_zero, List.set_cons_succ])
        repeat (first
          | (refine wpPlan_take (v := ?_) rfl (by rfl) (fun W hW => ?_) ?_; rotate_left; (focus ((try dsimp only at hW); go_split_ands; go_simp; (try with_reducible rfl); done)); (try simp only [Act.put, List.setIfInBounds_toArray, List.set_cons_zero, List.set_cons_succ]))
          | (refine wpPlan_skip rfl (by rfl) ?_; (try simp only [Act.put, List.setIfInBounds_toArray, List.set_cons_zero, List.set_cons_succ])))
        refine wpPlan_done (hKK.out _ _ ?_)
        clear hKK KK
        have hsb := SameP.same_bytes w3 (.slice ka p.1.length kc) (.slice a1 k.length c1) p.1 k (Hkv.out.ext (Ht1.out.trans' x3)) (H1.out.ext (Ht1.out.trans' x3)) (by have := hpp.2; omega) (by omega)
        by_cases hke : p.1 = k
        · rw [decide_eq_true hke] at hsb
          have Hsb := Lib.hid hsb
          clear hsb
          have Hke := Lib.hid hke
          clear hke
          go_wp2_with (fail)
          (with_reducible refine Hsb.out.mono ?_)
          rintro e w4 ⟨rfl, ht4⟩
          have f1 := keepc ht4 id y1
          have f0 := keepc ht4 id y0
          go_wp2_with (fail)
          go_roundw
          case rel => exact ⟨j + 1, F', by omega, by go_num, by rw [Hl'.out]; simp [Hke.out], by rw [Hl'.out]; simp [Hke.out], by rw [HN'.out]; exact Hn'.out.ext ht4, hF', x3.trans' ht4⟩
          case measure => simp [intOf]; omega
        · rw [decide_eq_false hke] at hsb
          have Hsb := Lib.hid hsb
          clear hsb
          have Hke := Lib.hid hke
          clear hke
          go_wp2_with (fail)
          (with_reducible refine Hsb.out.mono ?_)
          rintro e w4 ⟨rfl, ht4⟩
          have f1 := keepc ht4 id y1
          have f0 := keepc ht4 id y0
          go_wp2_with (fail)
          go_roundw
          case rel => exact ⟨j + 1, F', by omega, by go_num, by rw [Hl'.out]; simp [Hke.out], by rw [Hl'.out]; simp [Hke.out], by rw [HN'.out]; exact Hn'.out.ext ht4, hF', x3.trans' ht4⟩
          case measure => simp [intOf]; omega
      | true =>
        rw [hb] at hput hlen2
        have Hput := Lib.hid hput
        clear hput
        have Hst := Lib.hid hst
        clear hst
        have Hl' := Lib.hid hl'
        clear hl'
        have Hb := Lib.hid hb
        clear hb
        have Hkv := Lib.hid hkv
        clear hkv
        have Hnj := Lib.hid hnj
        clear hnj
        have HF := Lib.hid hF
        clear hF
        go_wp2_with (fail)
        refine wp_region_plan (.take 0 (.take 1 (.take 2 (.take 3 (.take 4 (.take 5 (.take 6 (.take 7 (.take 8 (.take 9 (.take 10 (.must 11 (.take 12 (.take 13 (.take 14 (.take 15 (.take 16 (.take 17 (.take 18 .done))))))))))))))))))) (fun wy => Ext w wy ∧ wy.cell? ⟨b, off + j * 2, none⟩ = some (.slice ka p.1.length kc) ∧ wy.cell? ⟨b, off + j * 2 + 1, none⟩ = some (.int .u64 p.2)) (by kernel_rfl) (by kernel_rfl) (by kernel_rfl) rfl ?_ (fun KK hKK => ?_)
        · exact ⟨htw.drew, e0, e1⟩
        repeat (first
          | (refine wpPlan_take (v := ?_) rfl (by rfl) (fun W hW => ?_) ?_; rotate_left; (focus ((try dsimp only at hW); go_split_ands; go_simp; (try with_reducible rfl); done)); (try simp only [Act.put, List.setIfInBounds_toArray, List.set_cons_zero, List.set_cons_succ]))
          | (refine wpPlan_skip rfl (by rfl) ?_; (try simp only [Act.put, List.setIfInBounds_toArray, List.set_cons_zero, List.set_cons_succ])))
        refine wpPlan_must rfl (by rfl) (fun K hK => ?_)
        go_simp
        (with_reducible refine (Hput.out _ (Touch.refl _ _).drew).mono ?_)
        rintro e w3 ⟨rfl, F', hn', hu, hsub⟩
        have x3 : Ext w1 w3 := (ht.drew).ext_new hu HF.out
        have hF' : ∀ b, F' b → w1.heap.size ≤ b := fun b hb => by
          rcases hsub b hb with h | h
          · exact HF.out b h
          · exact Nat.le_trans ht.drew.size h
        have y0 := keepc (Ht1.out.trans' x3) id d0
        have y1 := keepc (Ht1.out.trans' x3) id d1
        clear hu hsub
        have Hn' := Lib.hid hn'
        clear hn'
        refine hK.out _ _ ?_ ?_
        · exact ⟨Ht1.out.trans' x3, y0, y1⟩
        clear hK K
        (try simp only [Act.put, List.setIfInBounds_toArray, List.set_cons_zero, List.set_cons_succ])
        repeat (first
          | (refine wpPlan_take (v := ?_) rfl (by rfl) (fun W hW => ?_) ?_; rotate_left; (focus ((try dsimp only at hW); go_split_ands; go_simp; (try with_reducible rfl); done)); (try simp only [Act.put, List.setIfInBounds_toArray, List.set_cons_zero, List.set_cons_succ]))
          | (refine wpPlan_skip rfl (by rfl) ?_; (try simp only [Act.put, List.setIfInBounds_toArray, List.set_cons_zero, List.set_cons_succ])))
        refine wpPlan_done (hKK.out _ _ ?_)
        clear hKK KK
        have hsb := SameP.same_bytes w3 (.slice ka p.1.length kc) (.slice a1 k.length c1) p.1 k (Hkv.out.ext (Ht1.out.trans' x3)) (H1.out.ext (Ht1.out.trans' x3)) (by have := hpp.2; omega) (by omega)
        have hln := len_any w3 _ N' (Mq.of Hn'.out)
        simp only [if_true, Nat.add_zero] at hlen2
        have dn : decide ((j : Int) < (N'.length : Int)) = false := by simp; omega
        by_cases hke : p.1 = k
        · rw [decide_eq_true hke] at hsb
          have Hln := Lib.hid hln
          clear hln
          have Hke := Lib.hid hke
          clear hke
          go_wp2_with (fail)
          (with_reducible refine Hln.out.mono ?_)
          rintro e w3' ⟨rfl, rfl⟩
          have hke := Hke.out
          have Hsb := Lib.hid hsb
          clear hsb
          have Hke := Lib.hid hke
          clear hke
          go_wp2_with (fail)
          (with_reducible refine Hsb.out.mono ?_)
          rintro e w4 ⟨rfl, ht4⟩
          have f1 := keepc ht4 id y1
          have f0 := keepc ht4 id y0
          go_wp2_with (fail)
          go_roundw
          case rel => exact ⟨j + 1, F', by omega, by go_num, by rw [Hl'.out]; simp [Hke.out], by rw [Hl'.out]; simp [Hke.out], by rw [HN'.out]; exact Hn'.out.ext ht4, hF', x3.trans' ht4⟩
          case measure => simp [intOf]; omega
        · rw [decide_eq_false hke] at hsb
          have Hln := Lib.hid hln
          clear hln
          have Hke := Lib.hid hke
          clear hke
          go_wp2_with (fail)
          (with_reducible refine Hln.out.mono ?_)
          rintro e w3' ⟨rfl, rfl⟩
          have hke := Hke.out
          have Hsb := Lib.hid hsb
          clear hsb
          have Hke := Lib.hid hke
          clear hke
          go_wp2_with (fail)
          (with_reducible refine Hsb.out.mono ?_)
          rintro e w4 ⟨rfl, ht4⟩
          have f1 := keepc ht4 id y1
          have f0 := keepc ht4 id y0
          go_wp2_with (fail)
          go_roundw
          case rel => exact ⟨j + 1, F', by omega, by go_num, by rw [Hl'.out]; simp [Hke.out], by rw [Hl'.out]; simp [Hke.out], by rw [HN'.out]; exact Hn'.out.ext ht4, hF', x3.trans' ht4⟩
          case measure => simp [intOf]; omega
    · obtain rfl : j = ps.length := by omega
      have i1 : ¬ ((ps.length : Nat) : Int) < (ps.length : Int) := by omega
      rw [List.take_length, Hlast.out]
      rw [List.take_length, HMe.out] at hnj
      simp only
      have htw := Ht1.out.trans' ht
      have ha1 := all_any wr _ M (Mq.of (Hmp.out.ext ht)) (by omega)
      have Hnj := Lib.hid hnj
      clear hnj
      have HF := Lib.hid hF
      clear hF
      have Ha1 := Lib.hid ha1
      clear ha1
      go_wp2_with (fail)
      (with_reducible refine Ha1.out.mono ?_)
      rintro e w3 ⟨⟨v3, rfl, ho3⟩, ht3⟩
      have hn3 := new_any w3 _ M ho3.rp (by omega) Hmm.out
      rw [Hself.out] at hn3
      have Hn3 := Lib.hid hn3
      clear hn3
      have Ho3 := Lib.hid ho3
      clear ho3
      go_wp2_with (fail)
      (with_reducible refine Hn3.out.mono ?_)
      rintro e w4 ⟨g4, F4, rfl, hm4, _, ht4⟩
      have x4 := ht.trans' (ht3.trans' ht4)
      have hn4 := Hnj.out.ext (ht3.trans' ht4)
      have hg4 := get_any w4 _ (.slice a1 k.length c1) M k (Mq.of (Hmp.out.ext x4)) (H1.out.ext (Ht1.out.trans' x4)) Kb.out (by omega)
      clear ht3 ht4
      have Hm4 := Lib.hid hm4
      clear hm4
      have Hn4 := Lib.hid hn4
      clear hn4
      have Hg4 := Lib.hid hg4
      clear hg4
      go_wp2_with (fail)
      (with_reducible refine Hg4.out.mono ?_)
      rintro e w5 ⟨rfl, ht5⟩
      have x5 := x4.trans' ht5
      have hall1 := all_any w5 _ M (Mq.of (Hmp.out.ext x5)) (by omega)
      have hbb : (hasK M k == hasK M k) = true := by simp
      have Hall1 := Lib.hid hall1
      clear hall1
      go_wp2_with (fail)
      (with_reducible refine Hall1.out.mono ?_)
      rintro e w6 ⟨⟨v6, rfl, ho6⟩, ht6⟩
      have hall2 := all_any w6 _ M (Mq.of (Hn4.out.ext (ht5.trans' ht6))) (by omega)
      have Hall2 := Lib.hid hall2
      clear hall2
      have Ho6 := Lib.hid ho6
      clear ho6
      go_wp2_with (fail)
      (with_reducible refine Hall2.out.mono ?_)
      rintro e w7 ⟨⟨v7, rfl, ho7⟩, ht7⟩
      have hs1 := SameP.same_pairs w7 _ _ M (Ho6.out.rp.ext ht7) ho7.rp (by omega) (fun p hp => by have := (Hmm.out p hp).2; omega)
      have Hs1 := Lib.hid hs1
      clear hs1
      have Ho7 := Lib.hid ho7
      clear ho7
      go_wp2_with (fail)
      (with_reducible refine Hs1.out.mono ?_)
      rintro e w8 ⟨rfl, ht8⟩
      have x8 := ht5.trans' (ht6.trans' (ht7.trans' ht8))
      have hall3 := all_any w8 _ M (Mq.of (Hm4.out.ext x8)) (by omega)
      have Hall3 := Lib.hid hall3
      clear hall3
      go_wp2_with (fail)
      (with_reducible refine Hall3.out.mono ?_)
      rintro e w9 ⟨⟨v9, rfl, ho9⟩, ht9⟩
      have hall4 := all_any w9 _ M (Mq.of (Hn4.out.ext (x8.trans' ht9))) (by omega)
      have Hall4 := Lib.hid hall4
      clear hall4
      have Ho9 := Lib.hid ho9
      clear ho9
      go_wp2_with (fail)
      (with_reducible refine Hall4.out.mono ?_)
      rintro e w10 ⟨⟨v10, rfl, ho10⟩, ht10⟩
      have hs2 := SameP.same_pairs w10 _ _ M (Ho9.out.rp.ext ht10) ho10.rp (by omega) (fun p hp => by have := (Hmm.out p hp).2; omega)
      have Hs2 := Lib.hid hs2
      clear hs2
      have Ho10 := Lib.hid ho10
      clear ho10
      go_wp2_with (fail)
      (with_reducible refine Hs2.out.mono ?_)
      rintro e w11 ⟨rfl, ht11⟩
      go_wp2_with (fail)
      refine (awake_any _).mono ?_
      rintro e w12 ⟨rfl, ht12⟩
      have hend := Ht1.out.trans' (x4.trans' (x8.trans' (ht9.trans' (ht10.trans' (ht11.trans' ht12)))))
      have Hend := Lib.hid hend
      clear hend
      go_wp2_with (fail)
      go_ret
      exact ⟨rfl, Hend.out⟩

set_option maxHeartbeats 400000 in
theorem walk_great (v0 v1 : Value) (ps : Prs) (k : List Int) (F : Nat → Prop) (w : World) (h0 : RP w F v0 ps) (h1 : RB w F v1 k) (h : SameP.great ps 40 10 = true ∨ SameP.great ps 40 10 = false ∧ 10 < k.length) :
    Calls Try.prog 4 #[v0, v1] w fun e w' => e = .returned (.bool true) ∧ Ext w w' := by
  obtain ⟨a0, c0, rfl, l1, l2⟩ := h0.shape
  obtain ⟨a1, c1, rfl, l3, l4⟩ := h1.shape
  unfold maxLen at l2 l4
  have hgr := SameP.great_any w F _ ps 40 10 h0 (by decide) (by decide) (by decide) (by decide)
  rcases h with hg | ⟨hg, hk⟩
  · rw [hg] at hgr
    have Hgr := Lib.hid hgr
    clear hgr
    have Hg := Lib.hid hg
    clear hg
    go_enter Try.func4, Try.ntmps4
    go_wp2_with (fail)
    refine Hgr.out.mono ?_
    rintro e w' ⟨rfl, rfl⟩
    go_wp2_with (fail)
    refine (awake_any _).mono ?_
    rintro e w' ⟨rfl, ht⟩
    go_wp2_with (fail)
    go_ret
    exact ⟨rfl, ht⟩
  · rw [hg] at hgr
    have dk : decide ((10 : Int) < (k.length : Int)) = true := by simp; omega
    have Hgr := Lib.hid hgr
    clear hgr
    have Hg := Lib.hid hg
    clear hg
    go_enter Try.func4, Try.ntmps4
    go_wp2_with (fail)
    refine Hgr.out.mono ?_
    rintro e w' ⟨rfl, rfl⟩
    go_wp2_with (fail)
    refine (awake_any _).mono ?_
    rintro e w' ⟨rfl, ht⟩
    go_wp2_with (fail)
    go_ret
    exact ⟨rfl, ht⟩

set_option maxRecDepth 100000 in
theorem lifted (os : Os) (started : os.Started) (H : Type) (enc : TypeId × Value → H) :
    ReturnsInHanded {} Try.checked os 4 .any (Rows.modelLastSpec.pre6 enc Try.prog Try.f4 Rows.modelLastRow.domain false) (Rows.modelLastSpec.post enc Try.prog Try.f4 false true false false) := by
  refine returnsInHanded_of_change (C := Try.checked) Try.own started (by kernel_rfl) Try.func4
    (ChangeSpec.witness6 (enc := enc) (C := Try.checked) false ⟨#[], #[.slice none 0 0, .slice none 0 0], []⟩ 8 (by kernel_rfl) (by kernel_rfl) (by kernel_rfl) (by kernel_rfl)) ?_
  intro W base args ds gs before hval0 hW hcnd _
  have hval : ∀ (j : Nat) t v, Try.f4.params[j]? = some t → args[j]? = some v → Value.okWide Try.prog W .any base t v := hval0
  have hW' := hW
  obtain ⟨p, q, hA0, hV, rfl, hfz, hnd⟩ := hW
  have hA : DataW.TrodAll enc Try.prog W 0 (fun _ => true) true Try.f4.params.toList args.toList ds p := hA0
  rw [Try.params4] at hA hval
  obtain ⟨v0, v1, d0, d1, p0, p1, rfl, rfl, rfl, h0, h1⟩ := trodAll_two hA
  obtain ⟨rfl, rfl⟩ := trodVars_none hV
  obtain ⟨ps, hps, hpp⟩ := rp_of_arg (hval 0 22 v0 rfl rfl) h0
  obtain ⟨k, hk, hkb⟩ := rb_of_arg (hval 1 23 v1 rfl rfl) h1
  refine Calls.mono (R := fun e w' => e = .returned (.bool true) ∧ Touch (fun _ => False) W w') ?_ fun e W' ⟨he, hw⟩ => ?_
  · by_cases hg : SameP.great ps 40 10 = true
    · exact walk_great v0 v1 ps k _ W hps hk (Or.inl hg)
    · have hg : SameP.great ps 40 10 = false := by simpa using hg
      have hgn := great_not (most := 40) (long := 10) hg
      by_cases hl : k.length ≤ 10
      · exact walk_small v0 v1 ps k W hps hk (fun p hp => ⟨(hpp p hp).1, by have := hgn.2 p hp; omega⟩) hkb hg hgn.1 hl
      · exact walk_great v0 v1 ps k _ W hps hk (Or.inr ⟨hg, by omega⟩)
  subst he
  exact ⟨_, rfl, law_post Try.laidOut (by kernel_rfl) rfl Try.underlying4 rfl rfl ⟨rfl, rfl, rfl⟩ hW' (hw.below fun _ h _ => h)⟩

theorem modelLast_holds : Rows.ModelLastSaid :=
  OpenClaim.holds_of_wide 4 Try.f4 rfl rfl rfl rfl rfl rfl rfl ⟨rfl, rfl, rfl, rfl, rfl⟩ rfl rfl rfl rfl rfl (by kernel_rfl) Try.func4 (by kernel_rfl)
    (of_decide_eq_true (by kernel_rfl)) (by unfold Func.isWrapper; first | (rw [if_pos (by decide +kernel)]; kernel_rfl) | (rw [if_neg (by decide +kernel)]; exact ⟨rfl, rfl⟩))
    (fun os started H enc _ => lifted os started H enc)
end LawModelLast
end Go.Proofs.Ythannllagabclaa
