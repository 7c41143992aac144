/- The statement CritDeep: no way down is longer than there are keys, nor than the longest key has bits, and one; each inner cell tells how many keys there are below it. Conditions: none beyond the statement's own guards. -/
import Derived.Test.YtmdgmkmddkaadaaTreeP
import Derived.Test.YtmdgmkmddkaadaaCritV
import Derived.Test.YtmdgmkmddkaadaaArg
import Derived.Test.YtmdgmkmddkaadaaRows
namespace Go.Proofs.Ytmdgmkmddkaadaa
open Go.ChangeShapes Go.WideShapes Go.ChangeAt Go.RowKit Go.Deep
set_option linter.unusedVariables false
set_option linter.unusedSimpArgs false
namespace LawCritDeep
open TreeB TreeP CritU CritV
open ModS (great_not)

abbrev In (w : World) : Nat → Prop := fun b => b < w.heap.size

set_option maxRecDepth 100000 in
set_option maxHeartbeats 8000000 in
theorem walk_small (v0 : Value) (ps : Prs) (w : World) (h0 : RP w (In w) v0 ps) (hpk : PK ps) (hg : SameP.great ps 40 20 = false) (hm : ps.length ≤ 40) (hL : ∀ p ∈ ps, p.1.length ≤ 20) :
    Calls Try.prog 5 #[v0] w fun e w' => e = .returned (.bool true) ∧ Ext w w' := by
  obtain ⟨a0, c0, rfl, l1, l2⟩ := h0.shape
  unfold maxLen at l2
  have hgr := SameP.great_any w _ _ ps 40 20 h0 (by decide) (by decide) (by decide) (by decide)
  have hnew := new_yes w 5000 (by decide) (by decide)
  unfold TNew at hnew
  rw [hg] at hgr
  have hroom := fun j => sz_mk (m := 5000) hm hL (by decide) j
  have hstep := fun j p (h : ps[j]? = some p) => mkK_take ps j p h
  have hml : (mkK ps).length ≤ 1000000 := Nat.le_trans (mkK_length _) (by omega)
  have hhas := fun i p (h : ps[i]? = some p) => mk_has h
  have hr := mkK_rises ps
  have Hgr := Lib.hid hgr
  clear hgr
  have Hnew := Lib.hid hnew
  clear hnew
  have H0 := Lib.hid h0
  clear h0
  have Hpk := Lib.hid hpk
  clear hpk
  have Hroom := Lib.hid hroom
  clear hroom
  have Hstep := Lib.hid hstep
  clear hstep
  have HL := Lib.hid hL
  clear hL
  have Hhas := Lib.hid hhas
  clear hhas
  have Hr := Lib.hid hr
  clear hr
  clear hg
  go_enter Try.func5, Try.ntmps5
  go_wp2_with (fail)
  refine Hgr.out.mono ?_
  rintro e w' ⟨rfl, rfl⟩
  go_wp2_with (fail)
  (with_reducible refine Hnew.out.mono ?_)
  rintro e w1 ⟨t, F, rfl, htp, hF, t1⟩
  have Htp := Lib.hid htp
  clear htp
  have HF := Lib.hid hF
  clear hF
  have T1 := Lib.hid t1
  clear t1
  go_wp2_with (fail)
  go_loopw [4, 5] (fun s4 s5 wr => ∃ (j L : Nat) (F : Nat → Prop), j ≤ ps.length ∧ s5 = .int .i64 j ∧ s4 = .int .i64 L ∧ L ≤ 20 ∧ (∀ (i : Nat) p, i < j → ps[i]? = some p → p.1.length ≤ L) ∧ Tp wr t F (mkK (ps.take j)) 5000 ∧ (∀ b, F b → w.heap.size ≤ b) ∧ Ext w wr) (fun _ s5 _ => ps.length - (intOf s5).toNat)
  case atStart => exact ⟨0, 0, F, by omega, rfl, rfl, by omega, fun i p hi => by omega, Htp.out, HF.out, T1.out⟩
  case round =>
    obtain ⟨j, L, F', hj, rfl, rfl, hL20, hLL, htp, hF, ht⟩ := hrel
    clear Htp HF T1
    by_cases hjk : j < ps.length
    · obtain ⟨b, off, rfl, hb⟩ := H0.out.addr (by omega)
      have hgj := List.getElem?_eq_getElem hjk
      obtain ⟨kv, d0, d1', hkv⟩ := (H0.out.ext ht).get _ _ hgj
      have hpp := Hpk.out _ (List.mem_of_getElem? hgj)
      have hst := Hstep.out j _ hgj
      have hp20 := HL.out _ (List.mem_of_getElem? hgj)
      have hgq := hgj
      generalize ps[j] = p at *
      obtain ⟨ka, kc, rfl, _⟩ := hkv.shape
      have i1 : (j : Int) < (ps.length : Int) := by omega
      have i2 : (0 : Int) ≤ (j : Int) := by omega
      have hbF : ¬ F' b := fun h => by have h1 : b < w.heap.size := hb; have := hF b h; omega
      have hput := put_any wr.drew t (.slice ka p.1.length kc) (mkK (ps.take j)) 5000 p.1 p.2 (htp.ext (Touch.refl _ _).drew) (by have := mkK_length (ps.take j); simp at this; omega) ((hkv.ext (Touch.refl _ _).drew).mono (fun b hb h => by have h1 : b < w.heap.size := hb; have := hF b (by rw [h]; exact htp.self); omega)) hpp.1 hpp.2 (Or.inr (by rw [← hst]; exact Hroom.out (j + 1)))
      unfold TPut at hput
      rw [← hst] at hput
      have Hput := Lib.hid hput
      clear hput
      have Hst := Lib.hid hst
      clear hst
      have Hkv := Lib.hid hkv
      clear hkv
      have HF := Lib.hid hF
      clear hF
      have Ht := Lib.hid ht
      clear ht
      have Htp := Lib.hid htp
      clear htp
      have HbF := Lib.hid hbF
      clear hbF
      have HLL := Lib.hid hLL
      clear hLL
      have Hgq := Lib.hid hgq
      clear hgq
      go_wp2_with (fail)
      refine wp_region_plan (.take 0 (.take 1 (.take 2 (.take 3 (.take 4 (.take 5 (.take 6 (.take 7 (.take 8 (.take 9 (.take 10 (.must 11 .done)))))))))))) (fun wy => wy.cell? ⟨b, off + j * 2, none⟩ = some (.slice ka p.1.length kc) ∧ wy.cell? ⟨b, off + j * 2 + 1, none⟩ = some (.int .u64 p.2)) (by kernel_rfl) (by kernel_rfl) (by kernel_rfl) rfl ?_ (fun KK hKK => ?_)
      · exact ⟨d0, d1'⟩
      repeat (first
        | (refine wpPlan_take (v := ?_) rfl (by rfl) (fun W hW => ?_) ?_; rotate_left; (focus ((try dsimp only at hW); go_split_ands; go_simp; (try with_reducible rfl); done)); (try simp only [Act.put, List.setIfInBounds_toArray, List.set_cons_zero, List.set_cons_succ]))
        | (refine wpPlan_skip rfl (by rfl) ?_; (try simp only [Act.put, List.setIfInBounds_toArray, List.set_cons_zero, List.set_cons_succ])))
      refine wpPlan_must rfl (by rfl) (fun K hK => ?_)
      go_simp
      (with_reducible refine Hput.out.mono ?_)
      rintro e w3 ⟨rfl, F2, htp2, hu, hsub⟩
      have Htp2 := Lib.hid htp2
      clear htp2
      have Hsub := Lib.hid hsub
      clear hsub
      refine hK.out _ _ ?_ ?_
      · exact ⟨keepc hu HbF.out d0, keepc hu HbF.out d1'⟩
      clear hK K
      (try simp only [Act.put, List.setIfInBounds_toArray, List.set_cons_zero, List.set_cons_succ])
      refine wpPlan_done (hKK.out _ _ ?_)
      clear hKK KK
      have y0 := keepc hu HbF.out d0
      go_wp2_with (fail)
      all_goals
        go_roundw
        case rel =>
          refine ⟨j + 1, max L p.1.length, F2, by omega, by go_num, by (first | exact congrArg (Value.int .i64) (by omega) | exact congrArg (Value.int .i64) (by split <;> omega)), by omega, fun i q hi hq => ?_, Htp2.out, fun b hb => (Hsub.out b hb).elim (HF.out b) (fun h => Nat.le_trans Ht.out.size h), (Ht.out.drew).ext_new hu (fun i hi => HF.out i hi)⟩
          rcases Nat.eq_or_lt_of_le (Nat.le_of_lt_succ hi) with he | hl
          · rw [he, Hgq.out] at hq; cases hq; omega
          · have := HLL.out i q hl hq; omega
        case measure => simp [intOf]; omega
    · obtain rfl : j = ps.length := by omega
      have i1 : ¬ ((ps.length : Nat) : Int) < (ps.length : Int) := by omega
      rw [List.take_length] at htp
      have hmL : ∀ p ∈ mkK ps, p.1.length ≤ L := fun p hp => by
        obtain ⟨i, hi⟩ := List.mem_iff_getElem?.1 (mkK_mem hp)
        exact hLL i p (List.getElem?_eq_some_iff.1 hi).1 hi
      have hmm := fun p (hp : p ∈ mkK ps) => Hpk.out p (mkK_mem hp)
      have hml2 := mkK_length ps
      generalize hMe : mkK ps = M at *
      clear hMe hLL
      have hkb : ∀ p ∈ M, KB p.1 := fun p hp => (hmm p hp).1
      obtain ⟨hfine, hcount⟩ := crit_fine _ L M (Nat.le_refl _) Hr.out hkb hmL
      have hdeep := deep_bits _ L 0 M (Nat.le_refl _) Hr.out hkb hmL (by omega) (fun p hp j hj => by omega)
      have hdeep2 := deep_le _ M (Nat.le_refl _) Hr.out hkb
      have hlen := crit_length _ M (Nat.le_refl _) Hr.out hkb
      have hsh := CritS.shape_any wr t M 5000 htp
      have hln := fun W (x : Ext wr W) => TreeA.len_any W _ M (htp.ext x).tq
      have hal := fun W v (hrc : RC W (fun b => b < W.heap.size) v (critK M)) hn => all_any W v M hrc hn Hr.out hmm (by omega)
      have x0 := ht
      generalize deepK M = dp at *
      have Htp := Lib.hid htp
      clear htp
      have HF := Lib.hid hF
      clear hF
      have Ht := Lib.hid ht
      clear ht
      have X0 := Lib.hid x0
      clear x0
      have HmL := Lib.hid hmL
      clear hmL
      have Hmm := Lib.hid hmm
      clear hmm
      have Hkb := Lib.hid hkb
      clear hkb
      have Hfine := Lib.hid hfine
      clear hfine
      have Hcount := Lib.hid hcount
      clear hcount
      have Hsh := Lib.hid hsh
      clear hsh
      have Hln := Lib.hid hln
      clear hln
      have Hal := Lib.hid hal
      clear hal
      have Hlen := Lib.hid hlen
      clear hlen
      go_wp2_with (fail)
      (with_reducible refine Hsh.out.mono ?_)
      rintro e w1' ⟨⟨v1, rfl, hrc, hnil⟩, t1⟩
      have hall := fun W (x : Ext w1' W) => Hal.out W v1 ((hrc.ext x).mono (fun b hb => Nat.lt_of_lt_of_le hb x.size)) hnil
      obtain ⟨sa, sc, rfl, s1, s2, _⟩ := hrc.shape
      unfold maxLen at s2
      generalize hcs : critK M = cs at *
      clear hcs
      have Hrc := Lib.hid hrc
      clear hrc
      have Hnil := Lib.hid hnil
      clear hnil
      have Hall := Lib.hid hall
      clear hall
      have T1 := Lib.hid t1
      clear t1
      go_wp2_with (fail)
      go_loopw [7, 8] (fun s7 s8 wx => ∃ j : Nat, j ≤ cs.length ∧ s8 = .int .i64 j ∧ s7 = .int .i64 ((cs.take j).countP isLeaf : Nat) ∧ Ext w1' wx) (fun _ s8 _ => cs.length - (intOf s8).toNat)
      case atStart => exact ⟨0, by omega, rfl, rfl, Touch.refl _ _⟩
      case round =>
        obtain ⟨j, hj, rfl, rfl, hx⟩ := hrel
        have hcl : (cs.take j).countP isLeaf ≤ j := Nat.le_trans List.countP_le_length (by simp; omega)
        by_cases hjk : j < cs.length
        · obtain ⟨b, off, rfl⟩ := Hrc.out.addr (by omega)
          have hgj := List.getElem?_eq_getElem hjk
          obtain ⟨kv, _, c0, c1, c2, _⟩ := (Hrc.out.ext hx).get j _ hgj
          have hf := Hfine.out _ (List.mem_of_getElem? hgj)
          have htk : cs.take (j + 1) = cs.take j ++ [cs[j]] := by rw [List.take_add_one, hgj]; rfl
          generalize cs[j] = c at *
          have j0 : (0 : Int) ≤ (j : Int) := by omega
          have j1 : (j : Int) < (cs.length : Int) := by omega
          rcases hf with hk1 | ⟨hk2, ha0, ha9, hc2, hcn⟩
          · have hcp : (cs.take (j + 1)).countP isLeaf = (cs.take j).countP isLeaf + 1 := by rw [htk, List.countP_append]; simp [isLeaf, hk1]
            generalize (cs.take j).countP isLeaf = m at *
            rw [hk1] at c0
            have Htk := Lib.hid htk
            clear htk
            have Hgj := Lib.hid hgj
            clear hgj
            have Hcp := Lib.hid hcp
            clear hcp
            have Hk1 := Lib.hid hk1
            clear hk1
            go_wp2_with (fail)
            go_roundw
            case rel => exact ⟨j + 1, by omega, by go_num, by rw [Hcp.out]; go_num, hx⟩
            case measure => simp [intOf]; omega
          · have hcp : (cs.take (j + 1)).countP isLeaf = (cs.take j).countP isLeaf := by rw [htk, List.countP_append]; simp [isLeaf, hk2]
            generalize (cs.take j).countP isLeaf = m at *
            rw [hk2] at c0
            obtain ⟨k1, ca, cn, cc, cb, cf, cv, ck⟩ := c
            simp only at c0 c1 c2 ha0 ha9 hc2 hcn
            have j2 : decide (ca < 0) = false := by simp; omega
            have j3 : decide (9 * (L : Int) ≤ ca) = false := by simp; omega
            have j4 : decide (cn < 2) = false := by simp; omega
            have j5 : decide ((M.length : Int) < cn) = false := by simp; omega
            have j6 : IntKind.i64.wrap (9 * (L : Int)) = 9 * (L : Int) := by rw [IntKind.wrap_i64]; omega
            have Htk := Lib.hid htk
            clear htk
            have Hgj := Lib.hid hgj
            clear hgj
            have Hcp := Lib.hid hcp
            clear hcp
            have Hk2 := Lib.hid hk2
            clear hk2
            go_wp2_with (fail)
            refine wp_region_plan (.take 0 (.take 1 (.take 2 (.take 3 (.take 4 (.take 5 (.take 6 (.take 7 (.take 8 (.take 9 (.take 10 (.take 11 (.take 12 (.take 13 (.take 14 (.take 15 (.take 16 (.take 17 (.take 18 (.take 19 (.take 20 (.take 21 (.take 22 (.take 23 (.take 24 (.take 25 (.take 26 (.take 27 (.take 28 (.take 29 (.take 30 (.must 31 (.take 32 (.take 33 .done)))))))))))))))))))))))))))))))))) (fun wy => wy.cell? ⟨b, off + j * 9 + 1, none⟩ = some (.int .i64 ca) ∧ wy.cell? ⟨b, off + j * 9 + 2, none⟩ = some (.int .i64 cn)) (by kernel_rfl) (by kernel_rfl) (by kernel_rfl) rfl ?_ (fun KK hKK => ?_)
            · exact ⟨c1, c2⟩
            repeat (first
              | (refine wpPlan_take (v := ?_) rfl (by rfl) (fun W hW => ?_) ?_; rotate_left; (focus ((try dsimp only at hW); go_split_ands; go_simp; (try with_reducible rfl); done)); (try simp only [Act.put, List.setIfInBounds_toArray, List.set_cons_zero, List.set_cons_succ]))
              | (refine wpPlan_skip rfl (by rfl) ?_; (try simp only [Act.put, List.setIfInBounds_toArray, List.set_cons_zero, List.set_cons_succ])))
            refine wpPlan_must rfl (by rfl) (fun K hK => ?_)
            go_simp
            (with_reducible refine (Hln.out _ (T1.out.trans' hx.drew)).mono ?_)
            rintro e u1 ⟨rfl, rfl⟩
            refine hK.out _ _ ?_ ?_
            · exact ⟨c1, c2⟩
            clear hK K
            (try simp only [Act.put, List.setIfInBounds_toArray, List.set_cons_zero, List.set_cons_succ])
            repeat (first
              | (refine wpPlan_take (v := ?_) rfl (by rfl) (fun W hW => ?_) ?_; rotate_left; (focus ((try dsimp only at hW); go_split_ands; go_simp; (try with_reducible rfl); done)); (try simp only [Act.put, List.setIfInBounds_toArray, List.set_cons_zero, List.set_cons_succ]))
              | (refine wpPlan_skip rfl (by rfl) ?_; (try simp only [Act.put, List.setIfInBounds_toArray, List.set_cons_zero, List.set_cons_succ])))
            refine wpPlan_done (hKK.out _ _ ?_)
            clear hKK KK
            clear j6
            go_wp2_with (fail)
            go_roundw
            case rel => exact ⟨j + 1, by omega, by go_num, by rw [Hcp.out], hx.drew⟩
            case measure => simp [intOf]; omega
        · obtain rfl : j = cs.length := by omega
          have j1 : ¬ ((cs.length : Nat) : Int) < (cs.length : Int) := by omega
          rw [List.take_length, Hcount.out]
          go_wp2_with (fail)
          (with_reducible refine (Hall.out _ hx).mono ?_)
          rintro e u1 ⟨⟨v2, rfl, hp2⟩, t2⟩
          obtain ⟨pa, pc, rfl, _⟩ := hp2.shape
          have x2 := (hx.trans' t2).alloc (.cells #[.slice pa M.length pc, .int .i64 (cs.length : Int), .int .i64 (dp : Int), .bool true] 53)
          have k2 : (u1.alloc (.cells #[.slice pa M.length pc, .int .i64 (cs.length : Int), .int .i64 (dp : Int), .bool true] 53)).cell? ⟨u1.heap.size, 2, none⟩ = some (.int .i64 (dp : Int)) := by simp
          have k3 : (u1.alloc (.cells #[.slice pa M.length pc, .int .i64 (cs.length : Int), .int .i64 (dp : Int), .bool true] 53)).cell? ⟨u1.heap.size, 3, none⟩ = some (.bool true) := by simp
          have j2 : decide (dp ≤ M.length) = true := by simp; omega
          have j3 : decide ((dp : Int) ≤ (M.length : Int)) = true := by simp; omega
          have j4 : decide ((dp : Int) ≤ 9 * (L : Int) + 1) = true := by simp; omega
          have j6 : IntKind.i64.wrap (9 * (L : Int)) = 9 * (L : Int) := by rw [IntKind.wrap_i64]; omega
          have j7 : IntKind.i64.wrap (9 * (L : Int) + 1) = 9 * (L : Int) + 1 := by rw [IntKind.wrap_i64]; omega
          clear hp2 t2
          go_wp2_with (fail)
          generalize u1.alloc (.cells #[.slice pa M.length pc, .int .i64 (cs.length : Int), .int .i64 (dp : Int), .bool true] 53) = u2 at *
          generalize u1.heap.size = br at *
          refine wp_region_plan (.take 0 (.take 1 (.take 2 (.take 3 (.take 4 (.take 5 (.must 6 (.take 7 (.take 8 (.take 9 (.take 10 (.take 11 (.take 12 (.take 13 (.take 14 (.take 15 (.take 16 (.take 17 (.take 18 (.take 19 (.must 20 (.take 21 (.take 22 (.take 23 (.must 24 (.take 25 (.take 26 .done))))))))))))))))))))))))))) (fun wy => wy.cell? ⟨br, 2, none⟩ = some (.int .i64 (dp : Int)) ∧ wy.cell? ⟨br, 3, none⟩ = some (.bool true)) (by kernel_rfl) (by kernel_rfl) (by kernel_rfl) rfl ?_ (fun KK hKK => ?_)
          · exact ⟨k2, k3⟩
          repeat (first
            | (refine wpPlan_take (v := ?_) rfl (by rfl) (fun W hW => ?_) ?_; rotate_left; (focus ((try dsimp only at hW); go_split_ands; go_simp; (try with_reducible rfl); done)); (try simp only [Act.put, List.setIfInBounds_toArray, List.set_cons_zero, List.set_cons_succ]))
            | (refine wpPlan_skip rfl (by rfl) ?_; (try simp only [Act.put, List.setIfInBounds_toArray, List.set_cons_zero, List.set_cons_succ])))
          refine wpPlan_must rfl (by rfl) (fun K hK => ?_)
          go_simp
          (with_reducible refine (Hln.out _ (T1.out.trans' x2.drew)).mono ?_)
          rintro e u3 ⟨rfl, rfl⟩
          refine hK.out _ _ ?_ ?_
          · exact ⟨k2, k3⟩
          clear hK K
          (try simp only [Act.put, List.setIfInBounds_toArray, List.set_cons_zero, List.set_cons_succ])
          repeat (first
            | (refine wpPlan_take (v := ?_) rfl (by rfl) (fun W hW => ?_) ?_; rotate_left; (focus ((try dsimp only at hW); go_split_ands; go_simp; (try with_reducible rfl); done)); (try simp only [Act.put, List.setIfInBounds_toArray, List.set_cons_zero, List.set_cons_succ]))
            | (refine wpPlan_skip rfl (by rfl) ?_; (try simp only [Act.put, List.setIfInBounds_toArray, List.set_cons_zero, List.set_cons_succ])))
          refine wpPlan_must rfl (by rfl) (fun K hK => ?_)
          go_simp
          (with_reducible refine (Hln.out _ (T1.out.trans' x2.drew)).mono ?_)
          rintro e u3 ⟨rfl, rfl⟩
          refine hK.out _ _ ?_ ?_
          · exact ⟨k2, k3⟩
          clear hK K
          (try simp only [Act.put, List.setIfInBounds_toArray, List.set_cons_zero, List.set_cons_succ])
          repeat (first
            | (refine wpPlan_take (v := ?_) rfl (by rfl) (fun W hW => ?_) ?_; rotate_left; (focus ((try dsimp only at hW); go_split_ands; go_simp; (try with_reducible rfl); done)); (try simp only [Act.put, List.setIfInBounds_toArray, List.set_cons_zero, List.set_cons_succ]))
            | (refine wpPlan_skip rfl (by rfl) ?_; (try simp only [Act.put, List.setIfInBounds_toArray, List.set_cons_zero, List.set_cons_succ])))
          refine wpPlan_must rfl (by rfl) (fun K hK => ?_)
          go_simp
          refine (TreeW.awake_any _).mono ?_
          rintro e u4 ⟨rfl, t4⟩
          refine hK.out _ _ ?_ ?_
          · exact ⟨keepc t4 id k2, keepc t4 id k3⟩
          clear hK K
          (try simp only [Act.put, List.setIfInBounds_toArray, List.set_cons_zero, List.set_cons_succ])
          repeat (first
            | (refine wpPlan_take (v := ?_) rfl (by rfl) (fun W hW => ?_) ?_; rotate_left; (focus ((try dsimp only at hW); go_split_ands; go_simp; (try with_reducible rfl); done)); (try simp only [Act.put, List.setIfInBounds_toArray, List.set_cons_zero, List.set_cons_succ]))
            | (refine wpPlan_skip rfl (by rfl) ?_; (try simp only [Act.put, List.setIfInBounds_toArray, List.set_cons_zero, List.set_cons_succ])))
          refine wpPlan_done (hKK.out _ _ ?_)
          clear hKK KK
          go_wp2_with (fail)
          go_ret
          exact ⟨rfl, X0.out.trans' (T1.out.trans' (x2.drew.trans' t4))⟩

set_option maxRecDepth 100000 in
set_option maxHeartbeats 400000 in
theorem walk_great (v0 : Value) (ps : Prs) (F : Nat → Prop) (w : World) (h0 : RP w F v0 ps) (hg : SameP.great ps 40 20 = true) :
    Calls Try.prog 5 #[v0] w fun e w' => e = .returned (.bool true) ∧ Ext w w' := by
  obtain ⟨a0, c0, rfl, l1, l2⟩ := h0.shape
  unfold maxLen at l2
  have hgr := SameP.great_any w F _ ps 40 20 h0 (by decide) (by decide) (by decide) (by decide)
  rw [hg] at hgr
  have Hgr := Lib.hid hgr
  clear hgr
  have Hg := Lib.hid hg
  clear hg
  go_enter Try.func5, Try.ntmps5
  go_wp2_with (fail)
  refine Hgr.out.mono ?_
  rintro e w' ⟨rfl, rfl⟩
  go_wp2_with (fail)
  refine (TreeW.awake_any _).mono ?_
  rintro e w' ⟨rfl, ht⟩
  go_wp2_with (fail)
  go_ret
  exact ⟨rfl, ht⟩

set_option maxRecDepth 100000 in
theorem lifted (os : Os) (started : os.Started) (H : Type) (enc : TypeId × Value → H) :
    ReturnsInHanded {} Try.checked os 5 .any (Rows.critDeepSpec.pre6 enc Try.prog Try.f5 Rows.critDeepRow.domain false) (Rows.critDeepSpec.post enc Try.prog Try.f5 false true false false) := by
  refine returnsInHanded_of_change (C := Try.checked) Try.own started (by kernel_rfl) Try.func5
    (ChangeSpec.witness6 (enc := enc) (C := Try.checked) false ⟨#[], #[.slice none 0 0], []⟩ 8 (by kernel_rfl) (by kernel_rfl) (by kernel_rfl) (by kernel_rfl)) ?_
  intro W base args ds gs before hval0 hW hcnd _
  have hval : ∀ (j : Nat) t v, Try.f5.params[j]? = some t → args[j]? = some v → Value.okWide Try.prog W .any base t v := hval0
  have hW' := hW
  obtain ⟨p, q, hA0, hV, rfl, hfz, hnd⟩ := hW
  have hA : DataW.TrodAll enc Try.prog W 0 (fun _ => true) true Try.f5.params.toList args.toList ds p := hA0
  rw [Try.params5] at hA hval
  obtain ⟨v0, d0, rfl, rfl, h0⟩ := trodAll_one hA
  obtain ⟨rfl, rfl⟩ := trodVars_none hV
  refine Calls.mono (R := fun e w' => e = .returned (.bool true) ∧ Touch (fun _ => False) W w') ?_ fun e W' ⟨he, hw⟩ => (by subst he; exact ⟨_, rfl, law_post Try.laidOut (by kernel_rfl) rfl Try.underlying4 rfl rfl ⟨rfl, rfl, rfl⟩ hW' (hw.below fun _ h _ => h)⟩)
  obtain ⟨ps, hps, hpp⟩ := rp_of_arg (hval 0 22 v0 rfl rfl) h0
  by_cases hg : SameP.great ps 40 20 = true
  · exact walk_great v0 ps _ W hps hg
  · have hg : SameP.great ps 40 20 = false := by simpa using hg
    have hgn := great_not (most := 40) (long := 20) hg
    exact walk_small v0 ps W hps (fun p hp => ⟨(hpp p hp).1, by have := hgn.2 p hp; omega⟩) hg hgn.1 hgn.2
theorem critDeep_holds : Rows.CritDeepSaid :=
  OpenClaim.holds_of_wide 5 Try.f5 rfl rfl rfl rfl rfl rfl rfl ⟨rfl, rfl, rfl, rfl, rfl⟩ rfl rfl rfl rfl rfl (by kernel_rfl) Try.func5 (by kernel_rfl)
    (of_decide_eq_true (by kernel_rfl)) (by unfold Func.isWrapper; first | (rw [if_pos (by decide +kernel)]; kernel_rfl) | (rw [if_neg (by decide +kernel)]; exact ⟨rfl, rfl⟩))
    (fun os started H enc _ => lifted os started H enc)
end LawCritDeep
end Go.Proofs.Ytmdgmkmddkaadaa
