/- The statement RadixRoom: with as many cells as are told to be needed nothing is refused; with all keys dropped, in whatever order, no cell is taken; and again. Conditions: none beyond the statement's own guards. -/
import Derived.Test.YtclnnkacfanaiaaDoorTreeST
import Derived.Test.YtclnnkacfanaiaaDoorArg
import Derived.Test.YtclnnkacfanaiaaDoorRows
import Derived.Test.YtclnnkacfanaiaaDoorKidL
import Derived.Test.YtclnnkacfanaiaaDoorCards
import Derived.Test.YtclnnkacfanaiaaDoorTie
import Derived.Test.YtclnnkacfanaiaaDoorRadV
namespace Go.Proofs.YtclnnkacfanaiaaDoor
open Go.ChangeShapes Go.WideShapes Go.ChangeAt Go.RowKit Go.Deep
set_option linter.unusedVariables false
set_option linter.unusedSimpArgs false
namespace LawRadixRoom
open TreeB TreeP TreeD TreeS TreeT ModF RefF ModP
open ModS (great_not)


theorem shape_nil {F : Nat → Prop} (w : World) (t : Nat) (most : Int) (h : Tp w t F [] most) : Calls Tryd.prog 29 #[.pointer (some ⟨t, 0, none⟩)] w fun e w' => (∃ a c, e = .returned (.slice a 0 c)) ∧ Ext w w' := by
  refine (RadV.shape_none w _ h.tq).mono ?_
  rintro e w' ⟨rfl, t1⟩
  exact ⟨⟨_, _, rfl⟩, t1⟩

/-- an empty tree, new since w -/
def Te (w wr : World) (t : Nat) (most : Int) : Prop := ∃ F, Tp wr t F [] most ∧ (∀ b, F b → w.heap.size ≤ b) ∧ Ext w wr

set_option maxRecDepth 100000 in
set_option maxHeartbeats 4000000 in
/-- a key that is there is taken away from both: the round's tail, behind the choice of its place -/
theorem drop_len {M : Prs} (hr : Rises M) {c : Nat} {p : List Int × Int} (h : M[c]? = some p) : hasK M p.1 = true ∧ (dropK M p.1).length = M.length - 1 := by
  obtain ⟨_, h1, _⟩ := at_rk hr h
  exact ⟨h1, by rw [dropK_length, h1]; simp⟩


set_option maxRecDepth 100000 in
set_option maxHeartbeats 8000000 in
theorem walk_small (v0 : Value) (n : Int) (up : Bool) (ps : Prs) (w : World) (htr : KidA.Tr w) (htl : KidA.Tl w) (h0 : RP w (In w) v0 ps) (hpk : PK ps) (hg : SameP.great ps 40 30 = false) (hm : ps.length ≤ 40) (hL : ∀ p ∈ ps, p.1.length ≤ 30) (hV : V64 n) :
    Calls Tryd.prog 7 #[v0, .int .i64 n, .bool up] w fun e w' => e = .returned (.bool true) ∧ Ext w w' := by
  obtain ⟨a0, c0, rfl, l1, l2, _⟩ := h0.shape
  unfold maxLen at l2
  have hgr := SameP.great_any w _ _ ps 40 30 h0 (by decide) (by decide) (by decide) (by decide)
  rw [hg] at hgr
  have hnd := needs_any w _ ps h0 (by omega) (fun p hp => by have := hL p hp; omega)
  have hsb := sum_bound ps 30 hL
  have hroom : ∀ j, (szK (mkK (ps.take j)) : Int) ≤ ((sumK ps : Nat) : Int) := fun j => by have h1 := sz_mk_sum ps j; have h2 := sumK_take_le ps j; omega
  have hs5 : sumK ps ≤ 5000 := by have h2 : ps.length * (30 + 3) ≤ 40 * (30 + 3) := Nat.mul_le_mul_right _ hm; omega
  obtain ⟨most, hmo⟩ : ∃ most : Int, most = ((sumK ps : Nat) : Int) := ⟨_, rfl⟩
  rw [← hmo] at hnd
  rw [← hmo] at hroom
  have hm0 : 0 ≤ most := by omega
  have hm1 : most ≤ 5000 := by omega
  have hr := mkK_rises ps
  clear hmo hs5 hsb hg
  have Htr := Lib.hid htr
  clear htr
  have Htl := Lib.hid htl
  clear htl
  have Hgr := Lib.hid hgr
  clear hgr
  have Hnd := Lib.hid hnd
  clear hnd
  have H0 := Lib.hid h0
  clear h0
  have Hpk := Lib.hid hpk
  clear hpk
  have HL := Lib.hid hL
  clear hL
  have Hroom := Lib.hid hroom
  clear hroom
  have HV := Lib.hid hV
  clear hV
  have Hr := Lib.hid hr
  clear hr
  go_enter Tryd.func7, Tryd.ntmps7
  go_wp2_with (fail)
  refine Hgr.out.mono ?_
  rintro e w' ⟨rfl, rfl⟩
  go_wp2_with (fail)
  (with_reducible refine Hnd.out.mono ?_)
  rintro e w1 ⟨rfl, t1⟩
  have hnew := new_yes w1 (Htr.out.ext t1) most hm0 (by omega)
  unfold TNew at hnew
  have Hnew := Lib.hid hnew
  clear hnew
  have T1 := Lib.hid t1
  clear t1
  go_wp2_with (fail)
  (with_reducible refine Hnew.out.mono ?_)
  rintro e w2 ⟨t, F, rfl, htp, hF, t2⟩
  have hte : Te w w2 t most := ⟨F, htp, fun b hb => Nat.le_trans T1.out.size (hF b hb), T1.out.trans' t2⟩
  clear htp hF t2
  have Hte := Lib.hid hte
  clear hte
  go_wp2_with (fail)
  go_loopw [8] (fun s8 wr => ∃ q : Nat, q ≤ 2 ∧ s8 = .int .i64 q ∧ Te w wr t most) (fun s8 _ => 2 - (intOf s8).toNat)
  case atStart => exact ⟨0, by omega, rfl, Hte.out⟩
  case round =>
    obtain ⟨q, hq, rfl, F1, htp, hF, ht⟩ := hrel
    clear Hte
    obtain ⟨wo, rfl⟩ : ∃ wo, wo = wr := ⟨_, rfl⟩
    by_cases hq2 : q < 2
    · have i1 : (q : Int) < 2 := by omega
      have hs := sx_new (Q := In w) (fun b hb => Nat.lt_of_lt_of_le hb ht.size) (fun b hb hq => by have h3 := hF b hb; have h4 : b < w.heap.size := hq; omega) htp (Htl.out.ext ht) (fun h8 => by have h9 := World.block_lt_of_cell? _ _ Htl.out.l0; have h7 := hF _ h8; simp only at h9; omega)
      have t3 := ht.alloc (.cells #[.slice none 0 0] 55)
      have Hs := Lib.hid hs
      clear hs
      have T3 := Lib.hid t3
      clear t3
      clear htp hF ht
      go_wp2_with (fail)
      generalize wo.heap.size = r at *
      generalize wo.alloc (.cells #[.slice none 0 0] 55) = w3 at *
      go_loopw [10] (fun s10 wr => ∃ j : Nat, j ≤ ps.length ∧ s10 = .int .i64 j ∧ Sx (In w) wr t r (mkK (ps.take j)) (mkK (ps.take j)) most ∧ Ext w wr) (fun s10 _ => ps.length - (intOf s10).toNat)
      case atStart => exact ⟨0, by omega, rfl, Hs.out, T3.out⟩
      case round =>
        obtain ⟨j, hj, rfl, hs, ht⟩ := hrel
        clear Hs T3
        by_cases hjk : j < ps.length
        · obtain ⟨b, off, rfl, hb⟩ := H0.out.addr (by omega)
          have hbw : b < w.heap.size := hb
          have hgj := List.getElem?_eq_getElem hjk
          have hst := mkK_take ps j _ hgj
          have hpp := Hpk.out _ (List.mem_of_getElem? hgj)
          obtain ⟨kv, d0, d1, hkv⟩ := (H0.out.ext ht).get _ _ hgj
          generalize ps[j] = p at *
          obtain ⟨ka, kc, rfl, y1, y2, y3⟩ := hkv.shape
          unfold maxLen at y2
          have hml : (mkK (ps.take j)).length ≤ 40 := by have := mkK_length (ps.take j); simp at this; omega
          have hr2 := Hroom.out (j + 1)
          rw [hst] at hr2
          have j1 : (j : Int) < (ps.length : Int) := by omega
          have j2 : (0 : Int) ≤ (j : Int) := by omega
          have hpu := sput (hs.ext (Touch.refl _ _).drew) (by omega) _ p.1 p.2 (hkv.ext (Touch.refl _ _).drew) hpp.1 hpp.2 (Or.inr hr2)
          unfold SPut at hpu
          have Hgj := Lib.hid hgj
          clear hgj
          have Hpp := Lib.hid hpp
          clear hpp
          have Hkv := Lib.hid hkv
          clear hkv
          have Hs := Lib.hid hs
          clear hs
          have Ht := Lib.hid ht
          clear ht
          have Hpu := Lib.hid hpu
          clear hpu
          have Hr2 := Lib.hid hr2
          clear hr2
          have Hst := Lib.hid hst
          clear hst
          generalize mkK (ps.take j) = M at *
          go_wp2_with (fail)
          refine wp_region_plan (.take 0 (.take 1 (.take 2 (.take 3 (.take 4 (.take 5 (.take 6 (.take 7 (.take 8 (.take 9 (.take 10 (.must 11 (.take 12 (.take 13 (.take 14 (.take 15 (.take 16 (.take 17 (.take 18 .done))))))))))))))))))) (fun wy => wy.cell? ⟨b, off + j * 2, none⟩ = some (.slice ka p.1.length kc) ∧ wy.cell? ⟨b, off + j * 2 + 1, none⟩ = some (.int .u64 p.2)) (by kernel_rfl) (by kernel_rfl) (by kernel_rfl) rfl ?_ (fun KK hKK => ?_)
          · exact ⟨d0, d1⟩
          repeat (first
            | (refine wpPlan_take (v := ?_) rfl (by rfl) (fun W hW => ?_) ?_; rotate_left; (focus ((try dsimp only at hW); go_split_ands; go_simp; (try with_reducible rfl); done)); (try simp only [Act.put, List.setIfInBounds_toArray, List.set_cons_zero, List.set_cons_succ]))
            | (refine wpPlan_skip rfl (by rfl) ?_; (try simp only [Act.put, List.setIfInBounds_toArray, List.set_cons_zero, List.set_cons_succ])))
          refine wpPlan_must rfl (by rfl) (fun K hK => ?_)
          go_simp
          (with_reducible refine Hpu.out.mono ?_)
          rintro e w4 ⟨rfl, hs4, x4⟩
          have d0 := keepq x4 hbw d0
          have d1 := keepq x4 hbw d1
          have t4 := extq Ht.out.drew x4 (fun _ h => h)
          have hkv4 := rbq (Hkv.out.ext (Touch.refl _ _).drew) x4 (fun b hb => hb)
          clear x4
          have Hs4 := Lib.hid hs4
          clear hs4
          have T4 := Lib.hid t4
          clear t4
          have Hkv4 := Lib.hid hkv4
          clear hkv4
          refine hK.out _ _ ?_ ?_
          · exact ⟨d0, d1⟩
          clear hK K
          (try simp only [Act.put, List.setIfInBounds_toArray, List.set_cons_zero, List.set_cons_succ])
          repeat (first
            | (refine wpPlan_take (v := ?_) rfl (by rfl) (fun W hW => ?_) ?_; rotate_left; (focus ((try dsimp only at hW); go_split_ands; go_simp; (try with_reducible rfl); done)); (try simp only [Act.put, List.setIfInBounds_toArray, List.set_cons_zero, List.set_cons_succ]))
            | (refine wpPlan_skip rfl (by rfl) ?_; (try simp only [Act.put, List.setIfInBounds_toArray, List.set_cons_zero, List.set_cons_succ])))
          refine wpPlan_done (hKK.out _ _ ?_)
          clear hKK KK
          have hpr := srput (Hs4.out.ext (Touch.refl _ _).drew) (by omega) _ p.1 p.2 (Hkv4.out.ext (Touch.refl _ _).drew) Hpp.out.1 Hpp.out.2
          unfold SRPut at hpr
          have Hpr := Lib.hid hpr
          clear hpr
          go_wp2_with (fail)
          refine wp_region_plan (.take 0 (.take 1 (.take 2 (.take 3 (.take 4 (.take 5 (.take 6 (.take 7 (.take 8 (.take 9 (.take 10 (.must 11 (.take 12 (.take 13 (.take 14 (.take 15 (.take 16 (.take 17 (.take 18 .done))))))))))))))))))) (fun wy => wy.cell? ⟨b, off + j * 2, none⟩ = some (.slice ka p.1.length kc) ∧ wy.cell? ⟨b, off + j * 2 + 1, none⟩ = some (.int .u64 p.2)) (by kernel_rfl) (by kernel_rfl) (by kernel_rfl) rfl ?_ (fun KK hKK => ?_)
          · exact ⟨d0, d1⟩
          repeat (first
            | (refine wpPlan_take (v := ?_) rfl (by rfl) (fun W hW => ?_) ?_; rotate_left; (focus ((try dsimp only at hW); go_split_ands; go_simp; (try with_reducible rfl); done)); (try simp only [Act.put, List.setIfInBounds_toArray, List.set_cons_zero, List.set_cons_succ]))
            | (refine wpPlan_skip rfl (by rfl) ?_; (try simp only [Act.put, List.setIfInBounds_toArray, List.set_cons_zero, List.set_cons_succ])))
          refine wpPlan_must rfl (by rfl) (fun K hK => ?_)
          go_simp
          (with_reducible refine Hpr.out.mono ?_)
          rintro e w5 ⟨rfl, hs5, x5⟩
          have d0 := keepq x5 hbw d0
          have d1 := keepq x5 hbw d1
          have t5 := extq T4.out.drew x5 (fun _ h => h)
          clear x5
          rw [← Hst.out] at hs5
          have Hs5 := Lib.hid hs5
          clear hs5
          have T5 := Lib.hid t5
          clear t5
          refine hK.out _ _ ?_ ?_
          · exact ⟨d0, d1⟩
          clear hK K
          (try simp only [Act.put, List.setIfInBounds_toArray, List.set_cons_zero, List.set_cons_succ])
          repeat (first
            | (refine wpPlan_take (v := ?_) rfl (by rfl) (fun W hW => ?_) ?_; rotate_left; (focus ((try dsimp only at hW); go_split_ands; go_simp; (try with_reducible rfl); done)); (try simp only [Act.put, List.setIfInBounds_toArray, List.set_cons_zero, List.set_cons_succ]))
            | (refine wpPlan_skip rfl (by rfl) ?_; (try simp only [Act.put, List.setIfInBounds_toArray, List.set_cons_zero, List.set_cons_succ])))
          refine wpPlan_done (hKK.out _ _ ?_)
          clear hKK KK
          have hbb : (hasK M p.1 != hasK M p.1) = false := by simp
          go_wp2_with (fail)
          go_roundw
          case rel => exact ⟨j + 1, by omega, by go_num, Hs5.out, T5.out⟩
          case measure => simp [intOf]; omega
        · obtain rfl : j = ps.length := by omega
          have j1 : ¬ ((ps.length : Nat) : Int) < (ps.length : Int) := by omega
          have hml := mkK_length ps
          rw [List.take_length] at hs
          have hri0 := sright hs
          obtain ⟨ra, rc, r0, hrow0⟩ := hs.row
          generalize mkK ps = M0 at *
          have Hs := Lib.hid hs
          clear hs
          have Ht := Lib.hid ht
          clear ht
          have Hri0 := Lib.hid hri0
          clear hri0
          have Hrow0 := Lib.hid hrow0
          clear hrow0
          go_wp2_with (fail)
          (with_reducible refine Hri0.out.mono ?_)
          rintro e w4 ⟨rfl, t4⟩
          have r0 := keepc t4 id r0
          have hs4 := Hs.out.ext t4
          have x4 := Ht.out.trans' t4
          have hM40 : M0.length ≤ 40 := by omega
          clear t4
          have Hs4 := Lib.hid hs4
          clear hs4
          have X4 := Lib.hid x4
          clear x4
          go_wp2_with (fail)
          clear r0
          go_loopw [18] (fun s18 wr => ∃ (i : Nat) (M : Prs), i ≤ M0.length ∧ s18 = .int .i64 i ∧ M.length = M0.length - i ∧ Sx (In w) wr t r M M most ∧ Ext w wr) (fun s18 _ => M0.length - (intOf s18).toNat)
          case atStart => exact ⟨0, M0, by omega, rfl, by omega, Hs4.out, X4.out⟩
          case round =>
            obtain ⟨i, M, hi, rfl, hMl, hs, ht⟩ := hrel
            clear Hs Ht Hs4 X4 Hrow0
            obtain ⟨wq, rfl⟩ : ∃ wq, wq = wr := ⟨_, rfl⟩
            by_cases hi2 : i < M0.length
            · have k1 : (i : Int) < (M0.length : Int) := by omega
              obtain ⟨ra, rc, r0, hrow⟩ := hs.row
              obtain ⟨R9, hrf9⟩ := hs.map
              have hmm : ∀ p ∈ M, KB p.1 ∧ p.1.length ≤ 65535 := fun p hp => ⟨hrf9.kb p hp, hrf9.long p hp⟩
              have hri := hrf9.rises
              have hlow := SameA.low_ex n M.length wq HV.out (by omega) (by omega)
              obtain ⟨b, off, rfl, _⟩ := hrow.addr (by omega)
              clear hrf9
              have hM1 : 0 < M.length := by omega
              have hM2 : M.length ≤ 40 := by omega
              have hMl' := hMl
              clear hMl
              have Hs := Lib.hid hs
              clear hs
              have Ht := Lib.hid ht
              clear ht
              have Hrow := Lib.hid hrow
              clear hrow
              have Hmm := Lib.hid hmm
              clear hmm
              have Hri := Lib.hid hri
              clear hri
              have Hlow := Lib.hid hlow
              clear hlow
              have HMl' := Lib.hid hMl'
              clear hMl'
              go_wp2_with (fail)
              (with_reducible refine Hlow.out.mono ?_)
              rintro e w6 ⟨m, hma, hmb, rfl, rfl⟩
              obtain ⟨a, rfl⟩ : ∃ a : Nat, m = (a : Int) := ⟨m.toNat, by omega⟩
              have hMla : M.length ≤ M0.length - i := Nat.le_of_eq HMl'.out
              have hMlb : M0.length - i ≤ M.length := Nat.le_of_eq HMl'.out.symm
              cases up with
              | false =>
                have ha : a < M.length := by omega
                have n1 : (a : Int) < (M.length : Int) := by omega
                have n2 : (0 : Int) ≤ (a : Int) := by omega
                have hc : a < M.length := by omega
                have hgc := List.getElem?_eq_getElem hc
                obtain ⟨kv, d0, _, hkv⟩ := Hrow.out.get _ _ hgc
                have hpp := Hmm.out _ (List.mem_of_getElem? hgc)
                obtain ⟨hhas, hdl⟩ := drop_len Hri.out hgc
                have d0' := d0
                generalize M[a] = p at *
                obtain ⟨ka, kc, rfl, z1, z2, z3⟩ := hkv.shape
                unfold maxLen at z2
                have hpl := hpp.2
                have Hgc := Lib.hid hgc
                clear hgc
                have Hpp := Lib.hid hpp
                clear hpp
                have Hhas := Lib.hid hhas
                clear hhas
                have Hdl := Lib.hid hdl
                clear hdl
                go_wp2_with (first
                  | (at_builtin; refine wpList_push_any _ rfl _ _ 23 rfl 5 (.int .u8 0) 1 1 Tryd.underlying23 info_u8 rfl (by decide) (.slice none 0 0) 0 [] rfl (World.ownsRow_nil _ _ _ _) ka p.1.length kc rfl z3 (ivs .u8 p.1) z1 (by simp [ivs]) hkv.src (ivs_one _ _) (by simp [maxLen]; omega) (by omega) ?_; intro v10 w10 hown10 ht10 hb10; rw [Nat.zero_add, List.nil_append] at hown10))
                obtain ⟨na, nc, rfl⟩ := own_len hown10
                have y10 : Ext wq w10 := ht10.new (fun i hi => by simp [Value.ownBlock] at hi)
                have hs10 : Sx (fun b => In w b ∨ (Value.slice na p.1.length nc).ownBlock = some b) w10 t r M M most := Hs.out.kept y10 (fun b hb => by
                  rcases hb with h | h
                  · exact Or.inl h
                  · refine Or.inr ⟨?_, (hown10.lt b h).2⟩
                    rcases hb10 with h1 | h1
                    · rw [h1] at h; simp [Value.ownBlock] at h
                    · rw [h1] at h; cases h; exact Nat.le_refl _)
                have hk10 : RB w10 (fun b => In w b ∨ (Value.slice na p.1.length nc).ownBlock = some b) (.slice na p.1.length nc) p.1 := OB.rb ⟨hown10, fun b hb => Or.inr hb⟩
                have hdr := sdrop hs10 _ p.1 hk10 Hpp.out.1 Hpp.out.2
                unfold SDrop at hdr
                rw [Hhas.out] at hdr
                have t10 := Ht.out.trans' y10
                clear hkv d0 d0' ht10 hb10 hown10
                have Hdr := Lib.hid hdr
                clear hdr
                have Hs10 := Lib.hid hs10
                clear hs10
                have Hk10 := Lib.hid hk10
                clear hk10
                have T10 := Lib.hid t10
                clear t10
                have Y10 := Lib.hid y10
                clear y10
                go_wp2_with (fail)
                (with_reducible refine Hdr.out.mono ?_)
                rintro e w11 ⟨rfl, hs11, x11⟩
                have hk11 := rbq Hk10.out x11 (fun b hb => hb)
                have hrd := srdrop hs11 (by omega) _ p.1 hk11 Hpp.out.1
                unfold SRDrop at hrd
                rw [Hhas.out] at hrd
                have t11 := extq T10.out x11 (fun b hb => Or.inl hb)
                clear x11 hk11
                have Hrd := Lib.hid hrd
                clear hrd
                have Hs11 := Lib.hid hs11
                clear hs11
                have T11 := Lib.hid t11
                clear t11
                go_wp2_with (fail)
                (with_reducible refine Hrd.out.mono ?_)
                rintro e w12 ⟨rfl, hs12, x12⟩
                have t12 := extq T11.out x12 (fun b hb => Or.inl hb)
                have hvv : (valK M p.1 != valK M p.1) = false := by simp
                have hri12 := sright hs12
                have hs12' := hs12.less (Q' := In w) (fun b hb => Or.inl hb)
                have hdl := Hdl.out
                generalize dropK M p.1 = M2 at *
                clear x12 hs12
                have Hri12 := Lib.hid hri12
                clear hri12
                have Hs12' := Lib.hid hs12'
                clear hs12'
                have T12 := Lib.hid t12
                clear t12
                go_wp2_with (fail)
                (with_reducible refine Hri12.out.mono ?_)
                rintro e w13 ⟨rfl, x13⟩
                go_wp2_with (fail)
                go_roundw
                case rel => exact ⟨i + 1, M2, by omega, by go_num, by omega, Hs12'.out.ext x13, T12.out.trans' x13⟩
                case measure => simp [intOf]; omega
              | true =>
                have hc0 : M.length - 1 - a < M.length := by omega
                obtain ⟨c, hcc⟩ : ∃ c : Nat, (M.length : Int) - 1 - (a : Int) = (c : Int) := ⟨(M.length - 1 - a), by omega⟩
                have n1 : (c : Int) < (M.length : Int) := by omega
                have n2 : (0 : Int) ≤ (c : Int) := by omega
                have hc : c < M.length := by omega
                have hgc := List.getElem?_eq_getElem hc
                obtain ⟨kv, d0, _, hkv⟩ := Hrow.out.get _ _ hgc
                have hpp := Hmm.out _ (List.mem_of_getElem? hgc)
                obtain ⟨hhas, hdl⟩ := drop_len Hri.out hgc
                have d0' := d0
                generalize M[c] = p at *
                obtain ⟨ka, kc, rfl, z1, z2, z3⟩ := hkv.shape
                unfold maxLen at z2
                have hpl := hpp.2
                have Hgc := Lib.hid hgc
                clear hgc
                have Hpp := Lib.hid hpp
                clear hpp
                have Hhas := Lib.hid hhas
                clear hhas
                have Hdl := Lib.hid hdl
                clear hdl
                go_wp2_with (first
                  | (at_builtin; refine wpList_push_any _ rfl _ _ 23 rfl 5 (.int .u8 0) 1 1 Tryd.underlying23 info_u8 rfl (by decide) (.slice none 0 0) 0 [] rfl (World.ownsRow_nil _ _ _ _) ka p.1.length kc rfl z3 (ivs .u8 p.1) z1 (by simp [ivs]) hkv.src (ivs_one _ _) (by simp [maxLen]; omega) (by omega) ?_; intro v10 w10 hown10 ht10 hb10; rw [Nat.zero_add, List.nil_append] at hown10))
                obtain ⟨na, nc, rfl⟩ := own_len hown10
                have y10 : Ext wq w10 := ht10.new (fun i hi => by simp [Value.ownBlock] at hi)
                have hs10 : Sx (fun b => In w b ∨ (Value.slice na p.1.length nc).ownBlock = some b) w10 t r M M most := Hs.out.kept y10 (fun b hb => by
                  rcases hb with h | h
                  · exact Or.inl h
                  · refine Or.inr ⟨?_, (hown10.lt b h).2⟩
                    rcases hb10 with h1 | h1
                    · rw [h1] at h; simp [Value.ownBlock] at h
                    · rw [h1] at h; cases h; exact Nat.le_refl _)
                have hk10 : RB w10 (fun b => In w b ∨ (Value.slice na p.1.length nc).ownBlock = some b) (.slice na p.1.length nc) p.1 := OB.rb ⟨hown10, fun b hb => Or.inr hb⟩
                have hdr := sdrop hs10 _ p.1 hk10 Hpp.out.1 Hpp.out.2
                unfold SDrop at hdr
                rw [Hhas.out] at hdr
                have t10 := Ht.out.trans' y10
                clear hkv d0 d0' ht10 hb10 hown10
                have Hdr := Lib.hid hdr
                clear hdr
                have Hs10 := Lib.hid hs10
                clear hs10
                have Hk10 := Lib.hid hk10
                clear hk10
                have T10 := Lib.hid t10
                clear t10
                have Y10 := Lib.hid y10
                clear y10
                go_wp2_with (fail)
                (with_reducible refine Hdr.out.mono ?_)
                rintro e w11 ⟨rfl, hs11, x11⟩
                have hk11 := rbq Hk10.out x11 (fun b hb => hb)
                have hrd := srdrop hs11 (by omega) _ p.1 hk11 Hpp.out.1
                unfold SRDrop at hrd
                rw [Hhas.out] at hrd
                have t11 := extq T10.out x11 (fun b hb => Or.inl hb)
                clear x11 hk11
                have Hrd := Lib.hid hrd
                clear hrd
                have Hs11 := Lib.hid hs11
                clear hs11
                have T11 := Lib.hid t11
                clear t11
                go_wp2_with (fail)
                (with_reducible refine Hrd.out.mono ?_)
                rintro e w12 ⟨rfl, hs12, x12⟩
                have t12 := extq T11.out x12 (fun b hb => Or.inl hb)
                have hvv : (valK M p.1 != valK M p.1) = false := by simp
                have hri12 := sright hs12
                have hs12' := hs12.less (Q' := In w) (fun b hb => Or.inl hb)
                have hdl := Hdl.out
                generalize dropK M p.1 = M2 at *
                clear x12 hs12
                have Hri12 := Lib.hid hri12
                clear hri12
                have Hs12' := Lib.hid hs12'
                clear hs12'
                have T12 := Lib.hid t12
                clear t12
                go_wp2_with (fail)
                (with_reducible refine Hri12.out.mono ?_)
                rintro e w13 ⟨rfl, x13⟩
                go_wp2_with (fail)
                go_roundw
                case rel => exact ⟨i + 1, M2, by omega, by go_num, by omega, Hs12'.out.ext x13, T12.out.trans' x13⟩
                case measure => simp [intOf]; omega
            · obtain rfl : i = M0.length := by omega
              have k1 : ¬ ((M0.length : Nat) : Int) < (M0.length : Int) := by omega
              obtain rfl := List.eq_nil_of_length_eq_zero (l := M) (by omega)
              obtain ⟨F9, hn9⟩ := hs.tree
              have hli := TreeB.live_tp wq t [] most hn9
              have hln := TreeA.len_any wq _ [] hn9.tq
              have hsh := shape_nil wq t most hn9
              have hsz : szK [] = 0 := rfl
              rw [hsz] at hli
              have hte : ∃ F, Tp wq t F [] most ∧ ∀ b, F b → w.heap.size ≤ b := by
                obtain ⟨F8, R8, h8⟩ := hs
                exact ⟨F8, h8.tp, fun b hb => by
                  rcases Nat.lt_or_ge b w.heap.size with h | h
                  · exact absurd h (h8.hF b hb)
                  · exact h⟩
              clear hn9 hMl
              have Hli := Lib.hid hli
              clear hli
              have Hln := Lib.hid hln
              clear hln
              have Hsh := Lib.hid hsh
              clear hsh
              have Hte := Lib.hid hte
              clear hte
              have Hs := Lib.hid hs
              clear hs
              have Ht := Lib.hid ht
              clear ht
              go_wp2_with (fail)
              (with_reducible refine Hli.out.mono ?_)
              rintro e w6 ⟨rfl, rfl⟩
              go_wp2_with (fail)
              (with_reducible refine Hln.out.mono ?_)
              rintro e w6 ⟨rfl, rfl⟩
              go_wp2_with (fail)
              (with_reducible refine Hsh.out.mono ?_)
              rintro e w6 ⟨⟨sa, sc, rfl⟩, x6⟩
              go_wp2_with (fail)
              go_roundw
              case rel =>
                obtain ⟨F8, h8, h9⟩ := Hte.out
                exact ⟨q + 1, by omega, by go_num, F8, h8.ext x6, h9, Ht.out.trans' x6⟩
              case measure => simp [intOf]; omega
    · obtain rfl : q = 2 := by omega
      have i1 : ¬ ((2 : Nat) : Int) < 2 := by omega
      have Ht := Lib.hid ht
      clear ht
      have Htp := Lib.hid htp
      clear htp
      have HF := Lib.hid hF
      clear hF
      go_wp2_with (fail)
      refine (TreeW.awake_any _ (Htr.out.ext Ht.out)).mono ?_
      rintro e w7 ⟨rfl, t7⟩
      go_wp2_with (fail)
      go_ret
      exact ⟨rfl, Ht.out.trans' t7⟩

set_option maxRecDepth 100000 in
set_option maxHeartbeats 400000 in
theorem walk_great (v0 : Value) (n : Int) (up : Bool) (ps : Prs) (F : Nat → Prop) (w : World) (htr : KidA.Tr w) (h0 : RP w F v0 ps) (hg : SameP.great ps 40 30 = true) :
    Calls Tryd.prog 7 #[v0, .int .i64 n, .bool up] w fun e w' => e = .returned (.bool true) ∧ Ext w w' := by
  obtain ⟨a0, c0, rfl, l1, l2, _⟩ := h0.shape
  unfold maxLen at l2
  have hgr := SameP.great_any w F _ ps 40 30 h0 (by decide) (by decide) (by decide) (by decide)
  rw [hg] at hgr
  have Hgr := Lib.hid hgr
  clear hgr
  have Hg := Lib.hid hg
  clear hg
  go_enter Tryd.func7, Tryd.ntmps7
  go_wp2_with (fail)
  refine Hgr.out.mono ?_
  rintro e w' ⟨rfl, rfl⟩
  go_wp2_with (fail)
  refine (TreeW.awake_any _ htr).mono ?_
  rintro e w' ⟨rfl, ht⟩
  go_wp2_with (fail)
  go_ret
  exact ⟨rfl, ht⟩

set_option maxRecDepth 100000 in
theorem lifted (os : Os) (started : os.Started) (H : Type) (enc : TypeId × Value → H) :
    ReturnsInHanded {} Tryd.checked os 7 .any (fun w args => (Rows.radixRoomSpec.pre enc Tryd.prog Tryd.f7 [] false w args ∧ laidMetH Tryd.prog KidL.laidK w) ∧ sizedMet enc Tryd.prog Tryd.f7 (OpenSpec.ofChange Rows.radixRoomSpec) false w args) (Rows.radixRoomSpec.post enc Tryd.prog Tryd.f7 false true false false) := by
  refine returnsInHanded_of_change_and (C := Tryd.checked) (X := fun w _ => laidMetH Tryd.prog KidL.laidK w) (fun _ _ _ hh h => h.of_heap hh) Tryd.own started (by kernel_rfl) Tryd.func7
    (ChangeSpec.witness_shaped (enc := enc) (C := Tryd.checked) (os := os) (X := fun w _ => laidMetH Tryd.prog KidL.laidK w) false (World.doorLaid Tryd.prog 400 os) #[.slice none 0 0, .int .i64 0, .bool false] 8 rfl (World.shaped_of_RefB (by kernel_rfl) (by kernel_rfl)) (by kernel_rfl) (by kernel_rfl) (by kernel_rfl) (KidL.door_met os _)) ?_
  intro W base args ds gs before hval0 hW _ _ hL _
  have hval : ∀ (j : Nat) t v, Tryd.f7.params[j]? = some t → args[j]? = some v → Value.okWide Tryd.prog W .any base t v := hval0
  have hW' := hW
  obtain ⟨p, q, hA0, hV, rfl, hfz, hnd⟩ := hW
  have hA : DataW.TrodAll enc Tryd.prog W 0 (fun _ => true) true Tryd.f7.params.toList args.toList ds p := hA0
  rw [Tryd.params7] at hA hval
  obtain ⟨v0, v1, v2, d0, d1, d2, p0, p1, p2, rfl, rfl, rfl, h0, h1, h2⟩ := trodAll_three hA
  obtain ⟨rfl, rfl⟩ := trodVars_none hV
  have htr := (KidL.of_laid hL).tr
  have htl := (KidL.of_laid hL).tl
  refine Calls.mono (R := fun e w' => e = .returned (.bool true) ∧ Touch (fun _ => False) W w') ?_ fun e W' ⟨he, hw⟩ => (by subst he; exact ⟨_, rfl, law_post Tryd.laidOut (by kernel_rfl) rfl Tryd.underlying4 rfl rfl ⟨rfl, rfl, rfl⟩ hW' (hw.below fun _ h _ => h)⟩)
  obtain ⟨ps, hps, hpp⟩ := rp_of_arg (hval 0 22 v0 rfl rfl) h0
  obtain ⟨n1, rfl, rfl, rfl, hV1⟩ := open_int Tryd.underlying3 (hval 1 3 v1 rfl rfl) h1
  obtain ⟨up, rfl, rfl, rfl⟩ := open_bool Tryd.underlying4 (hval 2 4 v2 rfl rfl) h2
  by_cases hg : SameP.great ps 40 30 = true
  · exact walk_great v0 n1 up ps _ W htr hps hg
  · have hg : SameP.great ps 40 30 = false := by simpa using hg
    have hgn := great_not (most := 40) (long := 30) hg
    exact walk_small v0 n1 up ps W htr htl hps (fun p hp => ⟨(hpp p hp).1, by have := hgn.2 p hp; omega⟩) hg hgn.1 hgn.2 (v64_wf hV1)
theorem radixRoom_row : Rows.RadixRoomSaid :=
  OpenClaim.holds_of_wide 7 Tryd.f7 rfl rfl rfl rfl rfl rfl rfl ⟨rfl, rfl, rfl, rfl, rfl⟩ rfl rfl rfl rfl rfl (by kernel_rfl) Tryd.func7 (by kernel_rfl)
    (of_decide_eq_true (by kernel_rfl)) (by unfold Func.isWrapper; first | (rw [if_pos (by decide +kernel)]; kernel_rfl) | (rw [if_neg (by decide +kernel)]; exact ⟨rfl, rfl⟩))
    (fun os started H enc _ => lifted os started H enc)
theorem radixRoom_holds : Rows.RadixRoomCardSaid :=
  Claim7.holds_tied_plain_at .later [] [.data, .data] true (true, "ecce178eaad04459afb8ccc92e4d2a22b1e163e47b87319aec7ce6fc9ad3f62b") false
    radixRoom_row (fun _ h => by cases h) (by kernel_rfl) (fun _ h => by cases h) radixRoom_row_tie rfl ⟨rfl, rfl⟩ (by kernel_rfl) rfl
    (fun f fn hf hfn => by
      obtain rfl : f = 7 := Option.some.inj ((show Tryd.prog.funcNamed "bramble/bramblelaw14.RadixRoom" = some 7 by kernel_rfl).symm.trans hf) |>.symm
      obtain rfl : fn = Tryd.f7 := (Option.some.inj (Tryd.func7.symm.trans hfn)).symm
      exact ⟨by kernel_rfl, fun j t ht => by
        rw [Tryd.params7] at ht
        have hm : t ∈ [22, 3, 4] := by simpa using Array.mem_of_getElem? ht
        have hall : ([22, 3, 4].all fun u => !Tryd.prog.wantsStandIn u) = true := by kernel_rfl
        exact (show Tryd.prog.wantsStandIn t = false by simpa using List.all_eq_true.1 hall t hm)⟩)
    (by kernel_rfl)
end LawRadixRoom
end Go.Proofs.YtclnnkacfanaiaaDoor
