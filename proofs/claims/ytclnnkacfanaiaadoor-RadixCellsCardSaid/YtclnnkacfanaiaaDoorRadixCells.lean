/- The statement RadixCells: there is a node for each that two keys side by side share, each once, and a leaf for each key that is none of these. Conditions: none beyond the card's own; the two tables are tied to the program's text. -/
import Derived.Test.YtclnnkacfanaiaaDoorTreeST
import Derived.Test.YtclnnkacfanaiaaDoorArg
import Derived.Test.YtclnnkacfanaiaaDoorRows
import Derived.Test.YtclnnkacfanaiaaDoorRadW
import Derived.Test.YtclnnkacfanaiaaDoorRadV
import Derived.Test.YtclnnkacfanaiaaDoorKidL
import Derived.Test.YtclnnkacfanaiaaDoorCards
import Derived.Test.YtclnnkacfanaiaaDoorTie
namespace Go.Proofs.YtclnnkacfanaiaaDoor
open Go.ChangeShapes Go.WideShapes Go.ChangeAt Go.RowKit Go.Deep
set_option linter.unusedVariables false
set_option linter.unusedSimpArgs false
namespace LawRadixCells
open TreeB TreeP TreeD TreeS ModF RefF ModP RadW
open ModS (great_not)

theorem sz_small (X : Prs) (hl : X.length ≤ 30) (h : ∀ p ∈ X, p.1.length ≤ 20) : szK X ≤ 700 := by
  have h1 := RadS.sz_bound2 X
  omega
theorem lone_le (M N : Prs) (n : Nat) : loneK M N n ≤ n := by
  unfold loneK
  exact Nat.le_trans (List.length_filter_le _ _) (by simp; omega)


set_option maxRecDepth 100000 in
set_option maxHeartbeats 8000000 in
theorem walk_small (v0 : Value) (bits : Int) (ps : Prs) (w : World) (htr : KidA.Tr w) (htl : KidA.Tl w) (h0 : RP w (In w) v0 ps) (hpk : PK ps) (hg : SameP.great ps 30 20 = false) (hm : ps.length ≤ 30) (hL : ∀ p ∈ ps, p.1.length ≤ 20) (hb64 : V64 bits) :
    Calls Tryd.prog 8 #[v0, .int .i64 bits] w fun e w' => e = .returned (.bool true) ∧ Ext w w' := by
  obtain ⟨a0, c0, rfl, l1, l2, _⟩ := h0.shape
  unfold maxLen at l2
  have hgr := SameP.great_any w _ _ ps 30 20 h0 (by decide) (by decide) (by decide) (by decide)
  rw [hg] at hgr
  have hnew := new_yes w htr 1000 (by decide) (by decide)
  unfold TNew at hnew
  have Htr := Lib.hid htr
  clear htr
  have Htl := Lib.hid htl
  clear htl
  have Hgr := Lib.hid hgr
  clear hgr
  have Hnew := Lib.hid hnew
  clear hnew
  have H0 := Lib.hid h0
  clear h0
  have Hpk := Lib.hid hpk
  clear hpk
  have HL := Lib.hid hL
  clear hL
  have Hb64 := Lib.hid hb64
  clear hb64
  clear hg
  go_enter Tryd.func8, Tryd.ntmps8
  go_wp2_with (fail)
  refine Hgr.out.mono ?_
  rintro e w' ⟨rfl, rfl⟩
  go_wp2_with (fail)
  (with_reducible refine Hnew.out.mono ?_)
  rintro e w1 ⟨t, F, rfl, htp, hF, t1⟩
  have hs := sx_new (Q := In w) (fun b hb => Nat.lt_of_lt_of_le hb t1.size) (fun b hb hq => by have h3 := hF b hb; have h4 : b < w.heap.size := hq; omega) htp (Htl.out.ext t1) (fun h8 => by have h9 := World.block_lt_of_cell? _ _ Htl.out.l0; have h7 := hF _ h8; simp only at h9; omega)
  have t3 := t1.alloc (.cells #[.slice none 0 0] 55)
  have Hs := Lib.hid hs
  clear hs
  have T3 := Lib.hid t3
  clear t3
  clear htp hF t1
  go_wp2_with (fail)
  generalize w1.heap.size = r at *
  generalize w1.alloc (.cells #[.slice none 0 0] 55) = w3 at *
  go_loopw [7] (fun s7 wr => ∃ (j : Nat) (M : Prs), j ≤ ps.length ∧ s7 = .int .i64 j ∧ M.length ≤ j ∧ (∀ p ∈ M, p.1.length ≤ 20) ∧ Sx (In w) wr t r M M 1000 ∧ Ext w wr) (fun s7 _ => ps.length - (intOf s7).toNat)
  case atStart => exact ⟨0, [], by omega, rfl, by simp, (fun p hp => by simp at hp), Hs.out, T3.out⟩
  case round =>
    obtain ⟨j, M, hj, rfl, hMl, hMk, hs, ht⟩ := hrel
    clear Hs T3
    by_cases hjk : j < ps.length
    · obtain ⟨b, off, rfl, hb⟩ := H0.out.addr (by omega)
      have hbw : b < w.heap.size := hb
      have hgj := List.getElem?_eq_getElem hjk
      have hpp := Hpk.out _ (List.mem_of_getElem? hgj)
      have hp20 := HL.out _ (List.mem_of_getElem? hgj)
      obtain ⟨kv, d0, d1, hkv⟩ := (H0.out.ext ht).get _ _ hgj
      generalize ps[j] = p at *
      obtain ⟨ka, kc, rfl, y1, y2, y3⟩ := hkv.shape
      unfold maxLen at y2
      have hj2 : j / 2 < ps.length := by omega
      have hgh := List.getElem?_eq_getElem hj2
      have hqq := Hpk.out _ (List.mem_of_getElem? hgh)
      generalize ps[j / 2] = q at *
      have hl1 : (putK M p.1 p.2).length ≤ j + 1 := by have := putK_length M p.1 p.2; split at this <;> omega
      have hk1 : ∀ x ∈ putK M p.1 p.2, x.1.length ≤ 20 := fun x hx => (putK_mem hx).elim (fun h => by rw [h]; exact hp20) (hMk x)
      have hr2 := sz_small _ (by omega) hk1
      have j1 : (j : Int) < (ps.length : Int) := by omega
      have j2 : (0 : Int) ≤ (j : Int) := by omega
      have hpu := sput (hs.ext (Touch.refl _ _).drew) (by omega) _ p.1 p.2 (hkv.ext (Touch.refl _ _).drew) hpp.1 hpp.2 (Or.inr (by omega))
      unfold SPut at hpu
      have Hgj := Lib.hid hgj
      clear hgj
      have Hgh := Lib.hid hgh
      clear hgh
      have Hqq := Lib.hid hqq
      clear hqq
      have Hpp := Lib.hid hpp
      clear hpp
      have Hkv := Lib.hid hkv
      clear hkv
      have Hs := Lib.hid hs
      clear hs
      have Ht := Lib.hid ht
      clear ht
      have Hpu := Lib.hid hpu
      clear hpu
      have Hr2 := Lib.hid hr2
      clear hr2
      have Hk1 := Lib.hid hk1
      clear hk1
      have HMk := Lib.hid hMk
      clear hMk
      go_wp2_with (fail)
      refine wp_region_plan (.take 0 (.take 1 (.take 2 (.take 3 (.take 4 (.take 5 (.take 6 (.take 7 (.take 8 (.take 9 (.take 10 (.must 11 (.take 12 (.take 13 (.take 14 (.take 15 (.take 16 (.take 17 (.take 18 .done))))))))))))))))))) (fun wy => wy.cell? ⟨b, off + j * 2, none⟩ = some (.slice ka p.1.length kc) ∧ wy.cell? ⟨b, off + j * 2 + 1, none⟩ = some (.int .u64 p.2)) (by kernel_rfl) (by kernel_rfl) (by kernel_rfl) rfl ?_ (fun KK hKK => ?_)
      · exact ⟨d0, d1⟩
      repeat (first
        | (refine wpPlan_take (v := ?_) rfl (by rfl) (fun W hW => ?_) ?_; rotate_left; (focus ((try dsimp only at hW); go_split_ands; go_simp; (try with_reducible rfl); done)); (try simp only [Act.put, List.setIfInBounds_toArray, List.set_cons_zero, List.set_cons_succ]))
        | (refine wpPlan_skip rfl (by rfl) ?_; (try simp only [Act.put, List.setIfInBounds_toArray, List.set_cons_zero, List.set_cons_succ])))
      refine wpPlan_must rfl (by rfl) (fun K hK => ?_)
      go_simp
      (with_reducible refine Hpu.out.mono ?_)
      rintro e w4 ⟨rfl, hs4, x4⟩
      have d0 := keepq x4 hbw d0
      have d1 := keepq x4 hbw d1
      have t4 := extq Ht.out.drew x4 (fun _ h => h)
      have hkv4 := rbq (Hkv.out.ext (Touch.refl _ _).drew) x4 (fun b hb => hb)
      clear x4
      have Hs4 := Lib.hid hs4
      clear hs4
      have T4 := Lib.hid t4
      clear t4
      have Hkv4 := Lib.hid hkv4
      clear hkv4
      refine hK.out _ _ ?_ ?_
      · exact ⟨d0, d1⟩
      clear hK K
      (try simp only [Act.put, List.setIfInBounds_toArray, List.set_cons_zero, List.set_cons_succ])
      repeat (first
        | (refine wpPlan_take (v := ?_) rfl (by rfl) (fun W hW => ?_) ?_; rotate_left; (focus ((try dsimp only at hW); go_split_ands; go_simp; (try with_reducible rfl); done)); (try simp only [Act.put, List.setIfInBounds_toArray, List.set_cons_zero, List.set_cons_succ]))
        | (refine wpPlan_skip rfl (by rfl) ?_; (try simp only [Act.put, List.setIfInBounds_toArray, List.set_cons_zero, List.set_cons_succ])))
      refine wpPlan_done (hKK.out _ _ ?_)
      clear hKK KK
      have hpr := srput (Hs4.out.ext (Touch.refl _ _).drew) (by omega) _ p.1 p.2 (Hkv4.out.ext (Touch.refl _ _).drew) Hpp.out.1 Hpp.out.2
      unfold SRPut at hpr
      have Hpr := Lib.hid hpr
      clear hpr
      go_wp2_with (fail)
      refine wp_region_plan (.take 0 (.take 1 (.take 2 (.take 3 (.take 4 (.take 5 (.take 6 (.take 7 (.take 8 (.take 9 (.take 10 (.must 11 .done)))))))))))) (fun wy => wy.cell? ⟨b, off + j * 2, none⟩ = some (.slice ka p.1.length kc) ∧ wy.cell? ⟨b, off + j * 2 + 1, none⟩ = some (.int .u64 p.2)) (by kernel_rfl) (by kernel_rfl) (by kernel_rfl) rfl ?_ (fun KK hKK => ?_)
      · exact ⟨d0, d1⟩
      repeat (first
        | (refine wpPlan_take (v := ?_) rfl (by rfl) (fun W hW => ?_) ?_; rotate_left; (focus ((try dsimp only at hW); go_split_ands; go_simp; (try with_reducible rfl); done)); (try simp only [Act.put, List.setIfInBounds_toArray, List.set_cons_zero, List.set_cons_succ]))
        | (refine wpPlan_skip rfl (by rfl) ?_; (try simp only [Act.put, List.setIfInBounds_toArray, List.set_cons_zero, List.set_cons_succ])))
      refine wpPlan_must rfl (by rfl) (fun K hK => ?_)
      go_simp
      (with_reducible refine Hpr.out.mono ?_)
      rintro e w5 ⟨rfl, hs5, x5⟩
      have d0 := keepq x5 hbw d0
      have d1 := keepq x5 hbw d1
      have t5 := extq T4.out.drew x5 (fun _ h => h)
      clear x5
      have Hs5 := Lib.hid hs5
      clear hs5
      have T5 := Lib.hid t5
      clear t5
      refine hK.out _ _ ?_ ?_
      · exact ⟨d0, d1⟩
      clear hK K
      (try simp only [Act.put, List.setIfInBounds_toArray, List.set_cons_zero, List.set_cons_succ])
      refine wpPlan_done (hKK.out _ _ ?_)
      clear hKK KK
      have hs1 := Hs5.out
      have t1 := T5.out
      have hk1 := Hk1.out
      clear Hs Hs4 T4 Hpu Hpr Hs5 T5 Hk1 Hr2 HMk hMl Hkv4
      generalize putK M p.1 p.2 = M1 at *
      obtain ⟨wc, rfl⟩ : ∃ wc, wc = w5 := ⟨_, rfl⟩
      cases hdb : (Go.bits BinOp.and IntKind.i64 (bits / 2 ^ (j % 60)) 1 == 1) with
      | false =>
        obtain ⟨M2, rfl⟩ : ∃ M2, M2 = M1 := ⟨_, rfl⟩
        obtain ⟨wd, rfl⟩ : ∃ wd, wd = wc := ⟨_, rfl⟩
        have hs2 := hs1
        have t2 := t1
        have hk2 := hk1
        have hl2 := hl1
        clear hs1 t1 hk1 hl1
        obtain ⟨ra, rc, r0, hrow⟩ := hs2.row
        obtain ⟨F9, htp⟩ := hs2.tree
        have hli := fun W (x : Ext wd W) => live_tp W t M2 1000 (htp.ext x)
        have hsh := fun W (x : Ext wd W) => RadV.shape_any W t F9 M2 1000 (htp.ext x)
        have hM30 : M2.length ≤ 30 := by omega
        have hkb := htp.kb
        have hszk := sz_adj htp.rises hkb
        clear htp
        have xn : Ext wd (wd.alloc (.cells #[.slice none 0 0] 55)) := (Touch.refl _ _).alloc _
        have hrn : ∃ R9 : Nat → Prop, Rf (wd.alloc (.cells #[.slice none 0 0] 55)) wd.heap.size R9 (adjK M2 1) ∧ (∀ b, R9 b → wd.heap.size ≤ b) := ⟨_, RefJ.rf_new wd, fun b hb => Nat.le_of_eq hb.symm⟩
        have Hs2 := Lib.hid hs2
        clear hs2
        have T2 := Lib.hid t2
        clear t2
        have Hk2 := Lib.hid hk2
        clear hk2
        have Hrow := Lib.hid hrow
        clear hrow
        have Hli := Lib.hid hli
        clear hli
        have Hsh := Lib.hid hsh
        clear hsh
        have Hkb := Lib.hid hkb
        clear hkb
        have Hszk := Lib.hid hszk
        clear hszk
        have Hrn := Lib.hid hrn
        clear hrn
        have Xn := Lib.hid xn
        clear xn
        go_wp2_with (fail)
        obtain ⟨nb, hnb⟩ : ∃ nb, nb = wd.heap.size := ⟨_, rfl⟩
        obtain ⟨we, hwe⟩ : ∃ we, we = wd.alloc (.cells #[.slice none 0 0] 55) := ⟨_, rfl⟩
        have hrn := Hrn.out
        have xn := Xn.out
        rw [← hwe] at xn hrn ⊢
        rw [← hnb] at hrn ⊢
        clear hwe Hrn Xn
        have Hrn := Lib.hid hrn
        clear hrn
        have Xn := Lib.hid xn
        clear xn
        have Hnb := Lib.hid hnb
        clear hnb
        go_loopw [12] (fun s12 wx => ∃ q : Nat, 1 ≤ q ∧ q ≤ M2.length + 1 ∧ s12 = .int .i64 q ∧ (∃ R9 : Nat → Prop, Rf wx nb R9 (adjK M2 (if q ≤ M2.length then q else M2.length)) ∧ ∀ b, R9 b → nb ≤ b) ∧ Ext wd wx) (fun s12 _ => M2.length + 1 - (intOf s12).toNat)
        case atStart =>
          refine ⟨1, by omega, by omega, rfl, ?_, Xn.out⟩
          rcases Nat.eq_zero_or_pos M2.length with h | h
          · rw [h]; exact Hrn.out
          · rw [if_pos (by omega)]; exact Hrn.out
        case round =>
          obtain ⟨q, hq1, hq, rfl, ⟨R9, hrf9, hR9⟩, hx⟩ := hrel
          clear Hrn Xn
          obtain ⟨wz, rfl⟩ : ∃ wz, wz = wr := ⟨_, rfl⟩
          have r0x := keepc hx id r0
          by_cases hql : q < M2.length
          · obtain ⟨i, rfl⟩ : ∃ i, q = i + 1 := ⟨q - 1, by omega⟩
            rw [if_pos (by omega)] at hrf9
            obtain ⟨b2, off2, rfl, _⟩ := Hrow.out.addr (by omega)
            have hgq := List.getElem?_eq_getElem hql
            have hgi := List.getElem?_eq_getElem (show i < M2.length by omega)
            obtain ⟨xv, e0, _, hxv0⟩ := Hrow.out.get (i + 1) _ hgq
            obtain ⟨yv, f0, _, hyv0⟩ := Hrow.out.get i _ hgi
            have hxv := hxv0.ext hx
            have hyv := hyv0.ext hx
            have hxl := Hk2.out _ (List.mem_of_getElem? hgq)
            have hyl := Hk2.out _ (List.mem_of_getElem? hgi)
            have hxk := Hkb.out _ (List.mem_of_getElem? hgq)
            have hst : adjK M2 (i + 1 + 1) = putK (adjK M2 (i + 1)) (sideK M2 (i + 1)) 1 := by rw [adjK, if_neg (by omega)]
            have hsd : sideK M2 (i + 1) = M2[i + 1].1.take (comK M2[i].1 M2[i + 1].1) := by unfold sideK; rw [keyAt_of hgq, show i + 1 - 1 = i by omega, keyAt_of hgi]
            rw [hsd] at hst
            have hal := adj_length M2 (i + 1)
            have hcl := (comK_le M2[i].1 M2[i + 1].1).2
            generalize M2[i + 1] = x at *
            generalize M2[i] = y at *
            obtain ⟨xa, xc, rfl, y1, y2, y3⟩ := hxv.shape
            obtain ⟨ya, yc, rfl, _⟩ := hyv.shape
            unfold maxLen at y2
            have hcm := RefC.common_any wz.drew _ _ y.1 x.1 (hyv.ext (Touch.refl _ _).drew) (hxv.ext (Touch.refl _ _).drew) (by omega) (by omega)
            have hxt := hxv.take (comK y.1 x.1) hcl
            have htl : (x.1.take (comK y.1 x.1)).length ≤ 20 := by simp; omega
            have hpu := fun W (t : Ext wz W) => RefJ.put_any W nb _ (adjK M2 (i + 1)) _ 1 (hrf9.ext t) (hxt.ext t) (fun z hz => hxk z (List.mem_of_mem_take hz)) (by omega) (by omega)
            unfold RefJ.RPut at hpu
            rw [← hst] at hpu
            have k0 : (0 : Int) ≤ (i : Int) := by omega
            have k1 : ((i : Int) + 1) < (M2.length : Int) := by omega
            have k2 : (i : Int) < (M2.length : Int) := by omega
            have k3 : (0 : Int) ≤ (i : Int) + 1 := by omega
            have k4 : (i : Int) + 1 - 1 = (i : Int) := by omega
            have k5 : IntKind.i64.wrap (i : Int) = (i : Int) := by rw [IntKind.wrap_i64]; omega
            have hcx : ((comK y.1 x.1 : Nat) : Int) ≤ (xc : Int) := by omega
            have hc0 : (0 : Int) ≤ ((comK y.1 x.1 : Nat) : Int) := by omega
            have hcn : comK y.1 x.1 ≤ xc := by omega
            have e0x := keepc hx id e0
            have f0x := keepc hx id f0
            clear hxv0 hyv0
            generalize x.1.take (comK y.1 x.1) = kt at *
            generalize comK y.1 x.1 = cm at *
            have Hgq := Lib.hid hgq
            clear hgq
            have Hgi := Lib.hid hgi
            clear hgi
            have Hxv := Lib.hid hxv
            clear hxv
            have Hyv := Lib.hid hyv
            clear hyv
            have Hst := Lib.hid hst
            clear hst
            have Hsd := Lib.hid hsd
            clear hsd
            have Hpu := Lib.hid hpu
            clear hpu
            have Hcm := Lib.hid hcm
            clear hcm
            have Hxt := Lib.hid hxt
            clear hxt
            have Hrf9 := Lib.hid hrf9
            clear hrf9
            have HR9 := Lib.hid hR9
            clear hR9
            have Hxl := Lib.hid hxl
            clear hxl
            have Hyl := Lib.hid hyl
            clear hyl
            have Hxk := Lib.hid hxk
            clear hxk
            have Hx := Lib.hid hx
            clear hx
            have Htl := Lib.hid htl
            clear htl
            have Hal := Lib.hid hal
            clear hal
            have Hcl := Lib.hid hcl
            clear hcl
            go_wp2_with (fail)
            refine wp_region_plan (.take 0 (.take 1 (.take 2 (.take 3 (.take 4 (.take 5 (.take 6 (.take 7 (.take 8 (.take 9 (.take 10 (.take 11 (.take 12 (.take 13 (.take 14 (.take 15 (.take 16 (.take 17 (.take 18 (.take 19 (.take 20 (.take 21 (.take 22 (.take 23 (.take 24 (.take 25 (.must 26 (.take 27 (.must 28 .done))))))))))))))))))))))))))))) (fun W => W.cell? ⟨r, 0, none⟩ = some (.slice (some ⟨b2, off2, none⟩) M2.length rc) ∧ W.cell? ⟨b2, off2 + (i + 1) * 2, none⟩ = some (.slice xa x.1.length xc) ∧ W.cell? ⟨b2, off2 + i * 2, none⟩ = some (.slice ya y.1.length yc)) (by kernel_rfl) (by kernel_rfl) (by kernel_rfl) rfl ?_ (fun KK hKK => ?_)
            · exact ⟨r0x, e0x, f0x⟩
            repeat (first
              | (refine wpPlan_take (v := ?_) rfl (by rfl) (fun W hW => ?_) ?_; rotate_left; (focus ((try dsimp only at hW); go_split_ands; go_simp; (try with_reducible rfl); done)); (try simp only [Act.put, List.setIfInBounds_toArray, List.set_cons_zero, List.set_cons_succ]))
              | (refine wpPlan_skip rfl (by rfl) ?_; (try simp only [Act.put, List.setIfInBounds_toArray, List.set_cons_zero, List.set_cons_succ])))
            refine wpPlan_must rfl (by rfl) (fun K hK => ?_)
            go_simp
            (with_reducible refine Hcm.out.mono ?_)
            rintro e w9 ⟨rfl, t9⟩
            have y9 : Ext wz w9 := (Touch.refl _ _).drew.trans' t9
            refine hK.out _ _ ?_ ?_
            · exact ⟨keepc y9 id r0x, keepc y9 id e0x, keepc y9 id f0x⟩
            clear hK K
            (try simp only [Act.put, List.setIfInBounds_toArray, List.set_cons_zero, List.set_cons_succ])
            repeat (first
              | (refine wpPlan_take (v := ?_) rfl (by rfl) (fun W hW => ?_) ?_; rotate_left; (focus ((try dsimp only at hW); go_split_ands; go_simp; (try with_reducible rfl); done)); (try simp only [Act.put, List.setIfInBounds_toArray, List.set_cons_zero, List.set_cons_succ]))
              | (refine wpPlan_skip rfl (by rfl) ?_; (try simp only [Act.put, List.setIfInBounds_toArray, List.set_cons_zero, List.set_cons_succ])))
            refine wpPlan_must rfl (by rfl) (fun K hK => ?_)
            go_simp
            (with_reducible refine (Hpu.out _ y9).mono ?_)
            rintro e w10 ⟨rfl, R8, h8, hu8, hs8⟩
            have x9 := Hx.out.trans' y9
            have hnbv := Hnb.out
            have x8 : Ext wd w10 := x9.ext_new hu8 (fun b hb => by have hb : b = nb := hb; omega)
            have hs9 := x9.size
            have hR8 : ∀ b, R8 b → nb ≤ b := fun b hb => (hs8 b hb).elim (HR9.out b) (fun h => by omega)
            have H8 := Lib.hid h8
            clear h8
            have X8 := Lib.hid x8
            clear x8
            have HR8 := Lib.hid hR8
            clear hR8
            have Hs8 := Lib.hid hs8
            clear hs8
            have Hnbv := Lib.hid hnbv
            clear hnbv
            have Hu8 := Lib.hid hu8
            clear hu8
            have X9 := Lib.hid x9
            clear x9
            refine hK.out _ _ ?_ ?_
            · exact ⟨keepc X8.out id r0, keepc X8.out id e0, keepc X8.out id f0⟩
            clear hK K
            (try simp only [Act.put, List.setIfInBounds_toArray, List.set_cons_zero, List.set_cons_succ])
            refine wpPlan_done (hKK.out _ _ ?_)
            clear hKK KK
            go_wp2_with (fail)
            go_roundw
            case rel => exact ⟨i + 1 + 1, by omega, by omega, by go_num, ⟨R8, by rw [if_pos (by omega)]; exact H8.out, HR8.out⟩, X8.out⟩
            case measure => simp [intOf]; omega
          · have hmin : (if q ≤ M2.length then q else M2.length) = M2.length := by split <;> omega
            rw [hmin] at hrf9
            have hqn : ¬ (q : Int) < (M2.length : Int) := by omega
            have hal := adj_length M2 M2.length
            generalize adjK M2 M2.length = NL at *
            obtain ⟨nv, n0, hnrow⟩ := hrf9.row
            obtain ⟨na, nc, rfl, _⟩ := hnrow.shape
            clear hnrow hmin
            have hfi := fun W (x : Ext wz W) (kw : Value) (k : List Int) (G : Nat → Prop) (hk : RB W G kw k) (kb : KB k) => RefA.find_any W nb kw NL k (hrf9.ext x) hk kb (by omega)
            have Hrf9 := Lib.hid hrf9
            clear hrf9
            have HR9 := Lib.hid hR9
            clear hR9
            have Hx := Lib.hid hx
            clear hx
            have Hfi := Lib.hid hfi
            clear hfi
            go_wp2_with (fail)
            go_loopw [13, 14] (fun s13 s14 wy => ∃ n : Nat, n ≤ M2.length ∧ s14 = .int .i64 n ∧ s13 = .int .i64 ((NL.length + loneK M2 NL n : Nat) : Int) ∧ Ext wz wy) (fun _ s14 _ => M2.length - (intOf s14).toNat)
            case atStart => exact ⟨0, by omega, rfl, rfl, Touch.refl _ _⟩
            case round =>
              obtain ⟨n, hn, rfl, rfl, hy⟩ := hrel
              obtain ⟨wy, rfl⟩ : ∃ wy, wy = wr := ⟨_, rfl⟩
              have xy := Hx.out.trans' hy
              have r0y := keepc xy id r0
              have hll := lone_le M2 NL n
              by_cases hnl : n < M2.length
              · obtain ⟨b2, off2, rfl, _⟩ := Hrow.out.addr (by omega)
                have hgq := List.getElem?_eq_getElem hnl
                obtain ⟨xv, e0, _, hxv⟩ := (Hrow.out.ext xy).get n _ hgq
                have hxk := Hkb.out _ (List.mem_of_getElem? hgq)
                have hst := lone_succ (N := NL) hgq
                generalize M2[n] = x at *
                obtain ⟨xa, xc, rfl, y1, y2, y3⟩ := hxv.shape
                have hff := Hfi.out _ hy _ _ _ hxv hxk
                have k0 : (0 : Int) ≤ (n : Int) := by omega
                have k1 : (n : Int) < (M2.length : Int) := by omega
                generalize loneK M2 NL n = ln at *
                generalize rk NL x.1 = rkn at *
                cases hh : hasK NL x.1 with
                | true =>
                  rw [hh, if_pos rfl] at hst
                  rw [hh] at hff
                  clear hh
                  have Hgq := Lib.hid hgq
                  clear hgq
                  have Hxv := Lib.hid hxv
                  clear hxv
                  have Hxk := Lib.hid hxk
                  clear hxk
                  have Hst := Lib.hid hst
                  clear hst
                  have Hff := Lib.hid hff
                  clear hff
                  have Xy := Lib.hid xy
                  clear xy
                  have Hy := Lib.hid hy
                  clear hy
                  go_wp2_with (fail)
                  (with_reducible refine Hff.out.mono ?_)
                  rintro e w9 ⟨rfl, t9⟩
                  go_wp2_with (fail)
                  go_roundw
                  case rel => exact ⟨n + 1, by omega, by go_num, by rw [Hst.out]; rfl, Hy.out.trans' t9⟩
                  case measure => simp [intOf]; omega
                | false =>
                  rw [hh] at hst
                  rw [hh] at hff
                  clear hh
                  simp only [Bool.false_eq_true, if_false] at hst
                  have Hgq := Lib.hid hgq
                  clear hgq
                  have Hxv := Lib.hid hxv
                  clear hxv
                  have Hxk := Lib.hid hxk
                  clear hxk
                  have Hst := Lib.hid hst
                  clear hst
                  have Hff := Lib.hid hff
                  clear hff
                  have Xy := Lib.hid xy
                  clear xy
                  have Hy := Lib.hid hy
                  clear hy
                  go_wp2_with (fail)
                  (with_reducible refine Hff.out.mono ?_)
                  rintro e w9 ⟨rfl, t9⟩
                  go_wp2_with (fail)
                  go_roundw
                  case rel => exact ⟨n + 1, by omega, by go_num, by rw [Hst.out]; go_num, Hy.out.trans' t9⟩
                  case measure => simp [intOf]; omega
              · obtain rfl : n = M2.length := by omega
                have k1 : ¬ ((M2.length : Nat) : Int) < (M2.length : Int) := by omega
                rw [← Hszk.out]
                have hlz : ∀ cs, RadV.RK M2 cs → cs.length = szK M2 := fun _ h => h.length
                generalize szK M2 = z at *
                have z1 : ((z : Int) != (z : Int)) = false := by simp
                have Hlz := Lib.hid hlz
                clear hlz
                have Xy := Lib.hid xy
                clear xy
                have Hy := Lib.hid hy
                clear hy
                go_wp2_with (fail)
                (with_reducible refine (Hli.out _ Xy.out).mono ?_)
                rintro e w8 ⟨rfl, rfl⟩
                go_wp2_with (fail)
                (with_reducible refine (Hsh.out _ Xy.out).mono ?_)
                rintro e w9 ⟨⟨v1, cs, rfl, htk, hrc, _⟩, t9⟩
                have hcz := Hlz.out _ htk
                obtain ⟨sa, sc, rfl, s1, s2, _⟩ := hrc.shape
                rw [hcz] at s1 ⊢
                unfold maxLen at s2
                have Hcz := Lib.hid hcz
                clear hcz
                have Htk := Lib.hid htk
                clear htk
                have Hrc := Lib.hid hrc
                clear hrc
                go_wp2_with (fail)
                go_roundw
                case rel => exact ⟨j + 1, M2, by omega, by go_num, hl2, Hk2.out, Hs2.out.ext (Xy.out.trans' t9), T2.out.trans' (Xy.out.trans' t9)⟩
                case measure => simp [intOf]; omega
      | true =>
        have hx1 : Go.bits BinOp.and IntKind.i64 (bits / 2 ^ (j % 60)) 1 = 1 := by simpa using hdb
        clear hdb
        obtain ⟨hv, f0, _, hhv⟩ := (H0.out.ext t1).get _ _ Hgh.out
        obtain ⟨ha, hc, rfl, _⟩ := hhv.shape
        have hdr := sdrop hs1 _ q.1 hhv Hqq.out.1 Hqq.out.2
        unfold SDrop at hdr
        have Hdr := Lib.hid hdr
        clear hdr
        have Hhv := Lib.hid hhv
        clear hhv
        have Hs1 := Lib.hid hs1
        clear hs1
        have T1 := Lib.hid t1
        clear t1
        have Hk1 := Lib.hid hk1
        clear hk1
        go_wp2_with (fail)
        (with_reducible refine Hdr.out.mono ?_)
        rintro e w6 ⟨rfl, hs6, x6⟩
        have f0 := keepq x6 hbw f0
        have t6 := extq T1.out x6 (fun _ h => h)
        have hhv6 := rbq Hhv.out x6 (fun b hb => hb)
        have hrd := srdrop hs6 (by omega) _ q.1 hhv6 Hqq.out.1
        unfold SRDrop at hrd
        clear x6
        have Hrd := Lib.hid hrd
        clear hrd
        have T6 := Lib.hid t6
        clear t6
        have Hhv6 := Lib.hid hhv6
        clear hhv6
        have Hs6 := Lib.hid hs6
        clear hs6
        go_wp2_with (fail)
        (with_reducible refine Hrd.out.mono ?_)
        rintro e w7 ⟨rfl, hs2, x7⟩
        have t2 := extq T6.out x7 (fun _ h => h)
        have hl2 : (dropK M1 q.1).length ≤ j + 1 := by rw [dropK_length]; omega
        have hk2 : ∀ x ∈ dropK M1 q.1, x.1.length ≤ 20 := fun x hx => Hk1.out x (dropK_mem hx)
        clear x7 Hrd Hdr Hs1 T1 Hk1 hl1 T6 Hhv Hhv6 Hs6 f0
        generalize dropK M1 q.1 = M2 at *
        obtain ⟨wd, rfl⟩ : ∃ wd, wd = w7 := ⟨_, rfl⟩
        obtain ⟨ra, rc, r0, hrow⟩ := hs2.row
        obtain ⟨F9, htp⟩ := hs2.tree
        have hli := fun W (x : Ext wd W) => live_tp W t M2 1000 (htp.ext x)
        have hsh := fun W (x : Ext wd W) => RadV.shape_any W t F9 M2 1000 (htp.ext x)
        have hM30 : M2.length ≤ 30 := by omega
        have hkb := htp.kb
        have hszk := sz_adj htp.rises hkb
        clear htp
        have xn : Ext wd (wd.alloc (.cells #[.slice none 0 0] 55)) := (Touch.refl _ _).alloc _
        have hrn : ∃ R9 : Nat → Prop, Rf (wd.alloc (.cells #[.slice none 0 0] 55)) wd.heap.size R9 (adjK M2 1) ∧ (∀ b, R9 b → wd.heap.size ≤ b) := ⟨_, RefJ.rf_new wd, fun b hb => Nat.le_of_eq hb.symm⟩
        have Hs2 := Lib.hid hs2
        clear hs2
        have T2 := Lib.hid t2
        clear t2
        have Hk2 := Lib.hid hk2
        clear hk2
        have Hrow := Lib.hid hrow
        clear hrow
        have Hli := Lib.hid hli
        clear hli
        have Hsh := Lib.hid hsh
        clear hsh
        have Hkb := Lib.hid hkb
        clear hkb
        have Hszk := Lib.hid hszk
        clear hszk
        have Hrn := Lib.hid hrn
        clear hrn
        have Xn := Lib.hid xn
        clear xn
        go_wp2_with (fail)
        obtain ⟨nb, hnb⟩ : ∃ nb, nb = wd.heap.size := ⟨_, rfl⟩
        obtain ⟨we, hwe⟩ : ∃ we, we = wd.alloc (.cells #[.slice none 0 0] 55) := ⟨_, rfl⟩
        have hrn := Hrn.out
        have xn := Xn.out
        rw [← hwe] at xn hrn ⊢
        rw [← hnb] at hrn ⊢
        clear hwe Hrn Xn
        have Hrn := Lib.hid hrn
        clear hrn
        have Xn := Lib.hid xn
        clear xn
        have Hnb := Lib.hid hnb
        clear hnb
        go_loopw [12] (fun s12 wx => ∃ q : Nat, 1 ≤ q ∧ q ≤ M2.length + 1 ∧ s12 = .int .i64 q ∧ (∃ R9 : Nat → Prop, Rf wx nb R9 (adjK M2 (if q ≤ M2.length then q else M2.length)) ∧ ∀ b, R9 b → nb ≤ b) ∧ Ext wd wx) (fun s12 _ => M2.length + 1 - (intOf s12).toNat)
        case atStart =>
          refine ⟨1, by omega, by omega, rfl, ?_, Xn.out⟩
          rcases Nat.eq_zero_or_pos M2.length with h | h
          · rw [h]; exact Hrn.out
          · rw [if_pos (by omega)]; exact Hrn.out
        case round =>
          obtain ⟨q, hq1, hq, rfl, ⟨R9, hrf9, hR9⟩, hx⟩ := hrel
          clear Hrn Xn
          obtain ⟨wz, rfl⟩ : ∃ wz, wz = wr := ⟨_, rfl⟩
          have r0x := keepc hx id r0
          by_cases hql : q < M2.length
          · obtain ⟨i, rfl⟩ : ∃ i, q = i + 1 := ⟨q - 1, by omega⟩
            rw [if_pos (by omega)] at hrf9
            obtain ⟨b2, off2, rfl, _⟩ := Hrow.out.addr (by omega)
            have hgq := List.getElem?_eq_getElem hql
            have hgi := List.getElem?_eq_getElem (show i < M2.length by omega)
            obtain ⟨xv, e0, _, hxv0⟩ := Hrow.out.get (i + 1) _ hgq
            obtain ⟨yv, f0, _, hyv0⟩ := Hrow.out.get i _ hgi
            have hxv := hxv0.ext hx
            have hyv := hyv0.ext hx
            have hxl := Hk2.out _ (List.mem_of_getElem? hgq)
            have hyl := Hk2.out _ (List.mem_of_getElem? hgi)
            have hxk := Hkb.out _ (List.mem_of_getElem? hgq)
            have hst : adjK M2 (i + 1 + 1) = putK (adjK M2 (i + 1)) (sideK M2 (i + 1)) 1 := by rw [adjK, if_neg (by omega)]
            have hsd : sideK M2 (i + 1) = M2[i + 1].1.take (comK M2[i].1 M2[i + 1].1) := by unfold sideK; rw [keyAt_of hgq, show i + 1 - 1 = i by omega, keyAt_of hgi]
            rw [hsd] at hst
            have hal := adj_length M2 (i + 1)
            have hcl := (comK_le M2[i].1 M2[i + 1].1).2
            generalize M2[i + 1] = x at *
            generalize M2[i] = y at *
            obtain ⟨xa, xc, rfl, y1, y2, y3⟩ := hxv.shape
            obtain ⟨ya, yc, rfl, _⟩ := hyv.shape
            unfold maxLen at y2
            have hcm := RefC.common_any wz.drew _ _ y.1 x.1 (hyv.ext (Touch.refl _ _).drew) (hxv.ext (Touch.refl _ _).drew) (by omega) (by omega)
            have hxt := hxv.take (comK y.1 x.1) hcl
            have htl : (x.1.take (comK y.1 x.1)).length ≤ 20 := by simp; omega
            have hpu := fun W (t : Ext wz W) => RefJ.put_any W nb _ (adjK M2 (i + 1)) _ 1 (hrf9.ext t) (hxt.ext t) (fun z hz => hxk z (List.mem_of_mem_take hz)) (by omega) (by omega)
            unfold RefJ.RPut at hpu
            rw [← hst] at hpu
            have k0 : (0 : Int) ≤ (i : Int) := by omega
            have k1 : ((i : Int) + 1) < (M2.length : Int) := by omega
            have k2 : (i : Int) < (M2.length : Int) := by omega
            have k3 : (0 : Int) ≤ (i : Int) + 1 := by omega
            have k4 : (i : Int) + 1 - 1 = (i : Int) := by omega
            have k5 : IntKind.i64.wrap (i : Int) = (i : Int) := by rw [IntKind.wrap_i64]; omega
            have hcx : ((comK y.1 x.1 : Nat) : Int) ≤ (xc : Int) := by omega
            have hc0 : (0 : Int) ≤ ((comK y.1 x.1 : Nat) : Int) := by omega
            have hcn : comK y.1 x.1 ≤ xc := by omega
            have e0x := keepc hx id e0
            have f0x := keepc hx id f0
            clear hxv0 hyv0
            generalize x.1.take (comK y.1 x.1) = kt at *
            generalize comK y.1 x.1 = cm at *
            have Hgq := Lib.hid hgq
            clear hgq
            have Hgi := Lib.hid hgi
            clear hgi
            have Hxv := Lib.hid hxv
            clear hxv
            have Hyv := Lib.hid hyv
            clear hyv
            have Hst := Lib.hid hst
            clear hst
            have Hsd := Lib.hid hsd
            clear hsd
            have Hpu := Lib.hid hpu
            clear hpu
            have Hcm := Lib.hid hcm
            clear hcm
            have Hxt := Lib.hid hxt
            clear hxt
            have Hrf9 := Lib.hid hrf9
            clear hrf9
            have HR9 := Lib.hid hR9
            clear hR9
            have Hxl := Lib.hid hxl
            clear hxl
            have Hyl := Lib.hid hyl
            clear hyl
            have Hxk := Lib.hid hxk
            clear hxk
            have Hx := Lib.hid hx
            clear hx
            have Htl := Lib.hid htl
            clear htl
            have Hal := Lib.hid hal
            clear hal
            have Hcl := Lib.hid hcl
            clear hcl
            go_wp2_with (fail)
            refine wp_region_plan (.take 0 (.take 1 (.take 2 (.take 3 (.take 4 (.take 5 (.take 6 (.take 7 (.take 8 (.take 9 (.take 10 (.take 11 (.take 12 (.take 13 (.take 14 (.take 15 (.take 16 (.take 17 (.take 18 (.take 19 (.take 20 (.take 21 (.take 22 (.take 23 (.take 24 (.take 25 (.must 26 (.take 27 (.must 28 .done))))))))))))))))))))))))))))) (fun W => W.cell? ⟨r, 0, none⟩ = some (.slice (some ⟨b2, off2, none⟩) M2.length rc) ∧ W.cell? ⟨b2, off2 + (i + 1) * 2, none⟩ = some (.slice xa x.1.length xc) ∧ W.cell? ⟨b2, off2 + i * 2, none⟩ = some (.slice ya y.1.length yc)) (by kernel_rfl) (by kernel_rfl) (by kernel_rfl) rfl ?_ (fun KK hKK => ?_)
            · exact ⟨r0x, e0x, f0x⟩
            repeat (first
              | (refine wpPlan_take (v := ?_) rfl (by rfl) (fun W hW => ?_) ?_; rotate_left; (focus ((try dsimp only at hW); go_split_ands; go_simp; (try with_reducible rfl); done)); (try simp only [Act.put, List.setIfInBounds_toArray, List.set_cons_zero, List.set_cons_succ]))
              | (refine wpPlan_skip rfl (by rfl) ?_; (try simp only [Act.put, List.setIfInBounds_toArray, List.set_cons_zero, List.set_cons_succ])))
            refine wpPlan_must rfl (by rfl) (fun K hK => ?_)
            go_simp
            (with_reducible refine Hcm.out.mono ?_)
            rintro e w9 ⟨rfl, t9⟩
            have y9 : Ext wz w9 := (Touch.refl _ _).drew.trans' t9
            refine hK.out _ _ ?_ ?_
            · exact ⟨keepc y9 id r0x, keepc y9 id e0x, keepc y9 id f0x⟩
            clear hK K
            (try simp only [Act.put, List.setIfInBounds_toArray, List.set_cons_zero, List.set_cons_succ])
            repeat (first
              | (refine wpPlan_take (v := ?_) rfl (by rfl) (fun W hW => ?_) ?_; rotate_left; (focus ((try dsimp only at hW); go_split_ands; go_simp; (try with_reducible rfl); done)); (try simp only [Act.put, List.setIfInBounds_toArray, List.set_cons_zero, List.set_cons_succ]))
              | (refine wpPlan_skip rfl (by rfl) ?_; (try simp only [Act.put, List.setIfInBounds_toArray, List.set_cons_zero, List.set_cons_succ])))
            refine wpPlan_must rfl (by rfl) (fun K hK => ?_)
            go_simp
            (with_reducible refine (Hpu.out _ y9).mono ?_)
            rintro e w10 ⟨rfl, R8, h8, hu8, hs8⟩
            have x9 := Hx.out.trans' y9
            have hnbv := Hnb.out
            have x8 : Ext wd w10 := x9.ext_new hu8 (fun b hb => by have hb : b = nb := hb; omega)
            have hs9 := x9.size
            have hR8 : ∀ b, R8 b → nb ≤ b := fun b hb => (hs8 b hb).elim (HR9.out b) (fun h => by omega)
            have H8 := Lib.hid h8
            clear h8
            have X8 := Lib.hid x8
            clear x8
            have HR8 := Lib.hid hR8
            clear hR8
            have Hs8 := Lib.hid hs8
            clear hs8
            have Hnbv := Lib.hid hnbv
            clear hnbv
            have Hu8 := Lib.hid hu8
            clear hu8
            have X9 := Lib.hid x9
            clear x9
            refine hK.out _ _ ?_ ?_
            · exact ⟨keepc X8.out id r0, keepc X8.out id e0, keepc X8.out id f0⟩
            clear hK K
            (try simp only [Act.put, List.setIfInBounds_toArray, List.set_cons_zero, List.set_cons_succ])
            refine wpPlan_done (hKK.out _ _ ?_)
            clear hKK KK
            go_wp2_with (fail)
            go_roundw
            case rel => exact ⟨i + 1 + 1, by omega, by omega, by go_num, ⟨R8, by rw [if_pos (by omega)]; exact H8.out, HR8.out⟩, X8.out⟩
            case measure => simp [intOf]; omega
          · have hmin : (if q ≤ M2.length then q else M2.length) = M2.length := by split <;> omega
            rw [hmin] at hrf9
            have hqn : ¬ (q : Int) < (M2.length : Int) := by omega
            have hal := adj_length M2 M2.length
            generalize adjK M2 M2.length = NL at *
            obtain ⟨nv, n0, hnrow⟩ := hrf9.row
            obtain ⟨na, nc, rfl, _⟩ := hnrow.shape
            clear hnrow hmin
            have hfi := fun W (x : Ext wz W) (kw : Value) (k : List Int) (G : Nat → Prop) (hk : RB W G kw k) (kb : KB k) => RefA.find_any W nb kw NL k (hrf9.ext x) hk kb (by omega)
            have Hrf9 := Lib.hid hrf9
            clear hrf9
            have HR9 := Lib.hid hR9
            clear hR9
            have Hx := Lib.hid hx
            clear hx
            have Hfi := Lib.hid hfi
            clear hfi
            go_wp2_with (fail)
            go_loopw [13, 14] (fun s13 s14 wy => ∃ n : Nat, n ≤ M2.length ∧ s14 = .int .i64 n ∧ s13 = .int .i64 ((NL.length + loneK M2 NL n : Nat) : Int) ∧ Ext wz wy) (fun _ s14 _ => M2.length - (intOf s14).toNat)
            case atStart => exact ⟨0, by omega, rfl, rfl, Touch.refl _ _⟩
            case round =>
              obtain ⟨n, hn, rfl, rfl, hy⟩ := hrel
              obtain ⟨wy, rfl⟩ : ∃ wy, wy = wr := ⟨_, rfl⟩
              have xy := Hx.out.trans' hy
              have r0y := keepc xy id r0
              have hll := lone_le M2 NL n
              by_cases hnl : n < M2.length
              · obtain ⟨b2, off2, rfl, _⟩ := Hrow.out.addr (by omega)
                have hgq := List.getElem?_eq_getElem hnl
                obtain ⟨xv, e0, _, hxv⟩ := (Hrow.out.ext xy).get n _ hgq
                have hxk := Hkb.out _ (List.mem_of_getElem? hgq)
                have hst := lone_succ (N := NL) hgq
                generalize M2[n] = x at *
                obtain ⟨xa, xc, rfl, y1, y2, y3⟩ := hxv.shape
                have hff := Hfi.out _ hy _ _ _ hxv hxk
                have k0 : (0 : Int) ≤ (n : Int) := by omega
                have k1 : (n : Int) < (M2.length : Int) := by omega
                generalize loneK M2 NL n = ln at *
                generalize rk NL x.1 = rkn at *
                cases hh : hasK NL x.1 with
                | true =>
                  rw [hh, if_pos rfl] at hst
                  rw [hh] at hff
                  clear hh
                  have Hgq := Lib.hid hgq
                  clear hgq
                  have Hxv := Lib.hid hxv
                  clear hxv
                  have Hxk := Lib.hid hxk
                  clear hxk
                  have Hst := Lib.hid hst
                  clear hst
                  have Hff := Lib.hid hff
                  clear hff
                  have Xy := Lib.hid xy
                  clear xy
                  have Hy := Lib.hid hy
                  clear hy
                  go_wp2_with (fail)
                  (with_reducible refine Hff.out.mono ?_)
                  rintro e w9 ⟨rfl, t9⟩
                  go_wp2_with (fail)
                  go_roundw
                  case rel => exact ⟨n + 1, by omega, by go_num, by rw [Hst.out]; rfl, Hy.out.trans' t9⟩
                  case measure => simp [intOf]; omega
                | false =>
                  rw [hh] at hst
                  rw [hh] at hff
                  clear hh
                  simp only [Bool.false_eq_true, if_false] at hst
                  have Hgq := Lib.hid hgq
                  clear hgq
                  have Hxv := Lib.hid hxv
                  clear hxv
                  have Hxk := Lib.hid hxk
                  clear hxk
                  have Hst := Lib.hid hst
                  clear hst
                  have Hff := Lib.hid hff
                  clear hff
                  have Xy := Lib.hid xy
                  clear xy
                  have Hy := Lib.hid hy
                  clear hy
                  go_wp2_with (fail)
                  (with_reducible refine Hff.out.mono ?_)
                  rintro e w9 ⟨rfl, t9⟩
                  go_wp2_with (fail)
                  go_roundw
                  case rel => exact ⟨n + 1, by omega, by go_num, by rw [Hst.out]; go_num, Hy.out.trans' t9⟩
                  case measure => simp [intOf]; omega
              · obtain rfl : n = M2.length := by omega
                have k1 : ¬ ((M2.length : Nat) : Int) < (M2.length : Int) := by omega
                rw [← Hszk.out]
                have hlz : ∀ cs, RadV.RK M2 cs → cs.length = szK M2 := fun _ h => h.length
                generalize szK M2 = z at *
                have z1 : ((z : Int) != (z : Int)) = false := by simp
                have Hlz := Lib.hid hlz
                clear hlz
                have Xy := Lib.hid xy
                clear xy
                have Hy := Lib.hid hy
                clear hy
                go_wp2_with (fail)
                (with_reducible refine (Hli.out _ Xy.out).mono ?_)
                rintro e w8 ⟨rfl, rfl⟩
                go_wp2_with (fail)
                (with_reducible refine (Hsh.out _ Xy.out).mono ?_)
                rintro e w9 ⟨⟨v1, cs, rfl, htk, hrc, _⟩, t9⟩
                have hcz := Hlz.out _ htk
                obtain ⟨sa, sc, rfl, s1, s2, _⟩ := hrc.shape
                rw [hcz] at s1 ⊢
                unfold maxLen at s2
                have Hcz := Lib.hid hcz
                clear hcz
                have Htk := Lib.hid htk
                clear htk
                have Hrc := Lib.hid hrc
                clear hrc
                go_wp2_with (fail)
                go_roundw
                case rel => exact ⟨j + 1, M2, by omega, by go_num, hl2, Hk2.out, Hs2.out.ext (Xy.out.trans' t9), T2.out.trans' (Xy.out.trans' t9)⟩
                case measure => simp [intOf]; omega
    · obtain rfl : j = ps.length := by omega
      have i1 : ¬ ((ps.length : Nat) : Int) < (ps.length : Int) := by omega
      have Ht := Lib.hid ht
      clear ht
      have Hs := Lib.hid hs
      clear hs
      have HMk := Lib.hid hMk
      clear hMk
      go_wp2_with (fail)
      refine (TreeW.awake_any _ (Htr.out.ext Ht.out)).mono ?_
      rintro e w7 ⟨rfl, t7⟩
      go_wp2_with (fail)
      go_ret
      exact ⟨rfl, Ht.out.trans' t7⟩

set_option maxRecDepth 100000 in
set_option maxHeartbeats 400000 in
theorem walk_great (v0 : Value) (bits : Int) (ps : Prs) (F : Nat → Prop) (w : World) (htr : KidA.Tr w) (h0 : RP w F v0 ps) (hg : SameP.great ps 30 20 = true) :
    Calls Tryd.prog 8 #[v0, .int .i64 bits] w fun e w' => e = .returned (.bool true) ∧ Ext w w' := by
  obtain ⟨a0, c0, rfl, l1, l2, _⟩ := h0.shape
  unfold maxLen at l2
  have hgr := SameP.great_any w F _ ps 30 20 h0 (by decide) (by decide) (by decide) (by decide)
  rw [hg] at hgr
  have Hgr := Lib.hid hgr
  clear hgr
  have Hg := Lib.hid hg
  clear hg
  go_enter Tryd.func8, Tryd.ntmps8
  go_wp2_with (fail)
  refine Hgr.out.mono ?_
  rintro e w' ⟨rfl, rfl⟩
  go_wp2_with (fail)
  refine (TreeW.awake_any _ htr).mono ?_
  rintro e w' ⟨rfl, ht⟩
  go_wp2_with (fail)
  go_ret
  exact ⟨rfl, ht⟩

set_option maxRecDepth 100000 in
theorem lifted (os : Os) (started : os.Started) (H : Type) (enc : TypeId × Value → H) :
    ReturnsInHanded {} Tryd.checked os 8 .any (fun w args => (Rows.radixCellsSpec.pre enc Tryd.prog Tryd.f8 [] false w args ∧ laidMetH Tryd.prog KidL.laidK w) ∧ sizedMet enc Tryd.prog Tryd.f8 (OpenSpec.ofChange Rows.radixCellsSpec) false w args) (Rows.radixCellsSpec.post enc Tryd.prog Tryd.f8 false true false false) := by
  refine returnsInHanded_of_change_and (C := Tryd.checked) (X := fun w _ => laidMetH Tryd.prog KidL.laidK w) (fun _ _ _ hh h => h.of_heap hh) Tryd.own started (by kernel_rfl) Tryd.func8
    (ChangeSpec.witness_shaped (enc := enc) (C := Tryd.checked) (os := os) (X := fun w _ => laidMetH Tryd.prog KidL.laidK w) false (World.doorLaid Tryd.prog 400 os) #[.slice none 0 0, .int .i64 0] 8 rfl (World.shaped_of_RefB (by kernel_rfl) (by kernel_rfl)) (by kernel_rfl) (by kernel_rfl) (by kernel_rfl) (KidL.door_met os _)) ?_
  intro W base args ds gs before hval0 hW _ _ hL _
  have hval : ∀ (j : Nat) t v, Tryd.f8.params[j]? = some t → args[j]? = some v → Value.okWide Tryd.prog W .any base t v := hval0
  have hW' := hW
  obtain ⟨p, q, hA0, hV, rfl, hfz, hnd⟩ := hW
  have hA : DataW.TrodAll enc Tryd.prog W 0 (fun _ => true) true Tryd.f8.params.toList args.toList ds p := hA0
  rw [Tryd.params8] at hA hval
  obtain ⟨v0, v1, d0, d1, p0, p1, rfl, rfl, rfl, h0, h1⟩ := trodAll_two hA
  obtain ⟨rfl, rfl⟩ := trodVars_none hV
  have htr := (KidL.of_laid hL).tr
  have htl := (KidL.of_laid hL).tl
  refine Calls.mono (R := fun e w' => e = .returned (.bool true) ∧ Touch (fun _ => False) W w') ?_ fun e W' ⟨he, hw⟩ => (by subst he; exact ⟨_, rfl, law_post Tryd.laidOut (by kernel_rfl) rfl Tryd.underlying4 rfl rfl ⟨rfl, rfl, rfl⟩ hW' (hw.below fun _ h _ => h)⟩)
  obtain ⟨ps, hps, hpp⟩ := rp_of_arg (hval 0 22 v0 rfl rfl) h0
  obtain ⟨n1, rfl, rfl, rfl, hV1⟩ := open_int Tryd.underlying3 (hval 1 3 v1 rfl rfl) h1
  by_cases hg : SameP.great ps 30 20 = true
  · exact walk_great v0 n1 ps _ W htr hps hg
  · have hg : SameP.great ps 30 20 = false := by simpa using hg
    have hgn := great_not (most := 30) (long := 20) hg
    exact walk_small v0 n1 ps W htr htl hps (fun p hp => ⟨(hpp p hp).1, by have := hgn.2 p hp; omega⟩) hg hgn.1 hgn.2 (v64_wf hV1)
theorem radixCells_row : Rows.RadixCellsSaid :=
  OpenClaim.holds_of_wide 8 Tryd.f8 rfl rfl rfl rfl rfl rfl rfl ⟨rfl, rfl, rfl, rfl, rfl⟩ rfl rfl rfl rfl rfl (by kernel_rfl) Tryd.func8 (by kernel_rfl)
    (of_decide_eq_true (by kernel_rfl)) (by unfold Func.isWrapper; first | (rw [if_pos (by decide +kernel)]; kernel_rfl) | (rw [if_neg (by decide +kernel)]; exact ⟨rfl, rfl⟩))
    (fun os started H enc _ => lifted os started H enc)
theorem radixCells_holds : Rows.RadixCellsCardSaid :=
  Claim7.holds_tied_plain_at .later [] [.data, .data] true (true, "ecce178eaad04459afb8ccc92e4d2a22b1e163e47b87319aec7ce6fc9ad3f62b") false
    radixCells_row (fun _ h => by cases h) (by kernel_rfl) (fun _ h => by cases h) radixCells_row_tie rfl ⟨rfl, rfl⟩ (by kernel_rfl) rfl
    (fun f fn hf hfn => by
      obtain rfl : f = 8 := Option.some.inj ((show Tryd.prog.funcNamed "bramble/bramblelaw14.RadixCells" = some 8 by kernel_rfl).symm.trans hf) |>.symm
      obtain rfl : fn = Tryd.f8 := (Option.some.inj (Tryd.func8.symm.trans hfn)).symm
      exact ⟨by kernel_rfl, fun j t ht => by
        rw [Tryd.params8] at ht
        have hm : t ∈ [22, 3] := by simpa using Array.mem_of_getElem? ht
        have hall : ([22, 3].all fun u => !Tryd.prog.wantsStandIn u) = true := by kernel_rfl
        exact (show Tryd.prog.wantsStandIn t = false by simpa using List.all_eq_true.1 hall t hm)⟩)
    (by kernel_rfl)
end LawRadixCells
end Go.Proofs.YtclnnkacfanaiaaDoor
