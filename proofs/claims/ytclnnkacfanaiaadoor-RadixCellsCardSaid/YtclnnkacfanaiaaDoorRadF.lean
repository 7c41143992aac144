/- A radix tree's nodes: how many cells a key takes that is not there. -/
import Derived.Test.YtclnnkacfanaiaaDoorRadB
namespace Go.Proofs.YtclnnkacfanaiaaDoor
open Go.RowKit
set_option linter.unusedVariables false
set_option linter.unusedSimpArgs false
namespace RadF
open MaskA MaskP KidA KidB RadK RadM RadA RadB

/-- on the way down: what stands there -/
def MR (w : World) (K : Nat → Prop) (k : List Int) (m : Nat) (n : Nat) (s : Value) : Prop :=
  ∃ F q T, T.is = true ∧ Rn w K F s T ∧ RT.Ok q T ∧ (∀ x, (k, x) ∉ T.prs) ∧ RT.manyT T k = m ∧ (∀ p ∈ T.prs, p.1.length ≤ 65535) ∧ T.cells ≤ n
theorem beg_pre {k p : List Int} : begK k p = true ↔ p <+: k := by
  rw [begK_iff, List.prefix_iff_eq_take]
  exact eq_comm
theorem headL {w : World} {K F : Nat → Prop} {v : Value} {T : RT} {k : List Int} {y : Int} (h : Rn w K F v T) (e : T = .leaf k y) : ∃ g kv mp, v = pt g ∧ F g ∧ Nd w g kv true y (.pointer none) mp ∧ RB w K kv T.key := by
  subst e
  obtain ⟨g, kv, h1, h2, h3, h4⟩ := h
  exact ⟨g, kv, _, h1, h2, h3, h4⟩
set_option maxRecDepth 100000 in
set_option maxHeartbeats 3200000 in
theorem more_any (w : World) (K F H : Nat → Prop) (t : Nat) (v kw : Value) (T : RT) (q k : List Int) (c2 : w.cell? ⟨t, 2, none⟩ = some v) (hrn : Rn w K F v T) (hok : RT.Ok q T) (hkw : RB w H kw k) (kb : KB k) (hkl : k.length ≤ 65535) (hno : ∀ x, (k, x) ∉ T.prs) (htl : ∀ p ∈ T.prs, p.1.length ≤ 65535) :
    Calls Tryd.prog 47 #[pt t, kw] w fun e w' => e = .returned (.int .i64 ((RT.manyT T k : Nat) : Int)) ∧ Ext w w' := by
  obtain ⟨ka, kc, rfl, l1, m1, z1⟩ := hkw.shape
  unfold maxLen at m1
  cases hT : T.is with
  | false =>
    obtain rfl := RT.is_false hT
    obtain rfl : v = .pointer none := hrn
    have Hok := Lib.hid hok
    clear hok
    have Hkw := Lib.hid hkw
    clear hkw
    have Kb := Lib.hid kb
    clear kb
    have Hno := Lib.hid hno
    clear hno
    have Htl := Lib.hid htl
    clear htl
    have HT := Lib.hid hT
    clear hT
    go_enter Tryd.func47, Tryd.ntmps47
    go_wp2_with (fail)
    go_ret
    exact ⟨rfl, Touch.refl _ _⟩
  | true =>
    obtain ⟨g0, rfl, _⟩ := hrn.ptr hT
    obtain ⟨mm, hmm⟩ : ∃ mm, mm = RT.manyT T k := ⟨_, rfl⟩
    have h0 : MR w K k mm T.cells (pt g0) := ⟨F, q, T, hT, hrn, hok, hno, hmm.symm, htl, Nat.le_refl _⟩
    rw [← hmm]
    clear hmm hrn hok hno htl hT
    have H0 := Lib.hid h0
    clear h0
    have Hkw := Lib.hid hkw
    clear hkw
    have Kb := Lib.hid kb
    clear kb
    go_enter Tryd.func47, Tryd.ntmps47
    go_wp2_with (fail)
    go_loopg [5] T.cells (fun n s5 wr => MR w K k mm n s5 ∧ Ext w wr)
    case atStart => exact ⟨H0.out, Touch.refl _ _⟩
    case round =>
      obtain ⟨⟨F', q', T, hT, hrn, hok, hno, hm, htl, hcl⟩, ht⟩ := hrel
      clear c2 H0
      obtain ⟨gN, rfl⟩ : ∃ gN, gN = gk := ⟨_, rfl⟩
      have hk0l : T.key.length ≤ 65535 := hok.key_le htl
      have hkT := (hok.kpre hT).2
      cases hTT : T with
      | nil => rw [hTT] at hT; simp [RT.is] at hT
      | leaf k0 y =>
        obtain ⟨g, kv, mp, rfl, _, hnd, hkey⟩ := RadF.headL hrn hTT
        obtain ⟨na, nc, rfl, l2, m2, z2⟩ := hkey.shape
        unfold maxLen at m2
        have hmj : RT.manyT T k = RT.moreJ (comK T.key k) T k := by
          rw [hTT]
          have hne : k0 ≠ k := fun e => hno y (by rw [hTT, ← e]; simp [RT.prs])
          rw [RT.manyT, if_neg hne]; rfl
        have hcm := fun W (t : Ext w W) => KeyC.common_any W _ _ T.key k (hkey.ext t) (Hkw.out.ext t) (by omega) (by omega)
        have c0 := keepc ht id hnd.c0
        have c3 := keepc ht id hnd.c3
        have HT := Lib.hid hT
        clear hT
        have Hrn := Lib.hid hrn
        clear hrn
        have Hok := Lib.hid hok
        clear hok
        have Hno := Lib.hid hno
        clear hno
        have Hm := Lib.hid hm
        clear hm
        have Htl := Lib.hid htl
        clear htl
        have Hcl := Lib.hid hcl
        clear hcl
        have HTT := Lib.hid hTT
        clear hTT
        have Hnd := Lib.hid hnd
        clear hnd
        have Hkey := Lib.hid hkey
        clear hkey
        have Hmj := Lib.hid hmj
        clear hmj
        have Hcm := Lib.hid hcm
        clear hcm
        have HkT := Lib.hid hkT
        clear hkT
        have Ht := Lib.hid ht
        clear ht
        go_wp2_with (fail)
        (with_reducible refine (Hcm.out _ Ht.out).mono ?_)
        rintro e w2 ⟨rfl, t2⟩
        have c0 := keepc t2 id c0
        have T2 := Lib.hid t2
        clear t2
        by_cases d1 : comK T.key k = k.length
        · have j1 : ((comK T.key k : Int) == (k.length : Int)) = true := by simp; omega
          have D1 := Lib.hid d1
          clear d1
          go_wp2_with (fail)
          go_ret
          have hm : RT.manyT T k = 1 := by rw [Hmj.out]; unfold RT.moreJ; rw [if_pos (Or.inl D1.out.symm)]
          rw [← Hm.out, hm]
          exact ⟨rfl, Ht.out.trans' T2.out⟩
        · have j1 : ((comK T.key k : Int) == (k.length : Int)) = false := by simp; omega
          by_cases d2 : comK T.key k = T.key.length
          · have j2 : ((comK T.key k : Int) == (T.key.length : Int)) = true := by simp; omega
            have D1 := Lib.hid d1
            clear d1
            have D2 := Lib.hid d2
            clear d2
            go_wp2_with (fail)
            go_ret
            have hm : RT.manyT T k = 1 := by rw [Hmj.out]; unfold RT.moreJ; rw [if_pos (Or.inr D2.out.symm)]
            rw [← Hm.out, hm]
            exact ⟨rfl, Ht.out.trans' T2.out⟩
          · have j2 : ((comK T.key k : Int) == (T.key.length : Int)) = false := by simp; omega
            have D1 := Lib.hid d1
            clear d1
            have D2 := Lib.hid d2
            clear d2
            go_wp2_with (fail)
            go_ret
            have hm : RT.manyT T k = 2 := by rw [Hmj.out]; unfold RT.moreJ; rw [if_neg (fun h => h.elim (fun h => D1.out h.symm) (fun h => D2.out h.symm))]
            rw [← Hm.out, hm]
            exact ⟨rfl, Ht.out.trans' T2.out⟩
      | node k0 o kd f =>
        have hTk : T.key = k0 := by rw [hTT]; rfl
        have hrn' := hrn
        rw [hTT] at hrn'
        obtain ⟨g, gk, gm, kv, m, G, rfl, h2, h3, h4, h5, h6, h7, h8, h9, h10, h11, h12, h13, h14⟩ := hrn'
        rw [← hTk] at h9
        obtain ⟨na, nc, rfl, l2, m2, z2⟩ := h9.shape
        unfold maxLen at m2
        have c0 := keepc ht id h8.c0
        have c3 := keepc ht id h8.c3
        have c4 := keepc ht id h8.c4
        have hbg := fun W (t : Ext w W) => begins_any W _ _ _ _ k T.key (Hkw.out.ext t) (h9.ext t) Kb.out hkT
        by_cases hp : T.key <+: k
        · rw [beg_pre.2 hp] at hbg
          have hple := hp.length_le
          have hnc : ¬ comK k0 k < k0.length := by rw [comK_of_pre (by rw [← hTk]; exact hp)]; omega
          by_cases hl : k.length = T.key.length
          · have i1 : ((k.length : Int) == (T.key.length : Int)) = true := by simp; omega
            have hm0 : RT.manyT T k = 0 := by rw [hTT, RT.manyT, if_neg hnc, if_pos (by rw [hl, hTk])]
            clear h10 h11 h12 h13 h14
            have HT := Lib.hid hT
            clear hT
            have Hrn := Lib.hid hrn
            clear hrn
            have Hok := Lib.hid hok
            clear hok
            have Hno := Lib.hid hno
            clear hno
            have Hm := Lib.hid hm
            clear hm
            have Htl := Lib.hid htl
            clear htl
            have Hcl := Lib.hid hcl
            clear hcl
            have HTT := Lib.hid hTT
            clear hTT
            have HTk := Lib.hid hTk
            clear hTk
            have H8 := Lib.hid h8
            clear h8
            have H9 := Lib.hid h9
            clear h9
            have HkT := Lib.hid hkT
            clear hkT
            have Ht := Lib.hid ht
            clear ht
            have Hbg := Lib.hid hbg
            clear hbg
            have Hp := Lib.hid hp
            clear hp
            have Hl := Lib.hid hl
            clear hl
            have Hm0 := Lib.hid hm0
            clear hm0
            have Hnc := Lib.hid hnc
            clear hnc
            go_wp2_with (fail)
            (with_reducible refine (Hbg.out _ Ht.out).mono ?_)
            rintro e w2 ⟨rfl, rfl⟩
            go_wp2_with (fail)
            go_ret
            rw [← Hm.out, Hm0.out]
            exact ⟨rfl, Ht.out⟩
          · have i1 : ((k.length : Int) == (T.key.length : Int)) = false := by simp; omega
            have hlt : T.key.length < k.length := by omega
            have i3 : (0 : Int) ≤ (T.key.length : Int) := by omega
            have i4 : (T.key.length : Int) < (k.length : Int) := by omega
            obtain ⟨kb', ko, rfl, hkb'⟩ := Hkw.out.addr (by omega)
            have hbt := byteAt_lt Kb.out T.key.length
            have cb := keepc ht id (Hkw.out.cell T.key.length hlt)
            have hbyte := byteAt_int Kb.out hlt
            rw [List.getElem?_eq_getElem hlt] at hbyte
            rw [Option.some.inj hbyte] at cb
            clear hbyte
            have hlook := fun W (t : Ext w W) => (h11.ext t).look (i := byteAt k T.key.length) hbt
            have hpb := pre_byte Kb.out hp hlt
            have hne : k.length ≠ k0.length := by rw [← hTk]; exact hl
            cases hf : (f (byteAt k T.key.length)).is with
            | false =>
              have hmo : mO f m (byteAt k T.key.length) = none := by unfold mO; rw [hf]; rfl
              rw [hmo] at hlook
              simp only [Option.getD_none, Option.isSome_none] at hlook
              have hm1 : RT.manyT T k = 1 := by rw [hTT, RT.manyT, if_neg hnc, if_neg hne, if_pos (by rw [← hTk]; exact hf)]
              generalize byteAt k T.key.length = bt at *
              have b0 : (0 : Int) ≤ (bt : Int) := by omega
              have b1 : (bt : Int) < 256 := by omega
              have look := hlook wr ht
              have look1 := hlook wr.drew ht.drew
              clear h10 h11 h12 h13 h14 hlook hmo
              have HT := Lib.hid hT
              clear hT
              have Hrn := Lib.hid hrn
              clear hrn
              have Hok := Lib.hid hok
              clear hok
              have Hno := Lib.hid hno
              clear hno
              have Hm := Lib.hid hm
              clear hm
              have Htl := Lib.hid htl
              clear htl
              have Hcl := Lib.hid hcl
              clear hcl
              have HTT := Lib.hid hTT
              clear hTT
              have HTk := Lib.hid hTk
              clear hTk
              have H8 := Lib.hid h8
              clear h8
              have H9 := Lib.hid h9
              clear h9
              have HkT := Lib.hid hkT
              clear hkT
              have Ht := Lib.hid ht
              clear ht
              have Hbg := Lib.hid hbg
              clear hbg
              have Hp := Lib.hid hp
              clear hp
              have Hl := Lib.hid hl
              clear hl
              have Hnc := Lib.hid hnc
              clear hnc
              have Hf := Lib.hid hf
              clear hf
              have Hm1 := Lib.hid hm1
              clear hm1
              have Hbt := Lib.hid hbt
              clear hbt
              have Hkb' := Lib.hid hkb'
              clear hkb'
              have Hpb := Lib.hid hpb
              clear hpb
              have Hne := Lib.hid hne
              clear hne
              have Hlt := Lib.hid hlt
              clear hlt
              go_wp2_with (fail)
              (with_reducible refine (Hbg.out _ Ht.out).mono ?_)
              rintro e w2 ⟨rfl, rfl⟩
              go_wp2_with (fail)
              refine wp_region_plan (.take 0 (.take 1 (.take 2 (.take 3 (.take 4 (.take 5 (.take 6 (.take 7 (.take 8 (.take 9 (.take 10 (.take 11 (.must 12 (.take 13 (.take 14 (.take 15 (.take 16 (.take 17 .done)))))))))))))))))) (fun W => W.cell? ⟨g, 4, none⟩ = some (.map (some gm)) ∧ W.cell? ⟨g, 0, none⟩ = some (.slice na T.key.length nc) ∧ W.cell? ⟨kb', ko + T.key.length, none⟩ = some (.int .u8 bt)) (by kernel_rfl) (by kernel_rfl) (by kernel_rfl) rfl ?_ (fun KK hKK => ?_)
              · exact ⟨c4, c0, cb⟩
              repeat (first
                | (refine wpPlan_take (v := ?_) rfl (by rfl) (fun W hW => ?_) ?_; rotate_left; (focus ((try dsimp only at hW); go_split_ands; go_simp; (try with_reducible rfl); done)); (try simp only [Act.put, List.setIfInBounds_toArray, List.set_cons_zero, List.set_cons_succ]))
                | (refine wpPlan_skip rfl (by rfl) ?_; (try simp only [Act.put, List.setIfInBounds_toArray, List.set_cons_zero, List.set_cons_succ])))
              refine wpPlan_must rfl (by rfl) (fun K hK => ?_)
              go_simp
              refine hK.out _ _ ?_ ?_
              · exact ⟨c4, c0, cb⟩
              clear hK K
              (try simp only [Act.put, List.setIfInBounds_toArray, List.set_cons_zero, List.set_cons_succ])
              repeat (first
                | (refine wpPlan_take (v := ?_) rfl (by rfl) (fun W hW => ?_) ?_; rotate_left; (focus ((try dsimp only at hW); go_split_ands; go_simp; (try with_reducible rfl); done)); (try simp only [Act.put, List.setIfInBounds_toArray, List.set_cons_zero, List.set_cons_succ]))
                | (refine wpPlan_skip rfl (by rfl) ?_; (try simp only [Act.put, List.setIfInBounds_toArray, List.set_cons_zero, List.set_cons_succ])))
              refine wpPlan_done (hKK.out _ _ ?_)
              clear hKK KK
              go_wp2_with (fail)
              go_ret
              rw [← Hm.out, Hm1.out]
              exact ⟨rfl, Ht.out.drew⟩
            | true =>
              have hmo : mO f m (byteAt k T.key.length) = some (m (byteAt k T.key.length)) := by unfold mO; rw [hf]; rfl
              rw [hmo] at hlook
              obtain ⟨gc, hgc, hGc, _⟩ := (h12 _ hbt).ptr hf
              rw [hgc] at hlook
              simp only [Option.getD_some, Option.isSome_some] at hlook
              have hnx : MR w K k mm (f (byteAt k T.key.length)).cells (pt gc) := by
                refine ⟨G (byteAt k T.key.length), k0 ++ [((byteAt k T.key.length : Nat) : Int)], f (byteAt k T.key.length), hf, by rw [← hgc]; exact h12 _ hbt, by rw [hTT] at hok; exact hok.2.2.2.1 _ hbt, fun x hx => hno x (by rw [hTT]; exact RT.mem_node.2 (Or.inr ⟨_, hbt, hx⟩)), ?_, fun p hp => htl p (by rw [hTT]; exact RT.mem_node.2 (Or.inr ⟨_, hbt, hp⟩)), Nat.le_refl _⟩
                rw [← hm, hTT, RT.many_rec hnc hne (by rw [← hTk]; exact hf)]
                rfl
              have hcc : (f (byteAt k T.key.length)).cells < gN := by
                have h1 := RT.cells_upd f hbt .nil
                rw [hTT, RT.cells_node] at hcl
                have h2 : RT.nil.cells = 0 := rfl
                omega
              generalize byteAt k T.key.length = bt at *
              have b0 : (0 : Int) ≤ (bt : Int) := by omega
              have b1 : (bt : Int) < 256 := by omega
              have look := hlook wr ht
              have look1 := hlook wr.drew ht.drew
              clear h10 h11 h12 h13 h14 hlook hmo
              have HT := Lib.hid hT
              clear hT
              have Hrn := Lib.hid hrn
              clear hrn
              have Hok := Lib.hid hok
              clear hok
              have Hno := Lib.hid hno
              clear hno
              have Hm := Lib.hid hm
              clear hm
              have Htl := Lib.hid htl
              clear htl
              have Hcl := Lib.hid hcl
              clear hcl
              have HTT := Lib.hid hTT
              clear hTT
              have HTk := Lib.hid hTk
              clear hTk
              have H8 := Lib.hid h8
              clear h8
              have H9 := Lib.hid h9
              clear h9
              have HkT := Lib.hid hkT
              clear hkT
              have Ht := Lib.hid ht
              clear ht
              have Hbg := Lib.hid hbg
              clear hbg
              have Hp := Lib.hid hp
              clear hp
              have Hl := Lib.hid hl
              clear hl
              have Hnc := Lib.hid hnc
              clear hnc
              have Hf := Lib.hid hf
              clear hf
              have Hbt := Lib.hid hbt
              clear hbt
              have Hkb' := Lib.hid hkb'
              clear hkb'
              have Hpb := Lib.hid hpb
              clear hpb
              have Hne := Lib.hid hne
              clear hne
              have Hlt := Lib.hid hlt
              clear hlt
              have Hgc := Lib.hid hgc
              clear hgc
              have HGc := Lib.hid hGc
              clear hGc
              have Hnx := Lib.hid hnx
              clear hnx
              have Hcc := Lib.hid hcc
              clear hcc
              go_wp2_with (fail)
              (with_reducible refine (Hbg.out _ Ht.out).mono ?_)
              rintro e w2 ⟨rfl, rfl⟩
              go_wp2_with (fail)
              refine wp_region_plan (.take 0 (.take 1 (.take 2 (.take 3 (.take 4 (.take 5 (.take 6 (.take 7 (.take 8 (.take 9 (.take 10 (.take 11 (.must 12 (.take 13 (.take 14 (.take 15 (.take 16 (.take 17 .done)))))))))))))))))) (fun W => W.cell? ⟨g, 4, none⟩ = some (.map (some gm)) ∧ W.cell? ⟨g, 0, none⟩ = some (.slice na T.key.length nc) ∧ W.cell? ⟨kb', ko + T.key.length, none⟩ = some (.int .u8 bt)) (by kernel_rfl) (by kernel_rfl) (by kernel_rfl) rfl ?_ (fun KK hKK => ?_)
              · exact ⟨c4, c0, cb⟩
              repeat (first
                | (refine wpPlan_take (v := ?_) rfl (by rfl) (fun W hW => ?_) ?_; rotate_left; (focus ((try dsimp only at hW); go_split_ands; go_simp; (try with_reducible rfl); done)); (try simp only [Act.put, List.setIfInBounds_toArray, List.set_cons_zero, List.set_cons_succ]))
                | (refine wpPlan_skip rfl (by rfl) ?_; (try simp only [Act.put, List.setIfInBounds_toArray, List.set_cons_zero, List.set_cons_succ])))
              refine wpPlan_must rfl (by rfl) (fun K hK => ?_)
              go_simp
              refine hK.out _ _ ?_ ?_
              · exact ⟨c4, c0, cb⟩
              clear hK K
              (try simp only [Act.put, List.setIfInBounds_toArray, List.set_cons_zero, List.set_cons_succ])
              repeat (first
                | (refine wpPlan_take (v := ?_) rfl (by rfl) (fun W hW => ?_) ?_; rotate_left; (focus ((try dsimp only at hW); go_split_ands; go_simp; (try with_reducible rfl); done)); (try simp only [Act.put, List.setIfInBounds_toArray, List.set_cons_zero, List.set_cons_succ]))
                | (refine wpPlan_skip rfl (by rfl) ?_; (try simp only [Act.put, List.setIfInBounds_toArray, List.set_cons_zero, List.set_cons_succ])))
              refine wpPlan_done (hKK.out _ _ ?_)
              clear hKK KK
              go_wp2_with (fail)
              go_roundg (f bt).cells
              case measure => exact Hcc.out
              case rel => exact ⟨Hnx.out, Ht.out.drew⟩
        · have hbf : begK k T.key = false := by rw [← Bool.not_eq_true, beg_pre]; exact hp
          rw [hbf] at hbg
          have hmj : RT.manyT T k = RT.moreJ (comK T.key k) T k := by
            have h1 : comK k0 k < k0.length := by
              have h2 := (comK_le k0 k).1
              rcases Nat.lt_or_ge (comK k0 k) k0.length with h | h
              · exact h
              · exact absurd (by rw [hTk]; exact pre_of_comK (by omega)) hp
            rw [hTT, RT.manyT, if_pos h1]; rfl
          have hcm := fun W (t : Ext w W) => KeyC.common_any W _ _ T.key k (h9.ext t) (Hkw.out.ext t) (by omega) (by omega)
          clear h10 h11 h12 h13 h14 hbf
          have HT := Lib.hid hT
          clear hT
          have Hrn := Lib.hid hrn
          clear hrn
          have Hok := Lib.hid hok
          clear hok
          have Hno := Lib.hid hno
          clear hno
          have Hm := Lib.hid hm
          clear hm
          have Htl := Lib.hid htl
          clear htl
          have Hcl := Lib.hid hcl
          clear hcl
          have HTT := Lib.hid hTT
          clear hTT
          have HTk := Lib.hid hTk
          clear hTk
          have H8 := Lib.hid h8
          clear h8
          have H9 := Lib.hid h9
          clear h9
          have Hmj := Lib.hid hmj
          clear hmj
          have Hcm := Lib.hid hcm
          clear hcm
          have HkT := Lib.hid hkT
          clear hkT
          have Ht := Lib.hid ht
          clear ht
          have Hbg := Lib.hid hbg
          clear hbg
          have Hp := Lib.hid hp
          clear hp
          go_wp2_with (fail)
          (with_reducible refine (Hbg.out _ Ht.out).mono ?_)
          rintro e w2 ⟨rfl, rfl⟩
          go_wp2_with (fail)
          (with_reducible refine (Hcm.out _ Ht.out).mono ?_)
          rintro e w2 ⟨rfl, t2⟩
          have c0 := keepc t2 id c0
          have T2 := Lib.hid t2
          clear t2
          by_cases d1 : comK T.key k = k.length
          · have j1 : ((comK T.key k : Int) == (k.length : Int)) = true := by simp; omega
            have D1 := Lib.hid d1
            clear d1
            go_wp2_with (fail)
            go_ret
            have hm : RT.manyT T k = 1 := by rw [Hmj.out]; unfold RT.moreJ; rw [if_pos (Or.inl D1.out.symm)]
            rw [← Hm.out, hm]
            exact ⟨rfl, Ht.out.trans' T2.out⟩
          · have j1 : ((comK T.key k : Int) == (k.length : Int)) = false := by simp; omega
            by_cases d2 : comK T.key k = T.key.length
            · have j2 : ((comK T.key k : Int) == (T.key.length : Int)) = true := by simp; omega
              have D1 := Lib.hid d1
              clear d1
              have D2 := Lib.hid d2
              clear d2
              go_wp2_with (fail)
              go_ret
              have hm : RT.manyT T k = 1 := by rw [Hmj.out]; unfold RT.moreJ; rw [if_pos (Or.inr D2.out.symm)]
              rw [← Hm.out, hm]
              exact ⟨rfl, Ht.out.trans' T2.out⟩
            · have j2 : ((comK T.key k : Int) == (T.key.length : Int)) = false := by simp; omega
              have D1 := Lib.hid d1
              clear d1
              have D2 := Lib.hid d2
              clear d2
              go_wp2_with (fail)
              go_ret
              have hm : RT.manyT T k = 2 := by rw [Hmj.out]; unfold RT.moreJ; rw [if_neg (fun h => h.elim (fun h => D1.out h.symm) (fun h => D2.out h.symm))]
              rw [← Hm.out, hm]
              exact ⟨rfl, Ht.out.trans' T2.out⟩
end RadF
end Go.Proofs.YtclnnkacfanaiaaDoor
