/- The ternary tree's Shape. -/
import Derived.Test.YthfnacadabhpdaaTernS
namespace Go.Proofs.Ythfnacadabhpdaa
open Go.RowKit
set_option linter.unusedVariables false
set_option linter.unusedSimpArgs false
namespace TernT
open TernB TernS
variable {F : Nat → Prop}

/-- the cells of a ternary tree of some pairs -/
def TK (ps : Prs) (cs : Cls) (d : Nat) : Prop :=
  (∃ x qs G cs', ps = ([], x) :: qs ∧ G.flatten = qs ∧ On [] qs ∧ TT [] G cs' d ∧ cs = emptyC x :: cs') ∨ (On [] ps ∧ ∃ G, G.flatten = ps ∧ TT [] G cs d)
theorem on_ne {ps : Prs} (h : On [] ps) : ∀ p ∈ ps, p.1 ≠ [] := fun p hp e => by obtain ⟨b, r, h1⟩ := h p hp; rw [e] at h1; simp at h1
theorem TK.length {ps : Prs} {cs : Cls} {d : Nat} (h : TK ps cs d) : cs.length = szK ps := by
  rcases h with ⟨x, qs, G, cs', rfl, h1, h2, h3, rfl⟩ | ⟨h2, G, h1, h3⟩
  · have := h3.length
    rw [h1] at this
    rw [szA_some x qs (on_ne h2), List.length_cons, this]
    simp; omega
  · have := h3.length
    rw [h1] at this
    rw [szA_none ps (on_ne h2), this]; rfl
theorem on_rest {p : List Int × Int} {qs : Prs} (hr : Rises (p :: qs)) : On [] qs := fun q hq => by
  have h := (List.pairwise_cons.1 hr).1 q hq
  cases hk : q.1 with
  | nil => rw [hk] at h; generalize p.1 = k at h; cases k <;> simp [cmpK] at h
  | cons c r => exact ⟨c, r, rfl⟩
def ShapeRet (w : World) (ps : Prs) (e : Ending) (w' : World) : Prop := (∃ v' cs d, e = .returned v' ∧ TK ps cs d ∧ RC w' (fun b => b < w'.heap.size) v' cs) ∧ Ext w w'

theorem wr_rc {w : World} {wb : Nat} {vo : Value} {cs : Cls} (h : Wr w wb vo cs) : RC w (fun b => b < w.heap.size) vo cs := by
  obtain ⟨es, e1, e2, e3⟩ := h.row
  exact (OC.rc (K := fun _ => False) ⟨es, e1, e2, (fun _ _ h => h), e3⟩).mono (fun _ h => h.elim)


set_option maxRecDepth 100000 in
set_option maxHeartbeats 4000000 in
theorem shape_tq (w : World) (tv : Value) (ps : Prs) (h : Tq w tv F ps) (hm : ps.length ≤ 1000000) (hr : Rises ps) (hpp : ∀ p ∈ ps, KB p.1 ∧ p.1.length ≤ 65535) :
    Calls Try.prog 31 #[tv] w (ShapeRet w ps) := by
  have hix := TreeA.index_any w _ ps h
  have H := Lib.hid h
  clear h
  have Hr := Lib.hid hr
  clear hr
  have Hpp := Lib.hid hpp
  clear hpp
  have Hix := Lib.hid hix
  clear hix
  unfold ShapeRet
  go_enter Try.func31, Try.ntmps31
  go_wp2_with (fail)
  (with_reducible refine Hix.out.mono ?_)
  rintro e w1 ⟨⟨m, rfl, hq⟩, rfl⟩
  have hall := ModF.all_any w m ps hq hm
  have Hall := Lib.hid hall
  clear hall
  have Hq := Lib.hid hq
  clear hq
  go_wp2_with (fail)
  (with_reducible refine Hall.out.mono ?_)
  rintro e w2 ⟨⟨v, rfl, ho⟩, t2⟩
  have hrp2 := rp_bound ho.rp
  obtain ⟨a, c, rfl, l1, l2, l3⟩ := hrp2.shape
  unfold maxLen at l2
  obtain ⟨w3, hw3⟩ : ∃ w3, w3 = w2.alloc (.cells #[.slice none 0 0] 89) := ⟨_, rfl⟩
  obtain ⟨wb, hwb⟩ : ∃ wb, wb = w2.heap.size := ⟨_, rfl⟩
  have x3 : Ext w2 w3 := by rw [hw3]; exact (Touch.refl _ _).alloc _
  have hwr3 : Wr w3 wb (.slice none 0 0) [] := by
    rw [hw3, hwb]
    exact ⟨by simp, by simp, ⟨[], rfl, World.ownsRow_nil _ _ _ _, fun e he => by simp at he⟩, fun h => by cases h⟩
  have hrp3 : RP w3 (Kp w3 wb (.slice none 0 0)) (.slice a ps.length c) ps := (hrp2.ext x3).mono (fun b hb => ⟨Nat.lt_of_lt_of_le hb.2 x3.size, by have := hb.2; omega, fun h => by cases h⟩)
  have hwbn : w.heap.size ≤ wb := by rw [hwb]; exact t2.size
  have b0 := hwr3.c0
  have f0 := hwr3.f0
  have xq := t2.trans' x3
  have Hrp2 := Lib.hid hrp2
  clear hrp2
  have Ho := Lib.hid ho
  clear ho
  have T2 := Lib.hid t2
  clear t2
  have X3 := Lib.hid x3
  clear x3
  have Hwr3 := Lib.hid hwr3
  clear hwr3
  have Hrp3 := Lib.hid hrp3
  clear hrp3
  have Hwbn := Lib.hid hwbn
  clear hwbn
  have Xq := Lib.hid xq
  clear xq
  by_cases hemp : ∃ x qs, ps = ([], x) :: qs
  · obtain ⟨x, qs, rfl⟩ := hemp
    obtain ⟨b, off, rfl, hbK⟩ := Hrp3.out.addr (by simp)
    obtain ⟨kv, e0, e1, hkv⟩ := Hrp3.out.get 0 _ rfl
    obtain ⟨ka, kc, rfl, _⟩ := hkv.shape
    simp only [Nat.zero_mul, Nat.add_zero] at e0 e1
    have l1' : qs.length + 1 ≤ c := l1
    have hm' : qs.length + 1 ≤ 1000000 := hm
    have hlq : (([], x) :: qs : Prs).length = qs.length + 1 := rfl
    rw [hlq] at *
    have honq := on_rest Hr.out
    have hrq : Rises qs := (List.pairwise_cons.1 Hr.out).2
    have hpq : ∀ p ∈ qs, KB p.1 ∧ p.1.length ≤ 65535 := fun p hp => Hpp.out p (by simp [hp])
    have g0 : (0 : Int) < (qs.length : Int) + 1 := by omega
    have Hkv := Lib.hid hkv
    clear hkv
    have Honq := Lib.hid honq
    clear honq
    have Hrq := Lib.hid hrq
    clear hrq
    have Hpq := Lib.hid hpq
    clear hpq
    have Hlq := Lib.hid hlq
    clear hlq
    have HbK := Lib.hid hbK
    clear hbK
    go_upto_region 3 with (fail)
    rw [← hw3, ← hwb]
    clear hw3 hwb
    go_wp2_with (fail)
    refine wp_region_plan (.take 0 (.take 1 (.take 2 (.take 3 (.take 4 (.take 5 (.take 6 (.take 7 (.take 8 (.take 9 (.must 10 (.must 11 (.take 12 (.take 13 (.last 14 .done))))))))))))))) (fun W => W.cell? ⟨wb, 0, none⟩ = some (.slice none 0 0) ∧ W.cell? ⟨b, off + 1, none⟩ = some (.int .u64 x)) (by kernel_rfl) (by kernel_rfl) (by kernel_rfl) rfl ?_ (fun KK hKK => ?_)
    · exact ⟨b0, e1⟩
    repeat (first
      | (refine wpPlan_take (v := ?_) rfl (by rfl) (fun W hW => ?_) ?_; rotate_left; (focus ((try dsimp only at hW); go_split_ands; go_simp; (try with_reducible rfl); done)); (try simp only [Act.put, List.setIfInBounds_toArray, List.set_cons_zero, List.set_cons_succ]))
      | (refine wpPlan_skip rfl (by rfl) ?_; (try simp only [Act.put, List.setIfInBounds_toArray, List.set_cons_zero, List.set_cons_succ])))
    refine wpPlan_must rfl (by rfl) (fun K hK => ?_)
    go_simp
    have xD : Ext w3 (w3.drew.alloc (.cells (flat9 ((.slice none 0 0 : Value), emptyC x)).toArray 53)) := (Touch.refl _ _).drew.alloc _
    have hlit := own_lit w3.drew ((.slice none 0 0 : Value), emptyC x)
    obtain ⟨hsl, _, _, _⟩ := own_src hlit
    have wfD := keepf (p := ⟨wb, 0, none⟩) xD (World.block_lt_of_cell? _ _ b0) id f0
    have Hlit := Lib.hid hlit
    clear hlit
    have Hsl := Lib.hid hsl
    clear hsl
    have XD := Lib.hid xD
    clear xD
    refine hK.out _ _ ?_ ?_
    · exact ⟨keepc XD.out id b0, keepc XD.out id e1⟩
    clear hK K
    (try simp only [Act.put, List.setIfInBounds_toArray, List.set_cons_zero, List.set_cons_succ])
    refine wpPlan_must rfl (by rfl) (fun K hK => ?_)
    refine wp_push_any _ _ _ 50 rfl 53 _ 9 96 Try.underlying50 info_cell rfl (by decide) (.slice none 0 0) 0 [] rfl (World.ownsRow_nil _ _ _ _) (some ⟨w3.heap.size, 0, none⟩) 1 1 rfl (fun h => by cases h) (flatC [((.slice none 0 0 : Value), emptyC x)]) (by omega) (flatC_length _) Hsl.out (flatC_one _ (fun e he => by simp only [List.mem_cons, List.not_mem_nil, or_false] at he; subst he; rfl)) (by simp [maxLen]) (by omega) ?_
    intro v5 w5 hown5 ht5 hb5
    rw [Nat.zero_add, List.nil_append] at hown5
    have zD : Ext w3 w5 := XD.out.ext_new ht5 (fun i hi => by cases hi)
    have hge : ∀ i, v5.ownBlock = some i → w3.heap.size ≤ i := fun i hi => by
      rcases hb5 with h | h
      · rw [h] at hi; cases hi
      · rw [h] at hi; cases hi; simp
    have w05 := keepc zD id b0
    have wf5 := keepf (p := ⟨wb, 0, none⟩) zD (World.block_lt_of_cell? _ _ b0) id f0
    have e15 := keepc zD id e1
    obtain ⟨a5, c5, rfl⟩ := own_len hown5
    have hwlt := World.block_lt_of_cell? _ _ b0
    clear ht5 hb5 wfD
    have Hown5 := Lib.hid hown5
    clear hown5
    have ZD := Lib.hid zD
    clear zD
    have Hge := Lib.hid hge
    clear hge
    refine hK.out _ _ ?_ ?_
    · exact ⟨w05, e15⟩
    clear hK K
    (try simp only [Act.put, List.setIfInBounds_toArray, List.set_cons_zero, List.set_cons_succ])
    repeat (first
      | (refine wpPlan_take (v := ?_) rfl (by rfl) (fun W hW => ?_) ?_; rotate_left; (focus ((try dsimp only at hW); go_split_ands; go_simp; (try with_reducible rfl); done)); (try simp only [Act.put, List.setIfInBounds_toArray, List.set_cons_zero, List.set_cons_succ]))
      | (refine wpPlan_skip rfl (by rfl) ?_; (try simp only [Act.put, List.setIfInBounds_toArray, List.set_cons_zero, List.set_cons_succ])))
    refine wpPlan_last rfl (by rfl) (fun K hK => ?_)
    go_simp
    obtain ⟨wq, hwq⟩ : ∃ wq, wq = w5.setCell ⟨wb, 0, none⟩ (.slice a5 1 c5) := ⟨_, rfl⟩
    rw [← hwq]
    obtain ⟨vo, evo⟩ : ∃ vo, vo = Value.slice a5 1 c5 := ⟨_, rfl⟩
    have zq : Touch (fun i => i = wb) w5 wq := by rw [hwq]; exact Touch.setCell (S := fun i => i = wb) (Touch.refl _ _) (p := ⟨wb, 0, none⟩) (Or.inl rfl) _
    have hvwb : vo.ownBlock ≠ some wb := fun h => by rw [evo] at h; have := Hge.out wb h; simp only at hwlt; omega
    have hwrq : Wr wq wb vo [emptyC x] := by
      refine ⟨by rw [hwq, evo]; exact World.cell?_setCell_same _ _ _ w05, by rw [hwq, World.frozen?_setCell]; exact wf5, ⟨[((.slice none 0 0 : Value), emptyC x)], rfl, ?_, fun e he => ?_⟩, hvwb⟩
      · rw [evo]; exact own_keep Hown5.out zq (fun b' hb' h => hvwb (by rw [evo, hb', h]))
      · simp only [List.mem_cons, List.not_mem_nil, or_false] at he; subst he; exact RB.nil _ _
    have hrp4 : RP wq (Kp wq wb vo) (.slice (some ⟨b, off, none⟩) (qs.length + 1) c) (([], x) :: qs) := ((Hrp3.out.ext ZD.out).keep zq (fun b' hb' => hb'.2.1)).mono (fun b' hb' => ⟨Nat.lt_of_lt_of_le hb'.1 (Nat.le_trans ZD.out.size zq.size), hb'.2.1, fun h => by rw [evo] at h; have := Hge.out b' h; have := hb'.1; omega⟩)
    have xq2 : Ext w wq := (Xq.out.trans' ZD.out).ext_new zq (fun i hi => by rw [hi]; exact Hwbn.out)
    have hvon : ∀ i, vo.ownBlock = some i → w.heap.size ≤ i := fun i hi => by rw [evo] at hi; exact Nat.le_trans Xq.out.size (Hge.out i hi)
    clear hwq evo zq w05 wf5 e15 e0 e1 hvwb b0 f0 Hwr3 Hrp3 Xq
    have xq := xq2
    clear xq2
    have Hwrq := Lib.hid hwrq
    clear hwrq
    have Hrp4 := Lib.hid hrp4
    clear hrp4
    have Hvon := Lib.hid hvon
    clear hvon
    have Xq := Lib.hid xq
    clear xq
    refine hK.out _ _ ?_
    clear hK K
    (try simp only [Act.put, List.setIfInBounds_toArray, List.set_cons_zero, List.set_cons_succ])
    refine wpPlan_done (hKK.out _ _ ?_)
    clear hKK KK
    by_cases hc1 : c = 1
    · have hqz : qs.length = 0 := by omega
      have hrpq : RP wq (Kp wq wb vo) (.slice (some ⟨b, off, none⟩) qs.length 0) qs := by
        obtain rfl := List.eq_nil_of_length_eq_zero hqz
        exact rp_empty _ _ _ _ (by decide) (fun h => by cases h)
      have hqm : qs.length ≤ 1000000 := by omega
      have hwrq := Hwrq.out
      clear Hwrq
      have honq := Honq.out
      have hrq := Hrq.out
      have Hqz := Lib.hid hqz
      clear hqz
      have hby := byByte_any (K := Kp wq wb vo) wq _ qs [] hrpq (fun b' hb' => hb'.1) honq hrq (by omega) (by simp)
      rw [show ((([] : List Int).length : Nat) : Int) = 0 by rfl] at hby
      unfold ByRet at hby
      have Hby := Lib.hid hby
      clear hby
      have Hwrq := Lib.hid hwrq
      clear hwrq
      have Hrpq := Lib.hid hrpq
      clear hrpq
      have Honq := Lib.hid honq
      clear honq
      have Hrq := Lib.hid hrq
      clear hrq
      go_wp2_with (fail)
      (with_reducible refine Hby.out.mono ?_)
      rintro e wG ⟨⟨vg, G2, rfl, hG2, hgood2, hrgG⟩, xG⟩
      obtain ⟨ga2, gc2, rfl, _⟩ := hrgG.shape
      have hrgG2 : RG wG (Kp wG wb vo) (.slice ga2 G2.length gc2) G2 := (rg_bound hrgG).mono (fun b' hb' => by
        have hs := xG.size
        have hwb := World.block_lt_of_cell? _ _ Hwrq.out.c0
        simp only at hwb
        rcases hb'.1 with h8 | h8
        · exact ⟨hb'.2, h8.2⟩
        · refine ⟨hb'.2, by omega, fun h9 => ?_⟩
          obtain ⟨es', _, h7, _⟩ := Hwrq.out.row
          have := (h7.lt b' h9).2; omega)
      have hbnd := mP_bound 0 qs 65535 (fun z hz => (Hpq.out z hz).2)
      have hih := node_any _ wG wb vo _ (.slice ga2 G2.length gc2) [] G2 (Nat.le_refl _) hrgG2 (Hwrq.out.ext xG) hgood2 (by rw [hG2]; exact Honq.out) (by rw [hG2]; exact Hrq.out) (fun z hz => Hpq.out z (by rw [hG2] at hz; exact hz)) (by rw [hG2]; have h8 : qs.length * 65535 ≤ 1000000 * 65535 := Nat.mul_le_mul_right _ (by omega); simp only [List.length_nil, List.length_cons]; omega) (by rw [hG2]; omega) (by simp)
      rw [show ((([] : List Int).length : Nat) : Int) = 0 by rfl] at hih
      unfold NodeRet at hih
      have Hih := Lib.hid hih
      clear hih
      have HG2 := Lib.hid hG2
      clear hG2
      have Hgood2 := Lib.hid hgood2
      clear hgood2
      have HrgG := Lib.hid hrgG
      clear hrgG
      have HrgG2 := Lib.hid hrgG2
      clear hrgG2
      have XG := Lib.hid xG
      clear xG
      clear hbnd
      go_wp2_with (fail)
      (with_reducible refine Hih.out.mono ?_)
      rintro e wH ⟨rfl, vo2, cs2, d2, htt2, hwr2, tH, nx2⟩
      have w20 := hwr2.c0
      have hrcH := wr_rc hwr2
      obtain ⟨sa, sc, hvs, _⟩ := hrcH.shape
      subst hvs
      have xH : Ext w wH := (Xq.out.trans' XG.out).ext_new tH (fun i hi => hi.elim (fun h8 => by rw [h8]; exact Hwbn.out) (Hvon.out i))
      have Htt2 := Lib.hid htt2
      clear htt2
      have Hwr2 := Lib.hid hwr2
      clear hwr2
      have HrcH := Lib.hid hrcH
      clear hrcH
      have XH := Lib.hid xH
      clear xH
      go_wp2_with (fail)
      go_ret
      exact ⟨⟨_, _, d2, rfl, Or.inl ⟨x, qs, G2, cs2, rfl, HG2.out, Honq.out, Htt2.out, by simp⟩, HrcH.out⟩, XH.out⟩
    · have hc3 : (1 : Int) ≤ (c : Int) := by omega
      have hrpq : RP wq (Kp wq wb vo) (.slice (some ⟨b, off + 2, none⟩) qs.length (c - 1)) qs := Hrp4.out.drop1
      have hwrq := Hwrq.out
      clear Hwrq
      have honq := Honq.out
      have hrq := Hrq.out
      have hby := byByte_any (K := Kp wq wb vo) wq _ qs [] hrpq (fun b' hb' => hb'.1) honq hrq (by omega) (by simp)
      rw [show ((([] : List Int).length : Nat) : Int) = 0 by rfl] at hby
      unfold ByRet at hby
      have Hby := Lib.hid hby
      clear hby
      have Hwrq := Lib.hid hwrq
      clear hwrq
      have Hrpq := Lib.hid hrpq
      clear hrpq
      have Honq := Lib.hid honq
      clear honq
      have Hrq := Lib.hid hrq
      clear hrq
      go_wp2_with (fail)
      (with_reducible refine Hby.out.mono ?_)
      rintro e wG ⟨⟨vg, G2, rfl, hG2, hgood2, hrgG⟩, xG⟩
      obtain ⟨ga2, gc2, rfl, _⟩ := hrgG.shape
      have hrgG2 : RG wG (Kp wG wb vo) (.slice ga2 G2.length gc2) G2 := (rg_bound hrgG).mono (fun b' hb' => by
        have hs := xG.size
        have hwb := World.block_lt_of_cell? _ _ Hwrq.out.c0
        simp only at hwb
        rcases hb'.1 with h8 | h8
        · exact ⟨hb'.2, h8.2⟩
        · refine ⟨hb'.2, by omega, fun h9 => ?_⟩
          obtain ⟨es', _, h7, _⟩ := Hwrq.out.row
          have := (h7.lt b' h9).2; omega)
      have hbnd := mP_bound 0 qs 65535 (fun z hz => (Hpq.out z hz).2)
      have hih := node_any _ wG wb vo _ (.slice ga2 G2.length gc2) [] G2 (Nat.le_refl _) hrgG2 (Hwrq.out.ext xG) hgood2 (by rw [hG2]; exact Honq.out) (by rw [hG2]; exact Hrq.out) (fun z hz => Hpq.out z (by rw [hG2] at hz; exact hz)) (by rw [hG2]; have h8 : qs.length * 65535 ≤ 1000000 * 65535 := Nat.mul_le_mul_right _ (by omega); simp only [List.length_nil, List.length_cons]; omega) (by rw [hG2]; omega) (by simp)
      rw [show ((([] : List Int).length : Nat) : Int) = 0 by rfl] at hih
      unfold NodeRet at hih
      have Hih := Lib.hid hih
      clear hih
      have HG2 := Lib.hid hG2
      clear hG2
      have Hgood2 := Lib.hid hgood2
      clear hgood2
      have HrgG := Lib.hid hrgG
      clear hrgG
      have HrgG2 := Lib.hid hrgG2
      clear hrgG2
      have XG := Lib.hid xG
      clear xG
      clear hbnd
      go_wp2_with (fail)
      (with_reducible refine Hih.out.mono ?_)
      rintro e wH ⟨rfl, vo2, cs2, d2, htt2, hwr2, tH, nx2⟩
      have w20 := hwr2.c0
      have hrcH := wr_rc hwr2
      obtain ⟨sa, sc, hvs, _⟩ := hrcH.shape
      subst hvs
      have xH : Ext w wH := (Xq.out.trans' XG.out).ext_new tH (fun i hi => hi.elim (fun h8 => by rw [h8]; exact Hwbn.out) (Hvon.out i))
      have Htt2 := Lib.hid htt2
      clear htt2
      have Hwr2 := Lib.hid hwr2
      clear hwr2
      have HrcH := Lib.hid hrcH
      clear hrcH
      have XH := Lib.hid xH
      clear xH
      go_wp2_with (fail)
      go_ret
      exact ⟨⟨_, _, d2, rfl, Or.inl ⟨x, qs, G2, cs2, rfl, HG2.out, Honq.out, Htt2.out, by simp⟩, HrcH.out⟩, XH.out⟩
  · have honq : On [] ps := fun q hq => by
      cases hk : q.1 with
      | cons c r => exact ⟨c, r, rfl⟩
      | nil =>
        exfalso
        cases hps : ps with
        | nil => rw [hps] at hq; simp at hq
        | cons p rest =>
          rw [hps] at hq
          have hrr := Hr.out
          rw [hps] at hrr
          rcases List.mem_cons.1 hq with rfl | hq'
          · exact hemp ⟨q.2, rest, by rw [hps, ← hk]⟩
          · obtain ⟨c, r, e⟩ := on_rest hrr q hq'
            rw [hk] at e; simp at e
    have hrq := Hr.out
    have hpq := Hpp.out
    clear hemp
    have Hpq := Lib.hid hpq
    clear hpq
    obtain ⟨wq, ewq⟩ : ∃ wq, wq = w3 := ⟨_, rfl⟩
    subst ewq
    obtain ⟨vo, evo⟩ : ∃ vo, vo = Value.slice none 0 0 := ⟨_, rfl⟩
    have hwrq := Hwr3.out
    have hrpq := Hrp3.out
    rw [← evo] at hwrq hrpq
    have hvon : ∀ i, vo.ownBlock = some i → w.heap.size ≤ i := fun i hi => by rw [evo] at hi; cases hi
    clear evo b0 f0
    have Hvon := Lib.hid hvon
    clear hvon
    obtain ⟨qs, eqs⟩ : ∃ qs : Prs, qs = ps := ⟨_, rfl⟩
    subst eqs
    by_cases hz : qs.length = 0
    · have g0 : ¬ (0 : Int) < (qs.length : Int) := by omega
      have hqm : qs.length ≤ 1000000 := by omega
      have Hz := Lib.hid hz
      clear hz
      go_upto_region 3 with (fail)
      rw [← hw3, ← hwb]
      clear hw3 hwb
      have hby := byByte_any (K := Kp wq wb vo) wq _ qs [] hrpq (fun b' hb' => hb'.1) honq hrq (by omega) (by simp)
      rw [show ((([] : List Int).length : Nat) : Int) = 0 by rfl] at hby
      unfold ByRet at hby
      have Hby := Lib.hid hby
      clear hby
      have Hwrq := Lib.hid hwrq
      clear hwrq
      have Hrpq := Lib.hid hrpq
      clear hrpq
      have Honq := Lib.hid honq
      clear honq
      have Hrq := Lib.hid hrq
      clear hrq
      go_wp2_with (fail)
      (with_reducible refine Hby.out.mono ?_)
      rintro e wG ⟨⟨vg, G2, rfl, hG2, hgood2, hrgG⟩, xG⟩
      obtain ⟨ga2, gc2, rfl, _⟩ := hrgG.shape
      have hrgG2 : RG wG (Kp wG wb vo) (.slice ga2 G2.length gc2) G2 := (rg_bound hrgG).mono (fun b' hb' => by
        have hs := xG.size
        have hwb := World.block_lt_of_cell? _ _ Hwrq.out.c0
        simp only at hwb
        rcases hb'.1 with h8 | h8
        · exact ⟨hb'.2, h8.2⟩
        · refine ⟨hb'.2, by omega, fun h9 => ?_⟩
          obtain ⟨es', _, h7, _⟩ := Hwrq.out.row
          have := (h7.lt b' h9).2; omega)
      have hbnd := mP_bound 0 qs 65535 (fun z hz => (Hpq.out z hz).2)
      have hih := node_any _ wG wb vo _ (.slice ga2 G2.length gc2) [] G2 (Nat.le_refl _) hrgG2 (Hwrq.out.ext xG) hgood2 (by rw [hG2]; exact Honq.out) (by rw [hG2]; exact Hrq.out) (fun z hz => Hpq.out z (by rw [hG2] at hz; exact hz)) (by rw [hG2]; have h8 : qs.length * 65535 ≤ 1000000 * 65535 := Nat.mul_le_mul_right _ (by omega); simp only [List.length_nil, List.length_cons]; omega) (by rw [hG2]; omega) (by simp)
      rw [show ((([] : List Int).length : Nat) : Int) = 0 by rfl] at hih
      unfold NodeRet at hih
      have Hih := Lib.hid hih
      clear hih
      have HG2 := Lib.hid hG2
      clear hG2
      have Hgood2 := Lib.hid hgood2
      clear hgood2
      have HrgG := Lib.hid hrgG
      clear hrgG
      have HrgG2 := Lib.hid hrgG2
      clear hrgG2
      have XG := Lib.hid xG
      clear xG
      clear hbnd
      go_wp2_with (fail)
      (with_reducible refine Hih.out.mono ?_)
      rintro e wH ⟨rfl, vo2, cs2, d2, htt2, hwr2, tH, nx2⟩
      have w20 := hwr2.c0
      have hrcH := wr_rc hwr2
      obtain ⟨sa, sc, hvs, _⟩ := hrcH.shape
      subst hvs
      have xH : Ext w wH := (Xq.out.trans' XG.out).ext_new tH (fun i hi => hi.elim (fun h8 => by rw [h8]; exact Hwbn.out) (Hvon.out i))
      have Htt2 := Lib.hid htt2
      clear htt2
      have Hwr2 := Lib.hid hwr2
      clear hwr2
      have HrcH := Lib.hid hrcH
      clear hrcH
      have XH := Lib.hid xH
      clear xH
      go_wp2_with (fail)
      go_ret
      exact ⟨⟨_, _, d2, rfl, Or.inr ⟨Honq.out, G2, HG2.out, Htt2.out⟩, HrcH.out⟩, XH.out⟩
    · obtain ⟨b, off, rfl, _⟩ := hrpq.addr (by omega)
      have hg := List.getElem?_eq_getElem (show 0 < qs.length by omega)
      have hlen := on_len honq (List.mem_of_getElem? hg)
      obtain ⟨kv, e0, e1, hkv⟩ := hrpq.get 0 _ hg
      generalize qs[0] = p at *
      obtain ⟨ka, kc, rfl, _⟩ := hkv.shape
      simp only [Nat.zero_mul, Nat.add_zero] at e0 e1
      simp only [List.length_nil] at hlen
      have g0 : (0 : Int) < (qs.length : Int) := by omega
      have g1 : ((p.1.length : Int) == 0) = false := beq_eq_false_iff_ne.2 (by omega)
      have Hkv := Lib.hid hkv
      clear hkv
      have Hg := Lib.hid hg
      clear hg
      have Honq := Lib.hid honq
      clear honq
      have Hrq := Lib.hid hrq
      clear hrq
      have Hrpq := Lib.hid hrpq
      clear hrpq
      have Hwrq := Lib.hid hwrq
      clear hwrq
      go_upto_region 3 with (fail)
      rw [← hw3, ← hwb]
      clear hw3 hwb
      have honq := Honq.out
      have hrq := Hrq.out
      have hrpq := Hrpq.out
      have hwrq := Hwrq.out
      clear Honq Hrq Hrpq Hwrq
      have hby := byByte_any (K := Kp wq wb vo) wq _ qs [] hrpq (fun b' hb' => hb'.1) honq hrq (by omega) (by simp)
      rw [show ((([] : List Int).length : Nat) : Int) = 0 by rfl] at hby
      unfold ByRet at hby
      have Hby := Lib.hid hby
      clear hby
      have Hwrq := Lib.hid hwrq
      clear hwrq
      have Hrpq := Lib.hid hrpq
      clear hrpq
      have Honq := Lib.hid honq
      clear honq
      have Hrq := Lib.hid hrq
      clear hrq
      go_wp2_with (fail)
      (with_reducible refine Hby.out.mono ?_)
      rintro e wG ⟨⟨vg, G2, rfl, hG2, hgood2, hrgG⟩, xG⟩
      obtain ⟨ga2, gc2, rfl, _⟩ := hrgG.shape
      have hrgG2 : RG wG (Kp wG wb vo) (.slice ga2 G2.length gc2) G2 := (rg_bound hrgG).mono (fun b' hb' => by
        have hs := xG.size
        have hwb := World.block_lt_of_cell? _ _ Hwrq.out.c0
        simp only at hwb
        rcases hb'.1 with h8 | h8
        · exact ⟨hb'.2, h8.2⟩
        · refine ⟨hb'.2, by omega, fun h9 => ?_⟩
          obtain ⟨es', _, h7, _⟩ := Hwrq.out.row
          have := (h7.lt b' h9).2; omega)
      have hbnd := mP_bound 0 qs 65535 (fun z hz => (Hpq.out z hz).2)
      have hih := node_any _ wG wb vo _ (.slice ga2 G2.length gc2) [] G2 (Nat.le_refl _) hrgG2 (Hwrq.out.ext xG) hgood2 (by rw [hG2]; exact Honq.out) (by rw [hG2]; exact Hrq.out) (fun z hz => Hpq.out z (by rw [hG2] at hz; exact hz)) (by rw [hG2]; have h8 : qs.length * 65535 ≤ 1000000 * 65535 := Nat.mul_le_mul_right _ (by omega); simp only [List.length_nil, List.length_cons]; omega) (by rw [hG2]; omega) (by simp)
      rw [show ((([] : List Int).length : Nat) : Int) = 0 by rfl] at hih
      unfold NodeRet at hih
      have Hih := Lib.hid hih
      clear hih
      have HG2 := Lib.hid hG2
      clear hG2
      have Hgood2 := Lib.hid hgood2
      clear hgood2
      have HrgG := Lib.hid hrgG
      clear hrgG
      have HrgG2 := Lib.hid hrgG2
      clear hrgG2
      have XG := Lib.hid xG
      clear xG
      clear hbnd
      go_wp2_with (fail)
      (with_reducible refine Hih.out.mono ?_)
      rintro e wH ⟨rfl, vo2, cs2, d2, htt2, hwr2, tH, nx2⟩
      have w20 := hwr2.c0
      have hrcH := wr_rc hwr2
      obtain ⟨sa, sc, hvs, _⟩ := hrcH.shape
      subst hvs
      have xH : Ext w wH := (Xq.out.trans' XG.out).ext_new tH (fun i hi => hi.elim (fun h8 => by rw [h8]; exact Hwbn.out) (Hvon.out i))
      have Htt2 := Lib.hid htt2
      clear htt2
      have Hwr2 := Lib.hid hwr2
      clear hwr2
      have HrcH := Lib.hid hrcH
      clear hrcH
      have XH := Lib.hid xH
      clear xH
      go_wp2_with (fail)
      go_ret
      exact ⟨⟨_, _, d2, rfl, Or.inr ⟨Honq.out, G2, HG2.out, Htt2.out⟩, HrcH.out⟩, XH.out⟩
theorem shape_any (w : World) (t : Nat) (ps : Prs) (most : Int) (h : Tp w t F ps most) :
    Calls Try.prog 31 #[.pointer (some ⟨t, 0, none⟩)] w (ShapeRet w ps) :=
  shape_tq w _ ps h.tq h.few h.rises (fun p hp => ⟨h.kb p hp, h.long p hp⟩)
theorem tk_nil {cs : Cls} {d : Nat} (h : TK [] cs d) : cs = [] := by
  have := h.length
  simp [szK, szT] at this
  exact this
theorem shape_none (w : World) (tv : Value) (h : Tq w tv F []) : Calls Try.prog 31 #[tv] w fun e w' => (∃ a c, e = .returned (.slice a 0 c)) ∧ Ext w w' := by
  refine (shape_tq w tv [] h (by simp) List.Pairwise.nil (fun p hp => by simp at hp)).mono ?_
  rintro e w' ⟨⟨v', cs, d, rfl, htk, hrc⟩, x⟩
  obtain rfl := tk_nil htk
  obtain ⟨a, c, rfl, _⟩ := hrc.shape
  exact ⟨⟨a, c, rfl⟩, x⟩
end TernT
end Go.Proofs.Ythfnacadabhpdaa
