/- The crit-bit tree writes its cells. -/
import Derived.Test.YtmdgmkmddkaadaaCritK
import Derived.Test.YtmdgmkmddkaadaaCritN
import Derived.Test.YtmdgmkmddkaadaaTreeB
import Derived.Test.YtmdgmkmddkaadaaTreeD
namespace Go.Proofs.Ytmdgmkmddkaadaa
open Go.RowKit
set_option linter.unusedVariables false
set_option linter.unusedSimpArgs false
namespace CritS
open CritK
variable {F G : Nat → Prop}

set_option maxRecDepth 100000 in
set_option maxHeartbeats 3200000 in
theorem node_any : ∀ (n : Nat) (w : World) (N : Nat) (v : Value) (ps : Prs), ps.length ≤ n → RP w (fun b => b < N) v ps → N ≤ w.heap.size → Rises ps → (∀ p ∈ ps, KB p.1 ∧ p.1.length ≤ 65535) → 1 ≤ ps.length → ps.length ≤ 1000000 →
    Calls Try.prog 62 #[v] w fun e w' => (∃ v', e = .returned v' ∧ OC w' (fun b => b < N) v' (critK ps)) ∧ Ext w w' := by
  intro n
  induction n with
  | zero => intro w N v ps h1 _ _ _ _ h2; omega
  | succ n ih =>
    intro w N v ps hn h hN hr hpp h1 hm
    obtain ⟨a, c, rfl, l1, m1, _⟩ := h.shape
    unfold maxLen at m1
    obtain ⟨b, off, rfl, hbN⟩ := h.addr (by omega)
    by_cases h2 : ps.length = 1
    · obtain ⟨p, rfl⟩ : ∃ p, ps = [p] := by
        match ps, h2 with
        | [p], _ => exact ⟨p, rfl⟩
      obtain ⟨kv, c0, c1, hkv⟩ := h.get 0 p rfl
      rw [(crit_one p).1]
      obtain ⟨ka, kc, rfl, _⟩ := hkv.shape
      simp only [Nat.zero_mul, Nat.add_zero] at c0 c1
      rw [h2] at l1 ⊢
      clear h1 hm hn h2
      have hkd := hkv.ext (Touch.refl _ _).drew
      have H := Lib.hid h
      clear h
      have Hr := Lib.hid hr
      clear hr
      have Hpp := Lib.hid hpp
      clear hpp
      have Ih := Lib.hid ih
      clear ih
      have Hkv := Lib.hid hkv
      clear hkv
      have Hkd := Lib.hid hkd
      clear hkd
      go_enter Try.func62, Try.ntmps62
      go_wp2_with (fail)
      refine wp_region_plan (.take 0 (.take 1 (.take 2 (.take 3 (.take 4 (.take 5 (.take 6 (.take 7 (.take 8 (.must 9 (.take 10 .done))))))))))) (fun wy => wy.cell? ⟨b, off, none⟩ = some (.slice ka p.1.length kc) ∧ wy.cell? ⟨b, off + 1, none⟩ = some (.int .u64 p.2)) (by kernel_rfl) (by kernel_rfl) (by kernel_rfl) rfl ?_ (fun KK hKK => ?_)
      · exact ⟨c0, c1⟩
      repeat (first
        | (refine wpPlan_take (v := ?_) rfl (by rfl) (fun W hW => ?_) ?_; rotate_left; (focus ((try dsimp only at hW); go_split_ands; go_simp; (try with_reducible rfl); done)); (try simp only [Act.put, List.setIfInBounds_toArray, List.set_cons_zero, List.set_cons_succ]))
        | (refine wpPlan_skip rfl (by rfl) ?_; (try simp only [Act.put, List.setIfInBounds_toArray, List.set_cons_zero, List.set_cons_succ])))
      refine wpPlan_must rfl (by rfl) (fun K hK => ?_)
      go_simp
      have x1 : Ext w (w.drew.alloc (.cells #[.int .i64 1, .int .i64 0, .int .i64 1, .int .i64 0, .int .u8 0, .bool false, .int .u64 p.2, .slice ka p.1.length kc, .slice none 0 0] 51)) := (Touch.refl _ _).drew.alloc _
      refine hK.out _ _ ?_ ?_
      · exact ⟨keepc x1 id c0, keepc x1 id c1⟩
      clear hK K
      (try simp only [Act.put, List.setIfInBounds_toArray, List.set_cons_zero, List.set_cons_succ])
      repeat (first
        | (refine wpPlan_take (v := ?_) rfl (by rfl) (fun W hW => ?_) ?_; rotate_left; (focus ((try dsimp only at hW); go_split_ands; go_simp; (try with_reducible rfl); done)); (try simp only [Act.put, List.setIfInBounds_toArray, List.set_cons_zero, List.set_cons_succ]))
        | (refine wpPlan_skip rfl (by rfl) ?_; (try simp only [Act.put, List.setIfInBounds_toArray, List.set_cons_zero, List.set_cons_succ])))
      refine wpPlan_done (hKK.out _ _ ?_)
      clear hKK KK
      go_wp2_with (fail)
      go_ret
      refine ⟨⟨_, rfl, [(.slice ka p.1.length kc, leafC p)], rfl, own_lit w.drew (.slice ka p.1.length kc, leafC p), fun b hb => ?_, fun e he => ?_⟩, x1⟩
      · cases hb; simp; omega
      · simp only [List.mem_cons, List.not_mem_nil, or_false] at he
        subst he
        exact Hkd.out.ext ((Touch.refl _ _).alloc _)
    · have kb : ∀ p ∈ ps, KB p.1 := fun p hp => (hpp p hp).1
      obtain ⟨d, hd⟩ := parts hr kb (by omega)
      have hcp := hd.pos
      have hcl := hd.lt
      have hce := (crit_eq hr kb hd).1
      have hll : ps.length - 1 < ps.length := by omega
      obtain ⟨kv, c0, c1, hkv⟩ := h.get 0 _ (List.getElem?_eq_getElem h1)
      obtain ⟨kw, e0, e1, hkw⟩ := h.get (ps.length - 1) _ (List.getElem?_eq_getElem hll)
      have hf0 : firstK ps = ps[0].1 := by unfold firstK; cases ps with | nil => simp at h1 | cons p ps => rfl
      have hf1 : lastK ps = ps[ps.length - 1].1 := by unfold lastK; rw [List.getD_eq_getElem?_getD, List.getElem?_eq_getElem hll]; rfl
      have hp0 := hpp _ (List.getElem_mem h1)
      have hp1 := hpp _ (List.getElem_mem hll)
      have hdi := hd.at_
      rw [hf0, hf1] at hdi
      generalize ps[0] = p at *
      generalize ps[ps.length - 1] = q at *
      obtain ⟨ka, kc, rfl, _⟩ := hkv.shape
      obtain ⟨qa, qc, rfl, _⟩ := hkw.shape
      simp only [Nat.zero_mul, Nat.add_zero] at c0 c1
      have hdf := differ_any w.drew _ _ p.1 q.1 (hkv.ext (Touch.refl _ _).drew) (hkw.ext (Touch.refl _ _).drew) hp0.1 hp1.1 (by omega) (by omega)
      rw [hdi] at hdf
      have hdl : d ≤ 1000000 := by
        rcases Nat.lt_or_ge d 1000000 with h3 | h3
        · omega
        · exfalso
          have hb1 := hd.bit (ps.length - 1)
          have hb2 := bK_far q.1 d (by omega)
          obtain ⟨x, hx⟩ : ∃ x, ps[ps.length - 1]? = some x := ⟨_, List.getElem?_eq_getElem hll⟩
          have hb3 := hb1 x hx
          have hxp := hpp _ (List.mem_of_getElem? hx)
          rw [if_neg (by omega), bK_far x.1 d (by omega)] at hb3
          omega
      have i1 : (0 : Int) < (ps.length : Int) := by omega
      have i7 : 0 < ps.length := by omega
      have i8 : (1 : Int) ≤ (ps.length : Int) := by omega
      have i2 : IntKind.i64.wrap ((ps.length : Int) - 1) = (ps.length : Int) - 1 := by rw [IntKind.wrap_i64]; omega
      have i3 : (0 : Int) ≤ (ps.length : Int) - 1 := by omega
      have i4 : (ps.length : Int) - 1 < (ps.length : Int) := by omega
      have i5 : ((ps.length : Int) - 1).toNat = ps.length - 1 := by omega
      have i6 : ((ps.length : Int) == 1) = false := by simp; omega
      generalize hct : cutK ps d = ct at *
      have ht1 := h.take ct (by omega)
      have ht2 := h.drop ct (by omega)
      have hr1 := rises_take hr ct
      have hr2 := rises_drop hr ct
      rw [hce]
      have H := Lib.hid h
      clear h
      have Hr := Lib.hid hr
      clear hr
      have Hpp := Lib.hid hpp
      clear hpp
      have Ih := Lib.hid ih
      clear ih
      have Hkv := Lib.hid hkv
      clear hkv
      have Hkw := Lib.hid hkw
      clear hkw
      have Hp0 := Lib.hid hp0
      clear hp0
      have Hp1 := Lib.hid hp1
      clear hp1
      have Hdi := Lib.hid hdi
      clear hdi
      have Hdf := Lib.hid hdf
      clear hdf
      have Hf0 := Lib.hid hf0
      clear hf0
      have Hf1 := Lib.hid hf1
      clear hf1
      have Hce := Lib.hid hce
      clear hce
      have Hct := Lib.hid hct
      clear hct
      have Ht1 := Lib.hid ht1
      clear ht1
      have Ht2 := Lib.hid ht2
      clear ht2
      have Hr1 := Lib.hid hr1
      clear hr1
      have Hr2 := Lib.hid hr2
      clear hr2
      have Kb := Lib.hid kb
      clear kb
      go_enter Try.func62, Try.ntmps62
      go_wp2_with (fail)
      refine wp_region_plan (.take 0 (.take 1 (.take 2 (.take 3 (.take 4 (.take 5 (.take 6 (.take 7 (.take 8 (.take 9 (.take 10 (.must 11 (.take 12 .done))))))))))))) (fun wy => wy.cell? ⟨b, off, none⟩ = some (.slice ka p.1.length kc) ∧ wy.cell? ⟨b, off + (ps.length - 1) * 2, none⟩ = some (.slice qa q.1.length qc)) (by kernel_rfl) (by kernel_rfl) (by kernel_rfl) rfl ?_ (fun KK hKK => ?_)
      · exact ⟨c0, e0⟩
      repeat (first
        | (refine wpPlan_take (v := ?_) rfl (by rfl) (fun W hW => ?_) ?_; rotate_left; (focus ((try dsimp only at hW); go_split_ands; go_simp; (try with_reducible rfl); done)); (try simp only [Act.put, List.setIfInBounds_toArray, List.set_cons_zero, List.set_cons_succ]))
        | (refine wpPlan_skip rfl (by rfl) ?_; (try simp only [Act.put, List.setIfInBounds_toArray, List.set_cons_zero, List.set_cons_succ])))
      refine wpPlan_must rfl (by rfl) (fun K hK => ?_)
      go_simp
      (with_reducible refine Hdf.out.mono ?_)
      rintro e w1 ⟨rfl, t1⟩
      have x1 : Ext w w1 := (Touch.refl _ _).drew.trans' t1
      refine hK.out _ _ ?_ ?_
      · exact ⟨keepc t1 id c0, keepc t1 id e0⟩
      clear hK K
      (try simp only [Act.put, List.setIfInBounds_toArray, List.set_cons_zero, List.set_cons_succ])
      repeat (first
        | (refine wpPlan_take (v := ?_) rfl (by rfl) (fun W hW => ?_) ?_; rotate_left; (focus ((try dsimp only at hW); go_split_ands; go_simp; (try with_reducible rfl); done)); (try simp only [Act.put, List.setIfInBounds_toArray, List.set_cons_zero, List.set_cons_succ]))
        | (refine wpPlan_skip rfl (by rfl) ?_; (try simp only [Act.put, List.setIfInBounds_toArray, List.set_cons_zero, List.set_cons_succ])))
      refine wpPlan_done (hKK.out _ _ ?_)
      clear hKK KK
      clear i2
      go_wp2_with (fail)
      go_loopw [4] (fun s4 wr => ∃ j : Nat, j ≤ ct ∧ s4 = .int .i64 j ∧ Ext w wr) (fun s4 _ => ct - (intOf s4).toNat)
      case atStart => exact ⟨0, by omega, rfl, x1⟩
      case round =>
        obtain ⟨j, hj, rfl, ht⟩ := hrel
        have hjl : j < ps.length := by omega
        have hg := List.getElem?_eq_getElem hjl
        obtain ⟨kx, f0, f1, hkx⟩ := (H.out.ext ht).get _ _ hg
        have hbit := hd.bit _ _ hg
        rw [Hct.out] at hbit
        have hpx := Hpp.out _ (List.mem_of_getElem? hg)
        generalize ps[j] = x at *
        obtain ⟨xa, xc, rfl, _⟩ := hkx.shape
        have hb := bit_any wr _ x.1 d hkx hpx.1 (by omega)
        have j0 : (0 : Int) ≤ (j : Int) := by omega
        have j1 : (j : Int) < (ps.length : Int) := by omega
        by_cases hjc : j < ct
        · rw [hbit, if_pos hjc] at hb
          have Hb := Lib.hid hb
          clear hb
          have Hg := Lib.hid hg
          clear hg
          have Hbit := Lib.hid hbit
          clear hbit
          have Hkx := Lib.hid hkx
          clear hkx
          have Hpx := Lib.hid hpx
          clear hpx
          go_wp2_with (fail)
          (with_reducible refine Hb.out.mono ?_)
          rintro e w2 ⟨rfl, rfl⟩
          go_wp2_with (fail)
          go_roundw
          case rel => exact ⟨j + 1, by omega, by go_num, ht⟩
          case measure => simp [intOf]; omega
        · rw [hbit, if_neg hjc] at hb
          obtain rfl : j = ct := by omega
          have Hb := Lib.hid hb
          clear hb
          have Hg := Lib.hid hg
          clear hg
          have Hbit := Lib.hid hbit
          clear hbit
          have Hkx := Lib.hid hkx
          clear hkx
          have Hpx := Lib.hid hpx
          clear hpx
          go_wp2_with (fail)
          (with_reducible refine Hb.out.mono ?_)
          rintro e w2 ⟨rfl, rfl⟩
          go_wp2_with (fail)
          have hol := own_lit wr (.slice none 0 0, innerC d ps.length)
          have ta : Ext wr (wr.alloc (.cells #[.int .i64 2, .int .i64 d, .int .i64 (ps.length : Int), .int .i64 2, .int .u8 0, .bool false, .int .u64 0, .slice none 0 0, .slice none 0 0] 51)) := (Touch.refl _ _).alloc _
          have hsz := ht.size
          have y0 := ht.trans' ta
          have hol : (wr.alloc (.cells #[.int .i64 2, .int .i64 d, .int .i64 (ps.length : Int), .int .i64 2, .int .u8 0, .bool false, .int .u64 0, .slice none 0 0, .slice none 0 0] 51)).ownsRow 0 51 9 (.slice (some ⟨wr.heap.size, 0, none⟩) 1 1) 1 (flatC [((.slice none 0 0 : Value), innerC d ps.length)]) := hol
          have hsa : wr.heap.size < (wr.alloc (.cells #[.int .i64 2, .int .i64 d, .int .i64 (ps.length : Int), .int .i64 2, .int .u8 0, .bool false, .int .u64 0, .slice none 0 0, .slice none 0 0] 51)).heap.size := by simp
          generalize wr.alloc (.cells #[.int .i64 2, .int .i64 d, .int .i64 (ps.length : Int), .int .i64 2, .int .u8 0, .bool false, .int .u64 0, .slice none 0 0, .slice none 0 0] 51) = wa at *
          have k1 : (j : Int) ≤ (ps.length : Int) := by omega
          have k2 : (j : Int) ≤ (c : Int) := by omega
          have k3 : ¬ (c = j) := by omega
          have k4 : (ps.length : Int) ≤ (c : Int) := by omega
          have hlt1 : (ps.take j).length = j := by simp; omega
          have hlt2 : (ps.drop j).length = ps.length - j := by simp
          have hcl1 := crit_length _ (ps.take j) (Nat.le_refl _) Hr1.out (fun p hp => Kb.out p (List.mem_of_mem_take hp))
          have hcl2 := crit_length _ (ps.drop j) (Nat.le_refl _) Hr2.out (fun p hp => Kb.out p (List.mem_of_mem_drop hp))
          rw [hlt1] at hcl1
          rw [hlt2] at hcl2
          have hn1 := fun W (t : Ext w W) => Ih.out W N _ (ps.take j) (by omega) (Ht1.out.ext t) (Nat.le_trans hN t.size) Hr1.out (fun p hp => Hpp.out p (List.mem_of_mem_take hp)) (by omega) (by omega)
          have hn2 := fun W (t : Ext w W) => Ih.out W N _ (ps.drop j) (by omega) (Ht2.out.ext t) (Nat.le_trans hN t.size) Hr2.out (fun p hp => Hpp.out p (List.mem_of_mem_drop hp)) (by omega) (by omega)
          have hg1 : wr.heap.size < wa.heap.size := hsa
          have Hn1 := Lib.hid hn1
          clear hn1
          have Hn2 := Lib.hid hn2
          clear hn2
          have Hlt1 := Lib.hid hlt1
          clear hlt1
          have Hlt2 := Lib.hid hlt2
          clear hlt2
          have Hcl1 := Lib.hid hcl1
          clear hcl1
          have Hcl2 := Lib.hid hcl2
          clear hcl2
          have Y0 := Lib.hid y0
          clear y0
          have Hol := Lib.hid hol
          clear hol
          refine wp_region_plan (.take 0 (.take 1 (.take 2 (.take 3 (.take 6 (.take 7 (.take 8 (.must 4 (.must 5 (.must 9 (.must 10 (.take 11 .done)))))))))))) (fun wy => True) (by kernel_rfl) (by kernel_rfl) (by kernel_rfl) rfl ?_ (fun KK hKK => ?_)
          · trivial
          repeat (first
            | (refine wpPlan_take (v := ?_) rfl (by rfl) (fun W hW => ?_) ?_; rotate_left; (focus ((try dsimp only at hW); go_split_ands; go_simp; (try with_reducible rfl); done)); (try simp only [Act.put, List.setIfInBounds_toArray, List.set_cons_zero, List.set_cons_succ]))
            | (refine wpPlan_skip rfl (by rfl) ?_; (try simp only [Act.put, List.setIfInBounds_toArray, List.set_cons_zero, List.set_cons_succ])))
          refine wpPlan_must rfl (by rfl) (fun K hK => ?_)
          go_simp
          (with_reducible refine (Hn1.out _ Y0.out.drew).mono ?_)
          rintro e w2 ⟨⟨v2, rfl, ho2⟩, t2⟩
          obtain ⟨es2, he2, ow2, hf2, hk2⟩ := ho2
          obtain ⟨a2, c2, rfl⟩ := own_len ow2
          have hl2 : es2.length ≤ 2000000 := by have := congrArg List.length he2; simp only [List.length_map] at this; have h9 := Hcl1.out; omega
          have y2 := Y0.out.drew.trans' t2
          have hol2 := own_keep Hol.out ((Touch.refl _ _).drew.trans' t2) (fun _ _ h => h)
          obtain ⟨hs2, hc2, hn2', _⟩ := own_src ow2
          have hf2' := fun b hb => hf2 b hb
          have Ow2 := Lib.hid ow2
          clear ow2
          have He2 := Lib.hid he2
          clear he2
          have Hf2 := Lib.hid hf2
          clear hf2
          have Hk2 := Lib.hid hk2
          clear hk2
          have Hol2 := Lib.hid hol2
          clear hol2
          have Hs2 := Lib.hid hs2
          clear hs2
          have Hn2' := Lib.hid hn2'
          clear hn2'
          refine hK.out _ _ ?_ ?_
          · trivial
          clear hK K
          (try simp only [Act.put, List.setIfInBounds_toArray, List.set_cons_zero, List.set_cons_succ])
          refine wpPlan_must rfl (by rfl) (fun K hK => ?_)
          refine wp_push_any _ _ _ 48 rfl 51 _ 9 96 Try.underlying48 info_cell rfl (by decide) (.slice (some ⟨wr.heap.size, 0, none⟩) 1 1) 1 (flatC [((.slice none 0 0 : Value), innerC d ps.length)]) rfl Hol2.out a2 es2.length c2 rfl Hn2'.out (flatC es2) hc2 (flatC_length _) Hs2.out (flatC_one _ (ec_one Hk2.out)) (by simp [maxLen]; omega) (by omega) ?_
          intro v3 w3 hown3 ht3 hb3
          have hpush := OC.push (K := fun b => b < N) (v1 := .slice (some ⟨wr.heap.size, 0, none⟩) 1 1) (es1 := [((.slice none 0 0 : Value), innerC d ps.length)]) (fun b hb h => by cases hb; have h9 : wr.heap.size < N := h; omega) (fun e he => by simp only [List.mem_cons, List.not_mem_nil, or_false] at he; subst he; exact RB.nil _ _) Hk2.out (fun b hb => Nat.lt_of_lt_of_le hb (Nat.le_trans hN y2.size)) hown3 ht3 hb3
          rw [He2.out] at hpush
          have y3 : Ext w w3 := y2.ext_new ht3 (fun i hi => by cases hi; exact hsz)
          have hge3 : ∀ b, v3.ownBlock = some b → w.heap.size ≤ b := fun b hb => by
            rcases hb3 with h | h
            · rw [h] at hb; cases hb; exact hsz
            · rw [h] at hb; cases hb; exact y2.size
          obtain ⟨es3, he3, ow3, hf3, hk3⟩ := hpush
          obtain ⟨a3, c3, hv3⟩ := own_len ow3
          subst hv3
          have hl3 : es3.length ≤ 2000001 := by have := congrArg List.length he3; simp only [List.length_map, List.length_append, List.length_cons, List.length_nil] at this; have h9 := Hcl1.out; omega
          clear hown3 ht3 hb3 hf2'
          have Ow3 := Lib.hid ow3
          clear ow3
          have He3 := Lib.hid he3
          clear he3
          have Hf3 := Lib.hid hf3
          clear hf3
          have Hk3 := Lib.hid hk3
          clear hk3
          have Hge3 := Lib.hid hge3
          clear hge3
          refine hK.out _ _ ?_ ?_
          · trivial
          clear hK K
          (try simp only [Act.put, List.setIfInBounds_toArray, List.set_cons_zero, List.set_cons_succ])
          repeat (first
            | (refine wpPlan_take (v := ?_) rfl (by rfl) (fun W hW => ?_) ?_; rotate_left; (focus ((try dsimp only at hW); go_split_ands; go_simp; (try with_reducible rfl); done)); (try simp only [Act.put, List.setIfInBounds_toArray, List.set_cons_zero, List.set_cons_succ]))
            | (refine wpPlan_skip rfl (by rfl) ?_; (try simp only [Act.put, List.setIfInBounds_toArray, List.set_cons_zero, List.set_cons_succ])))
          refine wpPlan_must rfl (by rfl) (fun K hK => ?_)
          go_simp
          (with_reducible refine (Hn2.out _ y3).mono ?_)
          rintro e w4 ⟨⟨v4, rfl, ho4⟩, t4⟩
          obtain ⟨es4, he4, ow4, hf4, hk4⟩ := ho4
          obtain ⟨a4, c4, rfl⟩ := own_len ow4
          have hl4 : es4.length ≤ 2000000 := by have := congrArg List.length he4; simp only [List.length_map] at this; have h9 := Hcl2.out; omega
          have y4 := y3.trans' t4
          have hol4 := own_keep Ow3.out t4 (fun _ _ h => h)
          obtain ⟨hs4, hc4, hn4', _⟩ := own_src ow4
          have hk34 := fun e he => (Hk3.out e he).ext t4
          have Ow4 := Lib.hid ow4
          clear ow4
          have He4 := Lib.hid he4
          clear he4
          have Hf4 := Lib.hid hf4
          clear hf4
          have Hk4 := Lib.hid hk4
          clear hk4
          have Hol4 := Lib.hid hol4
          clear hol4
          have Hs4 := Lib.hid hs4
          clear hs4
          have Hn4' := Lib.hid hn4'
          clear hn4'
          have Hk34 := Lib.hid hk34
          clear hk34
          refine hK.out _ _ ?_ ?_
          · trivial
          clear hK K
          (try simp only [Act.put, List.setIfInBounds_toArray, List.set_cons_zero, List.set_cons_succ])
          refine wpPlan_must rfl (by rfl) (fun K hK => ?_)
          refine wp_push_any _ _ _ 48 rfl 51 _ 9 96 Try.underlying48 info_cell rfl (by decide) (.slice a3 es3.length c3) es3.length (flatC es3) rfl Hol4.out a4 es4.length c4 rfl Hn4'.out (flatC es4) hc4 (flatC_length _) Hs4.out (flatC_one _ (ec_one Hk4.out)) (by simp [maxLen]; omega) (by omega) ?_
          intro v5 w5 hown5 ht5 hb5
          have hpush := OC.push (K := fun b => b < N) (v1 := .slice a3 es3.length c3) Hf3.out Hk34.out Hk4.out (fun b hb => Nat.lt_of_lt_of_le hb (Nat.le_trans hN y4.size)) hown5 ht5 hb5
          rw [He3.out, He4.out] at hpush
          have y5 : Ext w w5 := y4.ext_new ht5 (fun i hi => Hge3.out i hi)
          obtain ⟨a5, c5, rfl⟩ := own_len hown5
          clear hown5 ht5 hb5
          have Hpush := Lib.hid hpush
          clear hpush
          refine hK.out _ _ ?_ ?_
          · trivial
          clear hK K
          (try simp only [Act.put, List.setIfInBounds_toArray, List.set_cons_zero, List.set_cons_succ])
          repeat (first
            | (refine wpPlan_take (v := ?_) rfl (by rfl) (fun W hW => ?_) ?_; rotate_left; (focus ((try dsimp only at hW); go_split_ands; go_simp; (try with_reducible rfl); done)); (try simp only [Act.put, List.setIfInBounds_toArray, List.set_cons_zero, List.set_cons_succ]))
            | (refine wpPlan_skip rfl (by rfl) ?_; (try simp only [Act.put, List.setIfInBounds_toArray, List.set_cons_zero, List.set_cons_succ])))
          refine wpPlan_done (hKK.out _ _ ?_)
          clear hKK KK
          go_wp2_with (fail)
          go_ret
          exact ⟨⟨_, rfl, by have h9 := Hpush.out; simpa using h9⟩, y5⟩

theorem shape_any (w : World) (t : Nat) (ps : Prs) (most : Int) (h : Tp w t F ps most) :
    Calls Try.prog 30 #[.pointer (some ⟨t, 0, none⟩)] w fun e w' => (∃ v', e = .returned v' ∧ RC w' (fun b => b < w'.heap.size) v' (critK ps) ∧ (ps = [] → v' = .slice none 0 0)) ∧ Ext w w' := by
  rcases Nat.eq_zero_or_pos ps.length with h0 | h0
  · obtain rfl := List.eq_nil_of_length_eq_zero h0
    refine (TreeD.shape_none w _ h.tq).mono ?_
    rintro e w' ⟨rfl, t1⟩
    exact ⟨⟨_, rfl, RC.nil _ _, fun _ => rfl⟩, t1⟩
  · have hm := h.few
    have hl := TreeA.len_any w _ ps h.tq
    have hr := h.rises
    have hpp : ∀ p ∈ ps, KB p.1 ∧ p.1.length ≤ 65535 := fun p hp => ⟨h.kb p hp, h.long p hp⟩
    obtain ⟨g, Fm, c0, c1, hmp⟩ := h.map
    have hall := ModF.all_any w _ ps (ModA.Mq.of hmp) hm
    have b0 : ((ps.length : Int) == 0) = false := beq_eq_false_iff_ne.2 (by omega)
    have Hl := Lib.hid hl
    clear hl
    have Hr := Lib.hid hr
    clear hr
    have Hpp := Lib.hid hpp
    clear hpp
    have Hmp := Lib.hid hmp
    clear hmp
    have Hall := Lib.hid hall
    clear hall
    have H := Lib.hid h
    clear h
    go_enter Try.func30, Try.ntmps30
    go_wp2_with (fail)
    (with_reducible refine Hl.out.mono ?_)
    rintro e w1 ⟨rfl, rfl⟩
    go_wp2_with (fail)
    (with_reducible refine Hall.out.mono ?_)
    rintro e w2 ⟨⟨v, rfl, ho⟩, t2⟩
    have hn := node_any ps.length w2 w2.heap.size v ps (Nat.le_refl _) (ho.bound.rp.mono (fun b hb => hb.2)) (Nat.le_refl _) Hr.out Hpp.out h0 hm
    obtain ⟨va, vc, rfl, _⟩ := ho.rp.shape
    have Hn := Lib.hid hn
    clear hn
    have Ho := Lib.hid ho
    clear ho
    go_wp2_with (fail)
    (with_reducible refine Hn.out.mono ?_)
    rintro e w3 ⟨⟨v3, rfl, ho3⟩, t3⟩
    obtain ⟨oa, oc, hv3⟩ := ho3.shape
    have hrc := ho3.rc.mono (fun b hb => Nat.lt_of_lt_of_le hb t3.size)
    subst hv3
    have Hrc := Lib.hid hrc
    clear hrc
    have Ho3 := Lib.hid ho3
    clear ho3
    go_wp2_with (fail)
    go_ret
    exact ⟨⟨_, rfl, Hrc.out, fun h9 => by subst h9; simp at h0⟩, t2.trans' t3⟩
end CritS
end Go.Proofs.Ytmdgmkmddkaadaa
