/- A radix tree's nodes: put, where a node parts. -/
import Derived.Test.YtclnnkacfanaiaaDoorRadB
namespace Go.Proofs.YtclnnkacfanaiaaDoor
open Go.RowKit
set_option linter.unusedVariables false
set_option linter.unusedSimpArgs false
namespace RadC
open MaskA MaskP KidA KidB RadK RadM RadA RadB

/-- a node without children, just made -/
theorem rn_part {w w' W : World} {K : Nat → Prop} {g gk gm : Nat} {k : List Int} {kv : Value} (p : Pd w w' g k gk gm kv) (hW : W.heap.size ≤ w.heap.size) : Rn w' (fun b => K b ∨ (W.heap.size ≤ b ∧ b < w'.heap.size ∧ ¬ (b = g ∨ b = gk ∨ b = gm))) (fun b => b = g ∨ b = gk ∨ b = gm) (pt g) (.node k none 0 RT.none) := by
  refine ⟨g, gk, gm, kv, fun _ => .pointer none, fun _ _ => False, rfl, Or.inl rfl, Or.inr (Or.inl rfl), Or.inr (Or.inr rfl), p.n1, p.n2, p.n3, p.nd, p.rb.mono (fun b hb => Or.inr ⟨by omega, hb.2.1, fun e => ?_⟩), p.kn, ?_, fun i hi => rfl, fun i b h => h.elim, fun i j b h => h.elim⟩
  · obtain ⟨h1, h2, h3, h4, h5⟩ := hb
    rcases e with e | e | e
    · exact h3 e
    · exact h4 e
    · exact h5 e
  · exact p.om
theorem up_zero {n : Nat} (h : n ≤ 4) : upK 0 n = 0 := by
  unfold upK; rw [if_neg]; simp only [roomI]; omega
theorem cnt_first {b : Nat} (hb : b < 256) {T : RT} (hT : T.is = true) : cnt (RT.hsT (RT.upd RT.none b T)) 256 = 1 := by
  have := RT.cnt_upd RT.none hb T
  rw [RT.cnt_none', hT] at this
  simpa [RT.none, RT.is] using this
theorem cnt_second {a b : Nat} (ha : a < 256) (hb : b < 256) (hab : a ≠ b) {T X : RT} (hT : T.is = true) (hX : X.is = true) : cnt (RT.hsT (RT.upd (RT.upd RT.none a T) b X)) 256 = 2 := by
  have := RT.cnt_upd (RT.upd RT.none a T) hb X
  rw [cnt_first ha hT, hX, RT.upd_ne _ _ _ (Ne.symm hab)] at this
  simpa [RT.none, RT.is] using this
/-- the sets where keys lie, at the end -/
theorem kx_part {K F' : Nat → Prop} {w w3 w' : World} {P : Nat → Prop} (h3 : w3.heap.size ≤ w'.heap.size) (hF : ∀ b, F' b → P b ∨ b < w.heap.size ∨ w3.heap.size ≤ b) : ∀ b, (K b ∨ (w.heap.size ≤ b ∧ b < w3.heap.size ∧ ¬ P b)) → Kx K w w' F' b := by
  intro b hb
  rcases hb with hb | ⟨h1, h2, hn⟩
  · exact Or.inl hb
  · refine Or.inr ⟨h1, Nat.lt_of_lt_of_le h2 h3, fun hf => ?_⟩
    rcases hF b hf with h | h | h
    · exact hn h
    · omega
    · omega

theorem head_leaf {w : World} {K F : Nat → Prop} {v : Value} {T : RT} {k : List Int} {y : Int} (h : Rn w K F v T) (e : T = .leaf k y) : ∃ g kv mp, v = pt g ∧ F g ∧ Nd w g kv true y (.pointer none) mp ∧ RB w K kv T.key := by
  subst e
  obtain ⟨g, kv, h1, h2, h3, h4⟩ := h
  exact ⟨g, kv, _, h1, h2, h3, h4⟩
theorem head_node {w : World} {K F : Nat → Prop} {v : Value} {T : RT} {k : List Int} {o : Option Int} {kd : Nat} {f : Nat → RT} (h : Rn w K F v T) (e : T = .node k o kd f) : ∃ g kv full y gk mp, v = pt g ∧ F g ∧ Nd w g kv full y (pt gk) mp ∧ RB w K kv T.key := by
  subst e
  obtain ⟨g, gk, gm, kv, m, G, h1, h2, h3, h4, h5, h6, h7, h8, h9, _⟩ := h
  exact ⟨g, kv, _, _, gk, _, h1, h2, h8, h9⟩
theorem pre_n {n k : List Int} (hn : KB n) {c : Nat} (hc : c = comK n k) (h : c < n.length) : k.take c ++ [((byteAt n c : Nat) : Int)] <+: n := by
  have htk := take_comK n k
  rw [← hc] at htk
  have := pre_byte hn (List.take_prefix c n) (by rw [List.length_take]; omega)
  rw [← htk]
  rwa [List.length_take, Nat.min_eq_left (by omega)] at this
theorem pre_k {k : List Int} (hk : KB k) {c : Nat} (h : c < k.length) : k.take c ++ [((byteAt k c : Nat) : Int)] <+: k := by
  have := pre_byte hk (List.take_prefix c k) (by rw [List.length_take]; omega)
  rwa [List.length_take, Nat.min_eq_left (by omega)] at this
theorem rn_nd {w : World} {K F : Nat → Prop} {g : Nat} {k : List Int} {o : Option Int} {kd : Nat} {f : Nat → RT} (h : Rn w K F (pt g) (.node k o kd f)) : ∃ kv kp mp, Nd w g kv o.isSome (o.getD 0) kp mp := by
  obtain ⟨g', gk, gm, kv, m, G, e1, h2, h3, h4, h5, h6, h7, h8, _⟩ := h
  obtain rfl : g = g' := by simpa using e1
  exact ⟨_, _, _, h8⟩
set_option maxRecDepth 100000 in
set_option maxHeartbeats 3200000 in
theorem joinA_leaf (w : World) (K F : Nat → Prop) (v kw : Value) (T : RT) (q k : List Int) (x : Int) (h : Pre w K F v kw T q k) (hT : T.is = true) (hne : T.key ≠ k) (hTe : ∃ k0 y, T = .leaf k0 y) (hj : RT.manyT T k = RT.moreJ (comK T.key k) T k ∧ RT.putT T k x = RT.join (comK T.key k) T k x) (hcase : k.length = comK T.key k) :
    Calls Tryd.prog 48 #[v, .agg #[kw, .int .u64 x]] w (PutRet w K F T k x) := by
  obtain ⟨k0, y, hTe⟩ := hTe
  obtain ⟨c, hc⟩ : ∃ c, c = comK T.key k := ⟨_, rfl⟩
  rw [← hc] at hcase
  have hcl := comK_le T.key k
  rw [← hc] at hcl
  obtain ⟨ka, kc, rfl, l1, m1, z1⟩ := h.kw.shape
  unfold maxLen at m1
  obtain ⟨wx, hwx⟩ : ∃ wx, wx = w.alloc (.cells #[.slice ka k.length kc, .int .u64 x] 33) := ⟨_, rfl⟩
  have xa : Ext w wx := by rw [hwx]; exact (Touch.refl _ _).alloc _
  have e0 : wx.cell? ⟨w.heap.size, 0, none⟩ = some (.slice ka k.length kc) := by rw [hwx]; simp
  have e1 : wx.cell? ⟨w.heap.size, 1, none⟩ = some (.int .u64 x) := by rw [hwx]; simp
  have hwxs : w.heap.size < wx.heap.size := by rw [hwx]; simp
  obtain ⟨g, kv, mp, rfl, hgF, hnd, hkey⟩ := head_leaf h.rn hTe
  obtain ⟨na, nc, rfl, l2, m2, z2⟩ := hkey.shape
  unfold maxLen at m2
  have hkl := h.kl
  have hk0l : T.key.length ≤ 65535 := h.ok.key_le h.tl
  have hcm := fun W (t : Ext w W) => KeyC.common_any W _ _ T.key k (hkey.ext t) (h.kw.ext t) (by omega) (by omega)
  rw [← hc] at hcm
  have hkT := (h.ok.kpre hT).2
  have hcp := fun W (t : Ext w W) => keyCompare_any W _ _ _ _ T.key k (hkey.ext t) (h.kw.ext t) hkT h.kb
  have hpd := fun W (t : Ext w W) => parted_any W K (.slice ka c kc) (k.take c) (by
    have := (h.kw.ext t).take c (by omega)
    exact this) (by rw [List.length_take]; omega)
  unfold PartRet at hpd
  have hlf := fun W => leaf_any W ka k.length kc x
  unfold LeafRet at hlf
  have c0 := keepc xa id hnd.c0
  have c3 := keepc xa id hnd.c3
  have hgl := hnd.lt
  have hrn := h.rn
  have hcc0 : (0 : Int) ≤ (c : Int) := by omega
  have hcc1 : (c : Int) ≤ (kc : Int) := by omega
  have hcc2 : (c : Int) ≤ (k.length : Int) := by omega
  have hcz : (cmpK T.key k == 0) = false := by rw [beq_eq_false_iff_ne]; exact fun e => hne (cmpK_eq e)
  unfold PutRet
  rw [← hc] at hj
  have hnc : c < T.key.length := by
    rcases Nat.lt_or_ge c T.key.length with h | h
    · exact h
    · exact absurd (RadK.eq_of_com (a := T.key) (b := k) (by omega) (by omega)) hne
  have hpn := pre_n hkT hc hnc
  generalize hnk : T.key.length = nk at *
  have kA : ((k.length : Int) == (c : Int)) = true := by simp; omega
  have kB : ((nk : Int) == (c : Int)) = false := by simp; omega
  have kC : (c : Int) < (nk : Int) := by omega
  have Hcase := Lib.hid hcase
  clear hcase
  have H := Lib.hid h
  clear h
  have HT := Lib.hid hT
  clear hT
  have Hne := Lib.hid hne
  clear hne
  have HTe := Lib.hid hTe
  clear hTe
  have Hc := Lib.hid hc
  clear hc
  have Hcm := Lib.hid hcm
  clear hcm
  have Xa := Lib.hid xa
  clear xa
  have Hcp := Lib.hid hcp
  clear hcp
  have Hpd := Lib.hid hpd
  clear hpd
  have Hlf := Lib.hid hlf
  clear hlf
  have Hrn := Lib.hid hrn
  clear hrn
  have HkT := Lib.hid hkT
  clear hkT
  have HgF := Lib.hid hgF
  clear hgF
  have Hnd := Lib.hid hnd
  clear hnd
  have Hkey := Lib.hid hkey
  clear hkey
  have Hnk := Lib.hid hnk
  clear hnk
  have Hpn := Lib.hid hpn
  clear hpn
  have Hj := Lib.hid hj
  clear hj
  go_enter Tryd.func48, Tryd.ntmps48
  go_wp2_with (fail)
  rw [← hwx]
  clear hwx
  go_wp2_with (fail)
  refine wp_region_plan (.take 0 (.take 1 (.take 2 (.take 3 (.take 4 (.take 5 (.must 6 (.take 7 .done)))))))) (fun W => W.cell? ⟨w.heap.size, 0, none⟩ = some (.slice ka k.length kc) ∧ W.cell? ⟨g, 0, none⟩ = some (.slice na nk nc)) (by kernel_rfl) (by kernel_rfl) (by kernel_rfl) rfl ?_ (fun KK hKK => ?_)
  · exact ⟨e0, c0⟩
  repeat (first
    | (refine wpPlan_take (v := ?_) rfl (by rfl) (fun W hW => ?_) ?_; rotate_left; (focus ((try dsimp only at hW); go_split_ands; go_simp; (try with_reducible rfl); done)); (try simp only [Act.put, List.setIfInBounds_toArray, List.set_cons_zero, List.set_cons_succ]))
    | (refine wpPlan_skip rfl (by rfl) ?_; (try simp only [Act.put, List.setIfInBounds_toArray, List.set_cons_zero, List.set_cons_succ])))
  refine wpPlan_must rfl (by rfl) (fun K hK => ?_)
  go_simp
  (with_reducible refine (Hcm.out _ Xa.out.drew).mono ?_)
  rintro e w2 ⟨rfl, t2⟩
  have x2 : Ext wx w2 := (Touch.refl _ _).drew.trans' t2
  have e0 := keepc x2 id e0
  have e1 := keepc x2 id e1
  have c0 := keepc x2 id c0
  have c3 := keepc x2 id c3
  have y2 := Xa.out.trans' x2
  have X2 := Lib.hid x2
  clear x2
  have Y2 := Lib.hid y2
  clear y2
  refine hK.out _ _ ?_ ?_
  · exact ⟨e0, c0⟩
  clear hK K
  (try simp only [Act.put, List.setIfInBounds_toArray, List.set_cons_zero, List.set_cons_succ])
  repeat (first
    | (refine wpPlan_take (v := ?_) rfl (by rfl) (fun W hW => ?_) ?_; rotate_left; (focus ((try dsimp only at hW); go_split_ands; go_simp; (try with_reducible rfl); done)); (try simp only [Act.put, List.setIfInBounds_toArray, List.set_cons_zero, List.set_cons_succ]))
    | (refine wpPlan_skip rfl (by rfl) ?_; (try simp only [Act.put, List.setIfInBounds_toArray, List.set_cons_zero, List.set_cons_succ])))
  refine wpPlan_done (hKK.out _ _ ?_)
  clear hKK KK
  go_wp2_with (fail)
  refine wp_region_plan (.take 0 (.take 1 (.take 2 (.take 3 (.take 4 (.take 5 (.take 6 (.take 7 (.take 8 (.take 9 (.take 10 (.take 11 (.must 12 (.take 13 (.take 14 (.take 15 .done)))))))))))))))) (fun W => W.cell? ⟨w.heap.size, 0, none⟩ = some (.slice ka k.length kc) ∧ W.cell? ⟨g, 0, none⟩ = some (.slice na nk nc) ∧ W.cell? ⟨g, 3, none⟩ = some (.pointer none)) (by kernel_rfl) (by kernel_rfl) (by kernel_rfl) rfl ?_ (fun KK hKK => ?_)
  · exact ⟨e0, c0, c3⟩
  repeat (first
    | (refine wpPlan_take (v := ?_) rfl (by rfl) (fun W hW => ?_) ?_; rotate_left; (focus ((try dsimp only at hW); go_split_ands; go_simp; (try with_reducible rfl); done)); (try simp only [Act.put, List.setIfInBounds_toArray, List.set_cons_zero, List.set_cons_succ]))
    | (refine wpPlan_skip rfl (by rfl) ?_; (try simp only [Act.put, List.setIfInBounds_toArray, List.set_cons_zero, List.set_cons_succ])))
  refine wpPlan_must rfl (by rfl) (fun K hK => ?_)
  go_simp
  (with_reducible refine (Hcp.out _ Y2.out.drew).mono ?_)
  rintro e w3 ⟨rfl, rfl⟩
  refine hK.out _ _ ?_ ?_
  · exact ⟨e0, c0, c3⟩
  clear hK K
  (try simp only [Act.put, List.setIfInBounds_toArray, List.set_cons_zero, List.set_cons_succ])
  repeat (first
    | (refine wpPlan_take (v := ?_) rfl (by rfl) (fun W hW => ?_) ?_; rotate_left; (focus ((try dsimp only at hW); go_split_ands; go_simp; (try with_reducible rfl); done)); (try simp only [Act.put, List.setIfInBounds_toArray, List.set_cons_zero, List.set_cons_succ]))
    | (refine wpPlan_skip rfl (by rfl) ?_; (try simp only [Act.put, List.setIfInBounds_toArray, List.set_cons_zero, List.set_cons_succ])))
  refine wpPlan_done (hKK.out _ _ ?_)
  clear hKK KK
  go_wp2_with (fail)
  (with_reducible refine (Hpd.out _ Y2.out.drew).mono ?_)
  rintro e w3 ⟨gp, gkp, gmp, kvp, rfl, pd, t3⟩
  have y3 := Y2.out.drew.trans' t3
  have rn0 := rn_part (K := K) (W := w) pd Y2.out.drew.size
  have e0 := keepc t3 id e0
  have e1 := keepc t3 id e1
  have c0 := keepc t3 id c0
  have hs3 := Y2.out.drew.size
  have hgp := pd.lg
  have hgkp := pd.lk
  have hgmp := pd.lm
  have hgp3 := pd.nd.lt
  have hgkp3 := pd.kn.lt
  have hgmp3 := pd.om.lt
  have pnd := pd.nd
  have Pd := Lib.hid pd
  clear pd
  have T3 := Lib.hid t3
  clear t3
  have Y3 := Lib.hid y3
  clear y3
  have Rn0 := Lib.hid rn0
  clear rn0
  have Pnd := Lib.hid pnd
  clear pnd
  go_wp2_with (fail)
  (with_reducible refine (Hlf.out _).mono ?_)
  rintro e w4 ⟨gl, rfl, hnl, hgl4, t4⟩
  have hgl5 := hnl.lt
  have y4 := Y3.out.trans' t4
  have hs4 := t4.size
  have e0 := keepc t4 id e0
  have c0 := keepc t4 id c0
  have l0 := hnl.c0
  have l2 := hnl.c2
  have q1 := keepc t4 id Pnd.out.c1
  have q2 := keepc t4 id Pnd.out.c2
  have q3 := keepf (p := ⟨gp, 1, none⟩) t4 hgp3 id Pnd.out.f1
  have q4 := keepf (p := ⟨gp, 2, none⟩) t4 hgp3 id Pnd.out.f2
  obtain ⟨w5, hw5⟩ : ∃ w5, w5 = w4.alloc (.cells #[pt g, pt gl] 74) := ⟨_, rfl⟩
  have t5 : Ext w4 w5 := by rw [hw5]; exact (Touch.refl _ _).alloc _
  have a0 : w5.cell? ⟨w4.heap.size, 0, none⟩ = some (pt g) := by rw [hw5]; simp
  have a1 : w5.cell? ⟨w4.heap.size, 1, none⟩ = some (pt gl) := by rw [hw5]; simp
  have hs5 : w5.heap.size = w4.heap.size + 1 := by rw [hw5]; simp
  have Hnl := Lib.hid hnl
  clear hnl
  have T4 := Lib.hid t4
  clear t4
  have Y4 := Lib.hid y4
  clear y4
  go_wp2_with (fail)
  rw [← hw5]
  clear hw5
  obtain ⟨F0, hF0⟩ : ∃ F0, F0 = fun b => b = gp ∨ b = gkp ∨ b = gmp := ⟨_, rfl⟩
  have hF0i : ∀ b, F0 b → w.heap.size ≤ b ∧ b < w3.heap.size := by
    rw [hF0]
    intro b hb
    rcases hb with rfl | rfl | rfl <;> omega
  have hFgp : F0 gp := by rw [hF0]; exact Or.inl rfl
  obtain ⟨K1, hK1⟩ : ∃ K1, K1 = fun b => K b ∨ (w.heap.size ≤ b ∧ b < w3.heap.size ∧ ¬ F0 b) := ⟨_, rfl⟩
  have rn0 : Rn w5 K1 F0 (pt gp) (.node (k.take c) none 0 RT.none) := by rw [hK1, hF0]; exact (Rn0.out.ext T4.out).ext t5
  have y5 := Y4.out.trans' t5
  have hxT : Rn w5 K1 F (pt g) T := (Hrn.out.ext y5).keys (by rw [hK1]; exact fun b hb => Or.inl hb)
  have hKF0 : ∀ b, K1 b → ¬ F0 b := by
    rw [hK1]
    rintro b (hb | hb) hf
    · have := H.out.kz b hb; have := (hF0i b hf).1; omega
    · exact hb.2.2 hf
  have hF0F : ∀ b, F0 b → ¬ F b := fun b hb hf => by have := H.out.fl b hf; have := (hF0i b hb).1; omega
  have hKFF : ∀ b, K1 b → ¬ (F0 b ∨ F b) := by
    intro b hb hf
    rcases hf with hf | hf
    · exact hKF0 b hb hf
    · rw [hK1] at hb
      rcases hb with hb | hb
      · exact H.out.kf b hb hf
      · have := H.out.fl b hf; omega
  have hrb0 : ¬ F0 1 := fun hb => by have := (hF0i _ hb).1; have := World.block_lt_of_cell? _ _ H.out.tr.r0; simp only at this; omega
  have htr5 := H.out.tr.ext y5
  have hbk := byteAt_lt H.out.kb c
  have hbn := byteAt_lt HkT.out c
  have hlx : Rn w5 K1 (fun b => b = gl) (pt gl) (.leaf k x) := by
    refine ⟨gl, _, rfl, rfl, Hnl.out.ext t5, (H.out.kw.ext y5).mono ?_⟩
    rw [hK1]; exact fun b hb => Or.inl hb
  have a0' := a0
  have l0 := keepc t5 id l0
  have l2 := keepc t5 id l2
  have q1 := keepc t5 id q1
  have q2 := keepc t5 id q2
  have q3 := keepf (p := ⟨gp, 1, none⟩) t5 (show gp < w4.heap.size by omega) id q3
  have q4 := keepf (p := ⟨gp, 2, none⟩) t5 (show gp < w4.heap.size by omega) id q4
  have c0 := keepc t5 id c0
  have nl0 : ¬ F0 gl := fun hb => by have := (hF0i _ hb).2; omega
  have nl1 : ¬ F0 w4.heap.size := fun hb => by have := (hF0i _ hb).2; omega
  have t05 : ∀ W, Touch F0 w5 W → Touch F w W := fun W t => y5.none_to.trans t (fun i hi hlt => by have := (hF0i i hi).1; omega)
  have kx1 : ∀ W F', w3.heap.size ≤ W.heap.size → (∀ b, F' b → F0 b ∨ b < w.heap.size ∨ w3.heap.size ≤ b) → ∀ b, K1 b → Kx K w W F' b := fun W F' h1 h2 => by rw [hK1]; exact kx_part h1 h2
  have T05 := Lib.hid t05
  clear t05
  have Kx1 := Lib.hid kx1
  clear kx1
  have HKFF := Lib.hid hKFF
  clear hKFF
  have HF0 := Lib.hid hF0
  clear hF0
  have HF0i := Lib.hid hF0i
  clear hF0i
  have HFgp := Lib.hid hFgp
  clear hFgp
  have HK1 := Lib.hid hK1
  clear hK1
  have Rn0 := Lib.hid rn0
  clear rn0
  have Y5 := Lib.hid y5
  clear y5
  have HxT := Lib.hid hxT
  clear hxT
  have HKF0 := Lib.hid hKF0
  clear hKF0
  have HF0F := Lib.hid hF0F
  clear hF0F
  have Hrb0 := Lib.hid hrb0
  clear hrb0
  have Htr5 := Lib.hid htr5
  clear htr5
  have Hbk := Lib.hid hbk
  clear hbk
  have Hbn := Lib.hid hbn
  clear hbn
  have Hlx := Lib.hid hlx
  clear hlx
  have Nl0 := Lib.hid nl0
  clear nl0
  have Nl1 := Lib.hid nl1
  clear nl1
  have T5 := Lib.hid t5
  clear t5
  have hadd := add_any w5 K1 F0 F gp (pt g) (k.take c) none 0 RT.none T (byteAt T.key c) Rn0.out HxT.out HT.out Hbn.out Hpn.out rfl HF0F.out HKF0.out (by omega) Htr5.out Hrb0.out (by rw [Hnk.out]; exact hk0l)
  unfold AddRet at hadd
  rw [cnt_first Hbn.out HT.out, up_zero (by omega)] at hadd
  have Hadd := Lib.hid hadd
  clear hadd
  refine wp_loop_rounds 3 ?_
  rw [rounds_succ]
  go_wp2_with (fail)
  (with_reducible refine Hadd.out.mono ?_)
  rintro e w6 ⟨rfl, rn1, t6⟩
  have a1 := keepc t6 Nl1.out a1
  have l0 := keepc t6 Nl0.out l0
  have l2 := keepc t6 Nl0.out l2
  obtain ⟨_, _, _, nd1⟩ := rn_nd rn1
  clear q1 q2 q3 q4
  have q1 := nd1.c1
  have q2 := nd1.c2
  have q3 := nd1.f1
  have q4 := nd1.f2
  clear nd1
  have Rn1 := Lib.hid rn1
  clear rn1
  have T6 := Lib.hid t6
  clear t6
  go_wp2_with (fail)
  rw [rounds_succ]
  go_wp2_with (fail)
  rw [rounds_succ]
  go_wp2_with (fail)
  refine bodyPost_ret (v := .tuple #[pt gp, .int .i64 1]) (by simp [results, Tryd.results48, go_sem]) rfl ?_
  have tt : Touch (fun i => i = gp) w6 ((w6.setCell ⟨gp, 1, none⟩ (.bool true)).setCell ⟨gp, 2, none⟩ (.int .u64 x)) := Touch.setCell (S := fun i => i = gp) (Touch.setCell (S := fun i => i = gp) (Touch.refl _ _) (p := ⟨gp, 1, none⟩) (Or.inl rfl) _) (p := ⟨gp, 2, none⟩) (Or.inl rfl) _
  have hr := rn_own (some x) Rn1.out HKFF.out tt (fun kv kp mp h => (h.set1 true).set2 x)
  have e1 : RT.moreJ c T k = 1 := by unfold RT.moreJ; rw [if_pos (Or.inl Hcase.out)]
  have e2 : RT.join c T k x = .node (k.take c) (some x) 0 (RT.upd RT.none (byteAt T.key c) T) := by unfold RT.join RT.joinO RT.joinF; rw [if_pos Hcase.out, if_pos Hcase.out]
  rw [Hj.out.1, Hj.out.2, e1, e2]
  have t60 := T6.out.trans' (tt.mono (fun i hi _ => hi ▸ HFgp.out))
  have tF := T05.out _ t60
  have hsz := t60.size
  refine ⟨_, fun b => F0 b ∨ F b, rfl, hr.keys (Kx1.out _ _ (by omega) (fun b hb => hb.elim Or.inl (fun hb => Or.inr (Or.inl (H.out.fl b hb))))), tF, fun b hb => ?_⟩
  rcases hb with hb | hb
  · have := HF0i.out b hb; exact ⟨Or.inr this.1, by omega⟩
  · exact ⟨Or.inl hb, Nat.lt_of_lt_of_le (H.out.fl b hb) tF.size⟩
set_option maxRecDepth 100000 in
set_option maxHeartbeats 3200000 in
theorem joinA_node (w : World) (K F : Nat → Prop) (v kw : Value) (T : RT) (q k : List Int) (x : Int) (h : Pre w K F v kw T q k) (hT : T.is = true) (hne : T.key ≠ k) (hTe : ∃ k0 o kd f, T = .node k0 o kd f) (hj : RT.manyT T k = RT.moreJ (comK T.key k) T k ∧ RT.putT T k x = RT.join (comK T.key k) T k x) (hcase : k.length = comK T.key k) :
    Calls Tryd.prog 48 #[v, .agg #[kw, .int .u64 x]] w (PutRet w K F T k x) := by
  obtain ⟨k0, o, kd, f, hTe⟩ := hTe
  obtain ⟨c, hc⟩ : ∃ c, c = comK T.key k := ⟨_, rfl⟩
  rw [← hc] at hcase
  have hcl := comK_le T.key k
  rw [← hc] at hcl
  obtain ⟨ka, kc, rfl, l1, m1, z1⟩ := h.kw.shape
  unfold maxLen at m1
  obtain ⟨wx, hwx⟩ : ∃ wx, wx = w.alloc (.cells #[.slice ka k.length kc, .int .u64 x] 33) := ⟨_, rfl⟩
  have xa : Ext w wx := by rw [hwx]; exact (Touch.refl _ _).alloc _
  have e0 : wx.cell? ⟨w.heap.size, 0, none⟩ = some (.slice ka k.length kc) := by rw [hwx]; simp
  have e1 : wx.cell? ⟨w.heap.size, 1, none⟩ = some (.int .u64 x) := by rw [hwx]; simp
  have hwxs : w.heap.size < wx.heap.size := by rw [hwx]; simp
  obtain ⟨g, kv, full, y, gk, mp, rfl, hgF, hnd, hkey⟩ := head_node h.rn hTe
  obtain ⟨na, nc, rfl, l2, m2, z2⟩ := hkey.shape
  unfold maxLen at m2
  have hkl := h.kl
  have hk0l : T.key.length ≤ 65535 := h.ok.key_le h.tl
  have hcm := fun W (t : Ext w W) => KeyC.common_any W _ _ T.key k (hkey.ext t) (h.kw.ext t) (by omega) (by omega)
  rw [← hc] at hcm
  have hkT := (h.ok.kpre hT).2
  have hcp := fun W (t : Ext w W) => keyCompare_any W _ _ _ _ T.key k (hkey.ext t) (h.kw.ext t) hkT h.kb
  have hpd := fun W (t : Ext w W) => parted_any W K (.slice ka c kc) (k.take c) (by
    have := (h.kw.ext t).take c (by omega)
    exact this) (by rw [List.length_take]; omega)
  unfold PartRet at hpd
  have hlf := fun W => leaf_any W ka k.length kc x
  unfold LeafRet at hlf
  have c0 := keepc xa id hnd.c0
  have c3 := keepc xa id hnd.c3
  have hgl := hnd.lt
  have hrn := h.rn
  have hcc0 : (0 : Int) ≤ (c : Int) := by omega
  have hcc1 : (c : Int) ≤ (kc : Int) := by omega
  have hcc2 : (c : Int) ≤ (k.length : Int) := by omega
  have hcz : (cmpK T.key k == 0) = false := by rw [beq_eq_false_iff_ne]; exact fun e => hne (cmpK_eq e)
  unfold PutRet
  rw [← hc] at hj
  have hnc : c < T.key.length := by
    rcases Nat.lt_or_ge c T.key.length with h | h
    · exact h
    · exact absurd (RadK.eq_of_com (a := T.key) (b := k) (by omega) (by omega)) hne
  have hpn := pre_n hkT hc hnc
  generalize hnk : T.key.length = nk at *
  have kA : ((k.length : Int) == (c : Int)) = true := by simp; omega
  have kB : ((nk : Int) == (c : Int)) = false := by simp; omega
  have kC : (c : Int) < (nk : Int) := by omega
  have Hcase := Lib.hid hcase
  clear hcase
  have H := Lib.hid h
  clear h
  have HT := Lib.hid hT
  clear hT
  have Hne := Lib.hid hne
  clear hne
  have HTe := Lib.hid hTe
  clear hTe
  have Hc := Lib.hid hc
  clear hc
  have Hcm := Lib.hid hcm
  clear hcm
  have Xa := Lib.hid xa
  clear xa
  have Hcp := Lib.hid hcp
  clear hcp
  have Hpd := Lib.hid hpd
  clear hpd
  have Hlf := Lib.hid hlf
  clear hlf
  have Hrn := Lib.hid hrn
  clear hrn
  have HkT := Lib.hid hkT
  clear hkT
  have HgF := Lib.hid hgF
  clear hgF
  have Hnd := Lib.hid hnd
  clear hnd
  have Hkey := Lib.hid hkey
  clear hkey
  have Hnk := Lib.hid hnk
  clear hnk
  have Hpn := Lib.hid hpn
  clear hpn
  have Hj := Lib.hid hj
  clear hj
  go_enter Tryd.func48, Tryd.ntmps48
  go_wp2_with (fail)
  rw [← hwx]
  clear hwx
  go_wp2_with (fail)
  refine wp_region_plan (.take 0 (.take 1 (.take 2 (.take 3 (.take 4 (.take 5 (.must 6 (.take 7 .done)))))))) (fun W => W.cell? ⟨w.heap.size, 0, none⟩ = some (.slice ka k.length kc) ∧ W.cell? ⟨g, 0, none⟩ = some (.slice na nk nc)) (by kernel_rfl) (by kernel_rfl) (by kernel_rfl) rfl ?_ (fun KK hKK => ?_)
  · exact ⟨e0, c0⟩
  repeat (first
    | (refine wpPlan_take (v := ?_) rfl (by rfl) (fun W hW => ?_) ?_; rotate_left; (focus ((try dsimp only at hW); go_split_ands; go_simp; (try with_reducible rfl); done)); (try simp only [Act.put, List.setIfInBounds_toArray, List.set_cons_zero, List.set_cons_succ]))
    | (refine wpPlan_skip rfl (by rfl) ?_; (try simp only [Act.put, List.setIfInBounds_toArray, List.set_cons_zero, List.set_cons_succ])))
  refine wpPlan_must rfl (by rfl) (fun K hK => ?_)
  go_simp
  (with_reducible refine (Hcm.out _ Xa.out.drew).mono ?_)
  rintro e w2 ⟨rfl, t2⟩
  have x2 : Ext wx w2 := (Touch.refl _ _).drew.trans' t2
  have e0 := keepc x2 id e0
  have e1 := keepc x2 id e1
  have c0 := keepc x2 id c0
  have c3 := keepc x2 id c3
  have y2 := Xa.out.trans' x2
  have X2 := Lib.hid x2
  clear x2
  have Y2 := Lib.hid y2
  clear y2
  refine hK.out _ _ ?_ ?_
  · exact ⟨e0, c0⟩
  clear hK K
  (try simp only [Act.put, List.setIfInBounds_toArray, List.set_cons_zero, List.set_cons_succ])
  repeat (first
    | (refine wpPlan_take (v := ?_) rfl (by rfl) (fun W hW => ?_) ?_; rotate_left; (focus ((try dsimp only at hW); go_split_ands; go_simp; (try with_reducible rfl); done)); (try simp only [Act.put, List.setIfInBounds_toArray, List.set_cons_zero, List.set_cons_succ]))
    | (refine wpPlan_skip rfl (by rfl) ?_; (try simp only [Act.put, List.setIfInBounds_toArray, List.set_cons_zero, List.set_cons_succ])))
  refine wpPlan_done (hKK.out _ _ ?_)
  clear hKK KK
  go_wp2_with (fail)
  refine wp_region_plan (.take 0 (.take 1 (.take 2 (.take 3 (.take 4 (.take 5 (.take 6 (.take 7 (.take 8 (.take 9 (.take 10 (.take 11 (.take 12 (.take 13 (.take 14 (.take 15 .done)))))))))))))))) (fun W => W.cell? ⟨w.heap.size, 0, none⟩ = some (.slice ka k.length kc) ∧ W.cell? ⟨g, 0, none⟩ = some (.slice na nk nc) ∧ W.cell? ⟨g, 3, none⟩ = some (pt gk)) (by kernel_rfl) (by kernel_rfl) (by kernel_rfl) rfl ?_ (fun KK hKK => ?_)
  · exact ⟨e0, c0, c3⟩
  repeat (first
    | (refine wpPlan_take (v := ?_) rfl (by rfl) (fun W hW => ?_) ?_; rotate_left; (focus ((try dsimp only at hW); go_split_ands; go_simp; (try with_reducible rfl); done)); (try simp only [Act.put, List.setIfInBounds_toArray, List.set_cons_zero, List.set_cons_succ]))
    | (refine wpPlan_skip rfl (by rfl) ?_; (try simp only [Act.put, List.setIfInBounds_toArray, List.set_cons_zero, List.set_cons_succ])))
  refine wpPlan_done (hKK.out _ _ ?_)
  clear hKK KK
  go_wp2_with (fail)
  (with_reducible refine (Hpd.out _ Y2.out.drew).mono ?_)
  rintro e w3 ⟨gp, gkp, gmp, kvp, rfl, pd, t3⟩
  have y3 := Y2.out.drew.trans' t3
  have rn0 := rn_part (K := K) (W := w) pd Y2.out.drew.size
  have e0 := keepc t3 id e0
  have e1 := keepc t3 id e1
  have c0 := keepc t3 id c0
  have hs3 := Y2.out.drew.size
  have hgp := pd.lg
  have hgkp := pd.lk
  have hgmp := pd.lm
  have hgp3 := pd.nd.lt
  have hgkp3 := pd.kn.lt
  have hgmp3 := pd.om.lt
  have pnd := pd.nd
  have Pd := Lib.hid pd
  clear pd
  have T3 := Lib.hid t3
  clear t3
  have Y3 := Lib.hid y3
  clear y3
  have Rn0 := Lib.hid rn0
  clear rn0
  have Pnd := Lib.hid pnd
  clear pnd
  go_wp2_with (fail)
  (with_reducible refine (Hlf.out _).mono ?_)
  rintro e w4 ⟨gl, rfl, hnl, hgl4, t4⟩
  have hgl5 := hnl.lt
  have y4 := Y3.out.trans' t4
  have hs4 := t4.size
  have e0 := keepc t4 id e0
  have c0 := keepc t4 id c0
  have l0 := hnl.c0
  have l2 := hnl.c2
  have q1 := keepc t4 id Pnd.out.c1
  have q2 := keepc t4 id Pnd.out.c2
  have q3 := keepf (p := ⟨gp, 1, none⟩) t4 hgp3 id Pnd.out.f1
  have q4 := keepf (p := ⟨gp, 2, none⟩) t4 hgp3 id Pnd.out.f2
  obtain ⟨w5, hw5⟩ : ∃ w5, w5 = w4.alloc (.cells #[pt g, pt gl] 74) := ⟨_, rfl⟩
  have t5 : Ext w4 w5 := by rw [hw5]; exact (Touch.refl _ _).alloc _
  have a0 : w5.cell? ⟨w4.heap.size, 0, none⟩ = some (pt g) := by rw [hw5]; simp
  have a1 : w5.cell? ⟨w4.heap.size, 1, none⟩ = some (pt gl) := by rw [hw5]; simp
  have hs5 : w5.heap.size = w4.heap.size + 1 := by rw [hw5]; simp
  have Hnl := Lib.hid hnl
  clear hnl
  have T4 := Lib.hid t4
  clear t4
  have Y4 := Lib.hid y4
  clear y4
  go_wp2_with (fail)
  rw [← hw5]
  clear hw5
  obtain ⟨F0, hF0⟩ : ∃ F0, F0 = fun b => b = gp ∨ b = gkp ∨ b = gmp := ⟨_, rfl⟩
  have hF0i : ∀ b, F0 b → w.heap.size ≤ b ∧ b < w3.heap.size := by
    rw [hF0]
    intro b hb
    rcases hb with rfl | rfl | rfl <;> omega
  have hFgp : F0 gp := by rw [hF0]; exact Or.inl rfl
  obtain ⟨K1, hK1⟩ : ∃ K1, K1 = fun b => K b ∨ (w.heap.size ≤ b ∧ b < w3.heap.size ∧ ¬ F0 b) := ⟨_, rfl⟩
  have rn0 : Rn w5 K1 F0 (pt gp) (.node (k.take c) none 0 RT.none) := by rw [hK1, hF0]; exact (Rn0.out.ext T4.out).ext t5
  have y5 := Y4.out.trans' t5
  have hxT : Rn w5 K1 F (pt g) T := (Hrn.out.ext y5).keys (by rw [hK1]; exact fun b hb => Or.inl hb)
  have hKF0 : ∀ b, K1 b → ¬ F0 b := by
    rw [hK1]
    rintro b (hb | hb) hf
    · have := H.out.kz b hb; have := (hF0i b hf).1; omega
    · exact hb.2.2 hf
  have hF0F : ∀ b, F0 b → ¬ F b := fun b hb hf => by have := H.out.fl b hf; have := (hF0i b hb).1; omega
  have hKFF : ∀ b, K1 b → ¬ (F0 b ∨ F b) := by
    intro b hb hf
    rcases hf with hf | hf
    · exact hKF0 b hb hf
    · rw [hK1] at hb
      rcases hb with hb | hb
      · exact H.out.kf b hb hf
      · have := H.out.fl b hf; omega
  have hrb0 : ¬ F0 1 := fun hb => by have := (hF0i _ hb).1; have := World.block_lt_of_cell? _ _ H.out.tr.r0; simp only at this; omega
  have htr5 := H.out.tr.ext y5
  have hbk := byteAt_lt H.out.kb c
  have hbn := byteAt_lt HkT.out c
  have hlx : Rn w5 K1 (fun b => b = gl) (pt gl) (.leaf k x) := by
    refine ⟨gl, _, rfl, rfl, Hnl.out.ext t5, (H.out.kw.ext y5).mono ?_⟩
    rw [hK1]; exact fun b hb => Or.inl hb
  have a0' := a0
  have l0 := keepc t5 id l0
  have l2 := keepc t5 id l2
  have q1 := keepc t5 id q1
  have q2 := keepc t5 id q2
  have q3 := keepf (p := ⟨gp, 1, none⟩) t5 (show gp < w4.heap.size by omega) id q3
  have q4 := keepf (p := ⟨gp, 2, none⟩) t5 (show gp < w4.heap.size by omega) id q4
  have c0 := keepc t5 id c0
  have nl0 : ¬ F0 gl := fun hb => by have := (hF0i _ hb).2; omega
  have nl1 : ¬ F0 w4.heap.size := fun hb => by have := (hF0i _ hb).2; omega
  have t05 : ∀ W, Touch F0 w5 W → Touch F w W := fun W t => y5.none_to.trans t (fun i hi hlt => by have := (hF0i i hi).1; omega)
  have kx1 : ∀ W F', w3.heap.size ≤ W.heap.size → (∀ b, F' b → F0 b ∨ b < w.heap.size ∨ w3.heap.size ≤ b) → ∀ b, K1 b → Kx K w W F' b := fun W F' h1 h2 => by rw [hK1]; exact kx_part h1 h2
  have T05 := Lib.hid t05
  clear t05
  have Kx1 := Lib.hid kx1
  clear kx1
  have HKFF := Lib.hid hKFF
  clear hKFF
  have HF0 := Lib.hid hF0
  clear hF0
  have HF0i := Lib.hid hF0i
  clear hF0i
  have HFgp := Lib.hid hFgp
  clear hFgp
  have HK1 := Lib.hid hK1
  clear hK1
  have Rn0 := Lib.hid rn0
  clear rn0
  have Y5 := Lib.hid y5
  clear y5
  have HxT := Lib.hid hxT
  clear hxT
  have HKF0 := Lib.hid hKF0
  clear hKF0
  have HF0F := Lib.hid hF0F
  clear hF0F
  have Hrb0 := Lib.hid hrb0
  clear hrb0
  have Htr5 := Lib.hid htr5
  clear htr5
  have Hbk := Lib.hid hbk
  clear hbk
  have Hbn := Lib.hid hbn
  clear hbn
  have Hlx := Lib.hid hlx
  clear hlx
  have Nl0 := Lib.hid nl0
  clear nl0
  have Nl1 := Lib.hid nl1
  clear nl1
  have T5 := Lib.hid t5
  clear t5
  have hadd := add_any w5 K1 F0 F gp (pt g) (k.take c) none 0 RT.none T (byteAt T.key c) Rn0.out HxT.out HT.out Hbn.out Hpn.out rfl HF0F.out HKF0.out (by omega) Htr5.out Hrb0.out (by rw [Hnk.out]; exact hk0l)
  unfold AddRet at hadd
  rw [cnt_first Hbn.out HT.out, up_zero (by omega)] at hadd
  have Hadd := Lib.hid hadd
  clear hadd
  refine wp_loop_rounds 3 ?_
  rw [rounds_succ]
  go_wp2_with (fail)
  (with_reducible refine Hadd.out.mono ?_)
  rintro e w6 ⟨rfl, rn1, t6⟩
  have a1 := keepc t6 Nl1.out a1
  have l0 := keepc t6 Nl0.out l0
  have l2 := keepc t6 Nl0.out l2
  obtain ⟨_, _, _, nd1⟩ := rn_nd rn1
  clear q1 q2 q3 q4
  have q1 := nd1.c1
  have q2 := nd1.c2
  have q3 := nd1.f1
  have q4 := nd1.f2
  clear nd1
  have Rn1 := Lib.hid rn1
  clear rn1
  have T6 := Lib.hid t6
  clear t6
  go_wp2_with (fail)
  rw [rounds_succ]
  go_wp2_with (fail)
  rw [rounds_succ]
  go_wp2_with (fail)
  refine bodyPost_ret (v := .tuple #[pt gp, .int .i64 1]) (by simp [results, Tryd.results48, go_sem]) rfl ?_
  have tt : Touch (fun i => i = gp) w6 ((w6.setCell ⟨gp, 1, none⟩ (.bool true)).setCell ⟨gp, 2, none⟩ (.int .u64 x)) := Touch.setCell (S := fun i => i = gp) (Touch.setCell (S := fun i => i = gp) (Touch.refl _ _) (p := ⟨gp, 1, none⟩) (Or.inl rfl) _) (p := ⟨gp, 2, none⟩) (Or.inl rfl) _
  have hr := rn_own (some x) Rn1.out HKFF.out tt (fun kv kp mp h => (h.set1 true).set2 x)
  have e1 : RT.moreJ c T k = 1 := by unfold RT.moreJ; rw [if_pos (Or.inl Hcase.out)]
  have e2 : RT.join c T k x = .node (k.take c) (some x) 0 (RT.upd RT.none (byteAt T.key c) T) := by unfold RT.join RT.joinO RT.joinF; rw [if_pos Hcase.out, if_pos Hcase.out]
  rw [Hj.out.1, Hj.out.2, e1, e2]
  have t60 := T6.out.trans' (tt.mono (fun i hi _ => hi ▸ HFgp.out))
  have tF := T05.out _ t60
  have hsz := t60.size
  refine ⟨_, fun b => F0 b ∨ F b, rfl, hr.keys (Kx1.out _ _ (by omega) (fun b hb => hb.elim Or.inl (fun hb => Or.inr (Or.inl (H.out.fl b hb))))), tF, fun b hb => ?_⟩
  rcases hb with hb | hb
  · have := HF0i.out b hb; exact ⟨Or.inr this.1, by omega⟩
  · exact ⟨Or.inl hb, Nat.lt_of_lt_of_le (H.out.fl b hb) tF.size⟩

set_option maxRecDepth 100000 in
set_option maxHeartbeats 3200000 in
theorem joinB (w : World) (K F : Nat → Prop) (v kw : Value) (T : RT) (q k k0 : List Int) (x y : Int) (h : Pre w K F v kw T q k) (hT : T.is = true) (hne : T.key ≠ k) (hTe : T = .leaf k0 y) (hj : RT.manyT T k = RT.moreJ (comK T.key k) T k ∧ RT.putT T k x = RT.join (comK T.key k) T k x) (hcase : T.key.length = comK T.key k) (hcase2 : comK T.key k < k.length) :
    Calls Tryd.prog 48 #[v, .agg #[kw, .int .u64 x]] w (PutRet w K F T k x) := by
  obtain ⟨c, hc⟩ : ∃ c, c = comK T.key k := ⟨_, rfl⟩
  rw [← hc] at hcase
  have hcl := comK_le T.key k
  rw [← hc] at hcl
  obtain ⟨ka, kc, rfl, l1, m1, z1⟩ := h.kw.shape
  unfold maxLen at m1
  obtain ⟨wx, hwx⟩ : ∃ wx, wx = w.alloc (.cells #[.slice ka k.length kc, .int .u64 x] 33) := ⟨_, rfl⟩
  have xa : Ext w wx := by rw [hwx]; exact (Touch.refl _ _).alloc _
  have e0 : wx.cell? ⟨w.heap.size, 0, none⟩ = some (.slice ka k.length kc) := by rw [hwx]; simp
  have e1 : wx.cell? ⟨w.heap.size, 1, none⟩ = some (.int .u64 x) := by rw [hwx]; simp
  have hwxs : w.heap.size < wx.heap.size := by rw [hwx]; simp
  obtain ⟨g, kv, mp, rfl, hgF, hnd, hkey⟩ := head_leaf h.rn hTe
  obtain ⟨na, nc, rfl, l2, m2, z2⟩ := hkey.shape
  unfold maxLen at m2
  have hkl := h.kl
  have hk0l : T.key.length ≤ 65535 := h.ok.key_le h.tl
  have hcm := fun W (t : Ext w W) => KeyC.common_any W _ _ T.key k (hkey.ext t) (h.kw.ext t) (by omega) (by omega)
  rw [← hc] at hcm
  have hkT := (h.ok.kpre hT).2
  have hcp := fun W (t : Ext w W) => keyCompare_any W _ _ _ _ T.key k (hkey.ext t) (h.kw.ext t) hkT h.kb
  have hpd := fun W (t : Ext w W) => parted_any W K (.slice ka c kc) (k.take c) (by
    have := (h.kw.ext t).take c (by omega)
    exact this) (by rw [List.length_take]; omega)
  unfold PartRet at hpd
  have hlf := fun W => leaf_any W ka k.length kc x
  unfold LeafRet at hlf
  have c0 := keepc xa id hnd.c0
  have c3 := keepc xa id hnd.c3
  have hgl := hnd.lt
  have hrn := h.rn
  have hcc0 : (0 : Int) ≤ (c : Int) := by omega
  have hcc1 : (c : Int) ≤ (kc : Int) := by omega
  have hcc2 : (c : Int) ≤ (k.length : Int) := by omega
  have hcz : (cmpK T.key k == 0) = false := by rw [beq_eq_false_iff_ne]; exact fun e => hne (cmpK_eq e)
  unfold PutRet
  rw [← hc] at hj hcase2
  have hpk := pre_k h.kb hcase2
  have hpl : (k.take c).length = c := by rw [List.length_take]; omega
  have cy := keepc xa id hnd.c2
  generalize hnk : T.key.length = nk at *
  have kA : ((k.length : Int) == (c : Int)) = false := by simp; omega
  have kB : ((nk : Int) == (c : Int)) = true := by simp; omega
  have Hcase := Lib.hid hcase
  clear hcase
  have H := Lib.hid h
  clear h
  have HT := Lib.hid hT
  clear hT
  have Hne := Lib.hid hne
  clear hne
  have HTe := Lib.hid hTe
  clear hTe
  have Hc := Lib.hid hc
  clear hc
  have Hcm := Lib.hid hcm
  clear hcm
  have Xa := Lib.hid xa
  clear xa
  have Hcp := Lib.hid hcp
  clear hcp
  have Hpd := Lib.hid hpd
  clear hpd
  have Hlf := Lib.hid hlf
  clear hlf
  have Hrn := Lib.hid hrn
  clear hrn
  have HkT := Lib.hid hkT
  clear hkT
  have HgF := Lib.hid hgF
  clear hgF
  have Hnd := Lib.hid hnd
  clear hnd
  have Hkey := Lib.hid hkey
  clear hkey
  have Hnk := Lib.hid hnk
  clear hnk
  have Hpk := Lib.hid hpk
  clear hpk
  have Hj := Lib.hid hj
  clear hj
  have Hpl := Lib.hid hpl
  clear hpl
  go_enter Tryd.func48, Tryd.ntmps48
  go_wp2_with (fail)
  rw [← hwx]
  clear hwx
  go_wp2_with (fail)
  refine wp_region_plan (.take 0 (.take 1 (.take 2 (.take 3 (.take 4 (.take 5 (.must 6 (.take 7 .done)))))))) (fun W => W.cell? ⟨w.heap.size, 0, none⟩ = some (.slice ka k.length kc) ∧ W.cell? ⟨g, 0, none⟩ = some (.slice na nk nc)) (by kernel_rfl) (by kernel_rfl) (by kernel_rfl) rfl ?_ (fun KK hKK => ?_)
  · exact ⟨e0, c0⟩
  repeat (first
    | (refine wpPlan_take (v := ?_) rfl (by rfl) (fun W hW => ?_) ?_; rotate_left; (focus ((try dsimp only at hW); go_split_ands; go_simp; (try with_reducible rfl); done)); (try simp only [Act.put, List.setIfInBounds_toArray, List.set_cons_zero, List.set_cons_succ]))
    | (refine wpPlan_skip rfl (by rfl) ?_; (try simp only [Act.put, List.setIfInBounds_toArray, List.set_cons_zero, List.set_cons_succ])))
  refine wpPlan_must rfl (by rfl) (fun K hK => ?_)
  go_simp
  (with_reducible refine (Hcm.out _ Xa.out.drew).mono ?_)
  rintro e w2 ⟨rfl, t2⟩
  have x2 : Ext wx w2 := (Touch.refl _ _).drew.trans' t2
  have e0 := keepc x2 id e0
  have e1 := keepc x2 id e1
  have c0 := keepc x2 id c0
  have c3 := keepc x2 id c3
  have y2 := Xa.out.trans' x2
  have X2 := Lib.hid x2
  clear x2
  have Y2 := Lib.hid y2
  clear y2
  refine hK.out _ _ ?_ ?_
  · exact ⟨e0, c0⟩
  clear hK K
  (try simp only [Act.put, List.setIfInBounds_toArray, List.set_cons_zero, List.set_cons_succ])
  repeat (first
    | (refine wpPlan_take (v := ?_) rfl (by rfl) (fun W hW => ?_) ?_; rotate_left; (focus ((try dsimp only at hW); go_split_ands; go_simp; (try with_reducible rfl); done)); (try simp only [Act.put, List.setIfInBounds_toArray, List.set_cons_zero, List.set_cons_succ]))
    | (refine wpPlan_skip rfl (by rfl) ?_; (try simp only [Act.put, List.setIfInBounds_toArray, List.set_cons_zero, List.set_cons_succ])))
  refine wpPlan_done (hKK.out _ _ ?_)
  clear hKK KK
  go_wp2_with (fail)
  have cy := keepc X2.out id cy
  refine wp_region_plan (.take 0 (.take 1 (.take 2 (.take 3 (.take 4 (.take 5 (.take 6 (.take 7 (.take 8 (.take 9 (.take 10 (.take 11 (.must 12 (.take 13 (.take 14 (.take 15 .done)))))))))))))))) (fun W => W.cell? ⟨w.heap.size, 0, none⟩ = some (.slice ka k.length kc) ∧ W.cell? ⟨g, 0, none⟩ = some (.slice na nk nc) ∧ W.cell? ⟨g, 3, none⟩ = some (.pointer none)) (by kernel_rfl) (by kernel_rfl) (by kernel_rfl) rfl ?_ (fun KK hKK => ?_)
  · exact ⟨e0, c0, c3⟩
  repeat (first
    | (refine wpPlan_take (v := ?_) rfl (by rfl) (fun W hW => ?_) ?_; rotate_left; (focus ((try dsimp only at hW); go_split_ands; go_simp; (try with_reducible rfl); done)); (try simp only [Act.put, List.setIfInBounds_toArray, List.set_cons_zero, List.set_cons_succ]))
    | (refine wpPlan_skip rfl (by rfl) ?_; (try simp only [Act.put, List.setIfInBounds_toArray, List.set_cons_zero, List.set_cons_succ])))
  refine wpPlan_must rfl (by rfl) (fun K hK => ?_)
  go_simp
  (with_reducible refine (Hcp.out _ Y2.out.drew).mono ?_)
  rintro e w3 ⟨rfl, rfl⟩
  refine hK.out _ _ ?_ ?_
  · exact ⟨e0, c0, c3⟩
  clear hK K
  (try simp only [Act.put, List.setIfInBounds_toArray, List.set_cons_zero, List.set_cons_succ])
  repeat (first
    | (refine wpPlan_take (v := ?_) rfl (by rfl) (fun W hW => ?_) ?_; rotate_left; (focus ((try dsimp only at hW); go_split_ands; go_simp; (try with_reducible rfl); done)); (try simp only [Act.put, List.setIfInBounds_toArray, List.set_cons_zero, List.set_cons_succ]))
    | (refine wpPlan_skip rfl (by rfl) ?_; (try simp only [Act.put, List.setIfInBounds_toArray, List.set_cons_zero, List.set_cons_succ])))
  refine wpPlan_done (hKK.out _ _ ?_)
  clear hKK KK
  go_wp2_with (fail)
  (with_reducible refine (Hpd.out _ Y2.out.drew).mono ?_)
  rintro e w3 ⟨gp, gkp, gmp, kvp, rfl, pd, t3⟩
  have y3 := Y2.out.drew.trans' t3
  have rn0 := rn_part (K := K) (W := w) pd Y2.out.drew.size
  have e0 := keepc t3 id e0
  have e1 := keepc t3 id e1
  have c0 := keepc t3 id c0
  have hs3 := Y2.out.drew.size
  have hgp := pd.lg
  have hgkp := pd.lk
  have hgmp := pd.lm
  have hgp3 := pd.nd.lt
  have hgkp3 := pd.kn.lt
  have hgmp3 := pd.om.lt
  have pnd := pd.nd
  have Pd := Lib.hid pd
  clear pd
  have T3 := Lib.hid t3
  clear t3
  have Y3 := Lib.hid y3
  clear y3
  have Rn0 := Lib.hid rn0
  clear rn0
  have Pnd := Lib.hid pnd
  clear pnd
  go_wp2_with (fail)
  (with_reducible refine (Hlf.out _).mono ?_)
  rintro e w4 ⟨gl, rfl, hnl, hgl4, t4⟩
  have hgl5 := hnl.lt
  have y4 := Y3.out.trans' t4
  have hs4 := t4.size
  have e0 := keepc t4 id e0
  have c0 := keepc t4 id c0
  have l0 := hnl.c0
  have l2 := hnl.c2
  have q1 := keepc t4 id Pnd.out.c1
  have q2 := keepc t4 id Pnd.out.c2
  have q3 := keepf (p := ⟨gp, 1, none⟩) t4 hgp3 id Pnd.out.f1
  have q4 := keepf (p := ⟨gp, 2, none⟩) t4 hgp3 id Pnd.out.f2
  obtain ⟨w5, hw5⟩ : ∃ w5, w5 = w4.alloc (.cells #[pt g, pt gl] 74) := ⟨_, rfl⟩
  have t5 : Ext w4 w5 := by rw [hw5]; exact (Touch.refl _ _).alloc _
  have a0 : w5.cell? ⟨w4.heap.size, 0, none⟩ = some (pt g) := by rw [hw5]; simp
  have a1 : w5.cell? ⟨w4.heap.size, 1, none⟩ = some (pt gl) := by rw [hw5]; simp
  have hs5 : w5.heap.size = w4.heap.size + 1 := by rw [hw5]; simp
  have Hnl := Lib.hid hnl
  clear hnl
  have T4 := Lib.hid t4
  clear t4
  have Y4 := Lib.hid y4
  clear y4
  go_wp2_with (fail)
  have cy := keepc T3.out id cy
  have cy := keepc T4.out id cy
  rw [← hw5]
  clear hw5
  obtain ⟨F0, hF0⟩ : ∃ F0, F0 = fun b => b = gp ∨ b = gkp ∨ b = gmp := ⟨_, rfl⟩
  have hF0i : ∀ b, F0 b → w.heap.size ≤ b ∧ b < w3.heap.size := by
    rw [hF0]
    intro b hb
    rcases hb with rfl | rfl | rfl <;> omega
  have hFgp : F0 gp := by rw [hF0]; exact Or.inl rfl
  obtain ⟨K1, hK1⟩ : ∃ K1, K1 = fun b => K b ∨ (w.heap.size ≤ b ∧ b < w3.heap.size ∧ ¬ F0 b) := ⟨_, rfl⟩
  have rn0 : Rn w5 K1 F0 (pt gp) (.node (k.take c) none 0 RT.none) := by rw [hK1, hF0]; exact (Rn0.out.ext T4.out).ext t5
  have y5 := Y4.out.trans' t5
  have hxT : Rn w5 K1 F (pt g) T := (Hrn.out.ext y5).keys (by rw [hK1]; exact fun b hb => Or.inl hb)
  have hKF0 : ∀ b, K1 b → ¬ F0 b := by
    rw [hK1]
    rintro b (hb | hb) hf
    · have := H.out.kz b hb; have := (hF0i b hf).1; omega
    · exact hb.2.2 hf
  have hF0F : ∀ b, F0 b → ¬ F b := fun b hb hf => by have := H.out.fl b hf; have := (hF0i b hb).1; omega
  have hKFF : ∀ b, K1 b → ¬ (F0 b ∨ F b) := by
    intro b hb hf
    rcases hf with hf | hf
    · exact hKF0 b hb hf
    · rw [hK1] at hb
      rcases hb with hb | hb
      · exact H.out.kf b hb hf
      · have := H.out.fl b hf; omega
  have hrb0 : ¬ F0 1 := fun hb => by have := (hF0i _ hb).1; have := World.block_lt_of_cell? _ _ H.out.tr.r0; simp only at this; omega
  have htr5 := H.out.tr.ext y5
  have hbk := byteAt_lt H.out.kb c
  have hbn := byteAt_lt HkT.out c
  have hlx : Rn w5 K1 (fun b => b = gl) (pt gl) (.leaf k x) := by
    refine ⟨gl, _, rfl, rfl, Hnl.out.ext t5, (H.out.kw.ext y5).mono ?_⟩
    rw [hK1]; exact fun b hb => Or.inl hb
  have a0' := a0
  have l0 := keepc t5 id l0
  have l2 := keepc t5 id l2
  have q1 := keepc t5 id q1
  have q2 := keepc t5 id q2
  have q3 := keepf (p := ⟨gp, 1, none⟩) t5 (show gp < w4.heap.size by omega) id q3
  have q4 := keepf (p := ⟨gp, 2, none⟩) t5 (show gp < w4.heap.size by omega) id q4
  have c0 := keepc t5 id c0
  have nl0 : ¬ F0 gl := fun hb => by have := (hF0i _ hb).2; omega
  have nl1 : ¬ F0 w4.heap.size := fun hb => by have := (hF0i _ hb).2; omega
  have t05 : ∀ W, Touch F0 w5 W → Touch F w W := fun W t => y5.none_to.trans t (fun i hi hlt => by have := (hF0i i hi).1; omega)
  have kx1 : ∀ W F', w3.heap.size ≤ W.heap.size → (∀ b, F' b → F0 b ∨ b < w.heap.size ∨ w3.heap.size ≤ b) → ∀ b, K1 b → Kx K w W F' b := fun W F' h1 h2 => by rw [hK1]; exact kx_part h1 h2
  have T05 := Lib.hid t05
  clear t05
  have Kx1 := Lib.hid kx1
  clear kx1
  have HKFF := Lib.hid hKFF
  clear hKFF
  have HF0 := Lib.hid hF0
  clear hF0
  have HF0i := Lib.hid hF0i
  clear hF0i
  have HFgp := Lib.hid hFgp
  clear hFgp
  have HK1 := Lib.hid hK1
  clear hK1
  have Rn0 := Lib.hid rn0
  clear rn0
  have Y5 := Lib.hid y5
  clear y5
  have HxT := Lib.hid hxT
  clear hxT
  have HKF0 := Lib.hid hKF0
  clear hKF0
  have HF0F := Lib.hid hF0F
  clear hF0F
  have Hrb0 := Lib.hid hrb0
  clear hrb0
  have Htr5 := Lib.hid htr5
  clear htr5
  have Hbk := Lib.hid hbk
  clear hbk
  have Hbn := Lib.hid hbn
  clear hbn
  have Hlx := Lib.hid hlx
  clear hlx
  have Nl0 := Lib.hid nl0
  clear nl0
  have Nl1 := Lib.hid nl1
  clear nl1
  have T5 := Lib.hid t5
  clear t5
  have cy := keepc T5.out id cy
  refine wp_loop_rounds 3 ?_
  rw [rounds_succ]
  go_wp2_with (fail)
  obtain ⟨w6, hw6⟩ : ∃ w6, w6 = (w5.setCell ⟨gp, 1, none⟩ (.bool true)).setCell ⟨gp, 2, none⟩ (.int .u64 y) := ⟨_, rfl⟩
  have tt : Touch (fun i => i = gp) w5 w6 := by rw [hw6]; exact Touch.setCell (S := fun i => i = gp) (Touch.setCell (S := fun i => i = gp) (Touch.refl _ _) (p := ⟨gp, 1, none⟩) (Or.inl rfl) _) (p := ⟨gp, 2, none⟩) (Or.inl rfl) _
  have rn1 : Rn w6 K1 F0 (pt gp) (.node (k.take c) (some y) 0 RT.none) := rn_own (some y) Rn0.out HKF0.out tt (fun kv kp mp h => by rw [hw6]; exact (h.set1 true).set2 y)
  rw [← hw6]
  clear hw6 q1 q2 q3 q4
  have t6 : Touch F0 w5 w6 := tt.mono (fun i hi _ => hi ▸ HFgp.out)
  have a1 := keepc t6 Nl1.out a1
  have l0 := keepc t6 Nl0.out l0
  have hlx6 := Hlx.out.keep t6 (fun b hb => hb ▸ Nl0.out) HKF0.out
  have hadd := add_any w6 K1 F0 (fun b => b = gl) gp (pt gl) (k.take c) (some y) 0 RT.none (.leaf k x) (byteAt k c) rn1 hlx6 rfl Hbk.out Hpk.out rfl (fun b hb e => Nl0.out (e ▸ hb)) HKF0.out (by omega) (Htr5.out.keep t6 Hrb0.out) Hrb0.out hkl
  unfold AddRet at hadd
  rw [cnt_first Hbk.out rfl, up_zero (by omega)] at hadd
  clear tt hlx6
  have Hadd := Lib.hid hadd
  clear hadd
  have Rn1 := Lib.hid rn1
  clear rn1
  have T6 := Lib.hid t6
  clear t6
  rw [rounds_succ]
  go_wp2_with (fail)
  (with_reducible refine Hadd.out.mono ?_)
  rintro e w7 ⟨rfl, rn2, t7⟩
  have Rn2 := Lib.hid rn2
  clear rn2
  have T7 := Lib.hid t7
  clear t7
  go_wp2_with (fail)
  rw [rounds_succ]
  go_wp2_with (fail)
  refine bodyPost_ret (v := .tuple #[pt gp, .int .i64 1]) (by simp [results, Tryd.results48, go_sem]) rfl ?_
  have hkc : ¬ k.length = c := by omega
  have hnc : T.key.length = c := by rw [Hnk.out]; exact Hcase.out
  have e1 : RT.moreJ c T k = 1 := by unfold RT.moreJ; rw [if_pos (Or.inr hnc)]
  have e2 : RT.join c T k x = .node (k.take c) (some y) 0 (RT.upd RT.none (byteAt k c) (.leaf k x)) := by
    have hl : RT.leafO c T = some y := by
      have h1 := Hnk.out
      rw [HTe.out] at hnc ⊢
      unfold RT.leafO; exact if_pos hnc
    unfold RT.join RT.joinO RT.joinF
    rw [if_neg hkc, if_neg hkc, if_pos hnc, hl]
  rw [Hj.out.1, Hj.out.2, e1, e2]
  have t60 := T6.out.trans' T7.out
  have tF := T05.out _ t60
  have hsz := t60.size
  refine ⟨_, fun b => F0 b ∨ b = gl, rfl, Rn2.out.keys (Kx1.out _ _ (by omega) (fun b hb => hb.elim Or.inl (fun hb => Or.inr (Or.inr (by omega))))), tF, fun b hb => ?_⟩
  rcases hb with hb | hb
  · have := HF0i.out b hb; exact ⟨Or.inr this.1, by omega⟩
  · exact ⟨Or.inr (by omega), by omega⟩
set_option maxRecDepth 100000 in
set_option maxHeartbeats 3200000 in
theorem joinC_leaf (w : World) (K F : Nat → Prop) (v kw : Value) (T : RT) (q k : List Int) (x : Int) (h : Pre w K F v kw T q k) (hT : T.is = true) (hne : T.key ≠ k) (hTe : ∃ k0 y, T = .leaf k0 y) (hj : RT.manyT T k = RT.moreJ (comK T.key k) T k ∧ RT.putT T k x = RT.join (comK T.key k) T k x) (hcase : comK T.key k < T.key.length) (hcase2 : comK T.key k < k.length) :
    Calls Tryd.prog 48 #[v, .agg #[kw, .int .u64 x]] w (PutRet w K F T k x) := by
  obtain ⟨k0, y, hTe⟩ := hTe
  obtain ⟨c, hc⟩ : ∃ c, c = comK T.key k := ⟨_, rfl⟩
  rw [← hc] at hcase
  have hcl := comK_le T.key k
  rw [← hc] at hcl
  obtain ⟨ka, kc, rfl, l1, m1, z1⟩ := h.kw.shape
  unfold maxLen at m1
  obtain ⟨wx, hwx⟩ : ∃ wx, wx = w.alloc (.cells #[.slice ka k.length kc, .int .u64 x] 33) := ⟨_, rfl⟩
  have xa : Ext w wx := by rw [hwx]; exact (Touch.refl _ _).alloc _
  have e0 : wx.cell? ⟨w.heap.size, 0, none⟩ = some (.slice ka k.length kc) := by rw [hwx]; simp
  have e1 : wx.cell? ⟨w.heap.size, 1, none⟩ = some (.int .u64 x) := by rw [hwx]; simp
  have hwxs : w.heap.size < wx.heap.size := by rw [hwx]; simp
  obtain ⟨g, kv, mp, rfl, hgF, hnd, hkey⟩ := head_leaf h.rn hTe
  obtain ⟨na, nc, rfl, l2, m2, z2⟩ := hkey.shape
  unfold maxLen at m2
  have hkl := h.kl
  have hk0l : T.key.length ≤ 65535 := h.ok.key_le h.tl
  have hcm := fun W (t : Ext w W) => KeyC.common_any W _ _ T.key k (hkey.ext t) (h.kw.ext t) (by omega) (by omega)
  rw [← hc] at hcm
  have hkT := (h.ok.kpre hT).2
  have hcp := fun W (t : Ext w W) => keyCompare_any W _ _ _ _ T.key k (hkey.ext t) (h.kw.ext t) hkT h.kb
  have hpd := fun W (t : Ext w W) => parted_any W K (.slice ka c kc) (k.take c) (by
    have := (h.kw.ext t).take c (by omega)
    exact this) (by rw [List.length_take]; omega)
  unfold PartRet at hpd
  have hlf := fun W => leaf_any W ka k.length kc x
  unfold LeafRet at hlf
  have c0 := keepc xa id hnd.c0
  have c3 := keepc xa id hnd.c3
  have hgl := hnd.lt
  have hrn := h.rn
  have hcc0 : (0 : Int) ≤ (c : Int) := by omega
  have hcc1 : (c : Int) ≤ (kc : Int) := by omega
  have hcc2 : (c : Int) ≤ (k.length : Int) := by omega
  have hcz : (cmpK T.key k == 0) = false := by rw [beq_eq_false_iff_ne]; exact fun e => hne (cmpK_eq e)
  unfold PutRet
  rw [← hc] at hj hcase2
  have hpn := pre_n hkT hc hcase
  have hpk := pre_k h.kb hcase2
  have hbb := com_bytes hkT h.kb (by rw [← hc]; exact hcase) (by rw [← hc]; exact hcase2)
  rw [← hc] at hbb
  generalize hnk : T.key.length = nk at *
  have kA : ((k.length : Int) == (c : Int)) = false := by simp; omega
  have kB : ((nk : Int) == (c : Int)) = false := by simp; omega
  have kC : (c : Int) < (nk : Int) := by omega
  have H := Lib.hid h
  clear h
  have HT := Lib.hid hT
  clear hT
  have Hne := Lib.hid hne
  clear hne
  have HTe := Lib.hid hTe
  clear hTe
  have Hc := Lib.hid hc
  clear hc
  have Hcm := Lib.hid hcm
  clear hcm
  have Xa := Lib.hid xa
  clear xa
  have Hcp := Lib.hid hcp
  clear hcp
  have Hpd := Lib.hid hpd
  clear hpd
  have Hlf := Lib.hid hlf
  clear hlf
  have Hrn := Lib.hid hrn
  clear hrn
  have HkT := Lib.hid hkT
  clear hkT
  have HgF := Lib.hid hgF
  clear hgF
  have Hnd := Lib.hid hnd
  clear hnd
  have Hkey := Lib.hid hkey
  clear hkey
  have Hnk := Lib.hid hnk
  clear hnk
  have Hpn := Lib.hid hpn
  clear hpn
  have Hpk := Lib.hid hpk
  clear hpk
  have Hbb := Lib.hid hbb
  clear hbb
  have Hj := Lib.hid hj
  clear hj
  go_enter Tryd.func48, Tryd.ntmps48
  go_wp2_with (fail)
  rw [← hwx]
  clear hwx
  go_wp2_with (fail)
  refine wp_region_plan (.take 0 (.take 1 (.take 2 (.take 3 (.take 4 (.take 5 (.must 6 (.take 7 .done)))))))) (fun W => W.cell? ⟨w.heap.size, 0, none⟩ = some (.slice ka k.length kc) ∧ W.cell? ⟨g, 0, none⟩ = some (.slice na nk nc)) (by kernel_rfl) (by kernel_rfl) (by kernel_rfl) rfl ?_ (fun KK hKK => ?_)
  · exact ⟨e0, c0⟩
  repeat (first
    | (refine wpPlan_take (v := ?_) rfl (by rfl) (fun W hW => ?_) ?_; rotate_left; (focus ((try dsimp only at hW); go_split_ands; go_simp; (try with_reducible rfl); done)); (try simp only [Act.put, List.setIfInBounds_toArray, List.set_cons_zero, List.set_cons_succ]))
    | (refine wpPlan_skip rfl (by rfl) ?_; (try simp only [Act.put, List.setIfInBounds_toArray, List.set_cons_zero, List.set_cons_succ])))
  refine wpPlan_must rfl (by rfl) (fun K hK => ?_)
  go_simp
  (with_reducible refine (Hcm.out _ Xa.out.drew).mono ?_)
  rintro e w2 ⟨rfl, t2⟩
  have x2 : Ext wx w2 := (Touch.refl _ _).drew.trans' t2
  have e0 := keepc x2 id e0
  have e1 := keepc x2 id e1
  have c0 := keepc x2 id c0
  have c3 := keepc x2 id c3
  have y2 := Xa.out.trans' x2
  have X2 := Lib.hid x2
  clear x2
  have Y2 := Lib.hid y2
  clear y2
  refine hK.out _ _ ?_ ?_
  · exact ⟨e0, c0⟩
  clear hK K
  (try simp only [Act.put, List.setIfInBounds_toArray, List.set_cons_zero, List.set_cons_succ])
  repeat (first
    | (refine wpPlan_take (v := ?_) rfl (by rfl) (fun W hW => ?_) ?_; rotate_left; (focus ((try dsimp only at hW); go_split_ands; go_simp; (try with_reducible rfl); done)); (try simp only [Act.put, List.setIfInBounds_toArray, List.set_cons_zero, List.set_cons_succ]))
    | (refine wpPlan_skip rfl (by rfl) ?_; (try simp only [Act.put, List.setIfInBounds_toArray, List.set_cons_zero, List.set_cons_succ])))
  refine wpPlan_done (hKK.out _ _ ?_)
  clear hKK KK
  go_wp2_with (fail)
  refine wp_region_plan (.take 0 (.take 1 (.take 2 (.take 3 (.take 4 (.take 5 (.take 6 (.take 7 (.take 8 (.take 9 (.take 10 (.take 11 (.must 12 (.take 13 (.take 14 (.take 15 .done)))))))))))))))) (fun W => W.cell? ⟨w.heap.size, 0, none⟩ = some (.slice ka k.length kc) ∧ W.cell? ⟨g, 0, none⟩ = some (.slice na nk nc) ∧ W.cell? ⟨g, 3, none⟩ = some (.pointer none)) (by kernel_rfl) (by kernel_rfl) (by kernel_rfl) rfl ?_ (fun KK hKK => ?_)
  · exact ⟨e0, c0, c3⟩
  repeat (first
    | (refine wpPlan_take (v := ?_) rfl (by rfl) (fun W hW => ?_) ?_; rotate_left; (focus ((try dsimp only at hW); go_split_ands; go_simp; (try with_reducible rfl); done)); (try simp only [Act.put, List.setIfInBounds_toArray, List.set_cons_zero, List.set_cons_succ]))
    | (refine wpPlan_skip rfl (by rfl) ?_; (try simp only [Act.put, List.setIfInBounds_toArray, List.set_cons_zero, List.set_cons_succ])))
  refine wpPlan_must rfl (by rfl) (fun K hK => ?_)
  go_simp
  (with_reducible refine (Hcp.out _ Y2.out.drew).mono ?_)
  rintro e w3 ⟨rfl, rfl⟩
  refine hK.out _ _ ?_ ?_
  · exact ⟨e0, c0, c3⟩
  clear hK K
  (try simp only [Act.put, List.setIfInBounds_toArray, List.set_cons_zero, List.set_cons_succ])
  repeat (first
    | (refine wpPlan_take (v := ?_) rfl (by rfl) (fun W hW => ?_) ?_; rotate_left; (focus ((try dsimp only at hW); go_split_ands; go_simp; (try with_reducible rfl); done)); (try simp only [Act.put, List.setIfInBounds_toArray, List.set_cons_zero, List.set_cons_succ]))
    | (refine wpPlan_skip rfl (by rfl) ?_; (try simp only [Act.put, List.setIfInBounds_toArray, List.set_cons_zero, List.set_cons_succ])))
  refine wpPlan_done (hKK.out _ _ ?_)
  clear hKK KK
  go_wp2_with (fail)
  (with_reducible refine (Hpd.out _ Y2.out.drew).mono ?_)
  rintro e w3 ⟨gp, gkp, gmp, kvp, rfl, pd, t3⟩
  have y3 := Y2.out.drew.trans' t3
  have rn0 := rn_part (K := K) (W := w) pd Y2.out.drew.size
  have e0 := keepc t3 id e0
  have e1 := keepc t3 id e1
  have c0 := keepc t3 id c0
  have hs3 := Y2.out.drew.size
  have hgp := pd.lg
  have hgkp := pd.lk
  have hgmp := pd.lm
  have hgp3 := pd.nd.lt
  have hgkp3 := pd.kn.lt
  have hgmp3 := pd.om.lt
  have pnd := pd.nd
  have Pd := Lib.hid pd
  clear pd
  have T3 := Lib.hid t3
  clear t3
  have Y3 := Lib.hid y3
  clear y3
  have Rn0 := Lib.hid rn0
  clear rn0
  have Pnd := Lib.hid pnd
  clear pnd
  go_wp2_with (fail)
  (with_reducible refine (Hlf.out _).mono ?_)
  rintro e w4 ⟨gl, rfl, hnl, hgl4, t4⟩
  have hgl5 := hnl.lt
  have y4 := Y3.out.trans' t4
  have hs4 := t4.size
  have e0 := keepc t4 id e0
  have c0 := keepc t4 id c0
  have l0 := hnl.c0
  have l2 := hnl.c2
  have q1 := keepc t4 id Pnd.out.c1
  have q2 := keepc t4 id Pnd.out.c2
  have q3 := keepf (p := ⟨gp, 1, none⟩) t4 hgp3 id Pnd.out.f1
  have q4 := keepf (p := ⟨gp, 2, none⟩) t4 hgp3 id Pnd.out.f2
  obtain ⟨w5, hw5⟩ : ∃ w5, w5 = w4.alloc (.cells #[pt g, pt gl] 74) := ⟨_, rfl⟩
  have t5 : Ext w4 w5 := by rw [hw5]; exact (Touch.refl _ _).alloc _
  have a0 : w5.cell? ⟨w4.heap.size, 0, none⟩ = some (pt g) := by rw [hw5]; simp
  have a1 : w5.cell? ⟨w4.heap.size, 1, none⟩ = some (pt gl) := by rw [hw5]; simp
  have hs5 : w5.heap.size = w4.heap.size + 1 := by rw [hw5]; simp
  have Hnl := Lib.hid hnl
  clear hnl
  have T4 := Lib.hid t4
  clear t4
  have Y4 := Lib.hid y4
  clear y4
  go_wp2_with (fail)
  rw [← hw5]
  clear hw5
  obtain ⟨F0, hF0⟩ : ∃ F0, F0 = fun b => b = gp ∨ b = gkp ∨ b = gmp := ⟨_, rfl⟩
  have hF0i : ∀ b, F0 b → w.heap.size ≤ b ∧ b < w3.heap.size := by
    rw [hF0]
    intro b hb
    rcases hb with rfl | rfl | rfl <;> omega
  have hFgp : F0 gp := by rw [hF0]; exact Or.inl rfl
  obtain ⟨K1, hK1⟩ : ∃ K1, K1 = fun b => K b ∨ (w.heap.size ≤ b ∧ b < w3.heap.size ∧ ¬ F0 b) := ⟨_, rfl⟩
  have rn0 : Rn w5 K1 F0 (pt gp) (.node (k.take c) none 0 RT.none) := by rw [hK1, hF0]; exact (Rn0.out.ext T4.out).ext t5
  have y5 := Y4.out.trans' t5
  have hxT : Rn w5 K1 F (pt g) T := (Hrn.out.ext y5).keys (by rw [hK1]; exact fun b hb => Or.inl hb)
  have hKF0 : ∀ b, K1 b → ¬ F0 b := by
    rw [hK1]
    rintro b (hb | hb) hf
    · have := H.out.kz b hb; have := (hF0i b hf).1; omega
    · exact hb.2.2 hf
  have hF0F : ∀ b, F0 b → ¬ F b := fun b hb hf => by have := H.out.fl b hf; have := (hF0i b hb).1; omega
  have hKFF : ∀ b, K1 b → ¬ (F0 b ∨ F b) := by
    intro b hb hf
    rcases hf with hf | hf
    · exact hKF0 b hb hf
    · rw [hK1] at hb
      rcases hb with hb | hb
      · exact H.out.kf b hb hf
      · have := H.out.fl b hf; omega
  have hrb0 : ¬ F0 1 := fun hb => by have := (hF0i _ hb).1; have := World.block_lt_of_cell? _ _ H.out.tr.r0; simp only at this; omega
  have htr5 := H.out.tr.ext y5
  have hbk := byteAt_lt H.out.kb c
  have hbn := byteAt_lt HkT.out c
  have hlx : Rn w5 K1 (fun b => b = gl) (pt gl) (.leaf k x) := by
    refine ⟨gl, _, rfl, rfl, Hnl.out.ext t5, (H.out.kw.ext y5).mono ?_⟩
    rw [hK1]; exact fun b hb => Or.inl hb
  have a0' := a0
  have l0 := keepc t5 id l0
  have l2 := keepc t5 id l2
  have q1 := keepc t5 id q1
  have q2 := keepc t5 id q2
  have q3 := keepf (p := ⟨gp, 1, none⟩) t5 (show gp < w4.heap.size by omega) id q3
  have q4 := keepf (p := ⟨gp, 2, none⟩) t5 (show gp < w4.heap.size by omega) id q4
  have c0 := keepc t5 id c0
  have nl0 : ¬ F0 gl := fun hb => by have := (hF0i _ hb).2; omega
  have nl1 : ¬ F0 w4.heap.size := fun hb => by have := (hF0i _ hb).2; omega
  have t05 : ∀ W, Touch F0 w5 W → Touch F w W := fun W t => y5.none_to.trans t (fun i hi hlt => by have := (hF0i i hi).1; omega)
  have kx1 : ∀ W F', w3.heap.size ≤ W.heap.size → (∀ b, F' b → F0 b ∨ b < w.heap.size ∨ w3.heap.size ≤ b) → ∀ b, K1 b → Kx K w W F' b := fun W F' h1 h2 => by rw [hK1]; exact kx_part h1 h2
  have T05 := Lib.hid t05
  clear t05
  have Kx1 := Lib.hid kx1
  clear kx1
  have HKFF := Lib.hid hKFF
  clear hKFF
  have HF0 := Lib.hid hF0
  clear hF0
  have HF0i := Lib.hid hF0i
  clear hF0i
  have HFgp := Lib.hid hFgp
  clear hFgp
  have HK1 := Lib.hid hK1
  clear hK1
  have Rn0 := Lib.hid rn0
  clear rn0
  have Y5 := Lib.hid y5
  clear y5
  have HxT := Lib.hid hxT
  clear hxT
  have HKF0 := Lib.hid hKF0
  clear hKF0
  have HF0F := Lib.hid hF0F
  clear hF0F
  have Hrb0 := Lib.hid hrb0
  clear hrb0
  have Htr5 := Lib.hid htr5
  clear htr5
  have Hbk := Lib.hid hbk
  clear hbk
  have Hbn := Lib.hid hbn
  clear hbn
  have Hlx := Lib.hid hlx
  clear hlx
  have Nl0 := Lib.hid nl0
  clear nl0
  have Nl1 := Lib.hid nl1
  clear nl1
  have T5 := Lib.hid t5
  clear t5
  have hadd := add_any w5 K1 F0 F gp (pt g) (k.take c) none 0 RT.none T (byteAt T.key c) Rn0.out HxT.out HT.out Hbn.out Hpn.out rfl HF0F.out HKF0.out (by omega) Htr5.out Hrb0.out (by rw [Hnk.out]; exact hk0l)
  unfold AddRet at hadd
  rw [cnt_first Hbn.out HT.out, up_zero (by omega)] at hadd
  have Hadd := Lib.hid hadd
  clear hadd
  refine wp_loop_rounds 3 ?_
  rw [rounds_succ]
  go_wp2_with (fail)
  (with_reducible refine Hadd.out.mono ?_)
  rintro e w6 ⟨rfl, rn1, t6⟩
  have a1 := keepc t6 Nl1.out a1
  have l0 := keepc t6 Nl0.out l0
  have hlx6 := Hlx.out.keep t6 (fun b hb => hb ▸ Nl0.out) HKF0.out
  have hadd2 := add_any w6 K1 (fun b => F0 b ∨ F b) (fun b => b = gl) gp (pt gl) (k.take c) none 0 (RT.upd RT.none (byteAt T.key c) T) (.leaf k x) (byteAt k c) rn1 hlx6 rfl Hbk.out Hpk.out (by rw [RT.upd_ne _ _ _ (Ne.symm Hbb.out)]; rfl)
    (fun b hb e => hb.elim (fun hb => Nl0.out (e ▸ hb)) (fun hb => by have h1 : b < w.heap.size := H.out.fl b hb; have h2 : b = gl := e; omega)) HKFF.out (by omega) (Htr5.out.keep t6 Hrb0.out) (fun hb => hb.elim Hrb0.out H.out.rf) hkl
  unfold AddRet at hadd2
  rw [cnt_second Hbn.out Hbk.out Hbb.out HT.out rfl, up_zero (by omega)] at hadd2
  clear hlx6 q1 q2 q3 q4
  have Hadd2 := Lib.hid hadd2
  clear hadd2
  have Rn1 := Lib.hid rn1
  clear rn1
  have T6 := Lib.hid t6
  clear t6
  go_wp2_with (fail)
  rw [rounds_succ]
  go_wp2_with (fail)
  (with_reducible refine Hadd2.out.mono ?_)
  rintro e w7 ⟨rfl, rn2, t7⟩
  have Rn2 := Lib.hid rn2
  clear rn2
  have T7 := Lib.hid t7
  clear t7
  go_wp2_with (fail)
  rw [rounds_succ]
  go_wp2_with (fail)
  refine bodyPost_ret (v := .tuple #[pt gp, .int .i64 2]) (by simp [results, Tryd.results48, go_sem]) rfl ?_
  have hkc : ¬ k.length = c := by omega
  have hnc : ¬ T.key.length = c := by rw [Hnk.out]; omega
  have e1 : RT.moreJ c T k = 2 := by unfold RT.moreJ; rw [if_neg (fun h => h.elim hkc hnc)]
  have e2 : RT.join c T k x = .node (k.take c) none 0 (RT.upd (RT.upd RT.none (byteAt T.key c) T) (byteAt k c) (.leaf k x)) := by
    have hl : RT.leafO c T = none := by
      cases T with
      | nil => rfl
      | leaf k0 y => unfold RT.leafO; exact if_neg hnc
      | node k0 o kd f => rfl
    unfold RT.join RT.joinO RT.joinF
    rw [if_neg hkc, if_neg hkc, if_neg hnc, hl]
  rw [Hj.out.1, Hj.out.2, e1, e2]
  have t7F : Touch F w w7 := (T05.out _ T6.out).trans T7.out (fun i hi hlt => hi.elim (fun hi => by have := (HF0i.out i hi).1; omega) id)
  have hsz := T6.out.size
  have hsz2 := T7.out.size
  refine ⟨_, fun b => (F0 b ∨ F b) ∨ b = gl, rfl, Rn2.out.keys (Kx1.out _ _ (by omega) (fun b hb => ?_)), t7F, fun b hb => ?_⟩
  · rcases hb with (hb | hb) | hb
    · exact Or.inl hb
    · exact Or.inr (Or.inl (H.out.fl b hb))
    · exact Or.inr (Or.inr (by omega))
  · rcases hb with (hb | hb) | hb
    · have := HF0i.out b hb; exact ⟨Or.inr this.1, by omega⟩
    · exact ⟨Or.inl hb, Nat.lt_of_lt_of_le (H.out.fl b hb) t7F.size⟩
    · exact ⟨Or.inr (by omega), by omega⟩
set_option maxRecDepth 100000 in
set_option maxHeartbeats 3200000 in
theorem joinC_node (w : World) (K F : Nat → Prop) (v kw : Value) (T : RT) (q k : List Int) (x : Int) (h : Pre w K F v kw T q k) (hT : T.is = true) (hne : T.key ≠ k) (hTe : ∃ k0 o kd f, T = .node k0 o kd f) (hj : RT.manyT T k = RT.moreJ (comK T.key k) T k ∧ RT.putT T k x = RT.join (comK T.key k) T k x) (hcase : comK T.key k < T.key.length) (hcase2 : comK T.key k < k.length) :
    Calls Tryd.prog 48 #[v, .agg #[kw, .int .u64 x]] w (PutRet w K F T k x) := by
  obtain ⟨k0, o, kd, f, hTe⟩ := hTe
  obtain ⟨c, hc⟩ : ∃ c, c = comK T.key k := ⟨_, rfl⟩
  rw [← hc] at hcase
  have hcl := comK_le T.key k
  rw [← hc] at hcl
  obtain ⟨ka, kc, rfl, l1, m1, z1⟩ := h.kw.shape
  unfold maxLen at m1
  obtain ⟨wx, hwx⟩ : ∃ wx, wx = w.alloc (.cells #[.slice ka k.length kc, .int .u64 x] 33) := ⟨_, rfl⟩
  have xa : Ext w wx := by rw [hwx]; exact (Touch.refl _ _).alloc _
  have e0 : wx.cell? ⟨w.heap.size, 0, none⟩ = some (.slice ka k.length kc) := by rw [hwx]; simp
  have e1 : wx.cell? ⟨w.heap.size, 1, none⟩ = some (.int .u64 x) := by rw [hwx]; simp
  have hwxs : w.heap.size < wx.heap.size := by rw [hwx]; simp
  obtain ⟨g, kv, full, y, gk, mp, rfl, hgF, hnd, hkey⟩ := head_node h.rn hTe
  obtain ⟨na, nc, rfl, l2, m2, z2⟩ := hkey.shape
  unfold maxLen at m2
  have hkl := h.kl
  have hk0l : T.key.length ≤ 65535 := h.ok.key_le h.tl
  have hcm := fun W (t : Ext w W) => KeyC.common_any W _ _ T.key k (hkey.ext t) (h.kw.ext t) (by omega) (by omega)
  rw [← hc] at hcm
  have hkT := (h.ok.kpre hT).2
  have hcp := fun W (t : Ext w W) => keyCompare_any W _ _ _ _ T.key k (hkey.ext t) (h.kw.ext t) hkT h.kb
  have hpd := fun W (t : Ext w W) => parted_any W K (.slice ka c kc) (k.take c) (by
    have := (h.kw.ext t).take c (by omega)
    exact this) (by rw [List.length_take]; omega)
  unfold PartRet at hpd
  have hlf := fun W => leaf_any W ka k.length kc x
  unfold LeafRet at hlf
  have c0 := keepc xa id hnd.c0
  have c3 := keepc xa id hnd.c3
  have hgl := hnd.lt
  have hrn := h.rn
  have hcc0 : (0 : Int) ≤ (c : Int) := by omega
  have hcc1 : (c : Int) ≤ (kc : Int) := by omega
  have hcc2 : (c : Int) ≤ (k.length : Int) := by omega
  have hcz : (cmpK T.key k == 0) = false := by rw [beq_eq_false_iff_ne]; exact fun e => hne (cmpK_eq e)
  unfold PutRet
  rw [← hc] at hj hcase2
  have hpn := pre_n hkT hc hcase
  have hpk := pre_k h.kb hcase2
  have hbb := com_bytes hkT h.kb (by rw [← hc]; exact hcase) (by rw [← hc]; exact hcase2)
  rw [← hc] at hbb
  generalize hnk : T.key.length = nk at *
  have kA : ((k.length : Int) == (c : Int)) = false := by simp; omega
  have kB : ((nk : Int) == (c : Int)) = false := by simp; omega
  have kC : (c : Int) < (nk : Int) := by omega
  have H := Lib.hid h
  clear h
  have HT := Lib.hid hT
  clear hT
  have Hne := Lib.hid hne
  clear hne
  have HTe := Lib.hid hTe
  clear hTe
  have Hc := Lib.hid hc
  clear hc
  have Hcm := Lib.hid hcm
  clear hcm
  have Xa := Lib.hid xa
  clear xa
  have Hcp := Lib.hid hcp
  clear hcp
  have Hpd := Lib.hid hpd
  clear hpd
  have Hlf := Lib.hid hlf
  clear hlf
  have Hrn := Lib.hid hrn
  clear hrn
  have HkT := Lib.hid hkT
  clear hkT
  have HgF := Lib.hid hgF
  clear hgF
  have Hnd := Lib.hid hnd
  clear hnd
  have Hkey := Lib.hid hkey
  clear hkey
  have Hnk := Lib.hid hnk
  clear hnk
  have Hpn := Lib.hid hpn
  clear hpn
  have Hpk := Lib.hid hpk
  clear hpk
  have Hbb := Lib.hid hbb
  clear hbb
  have Hj := Lib.hid hj
  clear hj
  go_enter Tryd.func48, Tryd.ntmps48
  go_wp2_with (fail)
  rw [← hwx]
  clear hwx
  go_wp2_with (fail)
  refine wp_region_plan (.take 0 (.take 1 (.take 2 (.take 3 (.take 4 (.take 5 (.must 6 (.take 7 .done)))))))) (fun W => W.cell? ⟨w.heap.size, 0, none⟩ = some (.slice ka k.length kc) ∧ W.cell? ⟨g, 0, none⟩ = some (.slice na nk nc)) (by kernel_rfl) (by kernel_rfl) (by kernel_rfl) rfl ?_ (fun KK hKK => ?_)
  · exact ⟨e0, c0⟩
  repeat (first
    | (refine wpPlan_take (v := ?_) rfl (by rfl) (fun W hW => ?_) ?_; rotate_left; (focus ((try dsimp only at hW); go_split_ands; go_simp; (try with_reducible rfl); done)); (try simp only [Act.put, List.setIfInBounds_toArray, List.set_cons_zero, List.set_cons_succ]))
    | (refine wpPlan_skip rfl (by rfl) ?_; (try simp only [Act.put, List.setIfInBounds_toArray, List.set_cons_zero, List.set_cons_succ])))
  refine wpPlan_must rfl (by rfl) (fun K hK => ?_)
  go_simp
  (with_reducible refine (Hcm.out _ Xa.out.drew).mono ?_)
  rintro e w2 ⟨rfl, t2⟩
  have x2 : Ext wx w2 := (Touch.refl _ _).drew.trans' t2
  have e0 := keepc x2 id e0
  have e1 := keepc x2 id e1
  have c0 := keepc x2 id c0
  have c3 := keepc x2 id c3
  have y2 := Xa.out.trans' x2
  have X2 := Lib.hid x2
  clear x2
  have Y2 := Lib.hid y2
  clear y2
  refine hK.out _ _ ?_ ?_
  · exact ⟨e0, c0⟩
  clear hK K
  (try simp only [Act.put, List.setIfInBounds_toArray, List.set_cons_zero, List.set_cons_succ])
  repeat (first
    | (refine wpPlan_take (v := ?_) rfl (by rfl) (fun W hW => ?_) ?_; rotate_left; (focus ((try dsimp only at hW); go_split_ands; go_simp; (try with_reducible rfl); done)); (try simp only [Act.put, List.setIfInBounds_toArray, List.set_cons_zero, List.set_cons_succ]))
    | (refine wpPlan_skip rfl (by rfl) ?_; (try simp only [Act.put, List.setIfInBounds_toArray, List.set_cons_zero, List.set_cons_succ])))
  refine wpPlan_done (hKK.out _ _ ?_)
  clear hKK KK
  go_wp2_with (fail)
  refine wp_region_plan (.take 0 (.take 1 (.take 2 (.take 3 (.take 4 (.take 5 (.take 6 (.take 7 (.take 8 (.take 9 (.take 10 (.take 11 (.take 12 (.take 13 (.take 14 (.take 15 .done)))))))))))))))) (fun W => W.cell? ⟨w.heap.size, 0, none⟩ = some (.slice ka k.length kc) ∧ W.cell? ⟨g, 0, none⟩ = some (.slice na nk nc) ∧ W.cell? ⟨g, 3, none⟩ = some (pt gk)) (by kernel_rfl) (by kernel_rfl) (by kernel_rfl) rfl ?_ (fun KK hKK => ?_)
  · exact ⟨e0, c0, c3⟩
  repeat (first
    | (refine wpPlan_take (v := ?_) rfl (by rfl) (fun W hW => ?_) ?_; rotate_left; (focus ((try dsimp only at hW); go_split_ands; go_simp; (try with_reducible rfl); done)); (try simp only [Act.put, List.setIfInBounds_toArray, List.set_cons_zero, List.set_cons_succ]))
    | (refine wpPlan_skip rfl (by rfl) ?_; (try simp only [Act.put, List.setIfInBounds_toArray, List.set_cons_zero, List.set_cons_succ])))
  refine wpPlan_done (hKK.out _ _ ?_)
  clear hKK KK
  go_wp2_with (fail)
  (with_reducible refine (Hpd.out _ Y2.out.drew).mono ?_)
  rintro e w3 ⟨gp, gkp, gmp, kvp, rfl, pd, t3⟩
  have y3 := Y2.out.drew.trans' t3
  have rn0 := rn_part (K := K) (W := w) pd Y2.out.drew.size
  have e0 := keepc t3 id e0
  have e1 := keepc t3 id e1
  have c0 := keepc t3 id c0
  have hs3 := Y2.out.drew.size
  have hgp := pd.lg
  have hgkp := pd.lk
  have hgmp := pd.lm
  have hgp3 := pd.nd.lt
  have hgkp3 := pd.kn.lt
  have hgmp3 := pd.om.lt
  have pnd := pd.nd
  have Pd := Lib.hid pd
  clear pd
  have T3 := Lib.hid t3
  clear t3
  have Y3 := Lib.hid y3
  clear y3
  have Rn0 := Lib.hid rn0
  clear rn0
  have Pnd := Lib.hid pnd
  clear pnd
  go_wp2_with (fail)
  (with_reducible refine (Hlf.out _).mono ?_)
  rintro e w4 ⟨gl, rfl, hnl, hgl4, t4⟩
  have hgl5 := hnl.lt
  have y4 := Y3.out.trans' t4
  have hs4 := t4.size
  have e0 := keepc t4 id e0
  have c0 := keepc t4 id c0
  have l0 := hnl.c0
  have l2 := hnl.c2
  have q1 := keepc t4 id Pnd.out.c1
  have q2 := keepc t4 id Pnd.out.c2
  have q3 := keepf (p := ⟨gp, 1, none⟩) t4 hgp3 id Pnd.out.f1
  have q4 := keepf (p := ⟨gp, 2, none⟩) t4 hgp3 id Pnd.out.f2
  obtain ⟨w5, hw5⟩ : ∃ w5, w5 = w4.alloc (.cells #[pt g, pt gl] 74) := ⟨_, rfl⟩
  have t5 : Ext w4 w5 := by rw [hw5]; exact (Touch.refl _ _).alloc _
  have a0 : w5.cell? ⟨w4.heap.size, 0, none⟩ = some (pt g) := by rw [hw5]; simp
  have a1 : w5.cell? ⟨w4.heap.size, 1, none⟩ = some (pt gl) := by rw [hw5]; simp
  have hs5 : w5.heap.size = w4.heap.size + 1 := by rw [hw5]; simp
  have Hnl := Lib.hid hnl
  clear hnl
  have T4 := Lib.hid t4
  clear t4
  have Y4 := Lib.hid y4
  clear y4
  go_wp2_with (fail)
  rw [← hw5]
  clear hw5
  obtain ⟨F0, hF0⟩ : ∃ F0, F0 = fun b => b = gp ∨ b = gkp ∨ b = gmp := ⟨_, rfl⟩
  have hF0i : ∀ b, F0 b → w.heap.size ≤ b ∧ b < w3.heap.size := by
    rw [hF0]
    intro b hb
    rcases hb with rfl | rfl | rfl <;> omega
  have hFgp : F0 gp := by rw [hF0]; exact Or.inl rfl
  obtain ⟨K1, hK1⟩ : ∃ K1, K1 = fun b => K b ∨ (w.heap.size ≤ b ∧ b < w3.heap.size ∧ ¬ F0 b) := ⟨_, rfl⟩
  have rn0 : Rn w5 K1 F0 (pt gp) (.node (k.take c) none 0 RT.none) := by rw [hK1, hF0]; exact (Rn0.out.ext T4.out).ext t5
  have y5 := Y4.out.trans' t5
  have hxT : Rn w5 K1 F (pt g) T := (Hrn.out.ext y5).keys (by rw [hK1]; exact fun b hb => Or.inl hb)
  have hKF0 : ∀ b, K1 b → ¬ F0 b := by
    rw [hK1]
    rintro b (hb | hb) hf
    · have := H.out.kz b hb; have := (hF0i b hf).1; omega
    · exact hb.2.2 hf
  have hF0F : ∀ b, F0 b → ¬ F b := fun b hb hf => by have := H.out.fl b hf; have := (hF0i b hb).1; omega
  have hKFF : ∀ b, K1 b → ¬ (F0 b ∨ F b) := by
    intro b hb hf
    rcases hf with hf | hf
    · exact hKF0 b hb hf
    · rw [hK1] at hb
      rcases hb with hb | hb
      · exact H.out.kf b hb hf
      · have := H.out.fl b hf; omega
  have hrb0 : ¬ F0 1 := fun hb => by have := (hF0i _ hb).1; have := World.block_lt_of_cell? _ _ H.out.tr.r0; simp only at this; omega
  have htr5 := H.out.tr.ext y5
  have hbk := byteAt_lt H.out.kb c
  have hbn := byteAt_lt HkT.out c
  have hlx : Rn w5 K1 (fun b => b = gl) (pt gl) (.leaf k x) := by
    refine ⟨gl, _, rfl, rfl, Hnl.out.ext t5, (H.out.kw.ext y5).mono ?_⟩
    rw [hK1]; exact fun b hb => Or.inl hb
  have a0' := a0
  have l0 := keepc t5 id l0
  have l2 := keepc t5 id l2
  have q1 := keepc t5 id q1
  have q2 := keepc t5 id q2
  have q3 := keepf (p := ⟨gp, 1, none⟩) t5 (show gp < w4.heap.size by omega) id q3
  have q4 := keepf (p := ⟨gp, 2, none⟩) t5 (show gp < w4.heap.size by omega) id q4
  have c0 := keepc t5 id c0
  have nl0 : ¬ F0 gl := fun hb => by have := (hF0i _ hb).2; omega
  have nl1 : ¬ F0 w4.heap.size := fun hb => by have := (hF0i _ hb).2; omega
  have t05 : ∀ W, Touch F0 w5 W → Touch F w W := fun W t => y5.none_to.trans t (fun i hi hlt => by have := (hF0i i hi).1; omega)
  have kx1 : ∀ W F', w3.heap.size ≤ W.heap.size → (∀ b, F' b → F0 b ∨ b < w.heap.size ∨ w3.heap.size ≤ b) → ∀ b, K1 b → Kx K w W F' b := fun W F' h1 h2 => by rw [hK1]; exact kx_part h1 h2
  have T05 := Lib.hid t05
  clear t05
  have Kx1 := Lib.hid kx1
  clear kx1
  have HKFF := Lib.hid hKFF
  clear hKFF
  have HF0 := Lib.hid hF0
  clear hF0
  have HF0i := Lib.hid hF0i
  clear hF0i
  have HFgp := Lib.hid hFgp
  clear hFgp
  have HK1 := Lib.hid hK1
  clear hK1
  have Rn0 := Lib.hid rn0
  clear rn0
  have Y5 := Lib.hid y5
  clear y5
  have HxT := Lib.hid hxT
  clear hxT
  have HKF0 := Lib.hid hKF0
  clear hKF0
  have HF0F := Lib.hid hF0F
  clear hF0F
  have Hrb0 := Lib.hid hrb0
  clear hrb0
  have Htr5 := Lib.hid htr5
  clear htr5
  have Hbk := Lib.hid hbk
  clear hbk
  have Hbn := Lib.hid hbn
  clear hbn
  have Hlx := Lib.hid hlx
  clear hlx
  have Nl0 := Lib.hid nl0
  clear nl0
  have Nl1 := Lib.hid nl1
  clear nl1
  have T5 := Lib.hid t5
  clear t5
  have hadd := add_any w5 K1 F0 F gp (pt g) (k.take c) none 0 RT.none T (byteAt T.key c) Rn0.out HxT.out HT.out Hbn.out Hpn.out rfl HF0F.out HKF0.out (by omega) Htr5.out Hrb0.out (by rw [Hnk.out]; exact hk0l)
  unfold AddRet at hadd
  rw [cnt_first Hbn.out HT.out, up_zero (by omega)] at hadd
  have Hadd := Lib.hid hadd
  clear hadd
  refine wp_loop_rounds 3 ?_
  rw [rounds_succ]
  go_wp2_with (fail)
  (with_reducible refine Hadd.out.mono ?_)
  rintro e w6 ⟨rfl, rn1, t6⟩
  have a1 := keepc t6 Nl1.out a1
  have l0 := keepc t6 Nl0.out l0
  have hlx6 := Hlx.out.keep t6 (fun b hb => hb ▸ Nl0.out) HKF0.out
  have hadd2 := add_any w6 K1 (fun b => F0 b ∨ F b) (fun b => b = gl) gp (pt gl) (k.take c) none 0 (RT.upd RT.none (byteAt T.key c) T) (.leaf k x) (byteAt k c) rn1 hlx6 rfl Hbk.out Hpk.out (by rw [RT.upd_ne _ _ _ (Ne.symm Hbb.out)]; rfl)
    (fun b hb e => hb.elim (fun hb => Nl0.out (e ▸ hb)) (fun hb => by have h1 : b < w.heap.size := H.out.fl b hb; have h2 : b = gl := e; omega)) HKFF.out (by omega) (Htr5.out.keep t6 Hrb0.out) (fun hb => hb.elim Hrb0.out H.out.rf) hkl
  unfold AddRet at hadd2
  rw [cnt_second Hbn.out Hbk.out Hbb.out HT.out rfl, up_zero (by omega)] at hadd2
  clear hlx6 q1 q2 q3 q4
  have Hadd2 := Lib.hid hadd2
  clear hadd2
  have Rn1 := Lib.hid rn1
  clear rn1
  have T6 := Lib.hid t6
  clear t6
  go_wp2_with (fail)
  rw [rounds_succ]
  go_wp2_with (fail)
  (with_reducible refine Hadd2.out.mono ?_)
  rintro e w7 ⟨rfl, rn2, t7⟩
  have Rn2 := Lib.hid rn2
  clear rn2
  have T7 := Lib.hid t7
  clear t7
  go_wp2_with (fail)
  rw [rounds_succ]
  go_wp2_with (fail)
  refine bodyPost_ret (v := .tuple #[pt gp, .int .i64 2]) (by simp [results, Tryd.results48, go_sem]) rfl ?_
  have hkc : ¬ k.length = c := by omega
  have hnc : ¬ T.key.length = c := by rw [Hnk.out]; omega
  have e1 : RT.moreJ c T k = 2 := by unfold RT.moreJ; rw [if_neg (fun h => h.elim hkc hnc)]
  have e2 : RT.join c T k x = .node (k.take c) none 0 (RT.upd (RT.upd RT.none (byteAt T.key c) T) (byteAt k c) (.leaf k x)) := by
    have hl : RT.leafO c T = none := by
      cases T with
      | nil => rfl
      | leaf k0 y => unfold RT.leafO; exact if_neg hnc
      | node k0 o kd f => rfl
    unfold RT.join RT.joinO RT.joinF
    rw [if_neg hkc, if_neg hkc, if_neg hnc, hl]
  rw [Hj.out.1, Hj.out.2, e1, e2]
  have t7F : Touch F w w7 := (T05.out _ T6.out).trans T7.out (fun i hi hlt => hi.elim (fun hi => by have := (HF0i.out i hi).1; omega) id)
  have hsz := T6.out.size
  have hsz2 := T7.out.size
  refine ⟨_, fun b => (F0 b ∨ F b) ∨ b = gl, rfl, Rn2.out.keys (Kx1.out _ _ (by omega) (fun b hb => ?_)), t7F, fun b hb => ?_⟩
  · rcases hb with (hb | hb) | hb
    · exact Or.inl hb
    · exact Or.inr (Or.inl (H.out.fl b hb))
    · exact Or.inr (Or.inr (by omega))
  · rcases hb with (hb | hb) | hb
    · have := HF0i.out b hb; exact ⟨Or.inr this.1, by omega⟩
    · exact ⟨Or.inl hb, Nat.lt_of_lt_of_le (H.out.fl b hb) t7F.size⟩
    · exact ⟨Or.inr (by omega), by omega⟩
end RadC
end Go.Proofs.YtclnnkacfanaiaaDoor
