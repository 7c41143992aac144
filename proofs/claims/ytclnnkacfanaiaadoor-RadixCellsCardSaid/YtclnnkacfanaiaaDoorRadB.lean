/- A radix tree's nodes: put. -/
import Derived.Test.YtclnnkacfanaiaaDoorRadA
namespace Go.Proofs.YtclnnkacfanaiaaDoor
open Go.RowKit
set_option linter.unusedVariables false
set_option linter.unusedSimpArgs false
namespace RadB
open MaskA MaskP KidA KidB RadK RadM RadA

/-- what a put asks -/
structure Pre (w : World) (K F : Nat → Prop) (v kw : Value) (T : RT) (q k : List Int) : Prop where
  rn : Rn w K F v T
  ok : RT.Ok q T
  kw : RB w K kw k
  kb : KB k
  pre : q <+: k
  kl : k.length ≤ 65535
  tl : ∀ p ∈ T.prs, p.1.length ≤ 65535
  kf : ∀ b, K b → ¬ F b
  fl : ∀ b, F b → b < w.heap.size
  kz : ∀ b, K b → b < w.heap.size
  tr : Tr w
  rf : ¬ F 1
def Kx (K : Nat → Prop) (w w' : World) (F' : Nat → Prop) : Nat → Prop := fun b => K b ∨ (w.heap.size ≤ b ∧ b < w'.heap.size ∧ ¬ F' b)
def PutRet (w : World) (K F : Nat → Prop) (T : RT) (k : List Int) (x : Int) (e : Ending) (w' : World) : Prop :=
  ∃ v' F', e = .returned (.tuple #[v', .int .i64 ((RT.manyT T k : Nat) : Int)]) ∧ Rn w' (Kx K w w' F') F' v' (RT.putT T k x) ∧ Touch F w w' ∧ ∀ b, F' b → (F b ∨ w.heap.size ≤ b) ∧ b < w'.heap.size
theorem Pre.ext {w w' : World} {K F : Nat → Prop} {v kw : Value} {T : RT} {q k : List Int} (h : Pre w K F v kw T q k) (t : Ext w w') : Pre w' K F v kw T q k :=
  ⟨h.rn.ext t, h.ok, h.kw.ext t, h.kb, h.pre, h.kl, h.tl, h.kf, fun b hb => Nat.lt_of_lt_of_le (h.fl b hb) t.size, fun b hb => Nat.lt_of_lt_of_le (h.kz b hb) t.size, h.tr.ext t, h.rf⟩
theorem kx_old {K F' : Nat → Prop} {w w' : World} : ∀ b, K b → Kx K w w' F' b := fun b h => Or.inl h

set_option maxRecDepth 100000 in
set_option maxHeartbeats 800000 in
theorem put_nil (w : World) (K F : Nat → Prop) (v kw : Value) (q k : List Int) (x : Int) (h : Pre w K F v kw .nil q k) : Calls Tryd.prog 48 #[v, .agg #[kw, .int .u64 x]] w (PutRet w K F .nil k x) := by
  obtain rfl : v = .pointer none := h.rn
  obtain ⟨ka, kc, rfl, l1, m1, z1⟩ := h.kw.shape
  unfold maxLen at m1
  have hlf := fun W => leaf_any W ka k.length kc x
  unfold LeafRet at hlf
  unfold PutRet
  have H := Lib.hid h
  clear h
  have Hlf := Lib.hid hlf
  clear hlf
  go_enter Tryd.func48, Tryd.ntmps48
  go_wp2_with (fail)
  (with_reducible refine (Hlf.out _).mono ?_)
  rintro e w2 ⟨g, rfl, hn, hg, t2⟩
  have Hn := Lib.hid hn
  clear hn
  go_wp2_with (fail)
  refine bodyPost_ret (v := .tuple #[pt g, .int .i64 1]) (by simp [results, Tryd.results48, go_sem]) rfl ?_
  have t1 : Ext w (w.alloc (.cells #[.slice ka k.length kc, .int .u64 x] 33)) := (Touch.refl _ _).alloc _
  have t3 := t1.trans' t2
  exact ⟨_, fun b => b = g, rfl, ⟨g, _, rfl, rfl, Hn.out, (H.out.kw.ext t3).mono kx_old⟩, t3.none_to, fun b hb => by subst hb; exact ⟨Or.inr (Nat.le_trans t1.size hg), Hn.out.lt⟩⟩

set_option maxRecDepth 100000 in
set_option maxHeartbeats 1600000 in
theorem put_same (w : World) (K F : Nat → Prop) (v kw : Value) (q k : List Int) (x y : Int) (h : Pre w K F v kw (.leaf k y) q k) : Calls Tryd.prog 48 #[v, .agg #[kw, .int .u64 x]] w (PutRet w K F (.leaf k y) k x) := by
  obtain ⟨ka, kc, rfl, l1, m1, z1⟩ := h.kw.shape
  unfold maxLen at m1
  obtain ⟨wx, hwx⟩ : ∃ wx, wx = w.alloc (.cells #[.slice ka k.length kc, .int .u64 x] 33) := ⟨_, rfl⟩
  have xa : Ext w wx := by rw [hwx]; exact (Touch.refl _ _).alloc _
  have e0 : wx.cell? ⟨w.heap.size, 0, none⟩ = some (.slice ka k.length kc) := by rw [hwx]; simp
  have e1 : wx.cell? ⟨w.heap.size, 1, none⟩ = some (.int .u64 x) := by rw [hwx]; simp
  have hwxs : w.heap.size < wx.heap.size := by rw [hwx]; simp
  obtain ⟨g, kv, rfl, hgF, hnd, hkey⟩ := h.rn
  obtain ⟨na, nc, rfl, l2, m2, z2⟩ := hkey.shape
  unfold maxLen at m2
  have hkl := h.kl
  have hcm := fun W (t : Ext w W) => KeyC.common_any W _ _ k k (hkey.ext t) (h.kw.ext t) (by omega) (by omega)
  have hcp := fun W (t : Ext w W) => keyCompare_any W _ _ _ _ k k (hkey.ext t) (h.kw.ext t) h.kb h.kb
  rw [cmpK_self] at hcp
  have c0 := keepc xa id hnd.c0
  have c3 := keepc xa id hnd.c3
  have hgl := hnd.lt
  unfold PutRet
  have H := Lib.hid h
  clear h
  have Hcm := Lib.hid hcm
  clear hcm
  have Hcp := Lib.hid hcp
  clear hcp
  have Hnd := Lib.hid hnd
  clear hnd
  have Hkey := Lib.hid hkey
  clear hkey
  have HgF := Lib.hid hgF
  clear hgF
  have Xa := Lib.hid xa
  clear xa
  go_enter Tryd.func48, Tryd.ntmps48
  go_wp2_with (fail)
  rw [← hwx]
  clear hwx
  go_wp2_with (fail)
  refine wp_region_plan (.take 0 (.take 1 (.take 2 (.take 3 (.take 4 (.take 5 (.must 6 (.take 7 .done)))))))) (fun W => W.cell? ⟨w.heap.size, 0, none⟩ = some (.slice ka k.length kc) ∧ W.cell? ⟨g, 0, none⟩ = some (.slice na k.length nc)) (by kernel_rfl) (by kernel_rfl) (by kernel_rfl) rfl ?_ (fun KK hKK => ?_)
  · exact ⟨e0, c0⟩
  repeat (first
    | (refine wpPlan_take (v := ?_) rfl (by rfl) (fun W hW => ?_) ?_; rotate_left; (focus ((try dsimp only at hW); go_split_ands; go_simp; (try with_reducible rfl); done)); (try simp only [Act.put, List.setIfInBounds_toArray, List.set_cons_zero, List.set_cons_succ]))
    | (refine wpPlan_skip rfl (by rfl) ?_; (try simp only [Act.put, List.setIfInBounds_toArray, List.set_cons_zero, List.set_cons_succ])))
  refine wpPlan_must rfl (by rfl) (fun K hK => ?_)
  go_simp
  (with_reducible refine (Hcm.out _ Xa.out.drew).mono ?_)
  rintro e w2 ⟨rfl, t2⟩
  have x2 : Ext wx w2 := (Touch.refl _ _).drew.trans' t2
  have e0 := keepc x2 id e0
  have e1 := keepc x2 id e1
  have c0 := keepc x2 id c0
  have c3 := keepc x2 id c3
  have y2 := Xa.out.trans' x2
  have n2 := Hnd.out.ext y2
  have c2 := n2.c2
  have f2 := n2.f2
  have X2 := Lib.hid x2
  clear x2
  have Y2 := Lib.hid y2
  clear y2
  have N2 := Lib.hid n2
  clear n2
  refine hK.out _ _ ?_ ?_
  · exact ⟨e0, c0⟩
  clear hK K
  (try simp only [Act.put, List.setIfInBounds_toArray, List.set_cons_zero, List.set_cons_succ])
  repeat (first
    | (refine wpPlan_take (v := ?_) rfl (by rfl) (fun W hW => ?_) ?_; rotate_left; (focus ((try dsimp only at hW); go_split_ands; go_simp; (try with_reducible rfl); done)); (try simp only [Act.put, List.setIfInBounds_toArray, List.set_cons_zero, List.set_cons_succ]))
    | (refine wpPlan_skip rfl (by rfl) ?_; (try simp only [Act.put, List.setIfInBounds_toArray, List.set_cons_zero, List.set_cons_succ])))
  refine wpPlan_done (hKK.out _ _ ?_)
  clear hKK KK
  go_wp2_with (fail)
  refine wp_region_plan (.take 0 (.take 1 (.take 2 (.take 3 (.take 4 (.take 5 (.take 6 (.take 7 (.take 8 (.take 9 (.take 10 (.take 11 (.must 12 (.take 13 (.take 14 (.take 15 .done)))))))))))))))) (fun W => W.cell? ⟨w.heap.size, 0, none⟩ = some (.slice ka k.length kc) ∧ W.cell? ⟨g, 0, none⟩ = some (.slice na k.length nc) ∧ W.cell? ⟨g, 3, none⟩ = some (.pointer none)) (by kernel_rfl) (by kernel_rfl) (by kernel_rfl) rfl ?_ (fun KK hKK => ?_)
  · exact ⟨e0, c0, c3⟩
  repeat (first
    | (refine wpPlan_take (v := ?_) rfl (by rfl) (fun W hW => ?_) ?_; rotate_left; (focus ((try dsimp only at hW); go_split_ands; go_simp; (try with_reducible rfl); done)); (try simp only [Act.put, List.setIfInBounds_toArray, List.set_cons_zero, List.set_cons_succ]))
    | (refine wpPlan_skip rfl (by rfl) ?_; (try simp only [Act.put, List.setIfInBounds_toArray, List.set_cons_zero, List.set_cons_succ])))
  refine wpPlan_must rfl (by rfl) (fun K hK => ?_)
  go_simp
  (with_reducible refine (Hcp.out _ Y2.out.drew).mono ?_)
  rintro e w3 ⟨rfl, rfl⟩
  refine hK.out _ _ ?_ ?_
  · exact ⟨e0, c0, c3⟩
  clear hK K
  (try simp only [Act.put, List.setIfInBounds_toArray, List.set_cons_zero, List.set_cons_succ])
  repeat (first
    | (refine wpPlan_take (v := ?_) rfl (by rfl) (fun W hW => ?_) ?_; rotate_left; (focus ((try dsimp only at hW); go_split_ands; go_simp; (try with_reducible rfl); done)); (try simp only [Act.put, List.setIfInBounds_toArray, List.set_cons_zero, List.set_cons_succ]))
    | (refine wpPlan_skip rfl (by rfl) ?_; (try simp only [Act.put, List.setIfInBounds_toArray, List.set_cons_zero, List.set_cons_succ])))
  refine wpPlan_done (hKK.out _ _ ?_)
  clear hKK KK
  go_wp2_with (fail)
  refine bodyPost_ret (v := .tuple #[pt g, .int .i64 0]) (by simp [results, Tryd.results48, go_sem]) rfl ?_
  have n3 := (N2.out.ext (Touch.refl _ _).drew).set2 x
  have t3 : Touch F w (w2.drew.setCell ⟨g, 2, none⟩ (.int .u64 x)) := (Y2.out.drew.none_to).setCell (p := ⟨g, 2, none⟩) (Or.inl HgF.out) _
  have e1 : RT.manyT (.leaf k y) k = 0 := by simp [RT.manyT]
  have e2 : RT.putT (.leaf k y) k x = .leaf k x := by simp [RT.putT]
  rw [e1, e2]
  refine ⟨_, F, rfl, ⟨g, _, rfl, HgF.out, n3, (Hkey.out.keep t3 H.out.kf).mono kx_old⟩, t3, fun b hb => ⟨Or.inl hb, Nat.lt_of_lt_of_le (H.out.fl b hb) t3.size⟩⟩

/-- a node gets a pair of its own -/
theorem rn_own {w w' : World} {K F : Nat → Prop} {g : Nat} {k : List Int} {o : Option Int} {kd : Nat} {f : Nat → RT} (o' : Option Int) (h : Rn w K F (pt g) (.node k o kd f)) (hKF : ∀ b, K b → ¬ F b) (t : Touch (fun i => i = g) w w')
    (hn : ∀ kv kp mp, Nd w g kv o.isSome (o.getD 0) kp mp → Nd w' g kv o'.isSome (o'.getD 0) kp mp) : Rn w' K F (pt g) (.node k o' kd f) := by
  obtain ⟨g', gk, gm, kv, m, G, e1, h2, h3, h4, h5, h6, h7, h8, h9, h10, h11, h12, h13, h14⟩ := h
  obtain rfl : g = g' := by simpa using e1
  have nK : ∀ b, K b → ¬ b = g := fun b hb e => hKF b hb (e ▸ h2)
  exact ⟨g, gk, gm, kv, m, G, rfl, h2, h3, h4, h5, h6, h7, hn _ _ _ h8, h9.keep t nK, h10.keep t (Ne.symm h5), h11.keep t (Ne.symm h6), fun i hi => (h12 i hi).keep t (fun b hb => (h13 i b hb).2.1) nK, h13, h14⟩

set_option maxRecDepth 100000 in
set_option maxHeartbeats 1600000 in
theorem put_own (w : World) (K F : Nat → Prop) (v kw : Value) (q k0 k : List Int) (o : Option Int) (kd : Nat) (f : Nat → RT) (x : Int) (h : Pre w K F v kw (.node k0 o kd f) q k) (hp : k0 <+: k) (hl : k.length = k0.length) :
    Calls Tryd.prog 48 #[v, .agg #[kw, .int .u64 x]] w (PutRet w K F (.node k0 o kd f) k x) := by
  obtain ⟨ka, kc, rfl, l1, m1, z1⟩ := h.kw.shape
  unfold maxLen at m1
  obtain ⟨wx, hwx⟩ : ∃ wx, wx = w.alloc (.cells #[.slice ka k.length kc, .int .u64 x] 33) := ⟨_, rfl⟩
  have xa : Ext w wx := by rw [hwx]; exact (Touch.refl _ _).alloc _
  have e0 : wx.cell? ⟨w.heap.size, 0, none⟩ = some (.slice ka k.length kc) := by rw [hwx]; simp
  have e1 : wx.cell? ⟨w.heap.size, 1, none⟩ = some (.int .u64 x) := by rw [hwx]; simp
  have hwxs : w.heap.size < wx.heap.size := by rw [hwx]; simp
  obtain ⟨g, gk, gm, kv, m, G, rfl, h2, h3, h4, h5, h6, h7, h8, h9, h10, h11, h12, h13, h14⟩ := h.rn
  obtain ⟨na, nc, rfl, l2, m2, z2⟩ := h9.shape
  unfold maxLen at m2
  have hkl := h.kl
  have hk0l : k0.length ≤ 65535 := h.ok.key_le h.tl
  have hcm := fun W (t : Ext w W) => KeyC.common_any W _ _ k0 k (h9.ext t) (h.kw.ext t) (by omega) (by omega)
  rw [comK_of_pre hp] at hcm
  have hple := hp.length_le
  have c0 := keepc xa id h8.c0
  have c3 := keepc xa id h8.c3
  have hgl := h8.lt
  have hrn := h.rn
  unfold PutRet
  have i1 : ((k.length : Int) == (k0.length : Int)) = true := by simp; omega
  have i2 : ¬ (k0.length : Int) < (k0.length : Int) := by omega
  have H := Lib.hid h
  clear h
  have Hcm := Lib.hid hcm
  clear hcm
  have Xa := Lib.hid xa
  clear xa
  have H2 := Lib.hid h2
  clear h2
  have H3 := Lib.hid h3
  clear h3
  have H4 := Lib.hid h4
  clear h4
  have H5 := Lib.hid h5
  clear h5
  have H6 := Lib.hid h6
  clear h6
  have H7 := Lib.hid h7
  clear h7
  have H8 := Lib.hid h8
  clear h8
  have H9 := Lib.hid h9
  clear h9
  have H10 := Lib.hid h10
  clear h10
  have H11 := Lib.hid h11
  clear h11
  have H12 := Lib.hid h12
  clear h12
  have H13 := Lib.hid h13
  clear h13
  have H14 := Lib.hid h14
  clear h14
  have Hp := Lib.hid hp
  clear hp
  have Hl := Lib.hid hl
  clear hl
  have Hrn := Lib.hid hrn
  clear hrn
  go_enter Tryd.func48, Tryd.ntmps48
  go_wp2_with (fail)
  rw [← hwx]
  clear hwx
  go_wp2_with (fail)
  refine wp_region_plan (.take 0 (.take 1 (.take 2 (.take 3 (.take 4 (.take 5 (.must 6 (.take 7 .done)))))))) (fun W => W.cell? ⟨w.heap.size, 0, none⟩ = some (.slice (ka) k.length kc) ∧ W.cell? ⟨g, 0, none⟩ = some (.slice na k0.length nc)) (by kernel_rfl) (by kernel_rfl) (by kernel_rfl) rfl ?_ (fun KK hKK => ?_)
  · exact ⟨e0, c0⟩
  repeat (first
    | (refine wpPlan_take (v := ?_) rfl (by rfl) (fun W hW => ?_) ?_; rotate_left; (focus ((try dsimp only at hW); go_split_ands; go_simp; (try with_reducible rfl); done)); (try simp only [Act.put, List.setIfInBounds_toArray, List.set_cons_zero, List.set_cons_succ]))
    | (refine wpPlan_skip rfl (by rfl) ?_; (try simp only [Act.put, List.setIfInBounds_toArray, List.set_cons_zero, List.set_cons_succ])))
  refine wpPlan_must rfl (by rfl) (fun K hK => ?_)
  go_simp
  (with_reducible refine (Hcm.out _ Xa.out.drew).mono ?_)
  rintro e w2 ⟨rfl, t2⟩
  have x2 : Ext wx w2 := (Touch.refl _ _).drew.trans' t2
  have e0 := keepc x2 id e0
  have e1 := keepc x2 id e1
  have c0 := keepc x2 id c0
  have c3 := keepc x2 id c3
  have y2 := Xa.out.trans' x2
  have n2 := H8.out.ext y2
  have f1 := n2.f1
  have c1 := n2.c1
  have c2 := n2.c2
  have f2 := n2.f2
  have c4 := n2.c4
  have X2 := Lib.hid x2
  clear x2
  have Y2 := Lib.hid y2
  clear y2
  have N2 := Lib.hid n2
  clear n2
  refine hK.out _ _ ?_ ?_
  · exact ⟨e0, c0⟩
  clear hK K
  (try simp only [Act.put, List.setIfInBounds_toArray, List.set_cons_zero, List.set_cons_succ])
  repeat (first
    | (refine wpPlan_take (v := ?_) rfl (by rfl) (fun W hW => ?_) ?_; rotate_left; (focus ((try dsimp only at hW); go_split_ands; go_simp; (try with_reducible rfl); done)); (try simp only [Act.put, List.setIfInBounds_toArray, List.set_cons_zero, List.set_cons_succ]))
    | (refine wpPlan_skip rfl (by rfl) ?_; (try simp only [Act.put, List.setIfInBounds_toArray, List.set_cons_zero, List.set_cons_succ])))
  refine wpPlan_done (hKK.out _ _ ?_)
  clear hKK KK
  go_wp2_with (fail)
  refine wp_region_plan (.take 0 (.take 1 (.take 2 (.take 3 (.take 4 (.take 5 (.take 6 (.take 7 (.take 8 (.take 9 (.take 10 (.take 11 (.take 12 (.take 13 (.take 14 (.take 15 .done)))))))))))))))) (fun W => W.cell? ⟨w.heap.size, 0, none⟩ = some (.slice (ka) k.length kc) ∧ W.cell? ⟨g, 0, none⟩ = some (.slice na k0.length nc) ∧ W.cell? ⟨g, 3, none⟩ = some (pt gk)) (by kernel_rfl) (by kernel_rfl) (by kernel_rfl) rfl ?_ (fun KK hKK => ?_)
  · exact ⟨e0, c0, c3⟩
  repeat (first
    | (refine wpPlan_take (v := ?_) rfl (by rfl) (fun W hW => ?_) ?_; rotate_left; (focus ((try dsimp only at hW); go_split_ands; go_simp; (try with_reducible rfl); done)); (try simp only [Act.put, List.setIfInBounds_toArray, List.set_cons_zero, List.set_cons_succ]))
    | (refine wpPlan_skip rfl (by rfl) ?_; (try simp only [Act.put, List.setIfInBounds_toArray, List.set_cons_zero, List.set_cons_succ])))
  refine wpPlan_done (hKK.out _ _ ?_)
  clear hKK KK
  go_wp2_with (fail)
  refine wp_region_plan (.take 0 (.take 1 (.take 2 (.take 3 (.take 4 (.take 5 (.must 6 (.take 7 (.take 8 (.last 9 .done)))))))))) (fun W => W.cell? ⟨w.heap.size, 1, none⟩ = some (.int .u64 x)) (by kernel_rfl) (by kernel_rfl) (by kernel_rfl) rfl ?_ (fun KK hKK => ?_)
  · exact e1
  repeat (first
    | (refine wpPlan_take (v := ?_) rfl (by rfl) (fun W hW => ?_) ?_; rotate_left; (focus ((try dsimp only at hW); go_split_ands; go_simp; (try with_reducible rfl); done)); (try simp only [Act.put, List.setIfInBounds_toArray, List.set_cons_zero, List.set_cons_succ]))
    | (refine wpPlan_skip rfl (by rfl) ?_; (try simp only [Act.put, List.setIfInBounds_toArray, List.set_cons_zero, List.set_cons_succ])))
  refine wpPlan_must rfl (by rfl) (fun K hK => ?_)
  go_simp
  have hgx : g < w.heap.size := hgl
  obtain ⟨w4, hw4⟩ : ∃ w4, w4 = w2.setCell ⟨g, 1, none⟩ (.bool true) := ⟨_, rfl⟩
  have t4 : Touch (fun i => i = g) w2 w4 := by rw [hw4]; exact Touch.setCell (S := fun i => i = g) (Touch.refl _ _) (p := ⟨g, 1, none⟩) (Or.inl rfl) _
  have n4 : ∀ kv kp mp, Nd w2 g kv o.isSome (o.getD 0) kp mp → Nd w4 g kv true (o.getD 0) kp mp := by rw [hw4]; exact fun kv kp mp h => h.set1 true
  have e1 := keepc t4 (fun h => by simp at h; omega) e1
  have n5 := n4 _ _ _ N2.out
  have c2 := n5.c2
  have f2 := n5.f2
  rw [← hw4]
  clear hw4 n5
  have T4 := Lib.hid t4
  clear t4
  have N4 := Lib.hid n4
  clear n4
  refine hK.out _ _ ?_ ?_
  · exact e1
  clear hK K
  (try simp only [Act.put, List.setIfInBounds_toArray, List.set_cons_zero, List.set_cons_succ])
  repeat (first
    | (refine wpPlan_take (v := ?_) rfl (by rfl) (fun W hW => ?_) ?_; rotate_left; (focus ((try dsimp only at hW); go_split_ands; go_simp; (try with_reducible rfl); done)); (try simp only [Act.put, List.setIfInBounds_toArray, List.set_cons_zero, List.set_cons_succ]))
    | (refine wpPlan_skip rfl (by rfl) ?_; (try simp only [Act.put, List.setIfInBounds_toArray, List.set_cons_zero, List.set_cons_succ])))
  refine wpPlan_last rfl (by rfl) (fun K hK => ?_)
  go_simp
  obtain ⟨w5, hw5⟩ : ∃ w5, w5 = w4.setCell ⟨g, 2, none⟩ (.int .u64 x) := ⟨_, rfl⟩
  have t5 : Touch (fun i => i = g) w4 w5 := by rw [hw5]; exact Touch.setCell (S := fun i => i = g) (Touch.refl _ _) (p := ⟨g, 2, none⟩) (Or.inl rfl) _
  have n5 : ∀ kv kp mp y, Nd w4 g kv true y kp mp → Nd w5 g kv true x kp mp := by rw [hw5]; exact fun kv kp mp y h => h.set2 x
  rw [← hw5]
  clear hw5
  have T5 := Lib.hid t5
  clear t5
  have N5 := Lib.hid n5
  clear n5
  refine hK.out _ _ ?_
  clear hK K
  (try simp only [Act.put, List.setIfInBounds_toArray, List.set_cons_zero, List.set_cons_succ])
  refine wpPlan_done (hKK.out _ _ ?_)
  clear hKK KK
  go_wp2_with (fail)
  refine bodyPost_ret (v := .tuple #[pt g, .int .i64 0]) (by simp [results, Tryd.results48, go_sem]) rfl ?_
  have e1 : RT.manyT (.node k0 o kd f) k = 0 := by
    unfold RT.manyT
    rw [if_neg (by rw [comK_of_pre Hp.out]; omega), if_pos Hl.out]
  have e2 : RT.putT (.node k0 o kd f) k x = .node k0 (some x) kd f := by
    unfold RT.putT
    rw [if_neg (by rw [comK_of_pre Hp.out]; omega), if_pos Hl.out]
  rw [e1, e2]
  have h2 := Hrn.out.ext Y2.out
  have tt := T4.out.trans' T5.out
  have hr := rn_own (some x) h2 H.out.kf tt (fun kv kp mp h => N5.out _ _ _ _ (N4.out _ _ _ h))
  have d5 : Ext w5 w5.drew.drew := (Touch.refl _ _).drew.drew
  have hr := hr.ext d5
  have t3 : Touch F w w5.drew.drew := (Y2.out.none_to.trans' (tt.mono (fun i hi _ => hi ▸ H2.out))).trans_ext d5
  exact ⟨_, F, rfl, hr.keys kx_old, t3, fun b hb => ⟨Or.inl hb, Nat.lt_of_lt_of_le (H.out.fl b hb) t3.size⟩⟩

def OwnRet (w : World) (K F : Nat → Prop) (g : Nat) (k0 : List Int) (o : Option Int) (kd : Nat) (f : Nat → RT) (k : List Int) (x : Int) (e : Ending) (w' : World) : Prop :=
  e = .returned (.tuple #[]) ∧ ∃ gl, w.heap.size ≤ gl ∧ gl < w'.heap.size ∧
    Rn w' K (fun b => F b ∨ b = gl) (pt g) (.node k0 o (upK kd (cnt (RT.hsT (RT.upd f (byteAt k k0.length) (.leaf k x))) 256)) (RT.upd f (byteAt k k0.length) (.leaf k x))) ∧ Touch F w w'
set_option maxRecDepth 100000 in
set_option maxHeartbeats 1600000 in
/-- own, where the key is longer than the node's -/
theorem own_any (w : World) (K F : Nat → Prop) (g : Nat) (kw : Value) (k0 k : List Int) (o : Option Int) (kd : Nat) (f : Nat → RT) (x : Int) (h : Rn w K F (pt g) (.node k0 o kd f)) (hkw : RB w K kw k) (kb : KB k) (hp : k0 <+: k) (hl : k0.length < k.length) (hkl : k.length ≤ 65535)
    (hf : (f (byteAt k k0.length)).is = false) (hKF : ∀ b, K b → ¬ F b) (hFl : ∀ b, F b → b < w.heap.size) (hk : kd < 4) (ht : Tr w) (hr : ¬ F 1) :
    Calls Tryd.prog 76 #[pt g, .agg #[kw, .int .u64 x]] w (OwnRet w K F g k0 o kd f k x) := by
  have hkw' := hkw
  obtain ⟨ka, kc, rfl, l1, m1, z1⟩ := hkw.shape
  unfold maxLen at m1
  obtain ⟨g', gk, gm, kv, m, G, e1, h2, h3, h4, h5, h6, h7, h8, h9, h10, h11, h12, h13, h14⟩ := id h
  obtain rfl : g = g' := by simpa using e1
  obtain ⟨na, nc, rfl, l2, m2, z2⟩ := h9.shape
  unfold maxLen at m2
  obtain ⟨wx, hwx⟩ : ∃ wx, wx = w.alloc (.cells #[.slice ka k.length kc, .int .u64 x] 33) := ⟨_, rfl⟩
  have xa : Ext w wx := by rw [hwx]; exact (Touch.refl _ _).alloc _
  have e0 : wx.cell? ⟨w.heap.size, 0, none⟩ = some (.slice ka k.length kc) := by rw [hwx]; simp
  have e1 : wx.cell? ⟨w.heap.size, 1, none⟩ = some (.int .u64 x) := by rw [hwx]; simp
  have c0 := keepc xa id h8.c0
  have hb := byteAt_lt kb k0.length
  have hpb := pre_byte kb hp hl
  have i1 : ((k.length : Int) == (k0.length : Int)) = false := by simp; omega
  have hlf := fun W => leaf_any W ka k.length kc x
  unfold LeafRet at hlf
  have had := fun W xg (t : Ext w W) (hx : Rn W K (fun b => b = xg) (pt xg) (.leaf k x)) (hd : ∀ b, F b → ¬ b = xg) => add_any W K F (fun b => b = xg) g (pt xg) k0 o kd f (.leaf k x) (byteAt k k0.length) (h.ext t) hx rfl hb hpb hf hd hKF hk (ht.ext t) hr hkl
  unfold AddRet at had
  unfold OwnRet
  have H := Lib.hid h
  clear h
  have Hkw := Lib.hid hkw
  clear hkw
  have Hkw' := Lib.hid hkw'
  clear hkw'
  have Kb := Lib.hid kb
  clear kb
  have Hp := Lib.hid hp
  clear hp
  have Hl := Lib.hid hl
  clear hl
  have Hf := Lib.hid hf
  clear hf
  have HKF := Lib.hid hKF
  clear hKF
  have HFl := Lib.hid hFl
  clear hFl
  have Ht := Lib.hid ht
  clear ht
  have Hr := Lib.hid hr
  clear hr
  have Hlf := Lib.hid hlf
  clear hlf
  have Had := Lib.hid had
  clear had
  have Hpb := Lib.hid hpb
  clear hpb
  have Hb := Lib.hid hb
  clear hb
  have Xa := Lib.hid xa
  clear xa
  have H2 := Lib.hid h2
  clear h2
  have H3 := Lib.hid h3
  clear h3
  have H4 := Lib.hid h4
  clear h4
  have H5 := Lib.hid h5
  clear h5
  have H6 := Lib.hid h6
  clear h6
  have H7 := Lib.hid h7
  clear h7
  have H8 := Lib.hid h8
  clear h8
  have H9 := Lib.hid h9
  clear h9
  have H10 := Lib.hid h10
  clear h10
  have H11 := Lib.hid h11
  clear h11
  have H12 := Lib.hid h12
  clear h12
  have H13 := Lib.hid h13
  clear h13
  have H14 := Lib.hid h14
  clear h14
  go_enter Tryd.func76, Tryd.ntmps76
  go_wp2_with (fail)
  rw [← hwx]
  clear hwx
  go_wp2_with (fail)
  refine wp_region_plan (.take 0 (.take 1 (.take 2 (.take 3 (.take 4 (.take 5 (.take 6 (.take 7 (.take 8 .done))))))))) (fun W => W.cell? ⟨w.heap.size, 0, none⟩ = some (.slice ka k.length kc) ∧ W.cell? ⟨g, 0, none⟩ = some (.slice na k0.length nc)) (by kernel_rfl) (by kernel_rfl) (by kernel_rfl) rfl ?_ (fun KK hKK => ?_)
  · exact ⟨e0, c0⟩
  repeat (first
    | (refine wpPlan_take (v := ?_) rfl (by rfl) (fun W hW => ?_) ?_; rotate_left; (focus ((try dsimp only at hW); go_split_ands; go_simp; (try with_reducible rfl); done)); (try simp only [Act.put, List.setIfInBounds_toArray, List.set_cons_zero, List.set_cons_succ]))
    | (refine wpPlan_skip rfl (by rfl) ?_; (try simp only [Act.put, List.setIfInBounds_toArray, List.set_cons_zero, List.set_cons_succ])))
  refine wpPlan_done (hKK.out _ _ ?_)
  clear hKK KK
  go_wp2_with (fail)
  (with_reducible refine (Hlf.out _).mono ?_)
  rintro e w2 ⟨gl, rfl, hn, hg, t2⟩
  have x2 := Xa.out.drew.trans' t2
  have hgw : w.heap.size ≤ gl := Nat.le_trans Xa.out.size hg
  have hgl := hn.lt
  have hx : Rn w2 K (fun b => b = gl) (pt gl) (.leaf k x) := ⟨gl, _, rfl, rfl, hn, Hkw.out.ext x2⟩
  have hadd := Had.out w2 gl x2 hx (fun b hb e => by have := HFl.out b hb; omega)
  clear Had hx hn
  have Hadd := Lib.hid hadd
  clear hadd
  have X2 := Lib.hid x2
  clear x2
  go_wp2_with (fail)
  (with_reducible refine Hadd.out.mono ?_)
  rintro e w3 ⟨rfl, hr3, t3⟩
  have Hr3 := Lib.hid hr3
  clear hr3
  go_wp2_with (fail)
  refine bodyPost_end (v := .tuple #[]) (by simp [results, Tryd.results76, go_sem]) rfl ⟨rfl, gl, hgw, Nat.lt_of_lt_of_le hgl t3.size, Hr3.out, X2.out.none_to.trans' t3⟩

set_option maxRecDepth 100000 in
set_option maxHeartbeats 3200000 in
theorem put_new (w : World) (K F : Nat → Prop) (v kw : Value) (q k0 k : List Int) (o : Option Int) (kd : Nat) (f : Nat → RT) (x : Int) (h : Pre w K F v kw (.node k0 o kd f) q k) (hp : k0 <+: k) (hl : k0.length < k.length) (hf : (f (byteAt k k0.length)).is = false) :
    Calls Tryd.prog 48 #[v, .agg #[kw, .int .u64 x]] w (PutRet w K F (.node k0 o kd f) k x) := by
  obtain ⟨ka, kc, rfl, l1, m1, z1⟩ := h.kw.shape
  unfold maxLen at m1
  obtain ⟨wx, hwx⟩ : ∃ wx, wx = w.alloc (.cells #[.slice ka k.length kc, .int .u64 x] 33) := ⟨_, rfl⟩
  have xa : Ext w wx := by rw [hwx]; exact (Touch.refl _ _).alloc _
  have e0 : wx.cell? ⟨w.heap.size, 0, none⟩ = some (.slice ka k.length kc) := by rw [hwx]; simp
  have e1 : wx.cell? ⟨w.heap.size, 1, none⟩ = some (.int .u64 x) := by rw [hwx]; simp
  have hwxs : w.heap.size < wx.heap.size := by rw [hwx]; simp
  obtain ⟨g, gk, gm, kv, m, G, rfl, h2, h3, h4, h5, h6, h7, h8, h9, h10, h11, h12, h13, h14⟩ := h.rn
  obtain ⟨na, nc, rfl, l2, m2, z2⟩ := h9.shape
  unfold maxLen at m2
  have hkl := h.kl
  have hk0l : k0.length ≤ 65535 := h.ok.key_le h.tl
  have hcm := fun W (t : Ext w W) => KeyC.common_any W _ _ k0 k (h9.ext t) (h.kw.ext t) (by omega) (by omega)
  rw [comK_of_pre hp] at hcm
  have hple := hp.length_le
  have c0 := keepc xa id h8.c0
  have c3 := keepc xa id h8.c3
  have hgl := h8.lt
  have hrn := h.rn
  unfold PutRet
  have i1 : ((k.length : Int) == (k0.length : Int)) = false := by simp; omega
  have i2 : ¬ (k0.length : Int) < (k0.length : Int) := by omega
  have i3 : (0 : Int) ≤ (k0.length : Int) := by omega
  have i4 : (k0.length : Int) < (k.length : Int) := by omega
  obtain ⟨kb, ko, rfl, hkb⟩ := h.kw.addr (by omega)
  have hbt := byteAt_lt h.kb k0.length
  have cb := h.kw.cell k0.length hl
  have hbyte := byteAt_int h.kb hl
  rw [List.getElem?_eq_getElem hl] at hbyte
  rw [Option.some.inj hbyte] at cb
  clear hbyte
  have hcnt := RT.cnt_upd f hbt (.leaf k x)
  rw [hf] at hcnt
  have hlook := fun W (t : Ext w W) => (h11.ext t).look (i := byteAt k k0.length) hbt
  have hmo : mO f m (byteAt k k0.length) = none := by unfold mO; rw [hf]; rfl
  rw [hmo] at hlook
  have hown := fun W (t : Ext w W) => own_any W K F g (.slice (some ⟨kb, ko, none⟩) k.length kc) k0 k o kd f x (hrn.ext t) (h.kw.ext t) h.kb hp hl h.kl hf h.kf (fun b hb => Nat.lt_of_lt_of_le (h.fl b hb) t.size) h.ok.2.2.2.2.2.1 (h.tr.ext t) h.rf
  unfold OwnRet at hown
  generalize hbb : byteAt k k0.length = bt at *
  simp only [Option.getD_none, Option.isSome_none] at hlook
  have b0 : (0 : Int) ≤ (bt : Int) := by omega
  have b1 : (bt : Int) < 256 := by omega
  have H := Lib.hid h
  clear h
  have Hcm := Lib.hid hcm
  clear hcm
  have Xa := Lib.hid xa
  clear xa
  have H2 := Lib.hid h2
  clear h2
  have H3 := Lib.hid h3
  clear h3
  have H4 := Lib.hid h4
  clear h4
  have H5 := Lib.hid h5
  clear h5
  have H6 := Lib.hid h6
  clear h6
  have H7 := Lib.hid h7
  clear h7
  have H8 := Lib.hid h8
  clear h8
  have H9 := Lib.hid h9
  clear h9
  have H10 := Lib.hid h10
  clear h10
  have H11 := Lib.hid h11
  clear h11
  have H12 := Lib.hid h12
  clear h12
  have H13 := Lib.hid h13
  clear h13
  have H14 := Lib.hid h14
  clear h14
  have Hp := Lib.hid hp
  clear hp
  have Hl := Lib.hid hl
  clear hl
  have Hrn := Lib.hid hrn
  clear hrn
  have Hf := Lib.hid hf
  clear hf
  have Hkb := Lib.hid hkb
  clear hkb
  have Hcnt := Lib.hid hcnt
  clear hcnt
  have Hmo := Lib.hid hmo
  clear hmo
  have Hown := Lib.hid hown
  clear hown
  have Hbb := Lib.hid hbb
  clear hbb
  have Hbt := Lib.hid hbt
  clear hbt
  have Hlook := Lib.hid hlook
  clear hlook
  go_enter Tryd.func48, Tryd.ntmps48
  go_wp2_with (fail)
  rw [← hwx]
  clear hwx
  go_wp2_with (fail)
  refine wp_region_plan (.take 0 (.take 1 (.take 2 (.take 3 (.take 4 (.take 5 (.must 6 (.take 7 .done)))))))) (fun W => W.cell? ⟨w.heap.size, 0, none⟩ = some (.slice (some ⟨kb, ko, none⟩) k.length kc) ∧ W.cell? ⟨g, 0, none⟩ = some (.slice na k0.length nc)) (by kernel_rfl) (by kernel_rfl) (by kernel_rfl) rfl ?_ (fun KK hKK => ?_)
  · exact ⟨e0, c0⟩
  repeat (first
    | (refine wpPlan_take (v := ?_) rfl (by rfl) (fun W hW => ?_) ?_; rotate_left; (focus ((try dsimp only at hW); go_split_ands; go_simp; (try with_reducible rfl); done)); (try simp only [Act.put, List.setIfInBounds_toArray, List.set_cons_zero, List.set_cons_succ]))
    | (refine wpPlan_skip rfl (by rfl) ?_; (try simp only [Act.put, List.setIfInBounds_toArray, List.set_cons_zero, List.set_cons_succ])))
  refine wpPlan_must rfl (by rfl) (fun K hK => ?_)
  go_simp
  (with_reducible refine (Hcm.out _ Xa.out.drew).mono ?_)
  rintro e w2 ⟨rfl, t2⟩
  have x2 : Ext wx w2 := (Touch.refl _ _).drew.trans' t2
  have e0 := keepc x2 id e0
  have e1 := keepc x2 id e1
  have c0 := keepc x2 id c0
  have c3 := keepc x2 id c3
  have y2 := Xa.out.trans' x2
  have n2 := H8.out.ext y2
  have f1 := n2.f1
  have c1 := n2.c1
  have c2 := n2.c2
  have f2 := n2.f2
  have c4 := n2.c4
  have X2 := Lib.hid x2
  clear x2
  have Y2 := Lib.hid y2
  clear y2
  have N2 := Lib.hid n2
  clear n2
  refine hK.out _ _ ?_ ?_
  · exact ⟨e0, c0⟩
  clear hK K
  (try simp only [Act.put, List.setIfInBounds_toArray, List.set_cons_zero, List.set_cons_succ])
  repeat (first
    | (refine wpPlan_take (v := ?_) rfl (by rfl) (fun W hW => ?_) ?_; rotate_left; (focus ((try dsimp only at hW); go_split_ands; go_simp; (try with_reducible rfl); done)); (try simp only [Act.put, List.setIfInBounds_toArray, List.set_cons_zero, List.set_cons_succ]))
    | (refine wpPlan_skip rfl (by rfl) ?_; (try simp only [Act.put, List.setIfInBounds_toArray, List.set_cons_zero, List.set_cons_succ])))
  refine wpPlan_done (hKK.out _ _ ?_)
  clear hKK KK
  go_wp2_with (fail)
  refine wp_region_plan (.take 0 (.take 1 (.take 2 (.take 3 (.take 4 (.take 5 (.take 6 (.take 7 (.take 8 (.take 9 (.take 10 (.take 11 (.take 12 (.take 13 (.take 14 (.take 15 .done)))))))))))))))) (fun W => W.cell? ⟨w.heap.size, 0, none⟩ = some (.slice (some ⟨kb, ko, none⟩) k.length kc) ∧ W.cell? ⟨g, 0, none⟩ = some (.slice na k0.length nc) ∧ W.cell? ⟨g, 3, none⟩ = some (pt gk)) (by kernel_rfl) (by kernel_rfl) (by kernel_rfl) rfl ?_ (fun KK hKK => ?_)
  · exact ⟨e0, c0, c3⟩
  repeat (first
    | (refine wpPlan_take (v := ?_) rfl (by rfl) (fun W hW => ?_) ?_; rotate_left; (focus ((try dsimp only at hW); go_split_ands; go_simp; (try with_reducible rfl); done)); (try simp only [Act.put, List.setIfInBounds_toArray, List.set_cons_zero, List.set_cons_succ]))
    | (refine wpPlan_skip rfl (by rfl) ?_; (try simp only [Act.put, List.setIfInBounds_toArray, List.set_cons_zero, List.set_cons_succ])))
  refine wpPlan_done (hKK.out _ _ ?_)
  clear hKK KK
  have cb := keepc Y2.out id cb
  have look := Hlook.out w2 Y2.out
  have look1 := Hlook.out w2.drew Y2.out.drew
  have look2 := Hlook.out w2.drew.drew Y2.out.drew.drew
  go_wp2_with (fail)
  (with_reducible refine (Hown.out _ Y2.out.drew).mono ?_)
  rintro e w3 ⟨rfl, gl, hg1, hg2, hr3, t3⟩
  have Hr3 := Lib.hid hr3
  clear hr3
  have T3 := Lib.hid t3
  clear t3
  go_wp2_with (fail)
  refine bodyPost_ret (v := .tuple #[pt g, .int .i64 1]) (by simp [results, Tryd.results48, go_sem]) rfl ?_
  have hc : cnt (RT.hsT (RT.upd f bt (.leaf k x))) 256 = cnt (RT.hsT f) 256 + 1 := by simpa [RT.is] using Hcnt.out
  have e1 : RT.manyT (.node k0 o kd f) k = 1 := by
    unfold RT.manyT
    rw [if_neg (by rw [comK_of_pre Hp.out]; omega), if_neg (by have := Hl.out; omega), Hbb.out, if_pos Hf.out]
  have e2 : RT.putT (.node k0 o kd f) k x = .node k0 o (upK kd (cnt (RT.hsT (RT.upd f bt (.leaf k x))) 256)) (RT.upd f bt (.leaf k x)) := by
    unfold RT.putT
    rw [if_neg (by rw [comK_of_pre Hp.out]; omega), if_neg (by have := Hl.out; omega), Hbb.out, if_pos Hf.out, hc]
  rw [e1, e2]
  have hs := Y2.out.drew.size
  have t5 : Touch F w w3 := Y2.out.drew.none_to.trans' T3.out
  refine ⟨_, fun b => F b ∨ b = gl, rfl, Hr3.out.keys kx_old, t5, fun b hb => ?_⟩
  rcases hb with hb | rfl
  · exact ⟨Or.inl hb, Nat.lt_of_lt_of_le (H.out.fl b hb) t5.size⟩
  · exact ⟨Or.inr (by omega), hg2⟩

set_option maxRecDepth 100000 in
set_option maxHeartbeats 3200000 in
theorem put_rec (w : World) (K F : Nat → Prop) (v kw : Value) (q k0 k : List Int) (o : Option Int) (kd : Nat) (f : Nat → RT) (x : Int) (h : Pre w K F v kw (.node k0 o kd f) q k) (hp : k0 <+: k) (hl : k0.length < k.length) (hf : (f (byteAt k k0.length)).is = true)
    (ih : ∀ W F' v', Pre W K F' v' kw (f (byteAt k k0.length)) (k0 ++ [((byteAt k k0.length : Nat) : Int)]) k → Calls Tryd.prog 48 #[v', .agg #[kw, .int .u64 x]] W (PutRet W K F' (f (byteAt k k0.length)) k x)) :
    Calls Tryd.prog 48 #[v, .agg #[kw, .int .u64 x]] w (PutRet w K F (.node k0 o kd f) k x) := by
  obtain ⟨ka, kc, rfl, l1, m1, z1⟩ := h.kw.shape
  unfold maxLen at m1
  obtain ⟨wx, hwx⟩ : ∃ wx, wx = w.alloc (.cells #[.slice ka k.length kc, .int .u64 x] 33) := ⟨_, rfl⟩
  have xa : Ext w wx := by rw [hwx]; exact (Touch.refl _ _).alloc _
  have e0 : wx.cell? ⟨w.heap.size, 0, none⟩ = some (.slice ka k.length kc) := by rw [hwx]; simp
  have e1 : wx.cell? ⟨w.heap.size, 1, none⟩ = some (.int .u64 x) := by rw [hwx]; simp
  have hwxs : w.heap.size < wx.heap.size := by rw [hwx]; simp
  obtain ⟨g, gk, gm, kv, m, G, rfl, h2, h3, h4, h5, h6, h7, h8, h9, h10, h11, h12, h13, h14⟩ := h.rn
  obtain ⟨na, nc, rfl, l2, m2, z2⟩ := h9.shape
  unfold maxLen at m2
  have hkl := h.kl
  have hk0l : k0.length ≤ 65535 := h.ok.key_le h.tl
  have hcm := fun W (t : Ext w W) => KeyC.common_any W _ _ k0 k (h9.ext t) (h.kw.ext t) (by omega) (by omega)
  rw [comK_of_pre hp] at hcm
  have hple := hp.length_le
  have c0 := keepc xa id h8.c0
  have c3 := keepc xa id h8.c3
  have hgl := h8.lt
  have hrn := h.rn
  unfold PutRet
  have i1 : ((k.length : Int) == (k0.length : Int)) = false := by simp; omega
  have i2 : ¬ (k0.length : Int) < (k0.length : Int) := by omega
  have i3 : (0 : Int) ≤ (k0.length : Int) := by omega
  have i4 : (k0.length : Int) < (k.length : Int) := by omega
  obtain ⟨kb, ko, rfl, hkb⟩ := h.kw.addr (by omega)
  have hbt := byteAt_lt h.kb k0.length
  have cb := h.kw.cell k0.length hl
  have hbyte := byteAt_int h.kb hl
  rw [List.getElem?_eq_getElem hl] at hbyte
  rw [Option.some.inj hbyte] at cb
  clear hbyte
  have hpb := pre_byte h.kb hp hl
  have hlook := fun W (t : Ext w W) => (h11.ext t).look (i := byteAt k k0.length) hbt
  have hlk : RT.manyT (.node k0 o kd f) k = RT.manyT (f (byteAt k k0.length)) k ∧ RT.putT (.node k0 o kd f) k x = .node k0 o kd (RT.upd f (byteAt k k0.length) (RT.putT (f (byteAt k k0.length)) k x)) :=
    ⟨RT.many_rec (by rw [comK_of_pre hp]; omega) (by omega) hf, RT.put_rec (by rw [comK_of_pre hp]; omega) (by omega) hf⟩
  have htl : ∀ p ∈ (f (byteAt k k0.length)).prs, p.1.length ≤ 65535 := fun p hp => h.tl p (RT.mem_node.2 (Or.inr ⟨_, hbt, hp⟩))
  have hpt := fun (W : World) => RT.putT_is (f (byteAt k k0.length)) k x
  have hokc := h.ok.2.2.2.1 _ hbt
  generalize hbb : byteAt k k0.length = bt at *
  have hmo : mO f m bt = some (m bt) := by unfold mO; rw [hf]; rfl
  obtain ⟨gc, hgc, hGc, _⟩ := (h12 bt hbt).ptr hf
  rw [hgc] at hmo
  rw [hmo] at hlook
  simp only [Option.getD_some, Option.isSome_some] at hlook
  have hpre : ∀ W, Ext w W → Pre W K (G bt) (pt gc) (.slice (some ⟨kb, ko, none⟩) k.length kc) (f bt) (k0 ++ [(bt : Int)]) k := fun W t =>
    ⟨by rw [← hgc]; exact (h12 bt hbt).ext t, hokc, h.kw.ext t, h.kb, hpb, h.kl, htl, fun b hb hg => h.kf b hb (h13 bt b hg).1, fun b hb => Nat.lt_of_lt_of_le (h.fl b (h13 bt b hb).1) t.size, fun b hb => Nat.lt_of_lt_of_le (h.kz b hb) t.size, h.tr.ext t, fun hg => h.rf (h13 bt _ hg).1⟩
  have hih := fun W (t : Ext w W) => ih W _ _ (hpre W t)
  unfold PutRet at hih
  have b0 : (0 : Int) ≤ (bt : Int) := by omega
  have b1 : (bt : Int) < 256 := by omega
  clear ih hpre
  have H := Lib.hid h
  clear h
  have Hcm := Lib.hid hcm
  clear hcm
  have Xa := Lib.hid xa
  clear xa
  have H2 := Lib.hid h2
  clear h2
  have H3 := Lib.hid h3
  clear h3
  have H4 := Lib.hid h4
  clear h4
  have H5 := Lib.hid h5
  clear h5
  have H6 := Lib.hid h6
  clear h6
  have H7 := Lib.hid h7
  clear h7
  have H8 := Lib.hid h8
  clear h8
  have H9 := Lib.hid h9
  clear h9
  have H10 := Lib.hid h10
  clear h10
  have H11 := Lib.hid h11
  clear h11
  have H12 := Lib.hid h12
  clear h12
  have H13 := Lib.hid h13
  clear h13
  have H14 := Lib.hid h14
  clear h14
  have Hp := Lib.hid hp
  clear hp
  have Hl := Lib.hid hl
  clear hl
  have Hrn := Lib.hid hrn
  clear hrn
  have Hf := Lib.hid hf
  clear hf
  have Hkb := Lib.hid hkb
  clear hkb
  have Hmo := Lib.hid hmo
  clear hmo
  have Hbb := Lib.hid hbb
  clear hbb
  have Hbt := Lib.hid hbt
  clear hbt
  have Hlook := Lib.hid hlook
  clear hlook
  have Hpb := Lib.hid hpb
  clear hpb
  have Htl := Lib.hid htl
  clear htl
  have Hih := Lib.hid hih
  clear hih
  have Hlk := Lib.hid hlk
  clear hlk
  have Hgc := Lib.hid hgc
  clear hgc
  have HGc := Lib.hid hGc
  clear hGc
  have Hpt := Lib.hid hpt
  clear hpt
  have Hokc := Lib.hid hokc
  clear hokc
  go_enter Tryd.func48, Tryd.ntmps48
  go_wp2_with (fail)
  rw [← hwx]
  clear hwx
  go_wp2_with (fail)
  refine wp_region_plan (.take 0 (.take 1 (.take 2 (.take 3 (.take 4 (.take 5 (.must 6 (.take 7 .done)))))))) (fun W => W.cell? ⟨w.heap.size, 0, none⟩ = some (.slice (some ⟨kb, ko, none⟩) k.length kc) ∧ W.cell? ⟨g, 0, none⟩ = some (.slice na k0.length nc)) (by kernel_rfl) (by kernel_rfl) (by kernel_rfl) rfl ?_ (fun KK hKK => ?_)
  · exact ⟨e0, c0⟩
  repeat (first
    | (refine wpPlan_take (v := ?_) rfl (by rfl) (fun W hW => ?_) ?_; rotate_left; (focus ((try dsimp only at hW); go_split_ands; go_simp; (try with_reducible rfl); done)); (try simp only [Act.put, List.setIfInBounds_toArray, List.set_cons_zero, List.set_cons_succ]))
    | (refine wpPlan_skip rfl (by rfl) ?_; (try simp only [Act.put, List.setIfInBounds_toArray, List.set_cons_zero, List.set_cons_succ])))
  refine wpPlan_must rfl (by rfl) (fun K hK => ?_)
  go_simp
  (with_reducible refine (Hcm.out _ Xa.out.drew).mono ?_)
  rintro e w2 ⟨rfl, t2⟩
  have x2 : Ext wx w2 := (Touch.refl _ _).drew.trans' t2
  have e0 := keepc x2 id e0
  have e1 := keepc x2 id e1
  have c0 := keepc x2 id c0
  have c3 := keepc x2 id c3
  have y2 := Xa.out.trans' x2
  have n2 := H8.out.ext y2
  have f1 := n2.f1
  have c1 := n2.c1
  have c2 := n2.c2
  have f2 := n2.f2
  have c4 := n2.c4
  have X2 := Lib.hid x2
  clear x2
  have Y2 := Lib.hid y2
  clear y2
  have N2 := Lib.hid n2
  clear n2
  refine hK.out _ _ ?_ ?_
  · exact ⟨e0, c0⟩
  clear hK K
  (try simp only [Act.put, List.setIfInBounds_toArray, List.set_cons_zero, List.set_cons_succ])
  repeat (first
    | (refine wpPlan_take (v := ?_) rfl (by rfl) (fun W hW => ?_) ?_; rotate_left; (focus ((try dsimp only at hW); go_split_ands; go_simp; (try with_reducible rfl); done)); (try simp only [Act.put, List.setIfInBounds_toArray, List.set_cons_zero, List.set_cons_succ]))
    | (refine wpPlan_skip rfl (by rfl) ?_; (try simp only [Act.put, List.setIfInBounds_toArray, List.set_cons_zero, List.set_cons_succ])))
  refine wpPlan_done (hKK.out _ _ ?_)
  clear hKK KK
  go_wp2_with (fail)
  refine wp_region_plan (.take 0 (.take 1 (.take 2 (.take 3 (.take 4 (.take 5 (.take 6 (.take 7 (.take 8 (.take 9 (.take 10 (.take 11 (.take 12 (.take 13 (.take 14 (.take 15 .done)))))))))))))))) (fun W => W.cell? ⟨w.heap.size, 0, none⟩ = some (.slice (some ⟨kb, ko, none⟩) k.length kc) ∧ W.cell? ⟨g, 0, none⟩ = some (.slice na k0.length nc) ∧ W.cell? ⟨g, 3, none⟩ = some (pt gk)) (by kernel_rfl) (by kernel_rfl) (by kernel_rfl) rfl ?_ (fun KK hKK => ?_)
  · exact ⟨e0, c0, c3⟩
  repeat (first
    | (refine wpPlan_take (v := ?_) rfl (by rfl) (fun W hW => ?_) ?_; rotate_left; (focus ((try dsimp only at hW); go_split_ands; go_simp; (try with_reducible rfl); done)); (try simp only [Act.put, List.setIfInBounds_toArray, List.set_cons_zero, List.set_cons_succ]))
    | (refine wpPlan_skip rfl (by rfl) ?_; (try simp only [Act.put, List.setIfInBounds_toArray, List.set_cons_zero, List.set_cons_succ])))
  refine wpPlan_done (hKK.out _ _ ?_)
  clear hKK KK
  have cb := keepc Y2.out id cb
  have look := Hlook.out w2 Y2.out
  have look1 := Hlook.out w2.drew Y2.out.drew
  have look2 := Hlook.out w2.drew.drew Y2.out.drew.drew
  go_wp2_with (fail)
  (with_reducible refine (Hih.out _ Y2.out.drew).mono ?_)
  rintro e w3 ⟨v', F', rfl, hr3, t3, hF3⟩
  obtain ⟨gn, rfl, hgn, _⟩ := hr3.ptr (Hpt.out w)
  have y3 : Touch (G bt) w w3 := Y2.out.drew.none_to.trans' t3
  have hh13 := H13.out
  have om3 := H11.out.keep y3 (fun hg => (hh13 bt _ hg).2.2.2 rfl)
  have c4 := keepc y3 (fun hg => (hh13 bt _ hg).2.1 rfl) H8.out.c4
  clear look look1 look2
  have Hr3 := Lib.hid hr3
  clear hr3
  have T3 := Lib.hid t3
  clear t3
  have HF3 := Lib.hid hF3
  clear hF3
  have Y3 := Lib.hid y3
  clear y3
  have Om3 := Lib.hid om3
  clear om3
  have Hgn := Lib.hid hgn
  clear hgn
  have Hh13 := Lib.hid hh13
  clear hh13
  go_wp2_with (at_mapUpdate; refine wpList_mapPut _ rfl _ _ _ rfl gm _ rfl Om3.out bt Hbt.out rfl (pt gn) rfl ?_; intro w4 om4 t4)
  have Om4 := Lib.hid om4
  clear om4
  have T4 := Lib.hid t4
  clear t4
  go_wp2_with (fail)
  refine bodyPost_ret (v := .tuple #[pt g, .int .i64 ((RT.manyT (f bt) k : Nat) : Int)]) (by simp [results, Tryd.results48, go_sem]) rfl ?_
  rw [Hlk.out.1, Hlk.out.2]
  have hh13 := H13.out
  have hh14 := H14.out
  have hs2 := Y2.out.drew.size
  have hs3 := T3.out.size
  have tt : Touch (fun b => G bt b ∨ b = gm) w w4 := (Y3.out.mono (fun i hi _ => Or.inl hi)).trans' (T4.out.mono (fun i hi _ => Or.inr hi))
  have hgm := H.out.fl gm H4.out
  have hFnew : ∀ b, F' b → (G bt b ∨ w.heap.size ≤ b) ∧ b < w3.heap.size := fun b hb => ⟨(HF3.out b hb).1.imp id (fun h => by omega), (HF3.out b hb).2⟩
  have hkx : ∀ b, Kx K w2.drew w3 F' b → Kx K w w4 (fun b => F b ∨ F' b) b := fun b hb => by
    rcases hb with hb | ⟨h1, h2, h3⟩
    · exact Or.inl hb
    · refine Or.inr ⟨by omega, Nat.lt_of_lt_of_le h2 T4.out.size, fun e => e.elim (fun e => ?_) h3⟩
      have := H.out.fl b e; omega
  have nK : ∀ b, K b → ¬ (G bt b ∨ b = gm) := fun b hb e => H.out.kf b hb (e.elim (fun e => (hh13 bt b e).1) (fun e => e ▸ H4.out))
  refine ⟨_, fun b => F b ∨ F' b, rfl, ⟨g, gk, gm, .slice na k0.length nc, fun i => if i = bt then pt gn else m i, fun i c => if i = bt then F' c else G i c, rfl, Or.inl H2.out, Or.inl H3.out, Or.inl H4.out, H5.out, H6.out, H7.out,
    H8.out.keep tt (fun e => e.elim (fun e => (hh13 bt _ e).2.1 rfl) H6.out), (H9.out.keep tt nK).mono kx_old, ?_, ?_, fun i hi => ?_, fun i c hc => ?_, fun i j c hi hj => ?_⟩, tt.mono (fun i hi _ => hi.elim (fun e => (hh13 bt i e).1) (fun e => e ▸ H4.out)), fun b hb => ?_⟩
  · have hk := H10.out.keep tt (fun e => e.elim (fun e => (hh13 bt _ e).2.2.1 rfl) H7.out)
    have e : hI (RT.upd f bt (RT.putT (f bt) k x)) = hI f := by
      funext i; simp only [hI, RT.upd]; split
      · rename_i e; rw [e, Hpt.out w, Hf.out]
      · rfl
    rw [e]; exact hk
  · have e : setm (mO f m) bt (some (pt gn)) = mO (RT.upd f bt (RT.putT (f bt) k x)) (fun i => if i = bt then pt gn else m i) := setm_upd f m bt (Hpt.out w) (pt gn)
    rw [← e]; exact Om4.out
  · by_cases e : i = bt
    · subst e
      simp only [if_true, RT.upd_at]
      refine (Hr3.out.keys hkx).keep T4.out (fun b hb e => ?_) (fun b hb e => ?_)
      · subst e
        rcases (hFnew b hb).1 with h | h
        · exact (hh13 i b h).2.2.2 rfl
        · omega
      · subst e
        rcases hb with hb | ⟨h1, _⟩
        · exact H.out.kf b hb H4.out
        · omega
    · simp only [e, if_false, RT.upd_ne f bt _ e]
      exact ((H12.out i hi).keep tt (fun b hb e2 => e2.elim (fun e2 => e (hh14 _ _ _ hb e2)) (hh13 i b hb).2.2.2) nK).keys kx_old
  · by_cases e : i = bt
    · simp only [e, if_true] at hc
      refine ⟨Or.inr hc, ?_⟩
      have hgl := H.out.fl g H2.out
      have hkl := H.out.fl gk H3.out
      rcases (hFnew c hc).1 with h | h
      · exact (hh13 bt c h).2
      · exact ⟨by omega, by omega, by omega⟩
    · simp only [e, if_false] at hc
      exact ⟨Or.inl (hh13 i c hc).1, (hh13 i c hc).2⟩
  · have key : ∀ i, i ≠ bt → F' c → G i c → False := fun i hn h1 h2 => by
      rcases (hFnew c h1).1 with h | h
      · exact hn (hh14 _ _ _ h2 h)
      · have := H.out.fl c (hh13 i c h2).1; omega
    by_cases e : i = bt
    · by_cases e2 : j = bt
      · rw [e, e2]
      · simp only [e, if_true] at hi
        simp only [e2, if_false] at hj
        exact (key j e2 hi hj).elim
    · by_cases e2 : j = bt
      · simp only [e, if_false] at hi
        simp only [e2, if_true] at hj
        exact (key i e hj hi).elim
      · simp only [e, if_false] at hi
        simp only [e2, if_false] at hj
        exact hh14 i j c hi hj
  · rcases hb with hb | hb
    · exact ⟨Or.inl hb, Nat.lt_of_lt_of_le (H.out.fl b hb) tt.size⟩
    · refine ⟨(hFnew b hb).1.imp (fun h => (hh13 bt b h).1) id, Nat.lt_of_lt_of_le (hFnew b hb).2 T4.out.size⟩
end RadB
end Go.Proofs.YtclnnkacfanaiaaDoor
