/- The document's own map: Pair, Select, Floor, Ceil. -/
import Derived.Test.YthfnacadabhpdaaRefA
namespace Go.Proofs.Ythfnacadabhpdaa
open Go.RowKit
set_option linter.unusedVariables false
set_option linter.unusedSimpArgs false
namespace RefB
open ModA ModB RefA
variable {F G : Nat → Prop}

set_option maxRecDepth 100000 in
set_option maxHeartbeats 1600000 in
theorem pair_any (w : World) (kv : Value) (x : Int) (k : List Int) (hk : RB w G kv k) (hl : k.length ≤ 1000000) :
    Calls Try.prog 94 #[.agg #[kv, .int .u64 x]] w fun e w' => (∃ kv', e = .returned (.agg #[kv', .int .u64 x]) ∧ OB w' (Ge w.heap.size) kv' k) ∧ Ext w w' := by
  obtain ⟨ka, kc, rfl, l2, m2, n2⟩ := hk.shape
  obtain ⟨W, hW⟩ : ∃ W, W = (w.alloc (.cells #[.slice ka k.length kc, .int .u64 x] 33)).alloc (.cells #[.slice none 0 0, .int .u64 0] 33) := ⟨_, rfl⟩
  have t0 : Ext w W := by rw [hW]; exact ((Touch.refl _ _).alloc _).alloc _
  have hsz : W.heap.size = w.heap.size + 2 := by rw [hW, World.size_alloc, World.size_alloc]
  have t1 : Ext (w.alloc (.cells #[.slice ka k.length kc, .int .u64 x] 33)) W := by rw [hW]; exact (Touch.refl _ _).alloc _
  have c0 : W.cell? ⟨w.heap.size, 0, none⟩ = some (.slice ka k.length kc) := keepc t1 id (by simp)
  have c1 : W.cell? ⟨w.heap.size, 1, none⟩ = some (.int .u64 x) := keepc t1 id (by simp)
  have s1 : w.heap.size + 1 = (w.alloc (.cells #[.slice ka k.length kc, .int .u64 x] 33)).heap.size := by simp
  have d0 : W.cell? ⟨w.heap.size + 1, 0, none⟩ = some (.slice none 0 0) := by rw [hW, s1, World.cell?_alloc_new]; rfl
  have d1 : W.cell? ⟨w.heap.size + 1, 1, none⟩ = some (.int .u64 0) := by rw [hW, s1, World.cell?_alloc_new]; rfl
  have f0 : W.frozen? ⟨w.heap.size + 1, 0, none⟩ = false := by rw [hW, s1]; exact World.frozen?_alloc_new _ _ _ _
  have f1 : W.frozen? ⟨w.heap.size + 1, 1, none⟩ = false := by rw [hW, s1]; exact World.frozen?_alloc_new _ _ _ _
  clear s1 t1
  have Hk := Lib.hid hk
  clear hk
  have Hsz := Lib.hid hsz
  clear hsz
  have T0 := Lib.hid t0
  clear t0
  go_enter Try.func94, Try.ntmps94
  go_wp2_with (fail)
  rw [← hW]
  have HW := Lib.hid hW
  clear hW
  refine wp_region_plan (.take 0 (.take 1 (.take 3 (.take 4 (.must 2 (.take 5 (.last 6 .done))))))) (fun wy => wy.cell? ⟨w.heap.size, 0, none⟩ = some (.slice ka k.length kc) ∧ wy.cell? ⟨w.heap.size, 1, none⟩ = some (.int .u64 x)) (by kernel_rfl) (by kernel_rfl) (by kernel_rfl) rfl ?_ (fun KK hKK => ?_)
  · exact ⟨c0, c1⟩
  repeat (first
    | (refine wpPlan_take (v := ?_) rfl (by rfl) (fun W hW => ?_) ?_; rotate_left; (focus ((try dsimp only at hW); go_split_ands; go_simp; (try with_reducible rfl); done)); (try simp only [Act.put, List.setIfInBounds_toArray, List.set_cons_zero, List.set_cons_succ]))
    | (refine wpPlan_skip rfl (by rfl) ?_; (try simp only [Act.put, List.setIfInBounds_toArray, List.set_cons_zero, List.set_cons_succ])))
  refine wpPlan_must rfl (by rfl) (fun K hK => ?_)
  refine wp_push_any _ _ _ 23 rfl 5 (.int .u8 0) 1 1 Try.underlying23 info_u8 rfl (by decide) (.slice none 0 0) 0 [] rfl (World.ownsRow_nil _ _ _ _) ka k.length kc rfl n2 (ivs .u8 k) l2 (by simp [ivs]) ((Hk.out.ext T0.out).ext (Touch.refl _ _).drew).src (ivs_one _ _) (by simp [maxLen]; omega) (by omega) ?_
  intro v5 w1 hown1 ht1 hb1
  obtain ⟨va, vc, rfl⟩ := own_len hown1
  simp only [Nat.zero_add, List.nil_append] at hown1 hb1
  have e1 : Ext W w1 := (Touch.refl _ _).drew.ext_new ht1 (fun i hi => by cases hi)
  have hob1 : OB w1 (Ge W.heap.size) (.slice va k.length vc) k := ⟨hown1, fun b hb => by rw [hb] at hb1; simp [Value.ownBlock] at hb1; unfold Ge; omega⟩
  refine hK.out _ _ ?_ ?_
  · exact ⟨keepc e1 id c0, keepc e1 id c1⟩
  clear hK K
  (try simp only [Act.put, List.setIfInBounds_toArray, List.set_cons_zero, List.set_cons_succ])
  have y0 := keepc e1 id d0
  have y1 := keepc e1 id d1
  have z0 := keepf (p := ⟨w.heap.size + 1, 0, none⟩) e1 (by have := Hsz.out; show w.heap.size + 1 < W.heap.size; omega) id f0
  have z1 := keepf (p := ⟨w.heap.size + 1, 1, none⟩) e1 (by have := Hsz.out; show w.heap.size + 1 < W.heap.size; omega) id f1
  have r0 := set2_get0 (u := .slice va k.length vc) (v := .int .u64 x) y0
  have r1 := set2_get1 (u := .slice va k.length vc) (v := .int .u64 x) y1
  clear hown1 hb1 ht1
  have Hob1 := Lib.hid hob1
  clear hob1
  have E1 := Lib.hid e1
  clear e1
  repeat (first
    | (refine wpPlan_take (v := ?_) rfl (by rfl) (fun W hW => ?_) ?_; rotate_left; (focus ((try dsimp only at hW); go_split_ands; go_simp; (try with_reducible rfl); done)); (try simp only [Act.put, List.setIfInBounds_toArray, List.set_cons_zero, List.set_cons_succ]))
    | (refine wpPlan_skip rfl (by rfl) ?_; (try simp only [Act.put, List.setIfInBounds_toArray, List.set_cons_zero, List.set_cons_succ])))
  refine wpPlan_last rfl (by rfl) (fun K hK => ?_)
  go_simp
  refine hK.out _ _ ?_
  clear hK K
  (try simp only [Act.put, List.setIfInBounds_toArray, List.set_cons_zero, List.set_cons_succ])
  refine wpPlan_done (hKK.out _ _ ?_)
  clear hKK KK
  go_wp2_with (fail)
  have tt := touch_set2 w1 (w.heap.size + 1) 0 1 (.slice va k.length vc) (.int .u64 x)
  refine bodyPost_ret (v := .agg #[.slice va k.length vc, .int .u64 x]) (by simp [results, Try.results94, go_sem, r0, r1]) rfl ⟨⟨_, rfl, ?_⟩, (T0.out.trans' E1.out).ext_new tt (fun i hi => by omega)⟩
  refine (Hob1.out.keep' tt (fun b hb hb' => ?_)).mono (fun b hb => ?_)
  · have h1 : W.heap.size ≤ b := Hob1.out.2 b hb
    have := Hsz.out; omega
  · have h1 : W.heap.size ≤ b := hb
    have := Hsz.out; unfold Ge; omega

theorem select_none (w : World) (r : Nat) (ps : Prs) (i : Int) (h : Rf w r F ps) (hm : ps.length ≤ 1000000) (hi : i < 0 ∨ ps.length ≤ i) :
    Calls Try.prog 77 #[.pointer (some ⟨r, 0, none⟩), .int .i64 i] w (PairRet w none) := by
  rcases hi with hi | hi
  · have b0 : decide (i < 0) = true := by simpa using hi
    go_enter Try.func77, Try.ntmps77
    go_wp2_with (fail)
    refine bodyPost_ret (v := .tuple #[.agg #[.slice none 0 0, .int .u64 0], .bool false]) (by simp [results, Try.results77, go_sem]) rfl ⟨⟨_, rfl, OB.nil _ _⟩, ?_⟩
    exact (((Touch.refl _ _).alloc _))
  · have b0 : decide (i < 0) = false := by simp; omega
    have b1 : decide ((ps.length : Int) ≤ i) = true := by simpa using hi
    obtain ⟨v, c0, hrp⟩ := h.row
    obtain ⟨a, c, rfl, _⟩ := hrp.shape
    have t0 : Ext w (w.alloc (.cells #[.slice none 0 0, .int .u64 0] 33)) := (Touch.refl _ _).alloc _
    have d0 := keepc t0 id c0
    have H := Lib.hid h
    clear h
    have Hrp := Lib.hid hrp
    clear hrp
    clear c0
    go_enter Try.func77, Try.ntmps77
    go_wp2_with (fail)
    refine bodyPost_ret (v := .tuple #[.agg #[.slice none 0 0, .int .u64 0], .bool false]) (by simp [results, Try.results77, go_sem]) rfl ⟨⟨_, rfl, OB.nil _ _⟩, ?_⟩
    exact (((Touch.refl _ _).alloc _))

set_option maxRecDepth 100000 in
set_option maxHeartbeats 800000 in
theorem select_some (w : World) (r : Nat) (ps : Prs) (i : Nat) (h : Rf w r F ps) (hm : ps.length ≤ 1000000) (p : List Int × Int) (hp : ps[i]? = some p) :
    Calls Try.prog 77 #[.pointer (some ⟨r, 0, none⟩), .int .i64 i] w (PairRet w (some p)) := by
  have hlt := (List.getElem?_eq_some_iff.1 hp).1
  obtain ⟨v, c0, hrp⟩ := h.row
  have hlong := h.long p (List.mem_of_getElem? hp)
  obtain ⟨a, c, rfl, _⟩ := hrp.shape
  obtain ⟨b, off, rfl, _⟩ := hrp.addr (by omega)
  obtain ⟨kv, c1, c2, hkv⟩ := hrp.get _ _ hp
  obtain ⟨ka, kc, rfl, _⟩ := hkv.shape
  have b0 : decide ((i : Int) < 0) = false := by simp
  have b1 : decide ((ps.length : Int) ≤ (i : Int)) = false := by simp; omega
  have t0 : Ext w (w.alloc (.cells #[.slice none 0 0, .int .u64 0] 33)) := (Touch.refl _ _).alloc _
  have d0 := keepc t0 id c0
  have d1 := keepc t0 id c1
  have d2 := keepc t0 id c2
  have H := Lib.hid h
  clear h
  have Hrp := Lib.hid hrp
  clear hrp
  have Hp := Lib.hid hp
  clear hp
  have Hkv := Lib.hid hkv
  clear hkv
  clear c0 c1 c2
  have i0 : (0 : Int) ≤ (i : Int) := by omega
  have i1 : (i : Int) < (ps.length : Int) := by omega
  go_enter Try.func77, Try.ntmps77
  go_wp2_with (fail)
  (with_reducible refine (pair_any (G := F) _ _ p.2 p.1 (Hkv.out.ext t0) (by omega)).mono ?_)
  rintro e w1 ⟨⟨kv', rfl, hob⟩, ht1⟩
  obtain ⟨va, vc, rfl⟩ := hob.shape
  have e0 := keepc (p := ⟨w.heap.size, 0, none⟩) (v := .slice none 0 0) ht1 id (by simp)
  have e1 := keepc (p := ⟨w.heap.size, 1, none⟩) (v := .int .u64 0) ht1 id (by simp)
  have f0 := keepf (p := ⟨w.heap.size, 0, none⟩) ht1 (by simp) id (by simp)
  have f1 := keepf (p := ⟨w.heap.size, 1, none⟩) ht1 (by simp) id (by simp)
  have tt := touch_set2 w1 w.heap.size 0 1 (.slice va p.1.length vc) (.int .u64 p.2)
  have r0 := set2_get0 (u := .slice va p.1.length vc) (v := .int .u64 p.2) e0
  have r1 := set2_get1 (u := .slice va p.1.length vc) (v := .int .u64 p.2) e1
  have Hob := Lib.hid hob
  clear hob
  go_wp2_with (fail)
  refine bodyPost_ret (v := .tuple #[.agg #[.slice va p.1.length vc, .int .u64 p.2], .bool true]) (by simp [results, Try.results77, go_sem, r0, r1]) rfl ⟨⟨_, rfl, ?_⟩, (t0.trans' ht1).ext_new tt (fun i hi => by omega)⟩
  refine (Hob.out.keep' tt (fun b hb hb' => ?_)).mono (fun b hb => ?_)
  · have h1 : (w.alloc (.cells #[.slice none 0 0, .int .u64 0] 33)).heap.size ≤ b := Hob.out.2 b hb
    simp at h1; omega
  · have h1 : (w.alloc (.cells #[.slice none 0 0, .int .u64 0] 33)).heap.size ≤ b := hb
    simp at h1; unfold Ge; omega

theorem select_any (w : World) (r : Nat) (ps : Prs) (i : Int) (h : Rf w r F ps) (hm : ps.length ≤ 1000000) :
    Calls Try.prog 77 #[.pointer (some ⟨r, 0, none⟩), .int .i64 i] w (PairRet w (selK ps i)) := by
  unfold selK
  by_cases h0 : 0 ≤ i
  · rw [if_pos h0]
    by_cases h1 : i.toNat < ps.length
    · obtain ⟨n, rfl⟩ := Int.eq_ofNat_of_zero_le h0
      rw [Int.toNat_natCast] at *
      have hg := List.getElem?_eq_getElem h1
      rw [hg]
      exact RefB.select_some w r ps n h hm _ hg
    · rw [List.getElem?_eq_none (by omega)]
      exact RefB.select_none w r ps i h hm (Or.inr (by omega))
  · rw [if_neg h0]
    exact RefB.select_none w r ps i h hm (Or.inl (by omega))

set_option maxRecDepth 100000 in
set_option maxHeartbeats 800000 in
theorem ceil_any (w : World) (r0 : Nat) (kw : Value) (ps : Prs) (k : List Int) (h : Rf w r0 F ps) (hk : RB w G kw k) (kb : KB k) (hm : ps.length ≤ 1000000) :
    Calls Try.prog 75 #[.pointer (some ⟨r0, 0, none⟩), kw] w (PairRet w (ceilK ps k)) := by
  have t0 : Ext w (w.alloc (.cells #[.slice none 0 0, .int .u64 0] 33)) := (Touch.refl _ _).alloc _
  have hf := RefA.rank_any (F := F) (G := G) _ r0 kw ps k (h.ext t0) (hk.ext t0) kb hm
  have hs := fun (W : World) (t : Ext w W) => RefB.select_any (F := F) W r0 ps (rk ps k) (h.ext t) hm
  have H := Lib.hid h
  have Hf := Lib.hid hf
  clear hf
  have Hs := Lib.hid hs
  clear hs
  clear h hk
  go_enter Try.func75, Try.ntmps75
  go_wp2_with (fail)
  refine Hf.out.mono ?_
  rintro e w1 ⟨rfl, ht1⟩
  go_wp2_with (fail)
  refine (Hs.out _ (t0.trans' ht1)).mono ?_
  rintro e w2 ⟨⟨kv, rfl, hob⟩, ht2⟩
  have hce : selK ps (rk ps k) = ceilK ps k := rfl
  rw [hce] at hob ⊢
  generalize ceilK ps k = o at *
  obtain ⟨va, vc, rfl⟩ := hob.shape
  have e0 := keepc (p := ⟨w.heap.size, 0, none⟩) (v := .slice none 0 0) ((ht1).trans' (ht2)) id (by simp)
  have e1 := keepc (p := ⟨w.heap.size, 1, none⟩) (v := .int .u64 0) ((ht1).trans' (ht2)) id (by simp)
  have f0 := keepf (p := ⟨w.heap.size, 0, none⟩) ((ht1).trans' (ht2)) (by simp) id (by simp)
  have f1 := keepf (p := ⟨w.heap.size, 1, none⟩) ((ht1).trans' (ht2)) (by simp) id (by simp)
  have r0 := set2_get0 (u := .slice va (keyO (o)).length vc) (v := .int .u64 (valO (o))) e0
  have r1 := set2_get1 (u := .slice va (keyO (o)).length vc) (v := .int .u64 (valO (o))) e1
  have hend := pair_tail (u := .slice va (keyO (o)).length vc) (v := .int .u64 (valO (o))) (t0.trans' ht1) (ht2) (by have := (ht1).size; simp at this ⊢ <;> omega) hob
  have Hend := Lib.hid hend
  clear hend hob
  go_wp2_with (fail)
  exact bodyPost_ret (v := .tuple #[.agg #[.slice va (keyO (o)).length vc, .int .u64 (valO (o))], .bool (o).isSome]) (by simp [results, Try.results75, go_sem, r0, r1]) rfl ⟨⟨_, rfl, Hend.out.1⟩, Hend.out.2⟩

set_option maxRecDepth 100000 in
set_option maxHeartbeats 800000 in
theorem floor_any (w : World) (r0 : Nat) (kw : Value) (ps : Prs) (k : List Int) (h : Rf w r0 F ps) (hk : RB w G kw k) (kb : KB k) (hm : ps.length ≤ 1000000) :
    Calls Try.prog 74 #[.pointer (some ⟨r0, 0, none⟩), kw] w (PairRet w (floorK ps k)) := by
  have t0 : Ext w (w.alloc (.cells #[.slice none 0 0, .int .u64 0] 33)) := (Touch.refl _ _).alloc _
  have hf := RefA.find_any (F := F) (G := G) _ r0 kw ps k (h.ext t0) (hk.ext t0) kb hm
  have hle := rk_le ps k
  cases hh : hasK ps k with
  | true =>
    have hce : selK ps (rk ps k) = floorK ps k := by unfold floorK; rw [if_pos hh]
    have hs := fun (W : World) (t : Ext w W) => RefB.select_any (F := F) W r0 ps (rk ps k) (h.ext t) hm
    rw [hce] at hs
    rw [hh] at hf
    generalize floorK ps k = o at *
    generalize rk ps k = r at *
    have Hf := Lib.hid hf
    clear hf
    have Hs := Lib.hid hs
    clear hs
    have Hce := Lib.hid hce
    clear hce
    have Hh := Lib.hid hh
    clear hh
    clear h hk
    go_enter Try.func74, Try.ntmps74
    go_wp2_with (fail)
    refine Hf.out.mono ?_
    rintro e w1 ⟨rfl, ht1⟩
    go_wp2_with (fail)
    refine (Hs.out _ (t0.trans' ht1)).mono ?_
    rintro e w2 ⟨⟨kv, rfl, hob⟩, ht2⟩
    obtain ⟨va, vc, rfl⟩ := hob.shape
    have e0 := keepc (p := ⟨w.heap.size, 0, none⟩) (v := .slice none 0 0) ((ht1).trans' (ht2)) id (by simp)
    have e1 := keepc (p := ⟨w.heap.size, 1, none⟩) (v := .int .u64 0) ((ht1).trans' (ht2)) id (by simp)
    have f0 := keepf (p := ⟨w.heap.size, 0, none⟩) ((ht1).trans' (ht2)) (by simp) id (by simp)
    have f1 := keepf (p := ⟨w.heap.size, 1, none⟩) ((ht1).trans' (ht2)) (by simp) id (by simp)
    have r0 := set2_get0 (u := .slice va (keyO (o)).length vc) (v := .int .u64 (valO (o))) e0
    have r1 := set2_get1 (u := .slice va (keyO (o)).length vc) (v := .int .u64 (valO (o))) e1
    have hend := pair_tail (u := .slice va (keyO (o)).length vc) (v := .int .u64 (valO (o))) (t0.trans' ht1) (ht2) (by have := (ht1).size; simp at this ⊢ <;> omega) hob
    have Hend := Lib.hid hend
    clear hend hob
    go_wp2_with (fail)
    exact bodyPost_ret (v := .tuple #[.agg #[.slice va (keyO (o)).length vc, .int .u64 (valO (o))], .bool (o).isSome]) (by simp [results, Try.results74, go_sem, r0, r1]) rfl ⟨⟨_, rfl, Hend.out.1⟩, Hend.out.2⟩
  | false =>
    have hce : selK ps ((rk ps k : Int) - 1) = floorK ps k := by unfold floorK; rw [if_neg (by simp [hh])]
    have hs := fun (W : World) (t : Ext w W) => RefB.select_any (F := F) W r0 ps ((rk ps k : Int) - 1) (h.ext t) hm
    rw [hce] at hs
    rw [hh] at hf
    generalize floorK ps k = o at *
    generalize rk ps k = r at *
    have Hf := Lib.hid hf
    clear hf
    have Hs := Lib.hid hs
    clear hs
    have Hce := Lib.hid hce
    clear hce
    have Hh := Lib.hid hh
    clear hh
    clear h hk
    go_enter Try.func74, Try.ntmps74
    go_wp2_with (fail)
    refine Hf.out.mono ?_
    rintro e w1 ⟨rfl, ht1⟩
    go_wp2_with (fail)
    refine (Hs.out _ (t0.trans' ht1)).mono ?_
    rintro e w2 ⟨⟨kv, rfl, hob⟩, ht2⟩
    obtain ⟨va, vc, rfl⟩ := hob.shape
    have e0 := keepc (p := ⟨w.heap.size, 0, none⟩) (v := .slice none 0 0) ((ht1).trans' (ht2)) id (by simp)
    have e1 := keepc (p := ⟨w.heap.size, 1, none⟩) (v := .int .u64 0) ((ht1).trans' (ht2)) id (by simp)
    have f0 := keepf (p := ⟨w.heap.size, 0, none⟩) ((ht1).trans' (ht2)) (by simp) id (by simp)
    have f1 := keepf (p := ⟨w.heap.size, 1, none⟩) ((ht1).trans' (ht2)) (by simp) id (by simp)
    have r0 := set2_get0 (u := .slice va (keyO (o)).length vc) (v := .int .u64 (valO (o))) e0
    have r1 := set2_get1 (u := .slice va (keyO (o)).length vc) (v := .int .u64 (valO (o))) e1
    have hend := pair_tail (u := .slice va (keyO (o)).length vc) (v := .int .u64 (valO (o))) (t0.trans' ht1) (ht2) (by have := (ht1).size; simp at this ⊢ <;> omega) hob
    have Hend := Lib.hid hend
    clear hend hob
    go_wp2_with (fail)
    exact bodyPost_ret (v := .tuple #[.agg #[.slice va (keyO (o)).length vc, .int .u64 (valO (o))], .bool (o).isSome]) (by simp [results, Try.results74, go_sem, r0, r1]) rfl ⟨⟨_, rfl, Hend.out.1⟩, Hend.out.2⟩

/-! ### the first pairs from a key on -/
end RefB
end Go.Proofs.Ythfnacadabhpdaa
