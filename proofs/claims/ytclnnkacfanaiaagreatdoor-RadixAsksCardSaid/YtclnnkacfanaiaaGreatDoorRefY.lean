/- Texts of one chain, in one file. -/
import Derived.Test.YtclnnkacfanaiaaGreatDoorRefA
import Derived.Test.YtclnnkacfanaiaaGreatDoorRefC
import Derived.Test.YtclnnkacfanaiaaGreatDoorModI
/- The document's own map: Pair, Select, Floor, Ceil. -/
namespace Go.Proofs.YtclnnkacfanaiaaGreatDoor
open Go.RowKit
set_option linter.unusedVariables false
set_option linter.unusedSimpArgs false
namespace RefB
open ModA ModB RefA
variable {F G : Nat → Prop}

set_option maxRecDepth 100000 in
set_option maxHeartbeats 1600000 in
theorem pair_any (w : World) (kv : Value) (x : Int) (k : List Int) (hk : RB w G kv k) (hl : k.length ≤ 1000000) :
    Calls Tryz.prog 68 #[.agg #[kv, .int .u64 x]] w fun e w' => (∃ kv', e = .returned (.agg #[kv', .int .u64 x]) ∧ OB w' (Ge w.heap.size) kv' k) ∧ Ext w w' := by
  obtain ⟨ka, kc, rfl, l2, m2, n2⟩ := hk.shape
  obtain ⟨W, hW⟩ : ∃ W, W = (w.alloc (.cells #[.slice ka k.length kc, .int .u64 x] 41)).alloc (.cells #[.slice none 0 0, .int .u64 0] 41) := ⟨_, rfl⟩
  have t0 : Ext w W := by rw [hW]; exact ((Touch.refl _ _).alloc _).alloc _
  have hsz : W.heap.size = w.heap.size + 2 := by rw [hW, World.size_alloc, World.size_alloc]
  have t1 : Ext (w.alloc (.cells #[.slice ka k.length kc, .int .u64 x] 41)) W := by rw [hW]; exact (Touch.refl _ _).alloc _
  have c0 : W.cell? ⟨w.heap.size, 0, none⟩ = some (.slice ka k.length kc) := keepc t1 id (by simp)
  have c1 : W.cell? ⟨w.heap.size, 1, none⟩ = some (.int .u64 x) := keepc t1 id (by simp)
  have s1 : w.heap.size + 1 = (w.alloc (.cells #[.slice ka k.length kc, .int .u64 x] 41)).heap.size := by simp
  have d0 : W.cell? ⟨w.heap.size + 1, 0, none⟩ = some (.slice none 0 0) := by rw [hW, s1, World.cell?_alloc_new]; rfl
  have d1 : W.cell? ⟨w.heap.size + 1, 1, none⟩ = some (.int .u64 0) := by rw [hW, s1, World.cell?_alloc_new]; rfl
  have f0 : W.frozen? ⟨w.heap.size + 1, 0, none⟩ = false := by rw [hW, s1]; exact World.frozen?_alloc_new _ _ _ _
  have f1 : W.frozen? ⟨w.heap.size + 1, 1, none⟩ = false := by rw [hW, s1]; exact World.frozen?_alloc_new _ _ _ _
  clear s1 t1
  have Hk := Lib.hid hk
  clear hk
  have Hsz := Lib.hid hsz
  clear hsz
  have T0 := Lib.hid t0
  clear t0
  go_enter Tryz.func68, Tryz.ntmps68
  go_wp2_with (fail)
  rw [← hW]
  have HW := Lib.hid hW
  clear hW
  refine wp_region_plan (.take 0 (.take 1 (.take 3 (.take 4 (.must 2 (.take 5 (.last 6 .done))))))) (fun wy => wy.cell? ⟨w.heap.size, 0, none⟩ = some (.slice ka k.length kc) ∧ wy.cell? ⟨w.heap.size, 1, none⟩ = some (.int .u64 x)) (by kernel_rfl) (by kernel_rfl) (by kernel_rfl) rfl ?_ (fun KK hKK => ?_)
  · exact ⟨c0, c1⟩
  repeat (first
    | (refine wpPlan_take (v := ?_) rfl (by rfl) (fun W hW => ?_) ?_; rotate_left; (focus ((try dsimp only at hW); go_split_ands; go_simp; (try with_reducible rfl); done)); (try simp only [Act.put, List.setIfInBounds_toArray, List.set_cons_zero, List.set_cons_succ]))
    | (refine wpPlan_skip rfl (by rfl) ?_; (try simp only [Act.put, List.setIfInBounds_toArray, List.set_cons_zero, List.set_cons_succ])))
  refine wpPlan_must rfl (by rfl) (fun K hK => ?_)
  refine wp_push_any _ _ _ 23 rfl 5 (.int .u8 0) 1 1 Tryz.underlying23 info_u8 rfl (by decide) (.slice none 0 0) 0 [] rfl (World.ownsRow_nil _ _ _ _) ka k.length kc rfl n2 (ivs .u8 k) l2 (by simp [ivs]) ((Hk.out.ext T0.out).ext (Touch.refl _ _).drew).src (ivs_one _ _) (by simp [maxLen]; omega) (by omega) ?_
  intro v5 w1 hown1 ht1 hb1
  obtain ⟨va, vc, rfl⟩ := own_len hown1
  simp only [Nat.zero_add, List.nil_append] at hown1 hb1
  have e1 : Ext W w1 := (Touch.refl _ _).drew.ext_new ht1 (fun i hi => by cases hi)
  have hob1 : OB w1 (Ge W.heap.size) (.slice va k.length vc) k := ⟨hown1, fun b hb => by rw [hb] at hb1; simp [Value.ownBlock] at hb1; unfold Ge; omega⟩
  refine hK.out _ _ ?_ ?_
  · exact ⟨keepc e1 id c0, keepc e1 id c1⟩
  clear hK K
  (try simp only [Act.put, List.setIfInBounds_toArray, List.set_cons_zero, List.set_cons_succ])
  have y0 := keepc e1 id d0
  have y1 := keepc e1 id d1
  have z0 := keepf (p := ⟨w.heap.size + 1, 0, none⟩) e1 (by have := Hsz.out; show w.heap.size + 1 < W.heap.size; omega) id f0
  have z1 := keepf (p := ⟨w.heap.size + 1, 1, none⟩) e1 (by have := Hsz.out; show w.heap.size + 1 < W.heap.size; omega) id f1
  have r0 := set2_get0 (u := .slice va k.length vc) (v := .int .u64 x) y0
  have r1 := set2_get1 (u := .slice va k.length vc) (v := .int .u64 x) y1
  clear hown1 hb1 ht1
  have Hob1 := Lib.hid hob1
  clear hob1
  have E1 := Lib.hid e1
  clear e1
  repeat (first
    | (refine wpPlan_take (v := ?_) rfl (by rfl) (fun W hW => ?_) ?_; rotate_left; (focus ((try dsimp only at hW); go_split_ands; go_simp; (try with_reducible rfl); done)); (try simp only [Act.put, List.setIfInBounds_toArray, List.set_cons_zero, List.set_cons_succ]))
    | (refine wpPlan_skip rfl (by rfl) ?_; (try simp only [Act.put, List.setIfInBounds_toArray, List.set_cons_zero, List.set_cons_succ])))
  refine wpPlan_last rfl (by rfl) (fun K hK => ?_)
  go_simp
  refine hK.out _ _ ?_
  clear hK K
  (try simp only [Act.put, List.setIfInBounds_toArray, List.set_cons_zero, List.set_cons_succ])
  refine wpPlan_done (hKK.out _ _ ?_)
  clear hKK KK
  go_wp2_with (fail)
  have tt := touch_set2 w1 (w.heap.size + 1) 0 1 (.slice va k.length vc) (.int .u64 x)
  refine bodyPost_ret (v := .agg #[.slice va k.length vc, .int .u64 x]) (by simp [results, Tryz.results68, go_sem, r0, r1]) rfl ⟨⟨_, rfl, ?_⟩, (T0.out.trans' E1.out).ext_new tt (fun i hi => by omega)⟩
  refine (Hob1.out.keep' tt (fun b hb hb' => ?_)).mono (fun b hb => ?_)
  · have h1 : W.heap.size ≤ b := Hob1.out.2 b hb
    have := Hsz.out; omega
  · have h1 : W.heap.size ≤ b := hb
    have := Hsz.out; unfold Ge; omega

theorem select_none (w : World) (r : Nat) (ps : Prs) (i : Int) (h : Rf w r F ps) (hm : ps.length ≤ 1000000) (hi : i < 0 ∨ ps.length ≤ i) :
    Calls Tryz.prog 36 #[.pointer (some ⟨r, 0, none⟩), .int .i64 i] w (PairRet w none) := by
  rcases hi with hi | hi
  · have b0 : decide (i < 0) = true := by simpa using hi
    go_enter Tryz.func36, Tryz.ntmps36
    go_wp2_with (fail)
    refine bodyPost_ret (v := .tuple #[.agg #[.slice none 0 0, .int .u64 0], .bool false]) (by simp [results, Tryz.results36, go_sem]) rfl ⟨⟨_, rfl, OB.nil _ _⟩, ?_⟩
    exact (((Touch.refl _ _).alloc _))
  · have b0 : decide (i < 0) = false := by simp; omega
    have b1 : decide ((ps.length : Int) ≤ i) = true := by simpa using hi
    obtain ⟨v, c0, hrp⟩ := h.row
    obtain ⟨a, c, rfl, _⟩ := hrp.shape
    have t0 : Ext w (w.alloc (.cells #[.slice none 0 0, .int .u64 0] 41)) := (Touch.refl _ _).alloc _
    have d0 := keepc t0 id c0
    have H := Lib.hid h
    clear h
    have Hrp := Lib.hid hrp
    clear hrp
    clear c0
    go_enter Tryz.func36, Tryz.ntmps36
    go_wp2_with (fail)
    refine bodyPost_ret (v := .tuple #[.agg #[.slice none 0 0, .int .u64 0], .bool false]) (by simp [results, Tryz.results36, go_sem]) rfl ⟨⟨_, rfl, OB.nil _ _⟩, ?_⟩
    exact (((Touch.refl _ _).alloc _))

set_option maxRecDepth 100000 in
set_option maxHeartbeats 800000 in
theorem select_some (w : World) (r : Nat) (ps : Prs) (i : Nat) (h : Rf w r F ps) (hm : ps.length ≤ 1000000) (p : List Int × Int) (hp : ps[i]? = some p) :
    Calls Tryz.prog 36 #[.pointer (some ⟨r, 0, none⟩), .int .i64 i] w (PairRet w (some p)) := by
  have hlt := (List.getElem?_eq_some_iff.1 hp).1
  obtain ⟨v, c0, hrp⟩ := h.row
  have hlong := h.long p (List.mem_of_getElem? hp)
  obtain ⟨a, c, rfl, _⟩ := hrp.shape
  obtain ⟨b, off, rfl, _⟩ := hrp.addr (by omega)
  obtain ⟨kv, c1, c2, hkv⟩ := hrp.get _ _ hp
  obtain ⟨ka, kc, rfl, _⟩ := hkv.shape
  have b0 : decide ((i : Int) < 0) = false := by simp
  have b1 : decide ((ps.length : Int) ≤ (i : Int)) = false := by simp; omega
  have t0 : Ext w (w.alloc (.cells #[.slice none 0 0, .int .u64 0] 41)) := (Touch.refl _ _).alloc _
  have d0 := keepc t0 id c0
  have d1 := keepc t0 id c1
  have d2 := keepc t0 id c2
  have H := Lib.hid h
  clear h
  have Hrp := Lib.hid hrp
  clear hrp
  have Hp := Lib.hid hp
  clear hp
  have Hkv := Lib.hid hkv
  clear hkv
  clear c0 c1 c2
  have i0 : (0 : Int) ≤ (i : Int) := by omega
  have i1 : (i : Int) < (ps.length : Int) := by omega
  go_enter Tryz.func36, Tryz.ntmps36
  go_wp2_with (fail)
  (with_reducible refine (pair_any (G := F) _ _ p.2 p.1 (Hkv.out.ext t0) (by omega)).mono ?_)
  rintro e w1 ⟨⟨kv', rfl, hob⟩, ht1⟩
  obtain ⟨va, vc, rfl⟩ := hob.shape
  have e0 := keepc (p := ⟨w.heap.size, 0, none⟩) (v := .slice none 0 0) ht1 id (by simp)
  have e1 := keepc (p := ⟨w.heap.size, 1, none⟩) (v := .int .u64 0) ht1 id (by simp)
  have f0 := keepf (p := ⟨w.heap.size, 0, none⟩) ht1 (by simp) id (by simp)
  have f1 := keepf (p := ⟨w.heap.size, 1, none⟩) ht1 (by simp) id (by simp)
  have tt := touch_set2 w1 w.heap.size 0 1 (.slice va p.1.length vc) (.int .u64 p.2)
  have r0 := set2_get0 (u := .slice va p.1.length vc) (v := .int .u64 p.2) e0
  have r1 := set2_get1 (u := .slice va p.1.length vc) (v := .int .u64 p.2) e1
  have Hob := Lib.hid hob
  clear hob
  go_wp2_with (fail)
  refine bodyPost_ret (v := .tuple #[.agg #[.slice va p.1.length vc, .int .u64 p.2], .bool true]) (by simp [results, Tryz.results36, go_sem, r0, r1]) rfl ⟨⟨_, rfl, ?_⟩, (t0.trans' ht1).ext_new tt (fun i hi => by omega)⟩
  refine (Hob.out.keep' tt (fun b hb hb' => ?_)).mono (fun b hb => ?_)
  · have h1 : (w.alloc (.cells #[.slice none 0 0, .int .u64 0] 41)).heap.size ≤ b := Hob.out.2 b hb
    simp at h1; omega
  · have h1 : (w.alloc (.cells #[.slice none 0 0, .int .u64 0] 41)).heap.size ≤ b := hb
    simp at h1; unfold Ge; omega

theorem select_any (w : World) (r : Nat) (ps : Prs) (i : Int) (h : Rf w r F ps) (hm : ps.length ≤ 1000000) :
    Calls Tryz.prog 36 #[.pointer (some ⟨r, 0, none⟩), .int .i64 i] w (PairRet w (selK ps i)) := by
  unfold selK
  by_cases h0 : 0 ≤ i
  · rw [if_pos h0]
    by_cases h1 : i.toNat < ps.length
    · obtain ⟨n, rfl⟩ := Int.eq_ofNat_of_zero_le h0
      rw [Int.toNat_natCast] at *
      have hg := List.getElem?_eq_getElem h1
      rw [hg]
      exact RefB.select_some w r ps n h hm _ hg
    · rw [List.getElem?_eq_none (by omega)]
      exact RefB.select_none w r ps i h hm (Or.inr (by omega))
  · rw [if_neg h0]
    exact RefB.select_none w r ps i h hm (Or.inl (by omega))

set_option maxRecDepth 100000 in
set_option maxHeartbeats 800000 in
theorem ceil_any (w : World) (r0 : Nat) (kw : Value) (ps : Prs) (k : List Int) (h : Rf w r0 F ps) (hk : RB w G kw k) (kb : KB k) (hm : ps.length ≤ 1000000) :
    Calls Tryz.prog 33 #[.pointer (some ⟨r0, 0, none⟩), kw] w (PairRet w (ceilK ps k)) := by
  have t0 : Ext w (w.alloc (.cells #[.slice none 0 0, .int .u64 0] 41)) := (Touch.refl _ _).alloc _
  have hf := RefA.rank_any (F := F) (G := G) _ r0 kw ps k (h.ext t0) (hk.ext t0) kb hm
  have hs := fun (W : World) (t : Ext w W) => RefB.select_any (F := F) W r0 ps (rk ps k) (h.ext t) hm
  have H := Lib.hid h
  have Hf := Lib.hid hf
  clear hf
  have Hs := Lib.hid hs
  clear hs
  clear h hk
  go_enter Tryz.func33, Tryz.ntmps33
  go_wp2_with (fail)
  refine Hf.out.mono ?_
  rintro e w1 ⟨rfl, ht1⟩
  go_wp2_with (fail)
  refine (Hs.out _ (t0.trans' ht1)).mono ?_
  rintro e w2 ⟨⟨kv, rfl, hob⟩, ht2⟩
  have hce : selK ps (rk ps k) = ceilK ps k := rfl
  rw [hce] at hob ⊢
  generalize ceilK ps k = o at *
  obtain ⟨va, vc, rfl⟩ := hob.shape
  have e0 := keepc (p := ⟨w.heap.size, 0, none⟩) (v := .slice none 0 0) ((ht1).trans' (ht2)) id (by simp)
  have e1 := keepc (p := ⟨w.heap.size, 1, none⟩) (v := .int .u64 0) ((ht1).trans' (ht2)) id (by simp)
  have f0 := keepf (p := ⟨w.heap.size, 0, none⟩) ((ht1).trans' (ht2)) (by simp) id (by simp)
  have f1 := keepf (p := ⟨w.heap.size, 1, none⟩) ((ht1).trans' (ht2)) (by simp) id (by simp)
  have r0 := set2_get0 (u := .slice va (keyO (o)).length vc) (v := .int .u64 (valO (o))) e0
  have r1 := set2_get1 (u := .slice va (keyO (o)).length vc) (v := .int .u64 (valO (o))) e1
  have hend := pair_tail (u := .slice va (keyO (o)).length vc) (v := .int .u64 (valO (o))) (t0.trans' ht1) (ht2) (by have := (ht1).size; simp at this ⊢ <;> omega) hob
  have Hend := Lib.hid hend
  clear hend hob
  go_wp2_with (fail)
  exact bodyPost_ret (v := .tuple #[.agg #[.slice va (keyO (o)).length vc, .int .u64 (valO (o))], .bool (o).isSome]) (by simp [results, Tryz.results33, go_sem, r0, r1]) rfl ⟨⟨_, rfl, Hend.out.1⟩, Hend.out.2⟩

set_option maxRecDepth 100000 in
set_option maxHeartbeats 800000 in
theorem floor_any (w : World) (r0 : Nat) (kw : Value) (ps : Prs) (k : List Int) (h : Rf w r0 F ps) (hk : RB w G kw k) (kb : KB k) (hm : ps.length ≤ 1000000) :
    Calls Tryz.prog 31 #[.pointer (some ⟨r0, 0, none⟩), kw] w (PairRet w (floorK ps k)) := by
  have t0 : Ext w (w.alloc (.cells #[.slice none 0 0, .int .u64 0] 41)) := (Touch.refl _ _).alloc _
  have hf := RefA.find_any (F := F) (G := G) _ r0 kw ps k (h.ext t0) (hk.ext t0) kb hm
  have hle := rk_le ps k
  cases hh : hasK ps k with
  | true =>
    have hce : selK ps (rk ps k) = floorK ps k := by unfold floorK; rw [if_pos hh]
    have hs := fun (W : World) (t : Ext w W) => RefB.select_any (F := F) W r0 ps (rk ps k) (h.ext t) hm
    rw [hce] at hs
    rw [hh] at hf
    generalize floorK ps k = o at *
    generalize rk ps k = r at *
    have Hf := Lib.hid hf
    clear hf
    have Hs := Lib.hid hs
    clear hs
    have Hce := Lib.hid hce
    clear hce
    have Hh := Lib.hid hh
    clear hh
    clear h hk
    go_enter Tryz.func31, Tryz.ntmps31
    go_wp2_with (fail)
    refine Hf.out.mono ?_
    rintro e w1 ⟨rfl, ht1⟩
    go_wp2_with (fail)
    refine (Hs.out _ (t0.trans' ht1)).mono ?_
    rintro e w2 ⟨⟨kv, rfl, hob⟩, ht2⟩
    obtain ⟨va, vc, rfl⟩ := hob.shape
    have e0 := keepc (p := ⟨w.heap.size, 0, none⟩) (v := .slice none 0 0) ((ht1).trans' (ht2)) id (by simp)
    have e1 := keepc (p := ⟨w.heap.size, 1, none⟩) (v := .int .u64 0) ((ht1).trans' (ht2)) id (by simp)
    have f0 := keepf (p := ⟨w.heap.size, 0, none⟩) ((ht1).trans' (ht2)) (by simp) id (by simp)
    have f1 := keepf (p := ⟨w.heap.size, 1, none⟩) ((ht1).trans' (ht2)) (by simp) id (by simp)
    have r0 := set2_get0 (u := .slice va (keyO (o)).length vc) (v := .int .u64 (valO (o))) e0
    have r1 := set2_get1 (u := .slice va (keyO (o)).length vc) (v := .int .u64 (valO (o))) e1
    have hend := pair_tail (u := .slice va (keyO (o)).length vc) (v := .int .u64 (valO (o))) (t0.trans' ht1) (ht2) (by have := (ht1).size; simp at this ⊢ <;> omega) hob
    have Hend := Lib.hid hend
    clear hend hob
    go_wp2_with (fail)
    exact bodyPost_ret (v := .tuple #[.agg #[.slice va (keyO (o)).length vc, .int .u64 (valO (o))], .bool (o).isSome]) (by simp [results, Tryz.results31, go_sem, r0, r1]) rfl ⟨⟨_, rfl, Hend.out.1⟩, Hend.out.2⟩
  | false =>
    have hce : selK ps ((rk ps k : Int) - 1) = floorK ps k := by unfold floorK; rw [if_neg (by simp [hh])]
    have hs := fun (W : World) (t : Ext w W) => RefB.select_any (F := F) W r0 ps ((rk ps k : Int) - 1) (h.ext t) hm
    rw [hce] at hs
    rw [hh] at hf
    generalize floorK ps k = o at *
    generalize rk ps k = r at *
    have Hf := Lib.hid hf
    clear hf
    have Hs := Lib.hid hs
    clear hs
    have Hce := Lib.hid hce
    clear hce
    have Hh := Lib.hid hh
    clear hh
    clear h hk
    go_enter Tryz.func31, Tryz.ntmps31
    go_wp2_with (fail)
    refine Hf.out.mono ?_
    rintro e w1 ⟨rfl, ht1⟩
    go_wp2_with (fail)
    refine (Hs.out _ (t0.trans' ht1)).mono ?_
    rintro e w2 ⟨⟨kv, rfl, hob⟩, ht2⟩
    obtain ⟨va, vc, rfl⟩ := hob.shape
    have e0 := keepc (p := ⟨w.heap.size, 0, none⟩) (v := .slice none 0 0) ((ht1).trans' (ht2)) id (by simp)
    have e1 := keepc (p := ⟨w.heap.size, 1, none⟩) (v := .int .u64 0) ((ht1).trans' (ht2)) id (by simp)
    have f0 := keepf (p := ⟨w.heap.size, 0, none⟩) ((ht1).trans' (ht2)) (by simp) id (by simp)
    have f1 := keepf (p := ⟨w.heap.size, 1, none⟩) ((ht1).trans' (ht2)) (by simp) id (by simp)
    have r0 := set2_get0 (u := .slice va (keyO (o)).length vc) (v := .int .u64 (valO (o))) e0
    have r1 := set2_get1 (u := .slice va (keyO (o)).length vc) (v := .int .u64 (valO (o))) e1
    have hend := pair_tail (u := .slice va (keyO (o)).length vc) (v := .int .u64 (valO (o))) (t0.trans' ht1) (ht2) (by have := (ht1).size; simp at this ⊢ <;> omega) hob
    have Hend := Lib.hid hend
    clear hend hob
    go_wp2_with (fail)
    exact bodyPost_ret (v := .tuple #[.agg #[.slice va (keyO (o)).length vc, .int .u64 (valO (o))], .bool (o).isSome]) (by simp [results, Tryz.results31, go_sem, r0, r1]) rfl ⟨⟨_, rfl, Hend.out.1⟩, Hend.out.2⟩

/-! ### the first pairs from a key on -/
end RefB
end Go.Proofs.YtclnnkacfanaiaaGreatDoor

/- The document's own map: Longest, From. -/
namespace Go.Proofs.YtclnnkacfanaiaaGreatDoor
open Go.RowKit
set_option linter.unusedVariables false
set_option linter.unusedSimpArgs false
namespace RefD
open ModA ModB ModI
variable {F G : Nat → Prop}

theorem longest_at {ps : Prs} {k : List Int} {j : Nat} {p : List Int × Int} (hj : ps[j]? = some p) (hb : begK k p.1 = true) (hno : ∀ (i : Nat) q, j < i → ps[i]? = some q → begK k q.1 = false) : longestK ps k = some p := by
  have hjl := (List.getElem?_eq_some_iff.1 hj).1
  have hs : ps = ps.take j ++ p :: ps.drop (j + 1) := by
    have h1 := List.take_append_drop j ps
    rw [List.drop_eq_getElem_cons hjl] at h1
    have h2 : ps[j] = p := by rw [List.getElem?_eq_getElem hjl] at hj; exact Option.some.inj hj
    rw [h2] at h1
    exact h1.symm
  unfold longestK
  rw [hs, List.reverse_append, List.reverse_cons, List.append_assoc, List.find?_append]
  have hn : (ps.drop (j + 1)).reverse.find? (fun p => begK k p.1) = none := by
    rw [List.find?_eq_none]
    intro q hq
    obtain ⟨i, hi⟩ := List.mem_iff_getElem?.1 (List.mem_reverse.1 hq)
    rw [List.getElem?_drop] at hi
    simp [hno _ q (by omega) hi]
  rw [hn]
  simp [hb]
theorem longest_no {ps : Prs} {k : List Int} (hno : ∀ (i : Nat) q, ps[i]? = some q → begK k q.1 = false) : longestK ps k = none := by
  unfold longestK
  rw [List.find?_eq_none]
  intro q hq
  obtain ⟨i, hi⟩ := List.mem_iff_getElem?.1 (List.mem_reverse.1 hq)
  simp [hno _ q hi]

set_option maxRecDepth 100000 in
set_option maxHeartbeats 1600000 in
theorem longest_any (w : World) (r0 : Nat) (kw : Value) (ps : Prs) (k : List Int) (h : Rf w r0 F ps) (hk : RB w G kw k) (kb : KB k) (hm : ps.length ≤ 1000000) (hkl : k.length ≤ 1000000) :
    Calls Tryz.prog 34 #[.pointer (some ⟨r0, 0, none⟩), kw] w (PairRet w (longestK ps k)) := by
  have t0 : Ext w (w.alloc (.cells #[.slice none 0 0, .int .u64 0] 41)) := (Touch.refl _ _).alloc _
  obtain ⟨v, c0, hrp⟩ := h.row
  obtain ⟨a, c, rfl, l1, m1, _⟩ := hrp.shape
  obtain ⟨ka, kc, rfl, _⟩ := hk.shape
  unfold maxLen at m1
  have hsel := fun (W : World) (j : Nat) (t : Ext w W) => RefB.select_any (F := F) W r0 ps j (h.ext t) hm
  have d0 := keepc t0 id c0
  have hat := fun (j : Nat) p (hj : ps[j]? = some p) => longest_at (k := k) hj
  have hno := longest_no (ps := ps) (k := k)
  have hlg := fun p (hp : p ∈ ps) => h.long p hp
  generalize longestK ps k = o at *
  have i9 : IntKind.i64.wrap ((ps.length : Int) - 1) = (ps.length : Int) - 1 := by rw [IntKind.wrap_i64]; omega
  have H := Lib.hid h
  clear h
  have Hrp := Lib.hid hrp
  clear hrp
  have Hk := Lib.hid hk
  clear hk
  have Kb := Lib.hid kb
  clear kb
  have Hsel := Lib.hid hsel
  clear hsel
  have Hat := Lib.hid hat
  clear hat
  have Hno := Lib.hid hno
  clear hno
  have Hlg := Lib.hid hlg
  clear hlg
  clear c0
  obtain ⟨W0, hW0⟩ : ∃ W0, W0 = w.alloc (.cells #[.slice none 0 0, .int .u64 0] 41) := ⟨_, rfl⟩
  go_enter Tryz.func34, Tryz.ntmps34
  go_wp2_with (fail)
  go_loopw [6] (fun s6 wr => ∃ j : Int, -1 ≤ j ∧ j < ps.length ∧ s6 = .int .i64 j ∧ (∀ (i : Nat) q, j < i → ps[i]? = some q → begK k q.1 = false) ∧ Ext (w.alloc (.cells #[.slice none 0 0, .int .u64 0] 41)) wr) (fun s6 _ => ((match s6 with | .int _ z => z | _ => 0) + 1).toNat)
  case atStart => exact ⟨(ps.length : Int) - 1, by omega, by omega, rfl, (fun i q hi hq => by have := (List.getElem?_eq_some_iff.1 hq).1; omega), Touch.refl _ _⟩
  case round =>
    clear i9
    obtain ⟨j, hj0, hj, rfl, hall, ht⟩ := hrel
    have y0 := keepc ht id d0
    by_cases hlt : 0 ≤ j
    · obtain ⟨jn, rfl⟩ := Int.eq_ofNat_of_zero_le hlt
      have hjn : jn < ps.length := by omega
      obtain ⟨b, off, rfl, _⟩ := Hrp.out.addr (by omega)
      have hg := List.getElem?_eq_getElem hjn
      have tw := t0.trans' ht
      obtain ⟨kv, e0, e1, hkv⟩ := (Hrp.out.ext tw).get _ _ hg
      have hl := Hlg.out _ (List.mem_of_getElem? hg)
      have hfin := Hat.out jn _ hg
      have hso : selK ps (jn : Int) = some ps[jn] := by unfold selK; rw [if_pos (by omega)]; simp [hjn]
      generalize ps[jn] = p at *
      obtain ⟨qa, qc, rfl, _⟩ := hkv.shape
      have hbg := RefC.rbegins_any wr (.slice ka k.length kc) (.slice qa p.1.length qc) k p.1 (Hk.out.ext tw) hkv (by omega) (by omega)
      cases hbk : begK k p.1 with
      | true =>
        rw [hbk] at hbg
        have hfin := hfin hbk (fun i q hi hq => hall i q (by omega) hq)
        have hse := fun (W : World) (t : Ext w W) => Hsel.out W jn t
        rw [hso, ← hfin] at hse
        have Hbg := Lib.hid hbg
        clear hbg
        have Hkv := Lib.hid hkv
        clear hkv
        have Hg := Lib.hid hg
        clear hg
        have Hfin := Lib.hid hfin
        clear hfin
        have Hso := Lib.hid hso
        clear hso
        have Hall := Lib.hid hall
        clear hall
        have Hbk := Lib.hid hbk
        clear hbk
        have Hse := Lib.hid hse
        clear hse
        go_wp2_with (fail)
        (with_reducible refine Hbg.out.mono ?_)
        rintro e w1 ⟨rfl, ht1⟩
        go_wp2_with (fail)
        (with_reducible refine (Hse.out _ (tw.trans' ht1)).mono ?_)
        rintro e w2 ⟨⟨kv', rfl, hob⟩, ht2⟩
        have tx := ht.trans' ht1
        clear e0 e1 y0 d0
        obtain ⟨va, vc, rfl⟩ := hob.shape
        have e0 := keepc (p := ⟨w.heap.size, 0, none⟩) (v := .slice none 0 0) ((tx).trans' (ht2)) id (by simp)
        have e1 := keepc (p := ⟨w.heap.size, 1, none⟩) (v := .int .u64 0) ((tx).trans' (ht2)) id (by simp)
        have f0 := keepf (p := ⟨w.heap.size, 0, none⟩) ((tx).trans' (ht2)) (by simp) id (by simp)
        have f1 := keepf (p := ⟨w.heap.size, 1, none⟩) ((tx).trans' (ht2)) (by simp) id (by simp)
        have r0 := set2_get0 (u := .slice va (keyO (o)).length vc) (v := .int .u64 (valO (o))) e0
        have r1 := set2_get1 (u := .slice va (keyO (o)).length vc) (v := .int .u64 (valO (o))) e1
        have hend := pair_tail (u := .slice va (keyO (o)).length vc) (v := .int .u64 (valO (o))) (t0.trans' tx) (ht2) (by have := (tx).size; simp at this ⊢ <;> omega) hob
        have Hend := Lib.hid hend
        clear hend hob
        go_wp2_with (fail)
        exact bodyPost_ret (v := .tuple #[.agg #[.slice va (keyO (o)).length vc, .int .u64 (valO (o))], .bool (o).isSome]) (by simp [results, Tryz.results34, go_sem, r0, r1]) rfl ⟨⟨_, rfl, Hend.out.1⟩, Hend.out.2⟩
      | false =>
        rw [hbk] at hbg
        have Hbg := Lib.hid hbg
        clear hbg
        have Hkv := Lib.hid hkv
        clear hkv
        have Hg := Lib.hid hg
        clear hg
        have Hso := Lib.hid hso
        clear hso
        have Hall := Lib.hid hall
        clear hall
        have Hbk := Lib.hid hbk
        clear hbk
        clear hfin
        go_wp2_with (fail)
        (with_reducible refine Hbg.out.mono ?_)
        rintro e w1 ⟨rfl, ht1⟩
        go_wp2_with (fail)
        go_roundw
        case rel =>
          refine ⟨(jn : Int) - 1, by omega, by omega, by go_num, fun i q hi hq => ?_, ht.trans' ht1⟩
          rcases Nat.lt_or_ge jn i with h1 | h1
          · exact Hall.out i q (by omega) hq
          · obtain rfl : i = jn := by omega
            rw [Hg.out] at hq; cases hq
            exact Hbk.out
        case measure => simp <;> omega
    · obtain rfl : j = -1 := by omega
      have hfin := Hno.out (fun i q hq => hall i q (by omega) hq)
      subst hfin
      have Hall := Lib.hid hall
      clear hall
      have e0 := keepc (p := ⟨w.heap.size, 0, none⟩) (v := .slice none 0 0) ht id (by simp)
      have e1 := keepc (p := ⟨w.heap.size, 1, none⟩) (v := .int .u64 0) ht id (by simp)
      have f0 := keepf (p := ⟨w.heap.size, 0, none⟩) ht (by simp) id (by simp)
      have f1 := keepf (p := ⟨w.heap.size, 1, none⟩) ht (by simp) id (by simp)
      have r0 := set2_get0 (u := .slice none 0 0) (v := .int .u64 0) e0
      have r1 := set2_get1 (u := .slice none 0 0) (v := .int .u64 0) e1
      have tt := touch_set2 wr w.heap.size 0 1 (.slice none 0 0) (.int .u64 0)
      go_wp2_with (fail)
      exact bodyPost_ret (v := .tuple #[.agg #[.slice none 0 0, .int .u64 0], .bool false]) (by simp [results, Tryz.results34, go_sem, r0, r1]) rfl ⟨⟨_, rfl, OB.nil _ _⟩, (t0.trans' ht).ext_new tt (fun i hi => by omega)⟩
end RefD
end Go.Proofs.YtclnnkacfanaiaaGreatDoor

/- The document's own map: From. -/
namespace Go.Proofs.YtclnnkacfanaiaaGreatDoor
open Go.RowKit
set_option linter.unusedVariables false
set_option linter.unusedSimpArgs false
namespace RefE
open ModA ModB
variable {F G : Nat → Prop}
set_option maxRecDepth 100000 in
set_option maxHeartbeats 1600000 in
theorem from_any (w : World) (r0 : Nat) (kw : Value) (ps : Prs) (k : List Int) (most : Int) (h : Rf w r0 F ps) (hk : RB w G kw k) (kb : KB k) (hm : ps.length ≤ 1000000) (hV : V64 most) :
    Calls Tryz.prog 43 #[.pointer (some ⟨r0, 0, none⟩), kw, .int .i64 most] w fun e w' => (∃ v, e = .returned v ∧ OP w' (Ge w.heap.size) v (fromK ps k most)) ∧ Ext w w' := by
  have hf := RefA.rank_any (F := F) (G := G) _ r0 kw ps k h hk kb hm
  have hend : ∀ j : Nat, ((j : Int) = most ∨ most < j ∧ j = 0 ∨ ps.length ≤ rk ps k + j) → ((j : Int) ≤ most ∨ j = 0) → (ps.drop (rk ps k)).take j = fromK ps k most := fun j h1 h2 => fromN_end ps _ j most h1 h2
  have hrl := rk_le ps k
  generalize fromK ps k most = out at *
  generalize rk ps k = r at *
  unfold V64 at hV
  obtain ⟨v, c0, hrp0⟩ := h.row
  obtain ⟨a, c, rfl, l1, m1, _⟩ := hrp0.shape
  unfold maxLen at m1
  have Hf := Lib.hid hf
  clear hf
  have H := Lib.hid h
  clear h
  have Hend := Lib.hid hend
  clear hend
  have Hrp0 := Lib.hid hrp0
  clear hrp0
  clear hk
  go_enter Tryz.func43, Tryz.ntmps43
  go_wp2_with (fail)
  refine Hf.out.mono ?_
  rintro e w1 ⟨rfl, ht1⟩
  go_wp2_with (fail)
  go_loopw [7, 8] (fun s7 s8 wr => ∃ j : Nat, r + j ≤ ps.length ∧ s8 = .int .i64 ((r + j : Nat) : Int) ∧ ((j : Int) ≤ most ∨ j = 0) ∧ OP wr (Ge w.heap.size) s7 ((ps.drop r).take j) ∧ Ext w wr) (fun _ s8 _ => ps.length - (intOf s8).toNat)
  case atStart => exact ⟨0, by omega, rfl, Or.inr rfl, OP.nil _ _, ht1⟩
  case round =>
    obtain ⟨j, hj, rfl, hjm, hop, ht⟩ := hrel
    have y0 := keepc ht id c0
    have hrp := Hrp0.out.ext ht
    obtain ⟨va, vc, hva⟩ : ∃ va vc, u7 = .slice va ((ps.drop r).take j).length vc := by
      obtain ⟨es, hes, ho, _⟩ := hop
      obtain ⟨va, vc, h⟩ := own_len ho
      exact ⟨va, vc, by rw [← hes]; simpa using h⟩
    have hlen : ((ps.drop r).take j).length = j := by simp; omega
    rw [hlen] at hva
    subst hva
    by_cases hlt : r + j < ps.length
    · by_cases hmost : (j : Int) < most
      · obtain ⟨b, off, rfl, _⟩ := hrp.addr (by omega)
        have hg := List.getElem?_eq_getElem hlt
        obtain ⟨kv, c1, c2, hkv⟩ := hrp.get _ _ hg
        have hlong := H.out.long _ (List.mem_of_getElem? hg)
        obtain ⟨ka, kc, rfl, _⟩ := hkv.shape
        generalize ps[r + j] = p at *
        have hstep := fromN_step ps r j p hg
        obtain ⟨es, hes, ho, hF, hks, hd⟩ := hop
        have hel : es.length = j := by have := congrArg List.length hes; rw [hlen] at this; simpa using this
        have Hg := Lib.hid hg
        clear hg
        have Hkv := Lib.hid hkv
        clear hkv
        have Hes := Lib.hid hes
        clear hes
        have Ho := Lib.hid ho
        clear ho
        have HF := Lib.hid hF
        clear hF
        have Hks := Lib.hid hks
        clear hks
        have Hd := Lib.hid hd
        clear hd
        have Hel := Lib.hid hel
        clear hel
        have Hstep := Lib.hid hstep
        clear hstep
        have Hlen := Lib.hid hlen
        clear hlen
        have Hrp := Lib.hid hrp
        clear hrp
        have i0 : (0 : Int) ≤ ((r + j : Nat) : Int) := by omega
        have i1 : ((r + j : Nat) : Int) < (ps.length : Int) := by omega
        go_wp2_with (fail)
        (with_reducible refine (RefB.pair_any (G := F) _ _ p.2 p.1 Hkv.out (by omega)).mono ?_)
        rintro e w2 ⟨⟨kv', rfl, hob⟩, ht2⟩
        obtain ⟨qa, qc, rfl⟩ := hob.shape
        have ho2 := own_keep Ho.out (ht2.alloc (.cells #[.slice qa p.1.length qc, .int .u64 p.2] 41)) (fun _ _ h => h)
        have Hob := Lib.hid hob
        clear hob
        have Ho2 := Lib.hid ho2
        clear ho2
        go_wp2_with (at_builtin; refine wpList_push_any _ rfl _ _ 22 rfl 41 _ 2 32 Tryz.underlying22 info_pair rfl (by decide) (.slice va j vc) es.length (flat es) rfl Ho2.out (some ⟨w2.heap.size, 0, none⟩) 1 1 rfl (fun h => by cases h) [.slice qa p.1.length qc, .int .u64 p.2] (by omega) rfl (src_pair _ _ _ _) (pair_one Hob.out _) (by simp [maxLen]; have := Hel.out; omega) (by have := Hel.out; omega) ?_; intro v6 w3 hown3 ht3 hb3)
        have hop3 : OP w3 (Ge w.heap.size) v6 (es.map (·.2) ++ [(p.1, p.2)]) := op_append Ho.out HF.out Hks.out Hd.out (ht2.alloc _) (Hob.out.ext ((Touch.refl _ _).alloc _)) (fun b hb => by have := ht.size; unfold Ge; omega) hown3 ht3 hb3
        have e3 : Ext w w3 := (ht.trans' (ht2.alloc _)).ext_new ht3 (fun i hi => HF.out i hi)
        have Hop3 := Lib.hid hop3
        clear hop3 hown3 hb3 ht3
        go_wp2_with (fail)
        go_roundw
        case rel =>
          refine ⟨j + 1, by omega, by go_num, Or.inl (by omega), ?_, e3⟩
          rw [Hstep.out, ← Hes.out]
          exact Hop3.out
        case measure => simp [intOf]; omega
      · have hfin := Hend.out j (by omega) hjm
        rw [hfin] at hop
        have Hop := Lib.hid hop
        clear hop
        have Hfin := Lib.hid hfin
        clear hfin
        have Hlen := Lib.hid hlen
        clear hlen
        have Hrp := Lib.hid hrp
        clear hrp
        go_wp2_with (fail)
        go_ret
        exact ⟨⟨_, rfl, Hop.out⟩, ht⟩
    · have hfin := Hend.out j (by omega) hjm
      rw [hfin] at hop
      have Hop := Lib.hid hop
      clear hop
      have Hfin := Lib.hid hfin
      clear hfin
      have Hlen := Lib.hid hlen
      clear hlen
      have Hrp := Lib.hid hrp
      clear hrp
      go_wp2_with (fail)
      go_ret
      exact ⟨⟨_, rfl, Hop.out⟩, ht⟩
end RefE
end Go.Proofs.YtclnnkacfanaiaaGreatDoor
