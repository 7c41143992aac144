/- A radix tree's cells: the walk. -/
import Derived.Test.YtclnnkacfanaiaaDoorRadG
namespace Go.Proofs.YtclnnkacfanaiaaDoor
open Go.RowKit
set_option linter.unusedVariables false
set_option linter.unusedSimpArgs false
namespace RadH
open MaskA MaskP KidA KidB RadK RadM RadA RadB RadG

def CellsRet (w : World) (T : RT) (e : Ending) (w' : World) : Prop := ∃ v, e = .returned (.tuple #[v, .int .i64 ((T.prs.length : Nat) : Int)]) ∧ Nc w.heap.size w' v T.CK ∧ Ext w w'
/-- a cell's nine values, behind its key -/
def c9 (kind count kids : Int) (full : Bool) (val : Int) (kv : Value) : List Value := [.int .i64 kind, .int .i64 0, .int .i64 count, .int .i64 kids, .int .u8 0, .bool full, .int .u64 val, kv, .slice none 0 0]
def zc : List Value := [.int .i64 0, .int .i64 0, .int .i64 0, .int .i64 0, .int .u8 0, .bool false, .int .u64 0, .slice none 0 0, .slice none 0 0]
/-- behind the first region: the cell, its key's copy -/
def Cut1 (w : World) (k : List Int) (x : Int) (s4 : Value) (W : World) : Prop :=
  ∃ cb ka kc, s4 = pt cb ∧ Cb W cb (c9 5 1 0 false x (.slice ka k.length kc)) ∧ RB W (fun b => w.heap.size ≤ b ∧ b < W.heap.size ∧ b ≠ cb) (.slice ka k.length kc) k ∧ w.heap.size ≤ cb ∧ cb < W.heap.size ∧ Ext w W
theorem cb_nine {w : World} {b : Nat} (h : Cb w b zc) (a0 a1 a2 a3 a4 a5 a6 a7 a8 : Value) : Cb (((((((((w.setCell ⟨b, 0, none⟩ a0).setCell ⟨b, 1, none⟩ a1).setCell ⟨b, 2, none⟩ a2).setCell ⟨b, 3, none⟩ a3).setCell ⟨b, 4, none⟩ a4).setCell ⟨b, 5, none⟩ a5).setCell ⟨b, 6, none⟩ a6).setCell ⟨b, 7, none⟩ a7).setCell ⟨b, 8, none⟩ a8) b [a0, a1, a2, a3, a4, a5, a6, a7, a8] :=
  ((((((((h.set 0 a0).set 1 a1).set 2 a2).set 3 a3).set 4 a4).set 5 a5).set 6 a6).set 7 a7).set 8 a8
theorem touch_nine (w : World) (b : Nat) (a0 a1 a2 a3 a4 a5 a6 a7 a8 : Value) : Touch (fun i => i = b) w (((((((((w.setCell ⟨b, 0, none⟩ a0).setCell ⟨b, 1, none⟩ a1).setCell ⟨b, 2, none⟩ a2).setCell ⟨b, 3, none⟩ a3).setCell ⟨b, 4, none⟩ a4).setCell ⟨b, 5, none⟩ a5).setCell ⟨b, 6, none⟩ a6).setCell ⟨b, 7, none⟩ a7).setCell ⟨b, 8, none⟩ a8) := by
  have o : ∀ (W : World) (x : Touch (fun i => i = b) w W) (j : Nat) (a : Value), Touch (fun i => i = b) w (W.setCell ⟨b, j, none⟩ a) := fun W x j a => x.setCell (p := ⟨b, j, none⟩) (Or.inl rfl) a
  exact o _ (o _ (o _ (o _ (o _ (o _ (o _ (o _ (o _ (Touch.refl _ _) 0 a0) 1 a1) 2 a2) 3 a3) 4 a4) 5 a5) 6 a6) 7 a7) 8 a8
theorem cells_leaf (w : World) (K F : Nat → Prop) (v : Value) (k : List Int) (x : Int) (h : Rn w K F v (.leaf k x)) (hl : k.length ≤ 65535) : Calls Tryd.prog 58 #[v] w (CellsRet w (.leaf k x)) := by
  obtain ⟨g, kv, rfl, hF, hnd, hkey⟩ := h
  obtain ⟨ka, kc, rfl, l1, m1, kz⟩ := hkey.shape
  unfold maxLen at m1
  have c0 := hnd.c0
  have c2 := hnd.c2
  have c3 := hnd.c3
  have hglt := hnd.lt
  unfold CellsRet
  have Hnd := Lib.hid hnd
  clear hnd
  have Hkey := Lib.hid hkey
  clear hkey
  go_enter Tryd.func58, Tryd.ntmps58
  go_upto_region 1 with (fail)
  go_cut [4] (fun s4 wx => Cut1 w k x s4 wx)
  case first =>
    refine wp_region_plan (.take 0 (.take 1 (.take 2 (.take 3 (.take 5 (.take 6 (.take 7 (.take 8 (.two 4 10 (.take 9 (.must 10 (.must 11 .done))) (.must 4 (.take 9 (.must 11 .done)))))))))))) (fun W => W.cell? ⟨g, 0, none⟩ = some (.slice ka k.length kc) ∧ W.cell? ⟨g, 2, none⟩ = some (.int .u64 x)) (by kernel_rfl) (by kernel_rfl) (by kernel_rfl) rfl ?_ (fun KK hKK => ?_)
    · exact ⟨c0, c2⟩
    repeat (first
      | (refine wpPlan_take (v := ?_) rfl (by rfl) (fun W hW => ?_) ?_; rotate_left; (focus ((try dsimp only at hW); go_split_ands; go_simp; (try with_reducible rfl); done)); (try simp only [Act.put, List.setIfInBounds_toArray, List.set_cons_zero, List.set_cons_succ]))
      | (refine wpPlan_skip rfl (by rfl) ?_; (try simp only [Act.put, List.setIfInBounds_toArray, List.set_cons_zero, List.set_cons_succ])))
    refine wpPlan_two ?_ ?_
    · refine wpPlan_must rfl (by rfl) (fun K hK => ?_)
      refine wp_push_any _ _ _ 23 rfl 5 (.int .u8 0) 1 1 Tryd.underlying23 info_u8 rfl (by decide) (.slice none 0 0) 0 [] rfl (World.ownsRow_nil _ _ _ _) ka k.length kc rfl kz (ivs .u8 k) l1 (by simp) (Hkey.out.ext ((Touch.refl _ _).drew)).src (ivs_one _ _) (by unfold maxLen; omega) (by omega) ?_
      intro v1 w1 hown t1 hb1
      rw [Nat.zero_add, List.nil_append] at hown
      have t1 : Ext w w1 := (show Ext w w.drew from (Touch.refl _ _).drew).ext_new t1 (fun i hi => by cases hi)
      have hge : ∀ b, v1.ownBlock = some b → (w).heap.size ≤ b ∧ b < w1.heap.size := fun b hb => by
        have h1 := (hown.lt b hb).2
        rcases hb1 with h3 | h3
        · rw [h3] at hb; cases hb
        · rw [h3] at hb; cases hb; exact ⟨Nat.le_refl _, h1⟩
      have c0 := keepc t1 id c0
      have c2 := keepc t1 id c2
      obtain ⟨va, vc, rfl⟩ := own_len hown
      clear hb1
      have Hown := Lib.hid hown
      clear hown
      have T1 := Lib.hid t1
      clear t1
      have Hge := Lib.hid hge
      clear hge
      refine hK.out _ _ ?_ ?_
      · exact ⟨c0, c2⟩
      clear hK K
      (try simp only [Act.put, List.setIfInBounds_toArray, List.set_cons_zero, List.set_cons_succ])
      repeat (first
        | (refine wpPlan_take (v := ?_) rfl (by rfl) (fun W hW => ?_) ?_; rotate_left; (focus ((try dsimp only at hW); go_split_ands; go_simp; (try with_reducible rfl); done)); (try simp only [Act.put, List.setIfInBounds_toArray, List.set_cons_zero, List.set_cons_succ]))
        | (refine wpPlan_skip rfl (by rfl) ?_; (try simp only [Act.put, List.setIfInBounds_toArray, List.set_cons_zero, List.set_cons_succ])))
      refine wpPlan_must rfl (by rfl) (fun K hK => ?_)
      go_simp
      obtain ⟨wz, hwz⟩ : ∃ wz, wz = w1.alloc (.cells zc.toArray 53) := ⟨_, rfl⟩
      have tz : Ext w1 wz := by rw [hwz]; exact (Touch.refl _ _).alloc _
      have hcz : Cb wz w1.heap.size zc := by rw [hwz]; exact Cb.new w1 _ _
      have hsz : wz.heap.size = w1.heap.size + 1 := by rw [hwz]; simp
      have hwz' : wz = w1.alloc (.cells #[.int .i64 0, .int .i64 0, .int .i64 0, .int .i64 0, .int .u8 0, .bool false, .int .u64 0, .slice none 0 0, .slice none 0 0] 53) := hwz
      clear hwz
      have c0 := keepc tz id c0
      have c2 := keepc tz id c2
      rw [← hwz']
      clear hwz'
      obtain ⟨cb, hcb⟩ : ∃ cb, cb = w1.heap.size := ⟨_, rfl⟩
      rw [← hcb] at hcz ⊢
      have hgw := World.block_lt_of_cell? _ _ c0
      have hgc : ¬ g = cb := fun e => by have := T1.out.size; omega
      have z0 := hcz 0 _ rfl
      have z1 := hcz 1 _ rfl
      have z2 := hcz 2 _ rfl
      have z3 := hcz 3 _ rfl
      have z4 := hcz 4 _ rfl
      have z5 := hcz 5 _ rfl
      have z6 := hcz 6 _ rfl
      have z7 := hcz 7 _ rfl
      have z8 := hcz 8 _ rfl
      have Tz := Lib.hid tz
      clear tz
      have Hcz := Lib.hid hcz
      clear hcz
      have Hsz := Lib.hid hsz
      clear hsz
      have Hcb := Lib.hid hcb
      clear hcb
      have Hgw := Lib.hid hgw
      clear hgw
      refine hK.out _ _ ?_ ?_
      · exact ⟨c0, c2⟩
      clear hK K
      (try simp only [Act.put, List.setIfInBounds_toArray, List.set_cons_zero, List.set_cons_succ])
      repeat (first
        | (refine wpPlan_take (v := ?_) rfl (by rfl) (fun W hW => ?_) ?_; rotate_left; (focus ((try dsimp only at hW); go_split_ands; go_simp; (try with_reducible rfl); done)); (try simp only [Act.put, List.setIfInBounds_toArray, List.set_cons_zero, List.set_cons_succ]))
        | (refine wpPlan_skip rfl (by rfl) ?_; (try simp only [Act.put, List.setIfInBounds_toArray, List.set_cons_zero, List.set_cons_succ])))
      refine wpPlan_must rfl (by rfl) (fun K hK => ?_)
      go_simp
      have tn := touch_nine wz cb (.int .i64 5) (.int .i64 0) (.int .i64 1) (.int .i64 0) (.int .u8 0) (.bool false) (.int .u64 x) (.slice va k.length vc) (.slice none 0 0)
      have hcn := cb_nine Hcz.out (.int .i64 5) (.int .i64 0) (.int .i64 1) (.int .i64 0) (.int .u8 0) (.bool false) (.int .u64 x) (.slice va k.length vc) (.slice none 0 0)
      generalize (((((((((wz.setCell ⟨cb, 0, none⟩ (.int .i64 5)).setCell ⟨cb, 1, none⟩ (.int .i64 0)).setCell ⟨cb, 2, none⟩ (.int .i64 1)).setCell ⟨cb, 3, none⟩ (.int .i64 0)).setCell ⟨cb, 4, none⟩ (.int .u8 0)).setCell ⟨cb, 5, none⟩ (.bool false)).setCell ⟨cb, 6, none⟩ (.int .u64 x)).setCell ⟨cb, 7, none⟩ (.slice va k.length vc)).setCell ⟨cb, 8, none⟩ (.slice none 0 0)) = w9 at *
      have c0 := keepc tn hgc c0
      have c2 := keepc tn hgc c2
      have Tn := Lib.hid tn
      clear tn
      have Hcn := Lib.hid hcn
      clear hcn
      refine hK.out _ _ ?_ ?_
      · exact ⟨c0, c2⟩
      clear hK K
      (try simp only [Act.put, List.setIfInBounds_toArray, List.set_cons_zero, List.set_cons_succ])
      repeat (first
        | (refine wpPlan_take (v := ?_) rfl (by rfl) (fun W hW => ?_) ?_; rotate_left; (focus ((try dsimp only at hW); go_split_ands; go_simp; (try with_reducible rfl); done)); (try simp only [Act.put, List.setIfInBounds_toArray, List.set_cons_zero, List.set_cons_succ]))
        | (refine wpPlan_skip rfl (by rfl) ?_; (try simp only [Act.put, List.setIfInBounds_toArray, List.set_cons_zero, List.set_cons_succ])))
      refine wpPlan_done (hKK.out _ _ ?_)
      clear hKK KK
      go_wp2_with (fail)
      go_meet
      have hsn := Tn.out.size
      have hs1 := T1.out.size
      have hsz := Hsz.out
      have hcb := Hcb.out
      refine ⟨cb, va, vc, rfl, Hcn.out, ?_, by omega, by omega, (T1.out.trans' Tz.out).ext_new Tn.out (fun i hi => by omega)⟩
      have hrb : RB w1 (fun b => w.heap.size ≤ b ∧ b < w1.heap.size) (.slice va k.length vc) k := OB.rb ⟨Hown.out, Hge.out⟩
      exact ((hrb.ext Tz.out).keep Tn.out (fun b hb e => by omega)).mono (fun b hb => ⟨hb.1, by omega, by omega⟩)
    · refine wpPlan_must rfl (by rfl) (fun K hK => ?_)
      go_simp
      obtain ⟨wz, hwz⟩ : ∃ wz, wz = w.alloc (.cells zc.toArray 53) := ⟨_, rfl⟩
      have tz : Ext w wz := by rw [hwz]; exact (Touch.refl _ _).alloc _
      have hcz : Cb wz w.heap.size zc := by rw [hwz]; exact Cb.new w _ _
      have hsz : wz.heap.size = w.heap.size + 1 := by rw [hwz]; simp
      have hwz' : wz = w.alloc (.cells #[.int .i64 0, .int .i64 0, .int .i64 0, .int .i64 0, .int .u8 0, .bool false, .int .u64 0, .slice none 0 0, .slice none 0 0] 53) := hwz
      clear hwz
      have c0 := keepc tz id c0
      have c2 := keepc tz id c2
      rw [← hwz']
      clear hwz'
      obtain ⟨cb, hcb⟩ : ∃ cb, cb = w.heap.size := ⟨_, rfl⟩
      rw [← hcb] at hcz ⊢
      have hgc : ¬ g = cb := fun e => by omega
      refine hK.out _ _ ?_ ?_
      · exact ⟨c0, c2⟩
      clear hK K
      (try simp only [Act.put, List.setIfInBounds_toArray, List.set_cons_zero, List.set_cons_succ])
      repeat (first
        | (refine wpPlan_take (v := ?_) rfl (by rfl) (fun W hW => ?_) ?_; rotate_left; (focus ((try dsimp only at hW); go_split_ands; go_simp; (try with_reducible rfl); done)); (try simp only [Act.put, List.setIfInBounds_toArray, List.set_cons_zero, List.set_cons_succ]))
        | (refine wpPlan_skip rfl (by rfl) ?_; (try simp only [Act.put, List.setIfInBounds_toArray, List.set_cons_zero, List.set_cons_succ])))
      refine wpPlan_must rfl (by rfl) (fun K hK => ?_)
      refine wp_push_any _ _ _ 23 rfl 5 (.int .u8 0) 1 1 Tryd.underlying23 info_u8 rfl (by decide) (.slice none 0 0) 0 [] rfl (World.ownsRow_nil _ _ _ _) ka k.length kc rfl kz (ivs .u8 k) l1 (by simp) (Hkey.out.ext (tz.drew)).src (ivs_one _ _) (by unfold maxLen; omega) (by omega) ?_
      intro v1 w1 hown t1 hb1
      rw [Nat.zero_add, List.nil_append] at hown
      have t1 : Ext wz w1 := (show Ext wz wz.drew from (Touch.refl _ _).drew).ext_new t1 (fun i hi => by cases hi)
      have hge : ∀ b, v1.ownBlock = some b → (wz).heap.size ≤ b ∧ b < w1.heap.size := fun b hb => by
        have h1 := (hown.lt b hb).2
        rcases hb1 with h3 | h3
        · rw [h3] at hb; cases hb
        · rw [h3] at hb; cases hb; exact ⟨Nat.le_refl _, h1⟩
      have c0 := keepc t1 id c0
      have c2 := keepc t1 id c2
      obtain ⟨va, vc, rfl⟩ := own_len hown
      clear hb1
      have hcz1 := hcz.keep t1 id
      have z0 := hcz1 0 _ rfl
      have z1 := hcz1 1 _ rfl
      have z2 := hcz1 2 _ rfl
      have z3 := hcz1 3 _ rfl
      have z4 := hcz1 4 _ rfl
      have z5 := hcz1 5 _ rfl
      have z6 := hcz1 6 _ rfl
      have z7 := hcz1 7 _ rfl
      have z8 := hcz1 8 _ rfl
      have Hown := Lib.hid hown
      clear hown
      have T1 := Lib.hid t1
      clear t1
      have Hge := Lib.hid hge
      clear hge
      have Tz := Lib.hid tz
      clear tz
      have Hcz := Lib.hid hcz
      clear hcz
      have Hsz := Lib.hid hsz
      clear hsz
      have Hcb := Lib.hid hcb
      clear hcb
      have Hcz1 := Lib.hid hcz1
      clear hcz1
      refine hK.out _ _ ?_ ?_
      · exact ⟨c0, c2⟩
      clear hK K
      (try simp only [Act.put, List.setIfInBounds_toArray, List.set_cons_zero, List.set_cons_succ])
      repeat (first
        | (refine wpPlan_take (v := ?_) rfl (by rfl) (fun W hW => ?_) ?_; rotate_left; (focus ((try dsimp only at hW); go_split_ands; go_simp; (try with_reducible rfl); done)); (try simp only [Act.put, List.setIfInBounds_toArray, List.set_cons_zero, List.set_cons_succ]))
        | (refine wpPlan_skip rfl (by rfl) ?_; (try simp only [Act.put, List.setIfInBounds_toArray, List.set_cons_zero, List.set_cons_succ])))
      refine wpPlan_must rfl (by rfl) (fun K hK => ?_)
      go_simp
      have tn := touch_nine w1 cb (.int .i64 5) (.int .i64 0) (.int .i64 1) (.int .i64 0) (.int .u8 0) (.bool false) (.int .u64 x) (.slice va k.length vc) (.slice none 0 0)
      have hcn := cb_nine Hcz1.out (.int .i64 5) (.int .i64 0) (.int .i64 1) (.int .i64 0) (.int .u8 0) (.bool false) (.int .u64 x) (.slice va k.length vc) (.slice none 0 0)
      generalize (((((((((w1.setCell ⟨cb, 0, none⟩ (.int .i64 5)).setCell ⟨cb, 1, none⟩ (.int .i64 0)).setCell ⟨cb, 2, none⟩ (.int .i64 1)).setCell ⟨cb, 3, none⟩ (.int .i64 0)).setCell ⟨cb, 4, none⟩ (.int .u8 0)).setCell ⟨cb, 5, none⟩ (.bool false)).setCell ⟨cb, 6, none⟩ (.int .u64 x)).setCell ⟨cb, 7, none⟩ (.slice va k.length vc)).setCell ⟨cb, 8, none⟩ (.slice none 0 0)) = w9 at *
      have c0 := keepc tn hgc c0
      have c2 := keepc tn hgc c2
      have Tn := Lib.hid tn
      clear tn
      have Hcn := Lib.hid hcn
      clear hcn
      refine hK.out _ _ ?_ ?_
      · exact ⟨c0, c2⟩
      clear hK K
      (try simp only [Act.put, List.setIfInBounds_toArray, List.set_cons_zero, List.set_cons_succ])
      repeat (first
        | (refine wpPlan_take (v := ?_) rfl (by rfl) (fun W hW => ?_) ?_; rotate_left; (focus ((try dsimp only at hW); go_split_ands; go_simp; (try with_reducible rfl); done)); (try simp only [Act.put, List.setIfInBounds_toArray, List.set_cons_zero, List.set_cons_succ]))
        | (refine wpPlan_skip rfl (by rfl) ?_; (try simp only [Act.put, List.setIfInBounds_toArray, List.set_cons_zero, List.set_cons_succ])))
      refine wpPlan_done (hKK.out _ _ ?_)
      clear hKK KK
      go_wp2_with (fail)
      go_meet
      have hsn := Tn.out.size
      have hs1 := T1.out.size
      have hsz := Hsz.out
      have hcb := Hcb.out
      refine ⟨cb, va, vc, rfl, Hcn.out, ?_, by omega, by omega, (Tz.out.trans' T1.out).ext_new Tn.out (fun i hi => by omega)⟩
      have hrb : RB w1 (fun b => wz.heap.size ≤ b ∧ b < w1.heap.size) (.slice va k.length vc) k := OB.rb ⟨Hown.out, Hge.out⟩
      exact (hrb.keep Tn.out (fun b hb e => by omega)).mono (fun b hb => ⟨by omega, by omega, by omega⟩)
  case rest =>
    obtain ⟨cb, va, vc, rfl, hcb, hrb, hcb1, hcb2, ht⟩ := hcut
    obtain ⟨wr, rfl⟩ : ∃ wr, wr = wc := ⟨_, rfl⟩
    have c3 := keepc ht id c3
    have z0 := hcb 0 _ rfl
    have z1 := hcb 1 _ rfl
    have z2 := hcb 2 _ rfl
    have z3 := hcb 3 _ rfl
    have z4 := hcb 4 _ rfl
    have z5 := hcb 5 _ rfl
    have z6 := hcb 6 _ rfl
    have z7 := hcb 7 _ rfl
    have z8 := hcb 8 _ rfl
    have Ht := Lib.hid ht
    clear ht
    have Hrb := Lib.hid hrb
    clear hrb
    have Hcb := Lib.hid hcb
    clear hcb
    clear c0 c2
    go_wp2_with (fail)
    have hol := own_lit wr (.slice va k.length vc, RT.leafC k x)
    have ta : Ext wr (wr.alloc (.cells (flat9 (.slice va k.length vc, RT.leafC k x)).toArray 53)) := (Touch.refl _ _).alloc _
    refine bodyPost_ret (v := .tuple #[.slice (some ⟨wr.heap.size, 0, none⟩) 1 1, .int .i64 1]) (by simp [results, Tryd.results58, go_sem]) rfl ?_
    have hs := Ht.out.size
    exact ⟨_, rfl, ⟨fun b => w.heap.size ≤ b ∧ b < wr.heap.size, ⟨[(.slice va k.length vc, RT.leafC k x)], rfl, hol, fun b hb h => by cases hb; exact absurd h.2 (Nat.lt_irrefl _), fun e he => by
      simp only [List.mem_cons, List.not_mem_nil, or_false] at he
      subst he
      exact (Hrb.out.ext ta).mono (fun b hb => ⟨hb.1, hb.2.1⟩)⟩, fun b hb => ⟨hb.1, Nat.lt_of_lt_of_le hb.2 ta.size⟩, fun b hb => by cases hb; exact hs⟩, Ht.out.trans' ta⟩

/-- the cell of a node, so far -/
abbrev nc (kd : Nat) (count : Nat) (fl : Bool) (x : Int) (kids : Nat) (kv : Value) : List Value := c9 (6 + (kd : Int)) count kids fl x kv
set_option maxRecDepth 100000 in
set_option maxHeartbeats 3200000 in
theorem cells_node (w : World) (K F : Nat → Prop) (v : Value) (q k : List Int) (o : Option Int) (kd : Nat) (f : Nat → RT) (h : Rn w K F v (.node k o kd f)) (hok : RT.Ok q (.node k o kd f)) (htl : ∀ p ∈ (RT.node k o kd f).prs, p.1.length ≤ 65535) (hcs : (RT.node k o kd f).cells ≤ 10000000) (hps : (RT.node k o kd f).prs.length ≤ 10000000)
    (ih : ∀ i W F' v', (f i).is = true → i < 256 → Rn W K F' v' (f i) → Calls Tryd.prog 58 #[v'] W (CellsRet W (f i))) :
    Calls Tryd.prog 58 #[v] w (CellsRet w (.node k o kd f)) := by
  have hl : k.length ≤ 65535 := hok.key_le htl
  have hck := RT.CK_below k o kd f
  have hpk := RT.prs_below k o kd f
  have hcl := RT.CK_length (.node k o kd f)
  rw [hck, List.length_cons] at hcl
  have hbt := RT.belowN_le f
  have hbc := RT.belowC_le f
  have hkd := hok.2.2.2.2.2.1
  have hcn := cnt_le (RT.hsT f) 256
  obtain ⟨g, gk, gm, kv, m, G, rfl, h2, h3, h4, h5, h6, h7, h8, h9, h10, h11, h12, h13, h14⟩ := h
  have hkey := h9
  have hnd := h8
  obtain ⟨ka, kc, rfl, l1, m1, kz⟩ := hkey.shape
  unfold maxLen at m1
  have c0 := hnd.c0
  have c1 := hnd.c1
  have c2 := hnd.c2
  have c3 := hnd.c3
  have c4 := hnd.c4
  have hglt := hnd.lt
  have hgkl := h10.lt
  have hgml := h11.lt
  generalize hx : o.getD 0 = x at *
  have hon : RT.one o = if o.isSome then 1 else 0 := rfl
  generalize hfl : o.isSome = fl at *
  generalize RT.one o = on at *
  have hkn := fun W (t : Ext w W) => kind_any kd (h10.ext t) hkd
  have hln := fun W (t : Ext w W) => len_any (kd : Int) (h10.ext t)
  have hby := fun W (t : Ext w W) => bytes_any (kd : Int) (h10.ext t)
  unfold KBytes at hby
  rw [hs_hI] at hln hby
  have hall : allF (RT.hsT f) 256 = (RT.bl f).map Int.ofNat := RT.all_bl f
  have hbll := RT.bl_length f
  generalize allF (RT.hsT f) 256 = bs at *
  generalize hcc : cnt (RT.hsT f) 256 = cn at *
  unfold CellsRet
  have Hcs := Lib.hid hcs
  clear hcs
  have Hps := Lib.hid hps
  clear hps
  have Hon := Lib.hid hon
  clear hon
  have Hfl := Lib.hid hfl
  clear hfl
  have Hall := Lib.hid hall
  clear hall
  have Hbll := Lib.hid hbll
  clear hbll
  have Hcc := Lib.hid hcc
  clear hcc
  have Hnd := Lib.hid hnd
  clear hnd
  have Hkey := Lib.hid hkey
  clear hkey
  have Hok := Lib.hid hok
  clear hok
  have Htl := Lib.hid htl
  clear htl
  have Hck := Lib.hid hck
  clear hck
  have Hpk := Lib.hid hpk
  clear hpk
  have Hcl := Lib.hid hcl
  clear hcl
  have Hbt := Lib.hid hbt
  clear hbt
  have Hbc := Lib.hid hbc
  clear hbc
  have Hx := Lib.hid hx
  clear hx
  have Hkn := Lib.hid hkn
  clear hkn
  have Hln := Lib.hid hln
  clear hln
  have Hby := Lib.hid hby
  clear hby
  have Ih := Lib.hid ih
  clear ih
  have H2 := Lib.hid h2
  clear h2
  have H3 := Lib.hid h3
  clear h3
  have H4 := Lib.hid h4
  clear h4
  have H5 := Lib.hid h5
  clear h5
  have H6 := Lib.hid h6
  clear h6
  have H7 := Lib.hid h7
  clear h7
  have H8 := Lib.hid h8
  clear h8
  have H9 := Lib.hid h9
  clear h9
  have H10 := Lib.hid h10
  clear h10
  have H11 := Lib.hid h11
  clear h11
  have H12 := Lib.hid h12
  clear h12
  have H13 := Lib.hid h13
  clear h13
  have H14 := Lib.hid h14
  clear h14
  go_enter Tryd.func58, Tryd.ntmps58
  go_upto_region 1 with (fail)
  go_cut [4] (fun s4 wx => Cut1 w k x s4 wx)
  case first =>
    refine wp_region_plan (.take 0 (.take 1 (.take 2 (.take 3 (.take 5 (.take 6 (.take 7 (.take 8 (.two 4 10 (.take 9 (.must 10 (.must 11 .done))) (.must 4 (.take 9 (.must 11 .done)))))))))))) (fun W => W.cell? ⟨g, 0, none⟩ = some (.slice ka k.length kc) ∧ W.cell? ⟨g, 2, none⟩ = some (.int .u64 x)) (by kernel_rfl) (by kernel_rfl) (by kernel_rfl) rfl ?_ (fun KK hKK => ?_)
    · exact ⟨c0, c2⟩
    repeat (first
      | (refine wpPlan_take (v := ?_) rfl (by rfl) (fun W hW => ?_) ?_; rotate_left; (focus ((try dsimp only at hW); go_split_ands; go_simp; (try with_reducible rfl); done)); (try simp only [Act.put, List.setIfInBounds_toArray, List.set_cons_zero, List.set_cons_succ]))
      | (refine wpPlan_skip rfl (by rfl) ?_; (try simp only [Act.put, List.setIfInBounds_toArray, List.set_cons_zero, List.set_cons_succ])))
    refine wpPlan_two ?_ ?_
    · refine wpPlan_must rfl (by rfl) (fun K hK => ?_)
      refine wp_push_any _ _ _ 23 rfl 5 (.int .u8 0) 1 1 Tryd.underlying23 info_u8 rfl (by decide) (.slice none 0 0) 0 [] rfl (World.ownsRow_nil _ _ _ _) ka k.length kc rfl kz (ivs .u8 k) l1 (by simp) (Hkey.out.ext ((Touch.refl _ _).drew)).src (ivs_one _ _) (by unfold maxLen; omega) (by omega) ?_
      intro v1 w1 hown t1 hb1
      rw [Nat.zero_add, List.nil_append] at hown
      have t1 : Ext w w1 := (show Ext w w.drew from (Touch.refl _ _).drew).ext_new t1 (fun i hi => by cases hi)
      have hge : ∀ b, v1.ownBlock = some b → (w).heap.size ≤ b ∧ b < w1.heap.size := fun b hb => by
        have h1 := (hown.lt b hb).2
        rcases hb1 with h3 | h3
        · rw [h3] at hb; cases hb
        · rw [h3] at hb; cases hb; exact ⟨Nat.le_refl _, h1⟩
      have c0 := keepc t1 id c0
      have c2 := keepc t1 id c2
      obtain ⟨va, vc, rfl⟩ := own_len hown
      clear hb1
      have Hown := Lib.hid hown
      clear hown
      have T1 := Lib.hid t1
      clear t1
      have Hge := Lib.hid hge
      clear hge
      refine hK.out _ _ ?_ ?_
      · exact ⟨c0, c2⟩
      clear hK K
      (try simp only [Act.put, List.setIfInBounds_toArray, List.set_cons_zero, List.set_cons_succ])
      repeat (first
        | (refine wpPlan_take (v := ?_) rfl (by rfl) (fun W hW => ?_) ?_; rotate_left; (focus ((try dsimp only at hW); go_split_ands; go_simp; (try with_reducible rfl); done)); (try simp only [Act.put, List.setIfInBounds_toArray, List.set_cons_zero, List.set_cons_succ]))
        | (refine wpPlan_skip rfl (by rfl) ?_; (try simp only [Act.put, List.setIfInBounds_toArray, List.set_cons_zero, List.set_cons_succ])))
      refine wpPlan_must rfl (by rfl) (fun K hK => ?_)
      go_simp
      obtain ⟨wz, hwz⟩ : ∃ wz, wz = w1.alloc (.cells zc.toArray 53) := ⟨_, rfl⟩
      have tz : Ext w1 wz := by rw [hwz]; exact (Touch.refl _ _).alloc _
      have hcz : Cb wz w1.heap.size zc := by rw [hwz]; exact Cb.new w1 _ _
      have hsz : wz.heap.size = w1.heap.size + 1 := by rw [hwz]; simp
      have hwz' : wz = w1.alloc (.cells #[.int .i64 0, .int .i64 0, .int .i64 0, .int .i64 0, .int .u8 0, .bool false, .int .u64 0, .slice none 0 0, .slice none 0 0] 53) := hwz
      clear hwz
      have c0 := keepc tz id c0
      have c2 := keepc tz id c2
      rw [← hwz']
      clear hwz'
      obtain ⟨cb, hcb⟩ : ∃ cb, cb = w1.heap.size := ⟨_, rfl⟩
      rw [← hcb] at hcz ⊢
      have hgw := World.block_lt_of_cell? _ _ c0
      have hgc : ¬ g = cb := fun e => by have := T1.out.size; omega
      have z0 := hcz 0 _ rfl
      have z1 := hcz 1 _ rfl
      have z2 := hcz 2 _ rfl
      have z3 := hcz 3 _ rfl
      have z4 := hcz 4 _ rfl
      have z5 := hcz 5 _ rfl
      have z6 := hcz 6 _ rfl
      have z7 := hcz 7 _ rfl
      have z8 := hcz 8 _ rfl
      have Tz := Lib.hid tz
      clear tz
      have Hcz := Lib.hid hcz
      clear hcz
      have Hsz := Lib.hid hsz
      clear hsz
      have Hcb := Lib.hid hcb
      clear hcb
      have Hgw := Lib.hid hgw
      clear hgw
      refine hK.out _ _ ?_ ?_
      · exact ⟨c0, c2⟩
      clear hK K
      (try simp only [Act.put, List.setIfInBounds_toArray, List.set_cons_zero, List.set_cons_succ])
      repeat (first
        | (refine wpPlan_take (v := ?_) rfl (by rfl) (fun W hW => ?_) ?_; rotate_left; (focus ((try dsimp only at hW); go_split_ands; go_simp; (try with_reducible rfl); done)); (try simp only [Act.put, List.setIfInBounds_toArray, List.set_cons_zero, List.set_cons_succ]))
        | (refine wpPlan_skip rfl (by rfl) ?_; (try simp only [Act.put, List.setIfInBounds_toArray, List.set_cons_zero, List.set_cons_succ])))
      refine wpPlan_must rfl (by rfl) (fun K hK => ?_)
      go_simp
      have tn := touch_nine wz cb (.int .i64 5) (.int .i64 0) (.int .i64 1) (.int .i64 0) (.int .u8 0) (.bool false) (.int .u64 x) (.slice va k.length vc) (.slice none 0 0)
      have hcn := cb_nine Hcz.out (.int .i64 5) (.int .i64 0) (.int .i64 1) (.int .i64 0) (.int .u8 0) (.bool false) (.int .u64 x) (.slice va k.length vc) (.slice none 0 0)
      generalize (((((((((wz.setCell ⟨cb, 0, none⟩ (.int .i64 5)).setCell ⟨cb, 1, none⟩ (.int .i64 0)).setCell ⟨cb, 2, none⟩ (.int .i64 1)).setCell ⟨cb, 3, none⟩ (.int .i64 0)).setCell ⟨cb, 4, none⟩ (.int .u8 0)).setCell ⟨cb, 5, none⟩ (.bool false)).setCell ⟨cb, 6, none⟩ (.int .u64 x)).setCell ⟨cb, 7, none⟩ (.slice va k.length vc)).setCell ⟨cb, 8, none⟩ (.slice none 0 0)) = w9 at *
      have c0 := keepc tn hgc c0
      have c2 := keepc tn hgc c2
      have Tn := Lib.hid tn
      clear tn
      have Hcn := Lib.hid hcn
      clear hcn
      refine hK.out _ _ ?_ ?_
      · exact ⟨c0, c2⟩
      clear hK K
      (try simp only [Act.put, List.setIfInBounds_toArray, List.set_cons_zero, List.set_cons_succ])
      repeat (first
        | (refine wpPlan_take (v := ?_) rfl (by rfl) (fun W hW => ?_) ?_; rotate_left; (focus ((try dsimp only at hW); go_split_ands; go_simp; (try with_reducible rfl); done)); (try simp only [Act.put, List.setIfInBounds_toArray, List.set_cons_zero, List.set_cons_succ]))
        | (refine wpPlan_skip rfl (by rfl) ?_; (try simp only [Act.put, List.setIfInBounds_toArray, List.set_cons_zero, List.set_cons_succ])))
      refine wpPlan_done (hKK.out _ _ ?_)
      clear hKK KK
      go_wp2_with (fail)
      go_meet
      have hsn := Tn.out.size
      have hs1 := T1.out.size
      have hsz := Hsz.out
      have hcb := Hcb.out
      refine ⟨cb, va, vc, rfl, Hcn.out, ?_, by omega, by omega, (T1.out.trans' Tz.out).ext_new Tn.out (fun i hi => by omega)⟩
      have hrb : RB w1 (fun b => w.heap.size ≤ b ∧ b < w1.heap.size) (.slice va k.length vc) k := OB.rb ⟨Hown.out, Hge.out⟩
      exact ((hrb.ext Tz.out).keep Tn.out (fun b hb e => by omega)).mono (fun b hb => ⟨hb.1, by omega, by omega⟩)
    · refine wpPlan_must rfl (by rfl) (fun K hK => ?_)
      go_simp
      obtain ⟨wz, hwz⟩ : ∃ wz, wz = w.alloc (.cells zc.toArray 53) := ⟨_, rfl⟩
      have tz : Ext w wz := by rw [hwz]; exact (Touch.refl _ _).alloc _
      have hcz : Cb wz w.heap.size zc := by rw [hwz]; exact Cb.new w _ _
      have hsz : wz.heap.size = w.heap.size + 1 := by rw [hwz]; simp
      have hwz' : wz = w.alloc (.cells #[.int .i64 0, .int .i64 0, .int .i64 0, .int .i64 0, .int .u8 0, .bool false, .int .u64 0, .slice none 0 0, .slice none 0 0] 53) := hwz
      clear hwz
      have c0 := keepc tz id c0
      have c2 := keepc tz id c2
      rw [← hwz']
      clear hwz'
      obtain ⟨cb, hcb⟩ : ∃ cb, cb = w.heap.size := ⟨_, rfl⟩
      rw [← hcb] at hcz ⊢
      have hgc : ¬ g = cb := fun e => by omega
      refine hK.out _ _ ?_ ?_
      · exact ⟨c0, c2⟩
      clear hK K
      (try simp only [Act.put, List.setIfInBounds_toArray, List.set_cons_zero, List.set_cons_succ])
      repeat (first
        | (refine wpPlan_take (v := ?_) rfl (by rfl) (fun W hW => ?_) ?_; rotate_left; (focus ((try dsimp only at hW); go_split_ands; go_simp; (try with_reducible rfl); done)); (try simp only [Act.put, List.setIfInBounds_toArray, List.set_cons_zero, List.set_cons_succ]))
        | (refine wpPlan_skip rfl (by rfl) ?_; (try simp only [Act.put, List.setIfInBounds_toArray, List.set_cons_zero, List.set_cons_succ])))
      refine wpPlan_must rfl (by rfl) (fun K hK => ?_)
      refine wp_push_any _ _ _ 23 rfl 5 (.int .u8 0) 1 1 Tryd.underlying23 info_u8 rfl (by decide) (.slice none 0 0) 0 [] rfl (World.ownsRow_nil _ _ _ _) ka k.length kc rfl kz (ivs .u8 k) l1 (by simp) (Hkey.out.ext (tz.drew)).src (ivs_one _ _) (by unfold maxLen; omega) (by omega) ?_
      intro v1 w1 hown t1 hb1
      rw [Nat.zero_add, List.nil_append] at hown
      have t1 : Ext wz w1 := (show Ext wz wz.drew from (Touch.refl _ _).drew).ext_new t1 (fun i hi => by cases hi)
      have hge : ∀ b, v1.ownBlock = some b → (wz).heap.size ≤ b ∧ b < w1.heap.size := fun b hb => by
        have h1 := (hown.lt b hb).2
        rcases hb1 with h3 | h3
        · rw [h3] at hb; cases hb
        · rw [h3] at hb; cases hb; exact ⟨Nat.le_refl _, h1⟩
      have c0 := keepc t1 id c0
      have c2 := keepc t1 id c2
      obtain ⟨va, vc, rfl⟩ := own_len hown
      clear hb1
      have hcz1 := hcz.keep t1 id
      have z0 := hcz1 0 _ rfl
      have z1 := hcz1 1 _ rfl
      have z2 := hcz1 2 _ rfl
      have z3 := hcz1 3 _ rfl
      have z4 := hcz1 4 _ rfl
      have z5 := hcz1 5 _ rfl
      have z6 := hcz1 6 _ rfl
      have z7 := hcz1 7 _ rfl
      have z8 := hcz1 8 _ rfl
      have Hown := Lib.hid hown
      clear hown
      have T1 := Lib.hid t1
      clear t1
      have Hge := Lib.hid hge
      clear hge
      have Tz := Lib.hid tz
      clear tz
      have Hcz := Lib.hid hcz
      clear hcz
      have Hsz := Lib.hid hsz
      clear hsz
      have Hcb := Lib.hid hcb
      clear hcb
      have Hcz1 := Lib.hid hcz1
      clear hcz1
      refine hK.out _ _ ?_ ?_
      · exact ⟨c0, c2⟩
      clear hK K
      (try simp only [Act.put, List.setIfInBounds_toArray, List.set_cons_zero, List.set_cons_succ])
      repeat (first
        | (refine wpPlan_take (v := ?_) rfl (by rfl) (fun W hW => ?_) ?_; rotate_left; (focus ((try dsimp only at hW); go_split_ands; go_simp; (try with_reducible rfl); done)); (try simp only [Act.put, List.setIfInBounds_toArray, List.set_cons_zero, List.set_cons_succ]))
        | (refine wpPlan_skip rfl (by rfl) ?_; (try simp only [Act.put, List.setIfInBounds_toArray, List.set_cons_zero, List.set_cons_succ])))
      refine wpPlan_must rfl (by rfl) (fun K hK => ?_)
      go_simp
      have tn := touch_nine w1 cb (.int .i64 5) (.int .i64 0) (.int .i64 1) (.int .i64 0) (.int .u8 0) (.bool false) (.int .u64 x) (.slice va k.length vc) (.slice none 0 0)
      have hcn := cb_nine Hcz1.out (.int .i64 5) (.int .i64 0) (.int .i64 1) (.int .i64 0) (.int .u8 0) (.bool false) (.int .u64 x) (.slice va k.length vc) (.slice none 0 0)
      generalize (((((((((w1.setCell ⟨cb, 0, none⟩ (.int .i64 5)).setCell ⟨cb, 1, none⟩ (.int .i64 0)).setCell ⟨cb, 2, none⟩ (.int .i64 1)).setCell ⟨cb, 3, none⟩ (.int .i64 0)).setCell ⟨cb, 4, none⟩ (.int .u8 0)).setCell ⟨cb, 5, none⟩ (.bool false)).setCell ⟨cb, 6, none⟩ (.int .u64 x)).setCell ⟨cb, 7, none⟩ (.slice va k.length vc)).setCell ⟨cb, 8, none⟩ (.slice none 0 0)) = w9 at *
      have c0 := keepc tn hgc c0
      have c2 := keepc tn hgc c2
      have Tn := Lib.hid tn
      clear tn
      have Hcn := Lib.hid hcn
      clear hcn
      refine hK.out _ _ ?_ ?_
      · exact ⟨c0, c2⟩
      clear hK K
      (try simp only [Act.put, List.setIfInBounds_toArray, List.set_cons_zero, List.set_cons_succ])
      repeat (first
        | (refine wpPlan_take (v := ?_) rfl (by rfl) (fun W hW => ?_) ?_; rotate_left; (focus ((try dsimp only at hW); go_split_ands; go_simp; (try with_reducible rfl); done)); (try simp only [Act.put, List.setIfInBounds_toArray, List.set_cons_zero, List.set_cons_succ]))
        | (refine wpPlan_skip rfl (by rfl) ?_; (try simp only [Act.put, List.setIfInBounds_toArray, List.set_cons_zero, List.set_cons_succ])))
      refine wpPlan_done (hKK.out _ _ ?_)
      clear hKK KK
      go_wp2_with (fail)
      go_meet
      have hsn := Tn.out.size
      have hs1 := T1.out.size
      have hsz := Hsz.out
      have hcb := Hcb.out
      refine ⟨cb, va, vc, rfl, Hcn.out, ?_, by omega, by omega, (Tz.out.trans' T1.out).ext_new Tn.out (fun i hi => by omega)⟩
      have hrb : RB w1 (fun b => wz.heap.size ≤ b ∧ b < w1.heap.size) (.slice va k.length vc) k := OB.rb ⟨Hown.out, Hge.out⟩
      exact (hrb.keep Tn.out (fun b hb e => by omega)).mono (fun b hb => ⟨by omega, by omega, by omega⟩)
  case rest =>
    obtain ⟨cb, va, vc, rfl, hcb, hrb, hcb1, hcb2, ht⟩ := hcut
    obtain ⟨wr, rfl⟩ : ∃ wr, wr = wc := ⟨_, rfl⟩
    have c1 := keepc ht id c1
    have c3 := keepc ht id c3
    have c4 := keepc ht id c4
    clear c0 c2
    have hgc : ¬ g = cb := fun e => by omega
    obtain ⟨y0, r0⟩ := hcb 0 _ rfl
    obtain ⟨y2, r2⟩ := hcb 2 _ rfl
    obtain ⟨y3, r3⟩ := hcb 3 _ rfl
    obtain ⟨y5, r5⟩ := hcb 5 _ rfl
    have Ht := Lib.hid ht
    clear ht
    have Hrb := Lib.hid hrb
    clear hrb
    have Hcb := Lib.hid hcb
    clear hcb
    have Hgc := Lib.hid hgc
    clear hgc
    go_upto_region 4 with (fail)
    refine wp_region_plan (.take 0 (.take 1 (.take 2 (.take 3 (.take 5 (.take 6 (.take 7 (.take 8 (.take 9 (.take 10 (.take 11 (.take 12 (.must 4 (.take 14 (.must 13 (.must 15 (.take 16 (.must 17 (.take 18 (.must 19 (.take 20 (.must 21 .done)))))))))))))))))))))) (fun W => W.cell? ⟨g, 3, none⟩ = some (pt gk) ∧ W.cell? ⟨g, 1, none⟩ = some (.bool fl)) (by kernel_rfl) (by kernel_rfl) (by kernel_rfl) rfl ?_ (fun KK hKK => ?_)
    · exact ⟨c3, c1⟩
    repeat (first
      | (refine wpPlan_take (v := ?_) rfl (by rfl) (fun W hW => ?_) ?_; rotate_left; (focus ((try dsimp only at hW); go_split_ands; go_simp; (try with_reducible rfl); done)); (try simp only [Act.put, List.setIfInBounds_toArray, List.set_cons_zero, List.set_cons_succ]))
      | (refine wpPlan_skip rfl (by rfl) ?_; (try simp only [Act.put, List.setIfInBounds_toArray, List.set_cons_zero, List.set_cons_succ])))
    refine wpPlan_must rfl (by rfl) (fun K hK => ?_)
    go_simp
    (with_reducible refine (Hkn.out _ Ht.out.drew).mono ?_)
    rintro e w2 ⟨rfl, rfl⟩
    refine hK.out _ _ ?_ ?_
    · exact ⟨c3, c1⟩
    clear hK K
    (try simp only [Act.put, List.setIfInBounds_toArray, List.set_cons_zero, List.set_cons_succ])
    repeat (first
      | (refine wpPlan_take (v := ?_) rfl (by rfl) (fun W hW => ?_) ?_; rotate_left; (focus ((try dsimp only at hW); go_split_ands; go_simp; (try with_reducible rfl); done)); (try simp only [Act.put, List.setIfInBounds_toArray, List.set_cons_zero, List.set_cons_succ]))
      | (refine wpPlan_skip rfl (by rfl) ?_; (try simp only [Act.put, List.setIfInBounds_toArray, List.set_cons_zero, List.set_cons_succ])))
    refine wpPlan_must rfl (by rfl) (fun K hK => ?_)
    go_simp
    (with_reducible refine (Hln.out _ Ht.out.drew).mono ?_)
    rintro e w3 ⟨rfl, t3⟩
    have x3 : Ext wr w3 := (Touch.refl _ _).drew.trans' t3
    have c1 := keepc x3 id c1
    have c3 := keepc x3 id c3
    have c4 := keepc x3 id c4
    have hcb3 := Hcb.out.keep x3 id
    clear y0 y2 y3 y5 r0 r2 r3 r5
    obtain ⟨y0, r0⟩ := hcb3 0 _ rfl
    have X3 := Lib.hid x3
    clear x3
    have Hcb3 := Lib.hid hcb3
    clear hcb3
    have T3 := Lib.hid t3
    clear t3
    refine hK.out _ _ ?_ ?_
    · exact ⟨c3, c1⟩
    clear hK K
    (try simp only [Act.put, List.setIfInBounds_toArray, List.set_cons_zero, List.set_cons_succ])
    repeat (first
      | (refine wpPlan_take (v := ?_) rfl (by rfl) (fun W hW => ?_) ?_; rotate_left; (focus ((try dsimp only at hW); go_split_ands; go_simp; (try with_reducible rfl); done)); (try simp only [Act.put, List.setIfInBounds_toArray, List.set_cons_zero, List.set_cons_succ]))
      | (refine wpPlan_skip rfl (by rfl) ?_; (try simp only [Act.put, List.setIfInBounds_toArray, List.set_cons_zero, List.set_cons_succ])))
    refine wpPlan_must rfl (by rfl) (fun K hK => ?_)
    go_simp
    obtain ⟨w4, hwn⟩ : ∃ wn, wn = w3.setCell ⟨cb, 0, none⟩ (.int .i64 (6 + (kd : Int))) := ⟨_, rfl⟩
    have tn : Touch (fun i => i = cb) w3 w4 := by rw [hwn]; exact Touch.setCell (S := fun i => i = cb) (Touch.refl _ _) (p := ⟨cb, 0, none⟩) (Or.inl rfl) _
    have hcb4 := Hcb3.out.set 0 (.int .i64 (6 + (kd : Int)))
    rw [← hwn] at hcb4 ⊢
    clear hwn y0 r0
    have c1 := keepc tn Hgc.out c1
    have c3 := keepc tn Hgc.out c3
    have c4 := keepc tn Hgc.out c4
    obtain ⟨y0, r0⟩ := hcb4 5 _ rfl
    have Hcb4 := Lib.hid hcb4
    clear hcb4
    have T34 := Lib.hid tn
    clear tn
    refine hK.out _ _ ?_ ?_
    · exact ⟨c3, c1⟩
    clear hK K
    (try simp only [Act.put, List.setIfInBounds_toArray, List.set_cons_zero, List.set_cons_succ])
    repeat (first
      | (refine wpPlan_take (v := ?_) rfl (by rfl) (fun W hW => ?_) ?_; rotate_left; (focus ((try dsimp only at hW); go_split_ands; go_simp; (try with_reducible rfl); done)); (try simp only [Act.put, List.setIfInBounds_toArray, List.set_cons_zero, List.set_cons_succ]))
      | (refine wpPlan_skip rfl (by rfl) ?_; (try simp only [Act.put, List.setIfInBounds_toArray, List.set_cons_zero, List.set_cons_succ])))
    refine wpPlan_must rfl (by rfl) (fun K hK => ?_)
    go_simp
    obtain ⟨w5, hwn⟩ : ∃ wn, wn = w4.setCell ⟨cb, 5, none⟩ (.bool fl) := ⟨_, rfl⟩
    have tn : Touch (fun i => i = cb) w4 w5 := by rw [hwn]; exact Touch.setCell (S := fun i => i = cb) (Touch.refl _ _) (p := ⟨cb, 5, none⟩) (Or.inl rfl) _
    have hcb5 := Hcb4.out.set 5 (.bool fl)
    rw [← hwn] at hcb5 ⊢
    clear hwn y0 r0
    have c1 := keepc tn Hgc.out c1
    have c3 := keepc tn Hgc.out c3
    have c4 := keepc tn Hgc.out c4
    obtain ⟨y0, r0⟩ := hcb5 3 _ rfl
    have Hcb5 := Lib.hid hcb5
    clear hcb5
    have T45 := Lib.hid tn
    clear tn
    refine hK.out _ _ ?_ ?_
    · exact ⟨c3, c1⟩
    clear hK K
    (try simp only [Act.put, List.setIfInBounds_toArray, List.set_cons_zero, List.set_cons_succ])
    repeat (first
      | (refine wpPlan_take (v := ?_) rfl (by rfl) (fun W hW => ?_) ?_; rotate_left; (focus ((try dsimp only at hW); go_split_ands; go_simp; (try with_reducible rfl); done)); (try simp only [Act.put, List.setIfInBounds_toArray, List.set_cons_zero, List.set_cons_succ]))
      | (refine wpPlan_skip rfl (by rfl) ?_; (try simp only [Act.put, List.setIfInBounds_toArray, List.set_cons_zero, List.set_cons_succ])))
    refine wpPlan_must rfl (by rfl) (fun K hK => ?_)
    go_simp
    obtain ⟨w6, hwn⟩ : ∃ wn, wn = w5.setCell ⟨cb, 3, none⟩ (.int .i64 ((cn : Nat) : Int)) := ⟨_, rfl⟩
    have tn : Touch (fun i => i = cb) w5 w6 := by rw [hwn]; exact Touch.setCell (S := fun i => i = cb) (Touch.refl _ _) (p := ⟨cb, 3, none⟩) (Or.inl rfl) _
    have hcb6 := Hcb5.out.set 3 (.int .i64 ((cn : Nat) : Int))
    rw [← hwn] at hcb6 ⊢
    clear hwn y0 r0
    have c1 := keepc tn Hgc.out c1
    have c3 := keepc tn Hgc.out c3
    have c4 := keepc tn Hgc.out c4
    obtain ⟨y0, r0⟩ := hcb6 2 _ rfl
    have Hcb6 := Lib.hid hcb6
    clear hcb6
    have T56 := Lib.hid tn
    clear tn
    refine hK.out _ _ ?_ ?_
    · exact ⟨c3, c1⟩
    clear hK K
    (try simp only [Act.put, List.setIfInBounds_toArray, List.set_cons_zero, List.set_cons_succ])
    repeat (first
      | (refine wpPlan_take (v := ?_) rfl (by rfl) (fun W hW => ?_) ?_; rotate_left; (focus ((try dsimp only at hW); go_split_ands; go_simp; (try with_reducible rfl); done)); (try simp only [Act.put, List.setIfInBounds_toArray, List.set_cons_zero, List.set_cons_succ]))
      | (refine wpPlan_skip rfl (by rfl) ?_; (try simp only [Act.put, List.setIfInBounds_toArray, List.set_cons_zero, List.set_cons_succ])))
    refine wpPlan_must rfl (by rfl) (fun K hK => ?_)
    go_simp
    obtain ⟨w7, hwn⟩ : ∃ wn, wn = w6.setCell ⟨cb, 2, none⟩ (.int .i64 0) := ⟨_, rfl⟩
    have tn : Touch (fun i => i = cb) w6 w7 := by rw [hwn]; exact Touch.setCell (S := fun i => i = cb) (Touch.refl _ _) (p := ⟨cb, 2, none⟩) (Or.inl rfl) _
    have hcb7 := Hcb6.out.set 2 (.int .i64 0)
    rw [← hwn] at hcb7 ⊢
    clear hwn y0 r0
    have c1 := keepc tn Hgc.out c1
    have c3 := keepc tn Hgc.out c3
    have c4 := keepc tn Hgc.out c4
    obtain ⟨y0, r0⟩ := hcb7 2 _ rfl
    have Hcb7 := Lib.hid hcb7
    clear hcb7
    have T67 := Lib.hid tn
    clear tn
    refine hK.out _ _ ?_ ?_
    · exact ⟨c3, c1⟩
    clear hK K
    (try simp only [Act.put, List.setIfInBounds_toArray, List.set_cons_zero, List.set_cons_succ])
    repeat (first
      | (refine wpPlan_take (v := ?_) rfl (by rfl) (fun W hW => ?_) ?_; rotate_left; (focus ((try dsimp only at hW); go_split_ands; go_simp; (try with_reducible rfl); done)); (try simp only [Act.put, List.setIfInBounds_toArray, List.set_cons_zero, List.set_cons_succ]))
      | (refine wpPlan_skip rfl (by rfl) ?_; (try simp only [Act.put, List.setIfInBounds_toArray, List.set_cons_zero, List.set_cons_succ])))
    refine wpPlan_done (hKK.out _ _ ?_)
    clear hKK KK
    have hc7 : Cb w7 cb (nc kd 0 fl x cn (.slice va k.length vc)) := Hcb7.out
    have t7 : Touch (fun i => i = cb) wr w7 := (((X3.out.none_to.trans' T34.out).trans' T45.out).trans' T56.out).trans' T67.out
    clear Hcb3 Hcb4 Hcb5 Hcb6 Hcb7 T34 T45 T56 T67 X3 T3 y0 r0
    have Hc7 := Lib.hid hc7
    clear hc7
    have T7 := Lib.hid t7
    clear t7
    have hc72 := (Hc7.out 2 _ rfl)
    obtain ⟨y2, r2⟩ := hc72
    go_upto_if 48 with (fail)
    go_cut [] (fun wx => Cb wx cb (nc kd on fl x cn (.slice va k.length vc)) ∧ Touch (fun i => i = cb) w7 wx)
    case first =>
      cases hf : fl with
      | false =>
        have hon0 : on = 0 := by rw [Hon.out, hf]; rfl
        subst hf
        have Hon0 := Lib.hid hon0
        clear hon0
        go_wp2_with (fail)
        go_meet
        rw [Hon0.out]
        exact ⟨Hc7.out, Touch.refl _ _⟩
      | true =>
        have hon1 : on = 1 := by rw [Hon.out, hf]; rfl
        subst hf
        have Hon1 := Lib.hid hon1
        clear hon1
        go_wp2_with (fail)
        go_meet
        rw [Hon1.out]
        exact ⟨Hc7.out.set 2 (.int .i64 1), Touch.setCell (S := fun i => i = cb) (Touch.refl _ _) (p := ⟨cb, 2, none⟩) (Or.inl rfl) _⟩
    case rest =>
      obtain ⟨hc8, t8⟩ := hcut
      obtain ⟨w8, rfl⟩ : ∃ w8, w8 = wc := ⟨_, rfl⟩
      have x8 : Ext w w8 := Ht.out.ext_new (T7.out.trans' t8) (fun i hi => by omega)
      have t78 := T7.out.trans' t8
      have c3 := keepc t8 Hgc.out c3
      have c4 := keepc t8 Hgc.out c4
      clear y2 r2 c1 Hc7
      have hrb8 := Hrb.out.keep t78 (fun b hb e => hb.2.2 e)
      have hs8 := x8.size
      have hcb8 : cb < w8.heap.size := Nat.lt_of_lt_of_le hcb2 t78.size
      have Hc8 := Lib.hid hc8
      clear hc8
      have T8 := Lib.hid t8
      clear t8
      have X8 := Lib.hid x8
      clear x8
      have T78 := Lib.hid t78
      clear t78
      have Hrb8 := Lib.hid hrb8
      clear hrb8
      go_wp2_with (fail)
      (with_reducible refine (Hby.out _ X8.out).mono ?_)
      rintro e w9 ⟨v9, n9, rfl, ho9, t9⟩
      have hrd := Reads.of_own ho9
      obtain ⟨a9, c9', hv9, l9, m9⟩ := hrd.shape
      have hl9 : (ivs .u8 bs).length = cn := by rw [ivs_length, Hall.out, List.length_map, Hbll.out]
      rw [hl9] at hv9 l9
      subst hv9
      have c3 := keepc t9 id c3
      have c4 := keepc t9 id c4
      have hc9 := Hc8.out.keep t9 id
      have y9 := X8.out.trans' t9
      have hs9 := t9.size
      unfold maxLen at m9
      clear hl9
      have Hrd := Lib.hid hrd
      clear hrd
      have Ho9 := Lib.hid ho9
      clear ho9
      have T9 := Lib.hid t9
      clear t9
      have Hc9 := Lib.hid hc9
      clear hc9
      have Y9 := Lib.hid y9
      clear y9
      go_wp2_with (fail)
      go_loopw [5, 56] (fun s5 s56 wr => ∃ j : Nat, j ≤ cn ∧ s56 = .int .i64 j ∧ Nc w9.heap.size wr s5 (RT.belowC f j) ∧ Cb wr cb (nc kd (on + RT.belowN f j) fl x cn (.slice va k.length vc)) ∧ Touch (fun i => i = cb ∨ w9.heap.size ≤ i) w9 wr) (fun _ s56 _ => cn - (intOf s56).toNat)
      case atStart => exact ⟨0, by omega, rfl, Nc.nil _ _, by rw [RT.belowN_zero]; exact Hc9.out, Touch.refl _ _⟩
      case round =>
        obtain ⟨j, hj, rfl, hnc, hcbr, htr⟩ := hrel
        obtain ⟨K1, ⟨es1, he1, ow1, hf1, hk1⟩, hK1, hv1⟩ := hnc
        obtain ⟨sa, sc, rfl⟩ := own_len ow1
        have hcb9 : cb < w9.heap.size := by omega
        have hl1 : es1.length ≤ 10000000 := by
          have h1 := congrArg List.length he1
          have h2 := Hbc.out j
          rw [List.length_map] at h1
          have h3 := Hcl.out
          have h4 := Hcs.out
          omega
        have xr : Ext w wr := Y9.out.ext_new htr (fun i hi => by
          have h1 := Y9.out.size
          rcases hi with hi | hi <;> omega)
        have c4 := keepc htr (fun hi => hi.elim (fun e => Hgc.out e) (fun e => by have := Y9.out.size; have h9 : w9.heap.size ≤ g := e; omega)) c4
        by_cases hlt : j < cn
        · have hjl : j < (RT.bl f).length := by rw [Hbll.out]; exact hlt
          obtain ⟨i, hi⟩ : ∃ i, (RT.bl f)[j]? = some i := ⟨_, List.getElem?_eq_getElem hjl⟩
          have him := List.mem_of_getElem? hi
          obtain ⟨hi256, his⟩ := RT.bl_mem.1 him
          have hrdr := Hrd.out.keep htr (fun b hb hi => by
            have h1 := Ho9.out.lt b hb
            have h2 := h1.1
            have h3 := h1.2
            rcases hi with hi | hi <;> omega)
          obtain ⟨b9, o9, rfl⟩ := hrdr.addr (by rw [ivs_length, Hall.out, List.length_map, Hbll.out]; omega)
          obtain ⟨y, hy, hyc⟩ := reads_cell hrdr j (by rw [Hall.out, List.length_map, Hbll.out]; exact hlt)
          have hyi : y = (i : Int) := by
            rw [Hall.out, List.getElem?_map, hi] at hy
            exact (Option.some.inj hy).symm
          rw [hyi] at hyc
          have hlook := (H11.out.ext xr).look1 (i := i) hi256
          have hmo : mO f m i = some (m i) := by unfold mO; rw [his]; rfl
          have hri := (H12.out i hi256).ext xr
          obtain ⟨gi, hgi, _, _⟩ := hri.ptr his
          rw [hgi] at hmo hri
          rw [hmo] at hlook
          simp only [Option.getD_some] at hlook
          have hih := Ih.out i wr _ _ his hi256 hri
          unfold CellsRet at hih
          obtain ⟨y2, r2⟩ := hcbr 2 _ rfl
          have hbs := RT.belowN_succ f hi
          have hbcs := RT.belowC_succ f hi
          have hbl2 := Hbt.out (j + 1)
          have hpp := Hpk.out
          have hps := Hps.out
          have hwr : IntKind.i64.wrap (((on + RT.belowN f j : Nat) : Int) + (((f i).prs.length : Nat) : Int)) = ((on + RT.belowN f j : Nat) : Int) + (((f i).prs.length : Nat) : Int) := by rw [IntKind.wrap_i64]; omega
          have i0 : (0 : Int) ≤ (j : Int) := by omega
          have i1 : (j : Int) < (cn : Int) := by omega
          have b0 : (0 : Int) ≤ (i : Int) := by omega
          have b1 : (i : Int) < 256 := by omega
          have hl2 : (f i).CK.length ≤ 10000000 := by
            have h1 := RT.CK_length (f i)
            have h2 := (RT.below_child him).1
            rw [Hcc.out] at h2
            have h3 := Hcl.out
            have h4 := Hcs.out
            omega
          clear hy hyi
          generalize hni : (f i).prs.length = ni at *
          generalize hnj : on + RT.belowN f j = nj at *
          have Hni := Lib.hid hni
          clear hni
          have Hnj := Lib.hid hnj
          clear hnj
          have He1 := Lib.hid he1
          clear he1
          have Ow1 := Lib.hid ow1
          clear ow1
          have Hf1 := Lib.hid hf1
          clear hf1
          have Hk1 := Lib.hid hk1
          clear hk1
          have HK1 := Lib.hid hK1
          clear hK1
          have Hv1 := Lib.hid hv1
          clear hv1
          have Hcbr := Lib.hid hcbr
          clear hcbr
          have Htr := Lib.hid htr
          clear htr
          have Hi := Lib.hid hi
          clear hi
          have Him := Lib.hid him
          clear him
          have His := Lib.hid his
          clear his
          have Hrdr := Lib.hid hrdr
          clear hrdr
          have Hlook := Lib.hid hlook
          clear hlook
          have Hmo := Lib.hid hmo
          clear hmo
          have Hri := Lib.hid hri
          clear hri
          have Hgi := Lib.hid hgi
          clear hgi
          have Hih := Lib.hid hih
          clear hih
          have Hbs := Lib.hid hbs
          clear hbs
          have Hbcs := Lib.hid hbcs
          clear hbcs
          have Xr := Lib.hid xr
          clear xr
          have Hpp := Lib.hid hpp
          clear hpp
          have Hjl := Lib.hid hjl
          clear hjl
          have Hbl2 := Lib.hid hbl2
          clear hbl2
          clear hps
          have look := Hlook.out
          go_wp2_with (fail)
          (with_reducible refine Hih.out.mono ?_)
          rintro e w2 ⟨v2, rfl, hn2, t2⟩
          obtain ⟨K2, ⟨es2, he2, ow2, hf2, hk2⟩, hK2, hv2⟩ := hn2
          obtain ⟨xa2, xc2, rfl⟩ := own_len ow2
          have hl22 : es2.length ≤ 10000000 := by
            have h1 := congrArg List.length he2
            rw [List.length_map] at h1
            omega
          obtain ⟨hs2, hc2, hn2', hx2⟩ := own_src ow2
          clear hx2
          have ow1' := own_keep Ow1.out t2 (fun _ _ h => h)
          have hcb2' := Hcbr.out.keep t2 id
          have hk1' := fun e he => (Hk1.out e he).ext t2
          have h1lt := fun b hb => (Ow1.out.lt b hb).2
          have hsw2 := t2.size
          clear y2 r2 look
          have He2 := Lib.hid he2
          clear he2
          have Ow2 := Lib.hid ow2
          clear ow2
          have Hf2 := Lib.hid hf2
          clear hf2
          have Hk2 := Lib.hid hk2
          clear hk2
          have HK2 := Lib.hid hK2
          clear hK2
          have Hv2 := Lib.hid hv2
          clear hv2
          have Hs2 := Lib.hid hs2
          clear hs2
          have Hn2' := Lib.hid hn2'
          clear hn2'
          have Ow1' := Lib.hid ow1'
          clear ow1'
          have Hcb2' := Lib.hid hcb2'
          clear hcb2'
          have Hk1' := Lib.hid hk1'
          clear hk1'
          have H1lt := Lib.hid h1lt
          clear h1lt
          have T2 := Lib.hid t2
          clear t2
          go_upto_region 13 with (at_builtin; refine wpList_push_any _ rfl _ _ 50 rfl 53 _ 9 96 Tryd.underlying50 info_cell rfl (by decide) (.slice sa es1.length sc) es1.length (flatC es1) rfl Ow1'.out xa2 es2.length xc2 rfl Hn2'.out (flatC es2) hc2 (flatC_length _) Hs2.out (flatC_one _ (ec_one Hk2.out)) (by simp [maxLen]; omega) (by omega) ?_; intro v3 w3 hown3 ht3 hb3)
          have hcb3 := Hcb2'.out.keep ht3 (fun hb => by have h1 : w9.heap.size ≤ cb := Hv1.out cb hb; omega)
          have hpush := OC.push (K := fun b => K1 b ∨ K2 b) (v1 := .slice sa es1.length sc) (fun b hb h => h.elim (Hf1.out b hb) (fun h => by have h1 := H1lt.out b hb; have h2 := (HK2.out b h).1; omega)) (fun e he => (Hk1'.out e he).mono (fun b hb => Or.inl hb)) (fun e he => (Hk2.out e he).mono (fun b hb => Or.inr hb)) (fun b hb => hb.elim (fun h => by have h1 := (HK1.out b h).2; omega) (fun h => (HK2.out b h).2)) hown3 ht3 hb3
          rw [He1.out, He2.out, ← Hbcs.out] at hpush
          have hv3 : ∀ b, v3.ownBlock = some b → w9.heap.size ≤ b := fun b hb => by
            rcases hb3 with h1 | h1
            · exact Hv1.out b (h1 ▸ hb)
            · rw [h1] at hb; cases hb
              have := Htr.out.size
              omega
          obtain ⟨a3, c3', hv3e⟩ := hpush.shape
          subst hv3e
          obtain ⟨y2, r2⟩ := hcb3 2 _ rfl
          have t3w : Touch (fun i => i = cb ∨ w9.heap.size ≤ i) w9 w3 := (Htr.out.trans_ext T2.out).trans' (ht3.mono (fun i hi _ => Or.inr (Hv1.out i hi)))
          have hsw3 := ht3.size
          clear hown3 ht3 hb3
          have Hcb3 := Lib.hid hcb3
          clear hcb3
          have Hpush := Lib.hid hpush
          clear hpush
          have Hv3 := Lib.hid hv3
          clear hv3
          have T3w := Lib.hid t3w
          clear t3w
          go_wp2_with (fail)
          go_roundw
          case rel =>
            have e : (nj : Int) + (ni : Int) = ((on + RT.belowN f (j + 1) : Nat) : Int) := by
              have h1 := Hbs.out
              have h2 := Hnj.out
              omega
            rw [e]
            have ts : Touch (fun i => i = cb) w3 (w3.setCell ⟨cb, 2, none⟩ (.int .i64 ((on + RT.belowN f (j + 1) : Nat) : Int))) := Touch.setCell (S := fun i => i = cb) (Touch.refl _ _) (p := ⟨cb, 2, none⟩) (Or.inl rfl) _
            have hsr := Htr.out.size
            refine ⟨j + 1, by omega, by go_num, ⟨fun b => K1 b ∨ K2 b, oc_keep Hpush.out ts (fun b hb e => by have := Hv3.out b hb; omega) (fun b hb e => ?_), fun b hb => ?_, Hv3.out⟩, Hcb3.out.set 2 _, T3w.out.trans' (ts.mono (fun i hi _ => Or.inl hi))⟩
            · rcases hb with h | h
              · have := (HK1.out b h).1; omega
              · have := (HK2.out b h).1; omega
            · have hss := ts.size
              rcases hb with h | h
              · have := HK1.out b h; omega
              · have := HK2.out b h; omega
          case measure => simp [intOf]; omega
        · obtain rfl : j = cn := by omega
          have i1 : ¬ ((j : Nat) : Int) < (j : Int) := by omega
          have hpk := Hpk.out
          have hbj := Hbc.out j
          have hcj := Hcl.out
          have hcs := Hcs.out
          have hckj := Hck.out
          have hps := Hps.out
          generalize hnt : on + RT.belowN f j = tot at *
          rw [hpk] at hckj hps
          clear hbj
          have z0 := hcbr 0 _ rfl
          have z1 := hcbr 1 _ rfl
          have z2 := hcbr 2 _ rfl
          have z3 := hcbr 3 _ rfl
          have z4 := hcbr 4 _ rfl
          have z5 := hcbr 5 _ rfl
          have z6 := hcbr 6 _ rfl
          have z7 := hcbr 7 _ rfl
          have z8 := hcbr 8 _ rfl
          have hkv := ((Hrb8.out.ext T9.out).keep htr (fun b hb hi => by
            have h1 := T78.out.size
            rcases hi with hi | hi
            · exact hb.2.2 hi
            · have := hb.2.1; omega)).mono (G := fun b => w.heap.size ≤ b ∧ b < w9.heap.size) (fun b hb => ⟨hb.1, by have := T78.out.size; have := hb.2.1; omega⟩)
          have He1 := Lib.hid he1
          clear he1
          have Ow1 := Lib.hid ow1
          clear ow1
          have Hf1 := Lib.hid hf1
          clear hf1
          have Hk1 := Lib.hid hk1
          clear hk1
          have HK1 := Lib.hid hK1
          clear hK1
          have Hv1 := Lib.hid hv1
          clear hv1
          have Hcbr := Lib.hid hcbr
          clear hcbr
          have Htr := Lib.hid htr
          clear htr
          have Xr := Lib.hid xr
          clear xr
          have Hkv := Lib.hid hkv
          clear hkv
          have Hpk := Lib.hid hpk
          clear hpk
          have Hcj := Lib.hid hcj
          clear hcj
          have Hcs := Lib.hid hcs
          clear hcs
          have Hckj := Lib.hid hckj
          clear hckj
          have Hps := Lib.hid hps
          clear hps
          have Hnt := Lib.hid hnt
          clear hnt
          go_wp2_with (fail)
          refine wp_region_plan (.take 0 (.take 2 (.take 4 (.take 5 (.must 1 (.must 3 (.take 6 (.take 7 .done)))))))) (fun W => W.cell? ⟨cb, 0, none⟩ = some (.int .i64 (6 + (kd : Int))) ∧ W.cell? ⟨cb, 1, none⟩ = some (.int .i64 0) ∧ W.cell? ⟨cb, 2, none⟩ = some (.int .i64 (tot : Int)) ∧ W.cell? ⟨cb, 3, none⟩ = some (.int .i64 (j : Int)) ∧ W.cell? ⟨cb, 4, none⟩ = some (.int .u8 0) ∧ W.cell? ⟨cb, 5, none⟩ = some (.bool fl) ∧ W.cell? ⟨cb, 6, none⟩ = some (.int .u64 x) ∧ W.cell? ⟨cb, 7, none⟩ = some (.slice va k.length vc) ∧ W.cell? ⟨cb, 8, none⟩ = some (.slice none 0 0)) (by kernel_rfl) (by kernel_rfl) (by kernel_rfl) rfl ?_ (fun KK hKK => ?_)
          · exact ⟨z0.1, z1.1, z2.1, z3.1, z4.1, z5.1, z6.1, z7.1, z8.1⟩
          repeat (first
            | (refine wpPlan_take (v := ?_) rfl (by rfl) (fun W hW => ?_) ?_; rotate_left; (focus ((try dsimp only at hW); go_split_ands; go_simp; (try with_reducible rfl); done)); (try simp only [Act.put, List.setIfInBounds_toArray, List.set_cons_zero, List.set_cons_succ]))
            | (refine wpPlan_skip rfl (by rfl) ?_; (try simp only [Act.put, List.setIfInBounds_toArray, List.set_cons_zero, List.set_cons_succ])))
          refine wpPlan_must rfl (by rfl) (fun K hK => ?_)
          go_simp
          have hwl : wr.alloc (.cells #[.int .i64 (6 + (kd : Int)), .int .i64 0, .int .i64 (tot : Int), .int .i64 (j : Int), .int .u8 0, .bool fl, .int .u64 x, .slice va k.length vc, .slice none 0 0] 53) = wr.alloc (.cells (flat9 (.slice va k.length vc, RT.nodeC k o kd tot j)).toArray 53) := by
            have h1 := Hfl.out
            have h2 := Hx.out
            subst h1; subst h2; rfl
          have hol := own_lit wr (.slice va k.length vc, RT.nodeC k o kd tot j)
          rw [← hwl] at hol
          have tl : Ext wr (wr.alloc (.cells #[.int .i64 (6 + (kd : Int)), .int .i64 0, .int .i64 (tot : Int), .int .i64 (j : Int), .int .u8 0, .bool fl, .int .u64 x, .slice va k.length vc, .slice none 0 0] 53)) := (Touch.refl _ _).alloc _
          have hsl : (wr.alloc (.cells #[.int .i64 (6 + (kd : Int)), .int .i64 0, .int .i64 (tot : Int), .int .i64 (j : Int), .int .u8 0, .bool fl, .int .u64 x, .slice va k.length vc, .slice none 0 0] 53)).heap.size = wr.heap.size + 1 := by simp
          clear hwl
          generalize wr.alloc (.cells #[.int .i64 (6 + (kd : Int)), .int .i64 0, .int .i64 (tot : Int), .int .i64 (j : Int), .int .u8 0, .bool fl, .int .u64 x, .slice va k.length vc, .slice none 0 0] 53) = wl at *
          have tl' : Ext wr wl.drew := tl.drew
          have z0' := keepc tl id z0.1
          have z1' := keepc tl id z1.1
          have z2' := keepc tl id z2.1
          have z3' := keepc tl id z3.1
          have z4' := keepc tl id z4.1
          have z5' := keepc tl id z5.1
          have z6' := keepc tl id z6.1
          have z7' := keepc tl id z7.1
          have z8' := keepc tl id z8.1
          clear z0 z1 z2 z3 z4 z5 z6 z7 z8
          obtain ⟨hs1, hc1, hn1', hx1⟩ := own_src Ow1.out
          clear hx1
          have hol' := own_keep hol (show Ext wl wl.drew from (Touch.refl _ _).drew) (fun _ _ h => h)
          have Hol := Lib.hid hol
          clear hol
          have Tl := Lib.hid tl
          clear tl
          have Tl' := Lib.hid tl'
          clear tl'
          have Hs1 := Lib.hid hs1
          clear hs1
          have Hn1' := Lib.hid hn1'
          clear hn1'
          have Hol' := Lib.hid hol'
          clear hol'
          refine hK.out _ _ ?_ ?_
          · exact ⟨z0', z1', z2', z3', z4', z5', z6', z7', z8'⟩
          clear hK K
          (try simp only [Act.put, List.setIfInBounds_toArray, List.set_cons_zero, List.set_cons_succ])
          repeat (first
            | (refine wpPlan_take (v := ?_) rfl (by rfl) (fun W hW => ?_) ?_; rotate_left; (focus ((try dsimp only at hW); go_split_ands; go_simp; (try with_reducible rfl); done)); (try simp only [Act.put, List.setIfInBounds_toArray, List.set_cons_zero, List.set_cons_succ]))
            | (refine wpPlan_skip rfl (by rfl) ?_; (try simp only [Act.put, List.setIfInBounds_toArray, List.set_cons_zero, List.set_cons_succ])))
          refine wpPlan_must rfl (by rfl) (fun K hK => ?_)
          refine wp_push_any _ _ _ 50 rfl 53 _ 9 96 Tryd.underlying50 info_cell rfl (by decide) (.slice (some ⟨wr.heap.size, 0, none⟩) 1 1) 1 (flatC [((.slice va k.length vc : Value), RT.nodeC k o kd tot j)]) rfl Hol'.out sa es1.length sc rfl Hn1'.out (flatC es1) hc1 (flatC_length _) (Hs1.out.ext Tl'.out) (flatC_one _ (ec_one Hk1.out)) (by simp [maxLen]; omega) (by omega) ?_
          intro v5 w5 hown5 ht5 hb5
          have hsr := Htr.out.size
          have hsw := Xr.out.size
          have hpush := OC.push (K := fun b => K1 b ∨ (w.heap.size ≤ b ∧ b < w9.heap.size)) (v1 := .slice (some ⟨wr.heap.size, 0, none⟩) 1 1) (es1 := [((.slice va k.length vc : Value), RT.nodeC k o kd tot j)]) (w := wl.drew) (fun b hb h => by
              have hb1 : some wr.heap.size = some b := hb
              have hb2 := Option.some.inj hb1
              clear hb hb1
              rcases h with h | h
              · have := (HK1.out b h).2; omega
              · have := h.2; omega)
            (fun e he => by
              simp only [List.mem_cons, List.not_mem_nil, or_false] at he
              subst he
              exact (Hkv.out.ext Tl'.out).mono (fun b hb => Or.inr hb))
            (fun e he => ((Hk1.out e he).ext Tl'.out).mono (fun b hb => Or.inl hb))
            (fun b hb => by
              have h1 := Tl'.out.size
              rcases hb with h | h
              · have := (HK1.out b h).2; omega
              · have := h.2; omega) hown5 ht5 hb5
          rw [He1.out] at hpush
          have hx5 : Ext w w5 := (Xr.out.trans' Tl'.out).ext_new ht5 (fun i hi => by cases hi; exact hsw)
          have hv5 : ∀ b, v5.ownBlock = some b → w.heap.size ≤ b := fun b hb => by
            rcases hb5 with h1 | h1
            · rw [h1] at hb; cases hb; exact hsw
            · rw [h1] at hb; cases hb
              have := Tl'.out.size
              omega
          have hs5 := ht5.size
          have zz : ∀ p (u : Value), p.block = cb → wl.drew.cell? p = some u → w5.cell? p = some u := fun p u hp hu => keepc ht5 (fun hb => by
            have h1 : wr.heap.size = p.block := by
              have h2 : some wr.heap.size = some p.block := hb
              exact Option.some.inj h2
            omega) hu
          obtain ⟨a5, c5, hv5e⟩ := hpush.shape
          subst hv5e
          clear hown5 ht5 hb5
          have Hpush := Lib.hid hpush
          clear hpush
          have Hx5 := Lib.hid hx5
          clear hx5
          have Hv5 := Lib.hid hv5
          clear hv5
          refine hK.out _ _ ?_ ?_
          · exact ⟨zz _ _ rfl z0', zz _ _ rfl z1', zz _ _ rfl z2', zz _ _ rfl z3', zz _ _ rfl z4', zz _ _ rfl z5', zz _ _ rfl z6', zz _ _ rfl z7', zz _ _ rfl z8'⟩
          clear hK K
          (try simp only [Act.put, List.setIfInBounds_toArray, List.set_cons_zero, List.set_cons_succ])
          clear zz
          repeat (first
            | (refine wpPlan_take (v := ?_) rfl (by rfl) (fun W hW => ?_) ?_; rotate_left; (focus ((try dsimp only at hW); go_split_ands; go_simp; (try with_reducible rfl); done)); (try simp only [Act.put, List.setIfInBounds_toArray, List.set_cons_zero, List.set_cons_succ]))
            | (refine wpPlan_skip rfl (by rfl) ?_; (try simp only [Act.put, List.setIfInBounds_toArray, List.set_cons_zero, List.set_cons_succ])))
          refine wpPlan_done (hKK.out _ _ ?_)
          clear hKK KK
          go_wp2_with (fail)
          refine bodyPost_ret (v := .tuple #[.slice a5 (([((.slice va k.length vc : Value), RT.nodeC k o kd tot j)].map (·.2)) ++ RT.belowC f j).length c5, .int .i64 (tot : Int)]) (by simp [results, Tryd.results58, go_sem]) rfl ?_
          rw [Hpk.out]
          refine ⟨_, rfl, ⟨fun b => K1 b ∨ (w.heap.size ≤ b ∧ b < w9.heap.size), ?_, fun b hb => ?_, Hv5.out⟩, Hx5.out⟩
          · have hp := Hpush.out
            rw [Hckj.out]
            exact hp
          · have h1 := Tl'.out.size
            have h2 := Y9.out.size
            have h3 := Htr.out.size
            rcases hb with h | h
            · have := HK1.out b h; omega
            · have h4 := h.2; have h5 := h.1; omega
end RadH
end Go.Proofs.YtclnnkacfanaiaaDoor
