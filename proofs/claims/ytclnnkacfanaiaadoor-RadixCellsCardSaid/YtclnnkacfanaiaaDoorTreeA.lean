/- A tree's questions: they are its model's. -/
import Derived.Test.YtclnnkacfanaiaaDoorAskA
import Derived.Test.YtclnnkacfanaiaaDoorModI
import Derived.Test.YtclnnkacfanaiaaDoorModX
namespace Go.Proofs.YtclnnkacfanaiaaDoor
open Go.RowKit
set_option linter.unusedVariables false
set_option linter.unusedSimpArgs false

/-- no tree, or a tree whose first cell tells a map -/
def Tq (w : World) (v : Value) (F : Nat → Prop) (ps : Prs) : Prop := (v = .pointer none ∧ ps = []) ∨ ∃ t g, v = .pointer (some ⟨t, 0, none⟩) ∧ w.cell? ⟨t, 0, none⟩ = some (.pointer (some ⟨g, 0, none⟩)) ∧ Mp w g F ps
theorem Tq.ext {w w' : World} {v : Value} {F : Nat → Prop} {ps : Prs} (h : Tq w v F ps) (t : Ext w w') : Tq w' v F ps := by
  rcases h with h | ⟨b, g, h1, h2, h3⟩
  · exact Or.inl h
  · exact Or.inr ⟨b, g, h1, keepc t id h2, h3.ext t⟩

namespace TreeA
open ModA (Mq)
open ModB (fromK)
variable {F G : Nat → Prop}
theorem index_any (w : World) (v : Value) (ps : Prs) (h : Tq w v F ps) :
    Calls Tryd.prog 50 #[v] w fun e w' => (∃ m, e = .returned m ∧ Mq w m F ps) ∧ w = w' := by
  rcases h with ⟨rfl, rfl⟩ | ⟨t, g, rfl, c0, hmp⟩
  · go_enter Tryd.func50, Tryd.ntmps50
    go_wp2_with (fail)
    go_ret
    exact ⟨⟨_, rfl, Or.inl ⟨rfl, rfl⟩⟩, rfl⟩
  · have Hmp := Lib.hid hmp
    clear hmp
    go_enter Tryd.func50, Tryd.ntmps50
    go_wp2_with (fail)
    go_ret
    exact ⟨⟨_, rfl, ModA.Mq.of Hmp.out⟩, rfl⟩

theorem len_any (w : World) (v : Value) (ps : Prs) (h : Tq w v F ps) :
    Calls Tryd.prog 20 #[v] w fun e w' => e = .returned (.int .i64 ps.length) ∧ w = w' := by
  have hi := index_any w v ps h
  have Hi := Lib.hid hi
  clear hi
  go_enter Tryd.func20, Tryd.ntmps20
  go_wp2_with (fail)
  (with_reducible refine Hi.out.mono ?_)
  rintro e w1 ⟨⟨m, rfl, hq⟩, rfl⟩
  have hl := ModA.len_any w m ps hq
  have Hl := Lib.hid hl
  clear hl
  have Hq := Lib.hid hq
  clear hq
  go_wp2_with (fail)
  (with_reducible refine Hl.out.mono ?_)
  rintro e w1 ⟨rfl, rfl⟩
  go_wp2_with (fail)
  go_ret
  exact ⟨rfl, rfl⟩

theorem rank_any (w : World) (v kw : Value) (ps : Prs) (k : List Int) (h : Tq w v F ps) (hk : RB w G kw k) (kb : KB k) (hm : ps.length ≤ 1000000) :
    Calls Tryd.prog 25 #[v, kw] w fun e w' => e = .returned (.int .i64 (rk ps k)) ∧ Ext w w' := by
  have hi := index_any w v ps h
  obtain ⟨ka, kc, rfl, _⟩ := hk.shape
  have Hi := Lib.hid hi
  clear hi
  have Hk := Lib.hid hk
  clear hk
  go_enter Tryd.func25, Tryd.ntmps25
  go_wp2_with (fail)
  (with_reducible refine Hi.out.mono ?_)
  rintro e w1 ⟨⟨m, rfl, hq⟩, rfl⟩
  have hl := ModA.rank_any w m _ ps k hq Hk.out kb hm
  have Hl := Lib.hid hl
  clear hl
  have Hq := Lib.hid hq
  clear hq
  go_wp2_with (fail)
  (with_reducible refine Hl.out.mono ?_)
  rintro e w1 ⟨rfl, ht⟩
  go_wp2_with (fail)
  go_ret
  exact ⟨rfl, ht⟩

theorem get_any (w : World) (v kw : Value) (ps : Prs) (k : List Int) (h : Tq w v F ps) (hk : RB w G kw k) (kb : KB k) (hm : ps.length ≤ 1000000) :
    Calls Tryd.prog 18 #[v, kw] w fun e w' => e = .returned (.tuple #[.int .u64 (valK ps k), .bool (hasK ps k)]) ∧ Ext w w' := by
  have hi := index_any w v ps h
  obtain ⟨ka, kc, rfl, _⟩ := hk.shape
  have Hi := Lib.hid hi
  clear hi
  have Hk := Lib.hid hk
  clear hk
  go_enter Tryd.func18, Tryd.ntmps18
  go_wp2_with (fail)
  (with_reducible refine Hi.out.mono ?_)
  rintro e w1 ⟨⟨m, rfl, hq⟩, rfl⟩
  have hl := ModA.get_any w m _ ps k hq Hk.out kb hm
  have Hl := Lib.hid hl
  clear hl
  have Hq := Lib.hid hq
  clear hq
  go_wp2_with (fail)
  (with_reducible refine Hl.out.mono ?_)
  rintro e w1 ⟨rfl, ht⟩
  go_wp2_with (fail)
  go_ret2
  exact ⟨rfl, ht⟩

theorem from_any (w : World) (v kw : Value) (ps : Prs) (k : List Int) (most : Int) (h : Tq w v F ps) (hk : RB w G kw k) (kb : KB k) (hm : ps.length ≤ 1000000) (hV : V64 most) :
    Calls Tryd.prog 19 #[v, kw, .int .i64 most] w fun e w' => (∃ v, e = .returned v ∧ OP w' (Ge w.heap.size) v (fromK ps k most)) ∧ Ext w w' := by
  have hi := index_any w v ps h
  obtain ⟨ka, kc, rfl, _⟩ := hk.shape
  have Hi := Lib.hid hi
  clear hi
  have Hk := Lib.hid hk
  clear hk
  go_enter Tryd.func19, Tryd.ntmps19
  go_wp2_with (fail)
  (with_reducible refine Hi.out.mono ?_)
  rintro e w1 ⟨⟨m, rfl, hq⟩, rfl⟩
  have hl := ModB.from_any w m _ ps k most hq Hk.out kb hm hV
  have Hl := Lib.hid hl
  clear hl
  have Hq := Lib.hid hq
  clear hq
  go_wp2_with (fail)
  (with_reducible refine Hl.out.mono ?_)
  rintro e w1 ⟨⟨v', rfl, ho⟩, ht⟩
  obtain ⟨oa, oc, rfl, _⟩ := ho.rp.shape
  have Ho := Lib.hid ho
  clear ho
  go_wp2_with (fail)
  go_ret
  exact ⟨⟨_, rfl, Ho.out⟩, ht⟩

set_option maxRecDepth 100000 in
set_option maxHeartbeats 800000 in
theorem floor_any (w : World) (v kw : Value) (ps : Prs) (k : List Int) (h : Tq w v F ps) (hk : RB w G kw k) (kb : KB k) (hm : ps.length ≤ 1000000) :
    Calls Tryd.prog 22 #[v, kw] w (PairRet w (floorK ps k)) := by
  have t0 : Ext w (w.alloc (.cells #[.slice none 0 0, .int .u64 0] 33)) := (Touch.refl _ _).alloc _
  have hi := index_any _ v ps (h.ext t0)
  obtain ⟨ka, kc, rfl, _⟩ := hk.shape
  have Hk := Lib.hid (hk.ext t0)
  clear hk
  have H := Lib.hid h
  have Hi := Lib.hid hi
  clear hi
  clear h
  go_enter Tryd.func22, Tryd.ntmps22
  go_wp2_with (fail)
  (with_reducible refine Hi.out.mono ?_)
  rintro e w1 ⟨⟨m, rfl, hq⟩, rfl⟩
  have hl := ModB.floor_any _ m _ ps k hq Hk.out kb hm
  have Hl := Lib.hid hl
  clear hl
  have Hq := Lib.hid hq
  clear hq
  go_wp2_with (fail)
  (with_reducible refine Hl.out.mono ?_)
  rintro e w2 ⟨⟨kv, rfl, hob⟩, ht2⟩
  generalize floorK ps k = o at *
  obtain ⟨va, vc, rfl⟩ := hob.shape
  have e0 := keepc (p := ⟨w.heap.size, 0, none⟩) (v := .slice none 0 0) (((Touch.refl (fun _ => False) (w.alloc (.cells #[.slice none 0 0, .int .u64 0] 33)))).trans' (ht2)) id (by simp)
  have e1 := keepc (p := ⟨w.heap.size, 1, none⟩) (v := .int .u64 0) (((Touch.refl (fun _ => False) (w.alloc (.cells #[.slice none 0 0, .int .u64 0] 33)))).trans' (ht2)) id (by simp)
  have f0 := keepf (p := ⟨w.heap.size, 0, none⟩) (((Touch.refl (fun _ => False) (w.alloc (.cells #[.slice none 0 0, .int .u64 0] 33)))).trans' (ht2)) (by simp) id (by simp)
  have f1 := keepf (p := ⟨w.heap.size, 1, none⟩) (((Touch.refl (fun _ => False) (w.alloc (.cells #[.slice none 0 0, .int .u64 0] 33)))).trans' (ht2)) (by simp) id (by simp)
  have r0 := set2_get0 (u := .slice va (keyO (o)).length vc) (v := .int .u64 (valO (o))) e0
  have r1 := set2_get1 (u := .slice va (keyO (o)).length vc) (v := .int .u64 (valO (o))) e1
  have hend := pair_tail (u := .slice va (keyO (o)).length vc) (v := .int .u64 (valO (o))) (t0) (ht2) (by have := ((Touch.refl (fun _ => False) (w.alloc (.cells #[.slice none 0 0, .int .u64 0] 33)))).size; simp at this ⊢ <;> omega) hob
  have Hend := Lib.hid hend
  clear hend hob
  go_wp2_with (fail)
  exact bodyPost_ret (v := .tuple #[.agg #[.slice va (keyO (o)).length vc, .int .u64 (valO (o))], .bool (o).isSome]) (by simp [results, Tryd.results22, go_sem, r0, r1]) rfl ⟨⟨_, rfl, Hend.out.1⟩, Hend.out.2⟩

set_option maxRecDepth 100000 in
set_option maxHeartbeats 800000 in
theorem ceil_any (w : World) (v kw : Value) (ps : Prs) (k : List Int) (h : Tq w v F ps) (hk : RB w G kw k) (kb : KB k) (hm : ps.length ≤ 1000000) :
    Calls Tryd.prog 23 #[v, kw] w (PairRet w (ceilK ps k)) := by
  have t0 : Ext w (w.alloc (.cells #[.slice none 0 0, .int .u64 0] 33)) := (Touch.refl _ _).alloc _
  have hi := index_any _ v ps (h.ext t0)
  obtain ⟨ka, kc, rfl, _⟩ := hk.shape
  have Hk := Lib.hid (hk.ext t0)
  clear hk
  have H := Lib.hid h
  have Hi := Lib.hid hi
  clear hi
  clear h
  go_enter Tryd.func23, Tryd.ntmps23
  go_wp2_with (fail)
  (with_reducible refine Hi.out.mono ?_)
  rintro e w1 ⟨⟨m, rfl, hq⟩, rfl⟩
  have hl := ModB.ceil_any _ m _ ps k hq Hk.out kb hm
  have Hl := Lib.hid hl
  clear hl
  have Hq := Lib.hid hq
  clear hq
  go_wp2_with (fail)
  (with_reducible refine Hl.out.mono ?_)
  rintro e w2 ⟨⟨kv, rfl, hob⟩, ht2⟩
  generalize ceilK ps k = o at *
  obtain ⟨va, vc, rfl⟩ := hob.shape
  have e0 := keepc (p := ⟨w.heap.size, 0, none⟩) (v := .slice none 0 0) (((Touch.refl (fun _ => False) (w.alloc (.cells #[.slice none 0 0, .int .u64 0] 33)))).trans' (ht2)) id (by simp)
  have e1 := keepc (p := ⟨w.heap.size, 1, none⟩) (v := .int .u64 0) (((Touch.refl (fun _ => False) (w.alloc (.cells #[.slice none 0 0, .int .u64 0] 33)))).trans' (ht2)) id (by simp)
  have f0 := keepf (p := ⟨w.heap.size, 0, none⟩) (((Touch.refl (fun _ => False) (w.alloc (.cells #[.slice none 0 0, .int .u64 0] 33)))).trans' (ht2)) (by simp) id (by simp)
  have f1 := keepf (p := ⟨w.heap.size, 1, none⟩) (((Touch.refl (fun _ => False) (w.alloc (.cells #[.slice none 0 0, .int .u64 0] 33)))).trans' (ht2)) (by simp) id (by simp)
  have r0 := set2_get0 (u := .slice va (keyO (o)).length vc) (v := .int .u64 (valO (o))) e0
  have r1 := set2_get1 (u := .slice va (keyO (o)).length vc) (v := .int .u64 (valO (o))) e1
  have hend := pair_tail (u := .slice va (keyO (o)).length vc) (v := .int .u64 (valO (o))) (t0) (ht2) (by have := ((Touch.refl (fun _ => False) (w.alloc (.cells #[.slice none 0 0, .int .u64 0] 33)))).size; simp at this ⊢ <;> omega) hob
  have Hend := Lib.hid hend
  clear hend hob
  go_wp2_with (fail)
  exact bodyPost_ret (v := .tuple #[.agg #[.slice va (keyO (o)).length vc, .int .u64 (valO (o))], .bool (o).isSome]) (by simp [results, Tryd.results23, go_sem, r0, r1]) rfl ⟨⟨_, rfl, Hend.out.1⟩, Hend.out.2⟩

set_option maxRecDepth 100000 in
set_option maxHeartbeats 800000 in
theorem longest_any (w : World) (v kw : Value) (ps : Prs) (k : List Int) (h : Tq w v F ps) (hk : RB w G kw k) (kb : KB k) (hm : ps.length ≤ 1000000) :
    Calls Tryd.prog 16 #[v, kw] w (PairRet w (longestK ps k)) := by
  have t0 : Ext w (w.alloc (.cells #[.slice none 0 0, .int .u64 0] 33)) := (Touch.refl _ _).alloc _
  have hi := index_any _ v ps (h.ext t0)
  obtain ⟨ka, kc, rfl, _⟩ := hk.shape
  have Hk := Lib.hid (hk.ext t0)
  clear hk
  have H := Lib.hid h
  have Hi := Lib.hid hi
  clear hi
  clear h
  go_enter Tryd.func16, Tryd.ntmps16
  go_wp2_with (fail)
  (with_reducible refine Hi.out.mono ?_)
  rintro e w1 ⟨⟨m, rfl, hq⟩, rfl⟩
  have hl := ModI.longest_any _ m _ ps k hq Hk.out kb hm
  have Hl := Lib.hid hl
  clear hl
  have Hq := Lib.hid hq
  clear hq
  go_wp2_with (fail)
  (with_reducible refine Hl.out.mono ?_)
  rintro e w2 ⟨⟨kv, rfl, hob⟩, ht2⟩
  generalize longestK ps k = o at *
  obtain ⟨va, vc, rfl⟩ := hob.shape
  have e0 := keepc (p := ⟨w.heap.size, 0, none⟩) (v := .slice none 0 0) (((Touch.refl (fun _ => False) (w.alloc (.cells #[.slice none 0 0, .int .u64 0] 33)))).trans' (ht2)) id (by simp)
  have e1 := keepc (p := ⟨w.heap.size, 1, none⟩) (v := .int .u64 0) (((Touch.refl (fun _ => False) (w.alloc (.cells #[.slice none 0 0, .int .u64 0] 33)))).trans' (ht2)) id (by simp)
  have f0 := keepf (p := ⟨w.heap.size, 0, none⟩) (((Touch.refl (fun _ => False) (w.alloc (.cells #[.slice none 0 0, .int .u64 0] 33)))).trans' (ht2)) (by simp) id (by simp)
  have f1 := keepf (p := ⟨w.heap.size, 1, none⟩) (((Touch.refl (fun _ => False) (w.alloc (.cells #[.slice none 0 0, .int .u64 0] 33)))).trans' (ht2)) (by simp) id (by simp)
  have r0 := set2_get0 (u := .slice va (keyO (o)).length vc) (v := .int .u64 (valO (o))) e0
  have r1 := set2_get1 (u := .slice va (keyO (o)).length vc) (v := .int .u64 (valO (o))) e1
  have hend := pair_tail (u := .slice va (keyO (o)).length vc) (v := .int .u64 (valO (o))) (t0) (ht2) (by have := ((Touch.refl (fun _ => False) (w.alloc (.cells #[.slice none 0 0, .int .u64 0] 33)))).size; simp at this ⊢ <;> omega) hob
  have Hend := Lib.hid hend
  clear hend hob
  go_wp2_with (fail)
  exact bodyPost_ret (v := .tuple #[.agg #[.slice va (keyO (o)).length vc, .int .u64 (valO (o))], .bool (o).isSome]) (by simp [results, Tryd.results16, go_sem, r0, r1]) rfl ⟨⟨_, rfl, Hend.out.1⟩, Hend.out.2⟩

set_option maxRecDepth 100000 in
set_option maxHeartbeats 800000 in
theorem select_any (w : World) (v : Value) (ps : Prs) (i : Int) (h : Tq w v F ps) (hm : ps.length ≤ 1000000) :
    Calls Tryd.prog 24 #[v, .int .i64 i] w (PairRet w (selK ps i)) := by
  have t0 : Ext w (w.alloc (.cells #[.slice none 0 0, .int .u64 0] 33)) := (Touch.refl _ _).alloc _
  have hi := index_any _ v ps (h.ext t0)
  have H := Lib.hid h
  have Hi := Lib.hid hi
  clear hi
  clear h
  go_enter Tryd.func24, Tryd.ntmps24
  go_wp2_with (fail)
  (with_reducible refine Hi.out.mono ?_)
  rintro e w1 ⟨⟨m, rfl, hq⟩, rfl⟩
  have hl := ModB.select_any _ m ps i hq hm
  have Hl := Lib.hid hl
  clear hl
  have Hq := Lib.hid hq
  clear hq
  go_wp2_with (fail)
  (with_reducible refine Hl.out.mono ?_)
  rintro e w2 ⟨⟨kv, rfl, hob⟩, ht2⟩
  generalize selK ps i = o at *
  obtain ⟨va, vc, rfl⟩ := hob.shape
  have e0 := keepc (p := ⟨w.heap.size, 0, none⟩) (v := .slice none 0 0) (((Touch.refl (fun _ => False) (w.alloc (.cells #[.slice none 0 0, .int .u64 0] 33)))).trans' (ht2)) id (by simp)
  have e1 := keepc (p := ⟨w.heap.size, 1, none⟩) (v := .int .u64 0) (((Touch.refl (fun _ => False) (w.alloc (.cells #[.slice none 0 0, .int .u64 0] 33)))).trans' (ht2)) id (by simp)
  have f0 := keepf (p := ⟨w.heap.size, 0, none⟩) (((Touch.refl (fun _ => False) (w.alloc (.cells #[.slice none 0 0, .int .u64 0] 33)))).trans' (ht2)) (by simp) id (by simp)
  have f1 := keepf (p := ⟨w.heap.size, 1, none⟩) (((Touch.refl (fun _ => False) (w.alloc (.cells #[.slice none 0 0, .int .u64 0] 33)))).trans' (ht2)) (by simp) id (by simp)
  have r0 := set2_get0 (u := .slice va (keyO (o)).length vc) (v := .int .u64 (valO (o))) e0
  have r1 := set2_get1 (u := .slice va (keyO (o)).length vc) (v := .int .u64 (valO (o))) e1
  have hend := pair_tail (u := .slice va (keyO (o)).length vc) (v := .int .u64 (valO (o))) (t0) (ht2) (by have := ((Touch.refl (fun _ => False) (w.alloc (.cells #[.slice none 0 0, .int .u64 0] 33)))).size; simp at this ⊢ <;> omega) hob
  have Hend := Lib.hid hend
  clear hend hob
  go_wp2_with (fail)
  exact bodyPost_ret (v := .tuple #[.agg #[.slice va (keyO (o)).length vc, .int .u64 (valO (o))], .bool (o).isSome]) (by simp [results, Tryd.results24, go_sem, r0, r1]) rfl ⟨⟨_, rfl, Hend.out.1⟩, Hend.out.2⟩
end TreeA
end Go.Proofs.YtclnnkacfanaiaaDoor
