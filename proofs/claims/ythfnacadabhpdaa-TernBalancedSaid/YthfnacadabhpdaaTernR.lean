/- The document reads the cells of a ternary tree. -/
import Derived.Test.YthfnacadabhpdaaTernT
namespace Go.Proofs.Ythfnacadabhpdaa
open Go.RowKit
set_option linter.unusedVariables false
set_option linter.unusedSimpArgs false
namespace TernR
open TernB TernS TernT

def TRead (w : World) (nx : Int) (d : Nat) (ps : Prs) (e : Ending) (w' : World) : Prop :=
  (∃ a c, e = .returned (.agg #[.slice a ps.length c, .int .i64 nx, .int .i64 (d : Int), .bool true]) ∧ ps.length ≤ c ∧ (a = none → c = 0) ∧ RP w' (fun b => w.heap.size ≤ b) (.slice a ps.length c) ps) ∧ Ext w w'
/-- what was read so far: block rb; its row is one's own -/
def RSt (W0 W1 : Nat) (w : World) (rb : Nat) (ps : Prs) (nx : Int) (d : Nat) : Prop :=
  ∃ (a : Option Addr) (c : Nat) (es : List El), es.map (·.2) = ps ∧ Cb w rb [.slice a ps.length c, .int .i64 nx, .int .i64 (d : Int), .bool true] ∧ w.ownsRow 0 33 2 (.slice a ps.length c) ps.length (flat es) ∧
    (∀ b, (Value.slice a ps.length c).ownBlock = some b → W1 ≤ b ∧ b ≠ rb) ∧ ∀ e ∈ es, RB w (fun b => W0 ≤ b ∧ b ≠ rb ∧ (Value.slice a ps.length c).ownBlock ≠ some b) e.1 e.2.1
theorem RSt.ext {W0 W1 : Nat} {w w' : World} {rb : Nat} {ps : Prs} {nx : Int} {d : Nat} (h : RSt W0 W1 w rb ps nx d) (x : Ext w w') : RSt W0 W1 w' rb ps nx d := by
  obtain ⟨a, c, es, h1, h2, h3, h4, h5⟩ := h
  exact ⟨a, c, es, h1, h2.keep x id, own_keep h3 x (fun _ _ h => h), h4, fun e he => (h5 e he).ext x⟩
theorem RSt.new {W0 W1 : Nat} {w : World} {rb : Nat} {nx : Int} (h : Cb w rb [.slice none 0 0, .int .i64 nx, .int .i64 0, .bool true]) : RSt W0 W1 w rb [] nx 0 :=
  ⟨none, 0, [], rfl, h, World.ownsRow_nil _ _ _ _, (fun b h => by cases h), fun e he => by simp at he⟩
/-- pairs more: the row has grown, the four cells are stored -/
theorem RSt.more {W0 W1 : Nat} {w w1 w' : World} {rb : Nat} {ps qs : Prs} {nx' : Int} {d' : Nat} {a a' : Option Addr} {c c' : Nat} {es fs : List El} (hes : es.map (·.2) = ps) (hfs : fs.map (·.2) = qs) (hlt : ∀ b, (Value.slice a ps.length c).ownBlock = some b → W1 ≤ b ∧ b ≠ rb) (hW : W1 ≤ w.heap.size) (hrb : rb < w.heap.size)
    (hk : ∀ e ∈ es, RB w (fun b => W0 ≤ b ∧ b ≠ rb ∧ (Value.slice a ps.length c).ownBlock ≠ some b) e.1 e.2.1) (hl : ∀ e ∈ fs, RB w (fun b => W0 ≤ b ∧ b ≠ rb ∧ b < w.heap.size ∧ (Value.slice a ps.length c).ownBlock ≠ some b) e.1 e.2.1)
    (hown : w1.ownsRow 0 33 2 (.slice a' (ps.length + qs.length) c') (ps.length + qs.length) (flat es ++ flat fs)) (t : Touch (fun b => (Value.slice a ps.length c).ownBlock = some b) w w1) (hb : (Value.slice a' (ps.length + qs.length) c').ownBlock = (Value.slice a ps.length c).ownBlock ∨ ∃ M, (Value.slice a' (ps.length + qs.length) c').ownBlock = some M ∧ w.heap.size ≤ M)
    (t2 : Touch (fun i => i = rb) w1 w') (hcb : Cb w' rb [.slice a' (ps.length + qs.length) c', .int .i64 nx', .int .i64 (d' : Int), .bool true]) : RSt W0 W1 w' rb (ps ++ qs) nx' d' := by
  have hne : ∀ b, (Value.slice a' (ps.length + qs.length) c').ownBlock = some b → W1 ≤ b ∧ b ≠ rb := fun b hb' => by
    rcases hb with h | ⟨M, h, hM⟩
    · exact hlt b (h ▸ hb')
    · rw [h] at hb'; cases hb'; exact ⟨by omega, by omega⟩
  have hll : (ps ++ qs).length = ps.length + qs.length := by simp
  refine ⟨a', c', es ++ fs, by simp [hes, hfs], by rw [hll]; exact hcb, by rw [hll, flat_append]; exact own_keep hown t2 (fun b hb' h => (hne b hb').2 h), by rw [hll]; exact hne, fun e he => ?_⟩
  rw [hll]
  have key : RB w (fun b => W0 ≤ b ∧ b ≠ rb ∧ b < w.heap.size ∧ (Value.slice a ps.length c).ownBlock ≠ some b) e.1 e.2.1 := by
    rcases List.mem_append.1 he with h | h
    · exact (rb_bound (hk e h)).mono (fun b hb' => ⟨hb'.1.1, hb'.1.2.1, hb'.2, hb'.1.2.2⟩)
    · exact hl e h
  refine ((key.keep t (fun b hb' h => hb'.2.2.2 h)).keep t2 (fun b hb' h => hb'.2.1 h)).mono (fun b hb' => ⟨hb'.1, hb'.2.1, fun h => ?_⟩)
  rcases hb with h1 | ⟨M, h1, hM⟩
  · exact hb'.2.2.2 (h1 ▸ h)
  · rw [h1] at h; cases h; have := hb'.2.2.1; omega


set_option maxRecDepth 100000 in
set_option maxHeartbeats 8000000 in
theorem read_node (w : World) (N : Nat) (v wv : Value) (cs : Cls) (i : Nat) (way : List Int) (lo hi : Int) (K : Nat → Prop) (h : RC w (fun b => b < N) v cs) (hw : RB w K wv way) (l1 l2 : List Prs) (P1 P3 R : Prs) (D : Nat) (b : Int) (f : Bool) (x : Int) (ps : Prs) (n1 n2 n3 d1 d2 d3 tot : Nat)
    (hi0 : cs[i]? = some (nodeC b way.length tot (kidsOf l1 ps l2) f x)) (hf : f = true ∨ ps ≠ []) (hv : f = false → x = 0) (hb : 0 ≤ b ∧ b < 256) (hlo : lo < b) (hhi : b < hi) (hlo1 : -1 ≤ lo) (hhi1 : hi ≤ 256) (hwl : way.length < 65535) (hm : cs.length ≤ 100000000000) (hfit : i + 1 + n1 + n2 + n3 ≤ cs.length)
    (hd : d1 ≤ 1000000000000 ∧ d2 ≤ 1000000000000 ∧ d3 ≤ 1000000000000) (htot : tot = P1.length + (if f then 1 else 0) + ps.length + P3.length) (htm : tot ≤ 1000000)
    (hR : R = P1 ++ (((if f then [(way ++ [b], x)] else []) ++ ps) ++ P3)) (hD : D = 1 + max d1 (max d2 d3)) (hz1 : l1.length = 0 → P1 = [] ∧ n1 = 0 ∧ d1 = 0) (hz2 : ps.length = 0 → n2 = 0 ∧ d2 = 0) (hz3 : l2.length = 0 → P3 = [] ∧ n3 = 0 ∧ d3 = 0)
    (h1 : l1.length ≠ 0 → ∀ W, Ext w W → Calls Try.prog 105 #[v, .int .i64 ((i : Int) + 1), wv, .int .i64 lo, .int .i64 b] W (TRead W ((i : Int) + 1 + n1) d1 P1))
    (h2 : ps.length ≠ 0 → ∀ W wv2 K2, Touch K2 w W → (∀ b, K2 b → w.heap.size ≤ b) → RB W (fun _ => True) wv2 (way ++ [b]) → Calls Try.prog 105 #[v, .int .i64 ((i : Int) + 1 + n1), wv2, .int .i64 (-1), .int .i64 256] W (TRead W ((i : Int) + 1 + n1 + n2) d2 ps))
    (h3 : l2.length ≠ 0 → ∀ W K2, Touch K2 w W → (∀ b, K2 b → w.heap.size ≤ b) → Calls Try.prog 105 #[v, .int .i64 ((i : Int) + 1 + n1 + n2), wv, .int .i64 b, .int .i64 hi] W (TRead W ((i : Int) + 1 + n1 + n2 + n3) d3 P3)) :
    Calls Try.prog 105 #[v, .int .i64 i, wv, .int .i64 lo, .int .i64 hi] w (TRead w ((i : Int) + 1 + n1 + n2 + n3) D R) := by
  obtain ⟨a, c, rfl, l1', m1, _⟩ := h.shape
  unfold maxLen at m1
  obtain ⟨wa, wc0, rfl, wl1, wl2, wn0⟩ := hw.shape
  unfold maxLen at wl2
  have hil := (List.getElem?_eq_some_iff.1 hi0).1
  obtain ⟨cb, co, rfl⟩ := h.addr (by omega)
  obtain ⟨kv, hkv, c0, c1, c2, c3, c4, c5, c6, c7, c8⟩ := h.get i _ hi0
  obtain ⟨ka, kc, rfl, _⟩ := hkv.shape
  simp only [nodeC] at hkv c0 c1 c2 c3 c4 c5 c6 c7 c8
  have hlt := World.block_lt_of_cell? _ _ c0
  generalize hke : kidsOf l1 ps l2 = k at *
  have hk7 : k ≤ 7 := by rw [← hke]; unfold kidsOf; split <;> split <;> split <;> omega
  have hkA : Go.bits BinOp.and IntKind.i64 (k : Int) 1 = ((if l1.length = 0 then 0 else 1 : Nat) : Int) := by rw [← hke]; unfold kidsOf; split <;> split <;> split <;> rfl
  have hkB : Go.bits BinOp.and IntKind.i64 (k : Int) 2 = ((if ps.length = 0 then 0 else 2 : Nat) : Int) := by rw [← hke]; unfold kidsOf; split <;> split <;> split <;> rfl
  have hkC : Go.bits BinOp.and IntKind.i64 (k : Int) 4 = ((if l2.length = 0 then 0 else 4 : Nat) : Int) := by rw [← hke]; unfold kidsOf; split <;> split <;> split <;> rfl
  have i0 : (0 : Int) ≤ (i : Int) := by omega
  have i1 : (i : Int) < (cs.length : Int) := by omega
  obtain ⟨W2, hW2⟩ : ∃ W2, W2 = (w.alloc (.cells #[.slice none 0 0, .int .i64 0, .int .i64 0, .bool false] 96)).alloc (.cells #[.int .i64 4, .int .i64 way.length, .int .i64 tot, .int .i64 k, .int .u8 b, .bool f, .int .u64 x, .slice ka 0 kc, .slice none 0 0] 53) := ⟨_, rfl⟩
  have x2 : Ext w W2 := by rw [hW2]; exact ((Touch.refl _ _).alloc _).alloc _
  have hcR : Cb W2 w.heap.size [.slice none 0 0, .int .i64 0, .int .i64 0, .bool false] := by rw [hW2]; exact (Cb.new w [.slice none 0 0, .int .i64 0, .int .i64 0, .bool false] _).keep ((Touch.refl (fun _ => False) _).alloc _) id
  have hcC : Cb W2 (w.heap.size + 1) [.int .i64 4, .int .i64 way.length, .int .i64 tot, .int .i64 k, .int .u8 b, .bool f, .int .u64 x, .slice ka 0 kc, .slice none 0 0] := by
    rw [hW2]
    have h9 := Cb.new (w.alloc (.cells #[.slice none 0 0, .int .i64 0, .int .i64 0, .bool false] 96)) [.int .i64 4, .int .i64 way.length, .int .i64 tot, .int .i64 k, .int .u8 b, .bool f, .int .u64 x, .slice ka 0 kc, .slice none 0 0] 53
    simpa using h9
  obtain ⟨e0, _⟩ := hcC 0 _ rfl
  obtain ⟨e1, _⟩ := hcC 1 _ rfl
  obtain ⟨e2, _⟩ := hcC 2 _ rfl
  obtain ⟨e3, _⟩ := hcC 3 _ rfl
  obtain ⟨e4, _⟩ := hcC 4 _ rfl
  obtain ⟨e5, _⟩ := hcC 5 _ rfl
  obtain ⟨e6, _⟩ := hcC 6 _ rfl
  obtain ⟨e7, _⟩ := hcC 7 _ rfl
  obtain ⟨e8, _⟩ := hcC 8 _ rfl
  have hsz2 : w.heap.size + 1 < W2.heap.size := by rw [hW2]; simp
  generalize hwn : way.length = wn at *
  have hlP1 : P1.length ≤ 1000000 := by omega
  have hlps : ps.length ≤ 1000000 := by omega
  have hlP3 : P3.length ≤ 1000000 := by omega
  have H := Lib.hid h
  clear h
  have Hw := Lib.hid hw
  clear hw
  have HR := Lib.hid hR
  clear hR
  have HD := Lib.hid hD
  clear hD
  have Hi0 := Lib.hid hi0
  clear hi0
  have Hf := Lib.hid hf
  clear hf
  have Hv := Lib.hid hv
  clear hv
  have Hb := Lib.hid hb
  clear hb
  have Htot := Lib.hid htot
  clear htot
  have Hz1 := Lib.hid hz1
  clear hz1
  have Hz2 := Lib.hid hz2
  clear hz2
  have Hz3 := Lib.hid hz3
  clear hz3
  have H1 := Lib.hid h1
  clear h1
  have H2 := Lib.hid h2
  clear h2
  have H3 := Lib.hid h3
  clear h3
  have Hkv := Lib.hid hkv
  clear hkv
  have Hke := Lib.hid hke
  clear hke
  have HkA := Lib.hid hkA
  clear hkA
  have HkB := Lib.hid hkB
  clear hkB
  have HkC := Lib.hid hkC
  clear hkC
  have HcR := Lib.hid hcR
  clear hcR
  have HcC := Lib.hid hcC
  clear hcC
  have X2 := Lib.hid x2
  clear x2
  have Hd := Lib.hid hd
  clear hd
  have Hwn := Lib.hid hwn
  clear hwn
  have hb1 := Hb.out.1
  have hb2 := Hb.out.2
  go_enter Try.func105, Try.ntmps105
  go_upto_region 4 with (fail)
  rw [← hW2]
  clear hW2 c0 c1 c2 c3 c4 c5 c6 c7 c8
  go_upto_region 5 with (fail)
  go_cut [92] (fun s92 wx => s92 = .bool false ∧ wx = W2)
  case first =>
   as_aux_lemma =>
    have hkB := HkB.out
    cases f with
    | true =>
      clear hkB
      go_wp2_with (fail)
      go_meet
      exact ⟨congrArg Value.bool (by simp only [Bool.or_eq_false_iff, decide_eq_false_iff_not]; omega), rfl⟩
    | false =>
      have hp := Hf.out.resolve_left (by simp)
      have hpl : ps.length ≠ 0 := fun h => hp (List.eq_nil_of_length_eq_zero h)
      rw [if_neg hpl] at hkB
      have hx0 := Hv.out rfl
      subst hx0
      go_wp2_with (fail)
      go_meet
      exact ⟨congrArg Value.bool (by simp only [Bool.or_eq_false_iff, decide_eq_false_iff_not]; omega), rfl⟩
  case rest =>
    obtain ⟨rfl, hwc⟩ := hcut
    have hwc := hwc.symm
    subst hwc
    have hww := Hw.out.ext X2.out
    have hwr := hww.src
    go_upto_region 7 with (fail)
    go_cut [13] (fun s13 wx => ∃ a c, s13 = .slice a (wn + 1) c ∧ OB wx (fun b' => w.heap.size + 1 < b') (.slice a (wn + 1) c) (way ++ [b]) ∧ Ext W2 wx)
    case first =>
     as_aux_lemma =>
      have Hww := Lib.hid hww
      clear hww
      have Hwr := Lib.hid hwr
      clear hwr
      clear e0 e1 e2 e3 e5 e6 e7 e8
      refine wp_region_plan (.take 0 (.take 2 (.take 3 (.two 1 4 (.must 4 (.must 5 (.take 6 .done))) (.must 1 (.must 5 (.take 6 .done))))))) (fun W => W.cell? ⟨w.heap.size + 1, 4, none⟩ = some (.int .u8 b)) (by kernel_rfl) (by kernel_rfl) (by kernel_rfl) rfl ?_ (fun KK hKK => ?_)
      · exact e4
      repeat (first
        | (refine wpPlan_take (v := ?_) rfl (by rfl) (fun W hW => ?_) ?_; rotate_left; (focus ((try dsimp only at hW); go_split_ands; go_simp; (try with_reducible rfl); done)); (try simp only [Act.put, List.setIfInBounds_toArray, List.set_cons_zero, List.set_cons_succ]))
        | (refine wpPlan_skip rfl (by rfl) ?_; (try simp only [Act.put, List.setIfInBounds_toArray, List.set_cons_zero, List.set_cons_succ])))
      refine wpPlan_two ?_ ?_
      · refine wpPlan_must rfl (by rfl) (fun K hK => ?_)
        refine wp_push_any _ _ _ 23 rfl 5 (.int .u8 0) 1 1 Try.underlying23 info_u8 rfl (by decide) (.slice none 0 0) 0 [] rfl (World.ownsRow_nil _ _ _ _) wa wn wc0 rfl wn0 (ivs .u8 way) wl1 (by simp [ivs, Hwn.out]) (Hwr.out.ext (Touch.refl _ _).drew) (ivs_one _ _) (by simp [maxLen]; omega) (by omega) ?_
        intro v5 w5 hown5 ht5 hb5
        rw [Nat.zero_add, List.nil_append] at hown5
        have y5 : Ext W2 w5 := (Touch.refl (fun _ => False) W2).drew.ext_new ht5 (fun i hi => by cases hi)
        have hg5 : ∀ i, v5.ownBlock = some i → W2.heap.size ≤ i := fun i hi => by
          rcases hb5 with h | h
          · rw [h] at hi; cases hi
          · rw [h] at hi; cases hi; exact Nat.le_refl _
        obtain ⟨a5, c5, rfl⟩ := own_len hown5
        have e4' := keepc y5 id e4
        clear ht5 hb5
        have Hown5 := Lib.hid hown5
        clear hown5
        have Hg5 := Lib.hid hg5
        clear hg5
        have Y5 := Lib.hid y5
        clear y5
        refine hK.out _ _ ?_ ?_
        · exact e4'
        clear hK K
        (try simp only [Act.put, List.setIfInBounds_toArray, List.set_cons_zero, List.set_cons_succ])
        refine wpPlan_must rfl (by rfl) (fun K hK => ?_)
        go_simp
        have x6 : Ext w5 (w5.alloc (.cells #[.int .u8 b] 5)) := (Touch.refl _ _).alloc _
        have e4'' := keepc x6 id e4'
        have X6 := Lib.hid x6
        clear x6
        refine hK.out _ _ ?_ ?_
        · exact e4''
        clear hK K
        (try simp only [Act.put, List.setIfInBounds_toArray, List.set_cons_zero, List.set_cons_succ])
        refine wpPlan_must rfl (by rfl) (fun K hK => ?_)
        refine wp_push_any _ _ _ 23 rfl 5 (.int .u8 0) 1 1 Try.underlying23 info_u8 rfl (by decide) (.slice a5 wn c5) wn (ivs .u8 way) rfl (own_keep Hown5.out X6.out (fun _ _ h => h)) (some ⟨w5.heap.size, 0, none⟩) 1 1 rfl (fun h => by cases h) (ivs .u8 [b]) (by decide) (by simp [ivs]) (src_one _ _ _) (ivs_one _ _) (by simp [maxLen]; omega) (by omega) ?_
        intro v7 w7 hown7 ht7 hb7
        have y7 : Ext W2 w7 := (Y5.out.trans' X6.out).ext_new ht7 (fun i hi => Hg5.out i hi)
        have hob7 : OB w7 (fun b' => w.heap.size + 1 < b') v7 (way ++ [b]) := by
          refine ⟨by rw [List.length_append, ivs_append, Hwn.out]; exact hown7, fun i hi => ?_⟩
          rcases hb7 with h | h
          · have := Hg5.out i (h ▸ hi); omega
          · rw [h] at hi; cases hi; have := (Y5.out.trans' X6.out).size; omega
        have e47 := keepc y7 id e4
        obtain ⟨a7, c7, rfl⟩ := own_len hown7
        clear ht7 hb7 hown7
        have Y7 := Lib.hid y7
        clear y7
        have Hob7 := Lib.hid hob7
        clear hob7
        refine hK.out _ _ ?_ ?_
        · exact e47
        clear hK K
        (try simp only [Act.put, List.setIfInBounds_toArray, List.set_cons_zero, List.set_cons_succ])
        repeat (first
          | (refine wpPlan_take (v := ?_) rfl (by rfl) (fun W hW => ?_) ?_; rotate_left; (focus ((try dsimp only at hW); go_split_ands; go_simp; (try with_reducible rfl); done)); (try simp only [Act.put, List.setIfInBounds_toArray, List.set_cons_zero, List.set_cons_succ]))
          | (refine wpPlan_skip rfl (by rfl) ?_; (try simp only [Act.put, List.setIfInBounds_toArray, List.set_cons_zero, List.set_cons_succ])))
        refine wpPlan_done (hKK.out _ _ ?_)
        clear hKK KK
        go_wp2_with (fail)
        go_meet
        exact ⟨_, _, rfl, Hob7.out, Y7.out⟩
      · refine wpPlan_must rfl (by rfl) (fun K hK => ?_)
        go_simp
        have x6 : Ext W2 (W2.drew.alloc (.cells #[.int .u8 b] 5)) := (Touch.refl _ _).drew.alloc _
        have e4'' := keepc x6 id e4
        have X6 := Lib.hid x6
        clear x6
        refine hK.out _ _ ?_ ?_
        · exact e4''
        clear hK K
        (try simp only [Act.put, List.setIfInBounds_toArray, List.set_cons_zero, List.set_cons_succ])
        refine wpPlan_must rfl (by rfl) (fun K hK => ?_)
        refine wp_push_any _ _ _ 23 rfl 5 (.int .u8 0) 1 1 Try.underlying23 info_u8 rfl (by decide) (.slice none 0 0) 0 [] rfl (World.ownsRow_nil _ _ _ _) wa wn wc0 rfl wn0 (ivs .u8 way) wl1 (by simp [ivs, Hwn.out]) (Hwr.out.ext X6.out) (ivs_one _ _) (by simp [maxLen]; omega) (by omega) ?_
        intro v5 w5 hown5 ht5 hb5
        rw [Nat.zero_add, List.nil_append] at hown5
        have y5 : Ext (W2.drew.alloc (.cells #[.int .u8 b] 5)) w5 := ht5.new (fun i hi => by cases hi)
        have hg5 : ∀ i, v5.ownBlock = some i → W2.heap.size ≤ i := fun i hi => by
          rcases hb5 with h | h
          · rw [h] at hi; cases hi
          · rw [h] at hi; cases hi; simp
        have hs5 := (src_one W2.drew (.int .u8 b) 5).ext y5
        obtain ⟨a5, c5, rfl⟩ := own_len hown5
        have e4' := keepc y5 id e4''
        clear ht5 hb5
        have Hown5 := Lib.hid hown5
        clear hown5
        have Hg5 := Lib.hid hg5
        clear hg5
        have Y5 := Lib.hid y5
        clear y5
        have Hs5 := Lib.hid hs5
        clear hs5
        refine hK.out _ _ ?_ ?_
        · exact e4'
        clear hK K
        (try simp only [Act.put, List.setIfInBounds_toArray, List.set_cons_zero, List.set_cons_succ])
        refine wpPlan_must rfl (by rfl) (fun K hK => ?_)
        refine wp_push_any _ _ _ 23 rfl 5 (.int .u8 0) 1 1 Try.underlying23 info_u8 rfl (by decide) (.slice a5 wn c5) wn (ivs .u8 way) rfl Hown5.out (some ⟨W2.heap.size, 0, none⟩) 1 1 rfl (fun h => by cases h) (ivs .u8 [b]) (by decide) (by simp [ivs]) Hs5.out (ivs_one _ _) (by simp [maxLen]; omega) (by omega) ?_
        intro v7 w7 hown7 ht7 hb7
        have y7 : Ext W2 w7 := (X6.out.trans' Y5.out).ext_new ht7 (fun i hi => Hg5.out i hi)
        have hob7 : OB w7 (fun b' => w.heap.size + 1 < b') v7 (way ++ [b]) := by
          refine ⟨by rw [List.length_append, ivs_append, Hwn.out]; exact hown7, fun i hi => ?_⟩
          rcases hb7 with h | h
          · have := Hg5.out i (h ▸ hi); omega
          · rw [h] at hi; cases hi; have := (X6.out.trans' Y5.out).size; omega
        have e47 := keepc y7 id e4
        obtain ⟨a7, c7, rfl⟩ := own_len hown7
        clear ht7 hb7 hown7
        have Y7 := Lib.hid y7
        clear y7
        have Hob7 := Lib.hid hob7
        clear hob7
        refine hK.out _ _ ?_ ?_
        · exact e47
        clear hK K
        (try simp only [Act.put, List.setIfInBounds_toArray, List.set_cons_zero, List.set_cons_succ])
        repeat (first
          | (refine wpPlan_take (v := ?_) rfl (by rfl) (fun W hW => ?_) ?_; rotate_left; (focus ((try dsimp only at hW); go_split_ands; go_simp; (try with_reducible rfl); done)); (try simp only [Act.put, List.setIfInBounds_toArray, List.set_cons_zero, List.set_cons_succ]))
          | (refine wpPlan_skip rfl (by rfl) ?_; (try simp only [Act.put, List.setIfInBounds_toArray, List.set_cons_zero, List.set_cons_succ])))
        refine wpPlan_done (hKK.out _ _ ?_)
        clear hKK KK
        go_wp2_with (fail)
        go_meet
        exact ⟨_, _, rfl, Hob7.out, Y7.out⟩
    case rest =>
      obtain ⟨oa, oc, rfl, hob, x7⟩ := hcut
      obtain ⟨w7, rfl⟩ : ∃ w7, w7 = wc := ⟨_, rfl⟩
      obtain ⟨w8, hw8⟩ : ∃ w8, w8 = w7.alloc (.cells #[.slice none 0 0, .int .i64 ((i : Int) + 1), .int .i64 0, .bool true] 96) := ⟨_, rfl⟩
      have x8 : Ext w7 w8 := by rw [hw8]; exact (Touch.refl _ _).alloc _
      have hcb8 : Cb w8 w7.heap.size [.slice none 0 0, .int .i64 ((i : Int) + 1), .int .i64 0, .bool true] := by rw [hw8]; exact Cb.new w7 _ _
      obtain ⟨rb, hrb⟩ : ∃ rb, rb = w7.heap.size := ⟨_, rfl⟩
      rw [← hrb] at hcb8
      have hrb8 : rb < w8.heap.size := by rw [hw8, hrb]; simp
      have hs7 := x7.size
      have hst0 : RSt (w.heap.size + 1) w8.heap.size w8 rb [] ((i : Int) + 1) 0 := RSt.new hcb8
      have hcC8 := (HcC.out.keep x7 id).keep x8 id
      have hcR8 := (HcR.out.keep x7 id).keep x8 id
      have xw8 := X2.out.trans' (x7.trans' x8)
      have hob8 := hob.ext x8
      have hob7 := hob.lt
      have hcbne : w.heap.size + 1 ≠ rb := by omega
      have hwrb : w.heap.size + 1 < rb := by omega
      obtain ⟨e3, _⟩ := hcC8 3 _ rfl
      clear e0 e1 e2 e4 e5 e6 e7 e8
      have Hrb := Lib.hid hrb
      clear hrb
      have Hst0 := Lib.hid hst0
      clear hst0
      have HcC8 := Lib.hid hcC8
      clear hcC8
      have HcR8 := Lib.hid hcR8
      clear hcR8
      have Xw8 := Lib.hid xw8
      clear xw8
      have Hob8 := Lib.hid hob8
      clear hob8
      have Hob := Lib.hid hob
      clear hob
      have Hob7 := Lib.hid hob7
      clear hob7
      have Hcb8 := Lib.hid hcb8
      clear hcb8
      have X8 := Lib.hid x8
      clear x8
      have X7 := Lib.hid x7
      clear x7
      go_upto_region 9 with (fail)
      rw [← hw8]
      rw [← Hrb.out]
      clear hw8
      go_upto_if 106 with (fail)
      go_cut [] (fun wx => RSt (w.heap.size + 1) w8.heap.size wx rb P1 ((i : Int) + 1 + n1) d1 ∧ Touch (fun i => i = rb) w8 wx)
      case first =>
       as_aux_lemma =>
        have hkA := HkA.out
        by_cases hl0 : l1.length = 0
        · rw [if_pos hl0] at hkA
          obtain ⟨z1, z2, z3⟩ := Hz1.out hl0
          have Z1 := Lib.hid z1
          clear z1
          have Z2 := Lib.hid z2
          clear z2
          have Z3 := Lib.hid z3
          clear z3
          go_wp2_with (fail)
          go_meet
          rw [Z1.out, Z2.out, Z3.out]
          exact ⟨by simpa using Hst0.out, Touch.refl _ _⟩
        · rw [if_neg hl0] at hkA
          have hc1 := H1.out hl0 w8 Xw8.out
          obtain ⟨P0, hP0⟩ : ∃ P : Prs, P = [] := ⟨_, rfl⟩
          obtain ⟨d0, hd0⟩ : ∃ d : Nat, d = 0 := ⟨_, rfl⟩
          have hst := Hst0.out
          rw [← hP0, ← hd0] at hst
          have hlP0 : P0.length ≤ 1000000 := by rw [hP0]; simp
          have hst9 : Touch (fun i => i = rb) w8 w8 := Touch.refl _ _
          have hnx := hst
          obtain ⟨_, _, _, _, hcbp, _⟩ := hnx
          obtain ⟨nxc, _⟩ := hcbp 1 _ rfl
          have Hc1 := Lib.hid hc1
          clear hc1
          have Hst := Lib.hid hst
          clear hst
          have Hst9 := Lib.hid hst9
          clear hst9
          have Hcbp := Lib.hid hcbp
          clear hcbp
          have HP0 := Lib.hid hP0
          clear hP0
          have Hd0 := Lib.hid hd0
          clear hd0
          go_wp2_with (fail)
          (with_reducible refine Hc1.out.mono ?_)
          intro e w5 hcall
          clear nxc Hcbp
          unfold TRead at hcall
          obtain ⟨⟨xa, xc, rfl, xl, xn, hrx⟩, tx⟩ := hcall
          obtain ⟨fs, hfs, hcx, hkx⟩ := rp_bound hrx
          have hfl : fs.length = P1.length := by rw [← hfs]; simp
          have hsx := hcx.src
          obtain ⟨wx, hwx⟩ : ∃ wx, wx = w5.alloc (.cells #[.slice xa P1.length xc, .int .i64 ((i : Int) + 1 + n1), .int .i64 (d1 : Int), .bool true] 96) := ⟨_, rfl⟩
          have x5 : Ext w5 wx := by rw [hwx]; exact (Touch.refl _ _).alloc _
          have y0 : wx.cell? ⟨w5.heap.size, 0, none⟩ = some (.slice xa P1.length xc) := by rw [hwx]; simp
          have y1 : wx.cell? ⟨w5.heap.size, 1, none⟩ = some (.int .i64 ((i : Int) + 1 + n1)) := by rw [hwx]; simp
          have y2 : wx.cell? ⟨w5.heap.size, 2, none⟩ = some (.int .i64 (d1 : Int)) := by rw [hwx]; simp
          have y3 : wx.cell? ⟨w5.heap.size, 3, none⟩ = some (.bool true) := by rw [hwx]; simp
          have xx := tx.trans' x5
          obtain ⟨ra, rc, es, hes, hcb0, hown0, hrlt, hrk0⟩ := Hst.out
          have hol : ∀ b', (Value.slice ra P0.length rc).ownBlock = some b' → b' < w8.heap.size := fun b' hb' => (hown0.lt b' hb').2
          have hcb := hcb0.keep xx id
          have hown := own_keep hown0 xx (fun _ _ h => h)
          have hrbl := World.block_lt_of_cell? _ _ (hcb0 0 _ rfl).1
          simp only at hrbl
          obtain ⟨q0, g0⟩ := hcb 0 _ rfl
          obtain ⟨q1, g1⟩ := hcb 1 _ rfl
          obtain ⟨q2, g2⟩ := hcb 2 _ rfl
          obtain ⟨q3, g3⟩ := hcb 3 _ rfl
          have hxb : w5.heap.size < wx.heap.size := by rw [hwx]; simp
          have hst9' := Hst9.out
          have hs8p : w8.heap.size ≤ w8.heap.size := hst9'.size
          have hsp5 : w8.heap.size ≤ w5.heap.size := tx.size
          have hmx : (if d0 < d1 then (d1 : Int) else (d0 : Int)) = ((max d0 d1 : Nat) : Int) := by split <;> omega
          have Hfs := Lib.hid hfs
          clear hfs
          have Hcx := Lib.hid hcx
          clear hcx
          have Hkx := Lib.hid hkx
          clear hkx
          have Hfl := Lib.hid hfl
          clear hfl
          have Hsx := Lib.hid hsx
          clear hsx
          have Xx := Lib.hid xx
          clear xx
          have Hes := Lib.hid hes
          clear hes
          have Hcb0 := Lib.hid hcb0
          clear hcb0
          have Hown0 := Lib.hid hown0
          clear hown0
          have Hcb := Lib.hid hcb
          clear hcb
          have Hown := Lib.hid hown
          clear hown
          have Hrlt := Lib.hid hrlt
          clear hrlt
          have Hrk0 := Lib.hid hrk0
          clear hrk0
          have Hrx := Lib.hid hrx
          clear hrx
          have Tx := Lib.hid tx
          clear tx
          have X5 := Lib.hid x5
          clear x5
          have Hol := Lib.hid hol
          clear hol
          have Hst9' := Lib.hid hst9'
          clear hst9'
          have Hmx := Lib.hid hmx
          clear hmx
          go_wp2_with (fail)
          rw [← hwx]
          clear hwx
          refine wp_region_plan (.take 0 (.take 1 (.take 2 (.take 3 (.take 5 (.take 6 (.take 7 (.take 8 (.take 9 (.take 10 (.take 11 (.take 12 (.take 13 (.must 4 (.take 14 (.last 15 .done)))))))))))))))) (fun W => W.cell? ⟨rb, 0, none⟩ = some (.slice ra P0.length rc) ∧ W.cell? ⟨rb, 2, none⟩ = some (.int .i64 (d0 : Int)) ∧ W.cell? ⟨w5.heap.size, 0, none⟩ = some (.slice xa P1.length xc) ∧ W.cell? ⟨w5.heap.size, 1, none⟩ = some (.int .i64 ((i : Int) + 1 + n1)) ∧ W.cell? ⟨w5.heap.size, 2, none⟩ = some (.int .i64 (d1 : Int)) ∧ W.cell? ⟨w5.heap.size, 3, none⟩ = some (.bool true)) (by kernel_rfl) (by kernel_rfl) (by kernel_rfl) rfl ?_ (fun KK hKK => ?_)
          · exact ⟨q0, q2, y0, y1, y2, y3⟩
          repeat (first
            | (refine wpPlan_take (v := ?_) rfl (by rfl) (fun W hW => ?_) ?_; rotate_left; (focus ((try dsimp only at hW); go_split_ands; go_simp; (try with_reducible rfl); done)); (try simp only [Act.put, List.setIfInBounds_toArray, List.set_cons_zero, List.set_cons_succ]))
            | (refine wpPlan_skip rfl (by rfl) ?_; (try simp only [Act.put, List.setIfInBounds_toArray, List.set_cons_zero, List.set_cons_succ])))
          refine wpPlan_must rfl (by rfl) (fun K hK => ?_)
          refine wp_push_any _ _ _ 22 rfl 33 _ 2 32 Try.underlying22 info_pair rfl (by decide) (.slice ra P0.length rc) P0.length (flat es) rfl (own_keep Hown.out (show Ext wx wx.drew from (Touch.refl _ _).drew) (fun _ _ h => h)) xa P1.length xc rfl xn (flat fs) xl (by rw [flat_length, Hfl.out]) ((Hsx.out.ext X5.out).ext (Touch.refl _ _).drew) (flat_one_cell _ (fun e he => by obtain ⟨a, c, h1, _⟩ := (Hkx.out e he).shape; rw [h1]; rfl)) (by simp [maxLen]; omega) (by omega) ?_
          intro v6 w6 hown6 ht6 hb6
          obtain ⟨va, vc, rfl⟩ := own_len hown6
          have zz : Touch (fun b' => (Value.slice ra P0.length rc).ownBlock = some b') wx w6 := (show Ext wx wx.drew from (Touch.refl _ _).drew).ext_trans ht6
          have hnr : ¬ (Value.slice ra P0.length rc).ownBlock = some rb := fun h => (Hrlt.out rb h).2 rfl
          have hnx : ¬ (Value.slice ra P0.length rc).ownBlock = some w5.heap.size := fun h => by have := Hol.out _ h; omega
          have hcb6 := Hcb.out.keep zz hnr
          obtain ⟨s0, t0⟩ := hcb6 0 _ rfl
          obtain ⟨s1, t1⟩ := hcb6 1 _ rfl
          obtain ⟨s2, t2⟩ := hcb6 2 _ rfl
          obtain ⟨s3, t3⟩ := hcb6 3 _ rfl
          have z0 := keepc zz hnx y0
          have z1 := keepc zz hnx y1
          have z2 := keepc zz hnx y2
          have z3 := keepc zz hnx y3
          have hb6' := hb6.imp id (fun h => (⟨_, h, Nat.le_refl _⟩ : ∃ M, (Value.slice va (P0.length + P1.length) vc).ownBlock = some M ∧ wx.heap.size ≤ M))
          clear ht6 hb6
          have Hown6 := Lib.hid hown6
          clear hown6
          have Zz := Lib.hid zz
          clear zz
          have Hcb6 := Lib.hid hcb6
          clear hcb6
          have Hb6' := Lib.hid hb6'
          clear hb6'
          have Hnr := Lib.hid hnr
          clear hnr
          have Hnx := Lib.hid hnx
          clear hnx
          refine hK.out _ _ ?_ ?_
          · exact ⟨s0, s2, z0, z1, z2, z3⟩
          clear hK K
          (try simp only [Act.put, List.setIfInBounds_toArray, List.set_cons_zero, List.set_cons_succ])
          repeat (first
            | (refine wpPlan_take (v := ?_) rfl (by rfl) (fun W hW => ?_) ?_; rotate_left; (focus ((try dsimp only at hW); go_split_ands; go_simp; (try with_reducible rfl); done)); (try simp only [Act.put, List.setIfInBounds_toArray, List.set_cons_zero, List.set_cons_succ]))
            | (refine wpPlan_skip rfl (by rfl) ?_; (try simp only [Act.put, List.setIfInBounds_toArray, List.set_cons_zero, List.set_cons_succ])))
          refine wpPlan_last rfl (by rfl) (fun K hK => ?_)
          go_simp
          obtain ⟨w9, hw9⟩ : ∃ w9, w9 = (((w6.setCell ⟨rb, 0, none⟩ (.slice va (P0.length + P1.length) vc)).setCell ⟨rb, 1, none⟩ (.int .i64 ((i : Int) + 1 + n1))).setCell ⟨rb, 2, none⟩ (.int .i64 (if d0 < d1 then (d1 : Int) else (d0 : Int)))).setCell ⟨rb, 3, none⟩ (.bool true) := ⟨_, rfl⟩
          have hcb9 : Cb w9 rb [.slice va (P0.length + P1.length) vc, .int .i64 ((i : Int) + 1 + n1), .int .i64 (if d0 < d1 then (d1 : Int) else (d0 : Int)), .bool true] := by
            rw [hw9]
            exact (((Hcb6.out.set 0 _).set 1 _).set 2 _).set 3 _
          have t69 : Touch (fun i => i = rb) w6 w9 := by
            rw [hw9]
            exact ((((Touch.refl (fun i => i = rb) w6).setCell (p := ⟨rb, 0, none⟩) (Or.inl rfl) _).setCell (p := ⟨rb, 1, none⟩) (Or.inl rfl) _).setCell (p := ⟨rb, 2, none⟩) (Or.inl rfl) _).setCell (p := ⟨rb, 3, none⟩) (Or.inl rfl) _
          rw [Hmx.out] at hcb9
          have hst9b : RSt (w.heap.size + 1) w8.heap.size w9 rb (P0 ++ P1) ((i : Int) + 1 + n1) (max d0 d1) := RSt.more Hes.out Hfs.out Hrlt.out (by omega) (by omega) (fun e he => (Hrk0.out e he).ext Xx.out) (fun e he => ((Hkx.out e he).ext X5.out).mono (fun b' hb' => ⟨by have := Xw8.out.size; omega, by omega, by omega, fun h => by have := Hol.out b' h; omega⟩)) Hown6.out Zz.out Hb6'.out t69 hcb9
          have zst : Touch (fun i => i = rb) w8 w9 := ((Hst9'.out.trans_ext Xx.out).trans Zz.out (fun i hi hlt => by have := (Hrlt.out i hi).1; omega)).trans' t69
          rw [← hw9]
          clear hw9 hcb9 t69
          have Hst9b := Lib.hid hst9b
          clear hst9b
          have Zst := Lib.hid zst
          clear zst
          refine hK.out _ _ ?_
          clear hK K
          (try simp only [Act.put, List.setIfInBounds_toArray, List.set_cons_zero, List.set_cons_succ])
          refine wpPlan_done (hKK.out _ _ ?_)
          clear hKK KK
          go_wp2_with (fail)
          all_goals
            go_meet
          all_goals
            have h9 := Hst9b.out
            rw [HP0.out, Hd0.out, List.nil_append, Nat.zero_max] at h9
            exact ⟨h9, Zst.out⟩
      case rest =>
        obtain ⟨hst1, zt1⟩ := hcut
        obtain ⟨wA, rfl⟩ : ∃ wA, wA = wc := ⟨_, rfl⟩
        have hne1 : ∀ j, (⟨w.heap.size + 1, j, none⟩ : Addr).block ≠ rb := fun j => hcbne
        have hcCA := HcC8.out.keep zt1 (fun h => hcbne h)
        obtain ⟨e3, _⟩ := hcCA 3 _ rfl
        obtain ⟨e5, _⟩ := hcCA 5 _ rfl
        obtain ⟨e6, _⟩ := hcCA 6 _ rfl
        have hobA := Hob8.out.keep' zt1 (fun b' hb' h => by have h8 := Hob7.out b' hb'; have h9 := Hrb.out; omega)
        have Hst1 := Lib.hid hst1
        clear hst1
        have Zt1 := Lib.hid zt1
        clear zt1
        have HcCA := Lib.hid hcCA
        clear hcCA
        go_upto_if 130 with (fail)
        go_cut [] (fun wx => RSt (w.heap.size + 1) w8.heap.size wx rb (P1 ++ (if f then [(way ++ [b], x)] else [])) ((i : Int) + 1 + n1) d1 ∧ Touch (fun i => i = rb) w8 wx)
        case first =>
         as_aux_lemma =>
          cases f with
          | false =>
            go_wp2_with (fail)
            go_meet
            exact ⟨by simpa using Hst1.out, Zt1.out⟩
          | true =>
            have hnx := Hst1.out
            obtain ⟨ra, rc, es, hes, hcb0, hown0, hrlt, hrk0⟩ := hnx
            obtain ⟨q0, g0⟩ := hcb0 0 _ rfl
            obtain ⟨q1, g1⟩ := hcb0 1 _ rfl
            obtain ⟨q2, g2⟩ := hcb0 2 _ rfl
            obtain ⟨q3, g3⟩ := hcb0 3 _ rfl
            have hrbl := World.block_lt_of_cell? _ _ q0
            simp only at hrbl
            have hs8p : w8.heap.size ≤ wA.heap.size := Zt1.out.size
            have hnr : ¬ (Value.slice ra P1.length rc).ownBlock = some rb := fun h => (hrlt rb h).2 rfl
            have Hes := Lib.hid hes
            clear hes
            have Hcb0 := Lib.hid hcb0
            clear hcb0
            have Hown0 := Lib.hid hown0
            clear hown0
            have Hrlt := Lib.hid hrlt
            clear hrlt
            have Hrk0 := Lib.hid hrk0
            clear hrk0
            have HobA := Lib.hid hobA
            clear hobA
            have Hnr := Lib.hid hnr
            clear hnr
            go_wp2_with (at_builtin
                         (refine wpList_push_any _ rfl _ _ 22 rfl 33 _ 2 32 Try.underlying22 info_pair rfl (by decide) (.slice ra P1.length rc) P1.length (flat es) rfl (own_keep Hown0.out ((Touch.refl (fun _ => False) _).alloc _) (fun _ _ h => h)) (some ⟨_, 0, none⟩) 1 1 rfl (fun h => by cases h) [.slice oa (wn + 1) oc, .int .u64 x] (by omega) rfl (src_pair _ _ _ _) (by intro u hu; simp only [List.mem_cons, List.not_mem_nil, or_false] at hu; rcases hu with rfl | rfl <;> rfl) (by simp [maxLen]; omega) (by omega) ?_)
                         intro v6 w6 hown6 ht6 hb6
                         obtain ⟨va, vc, rfl⟩ := own_len hown6
                         have zz : Touch (fun b' => (Value.slice ra P1.length rc).ownBlock = some b') wA w6 := Touch.ext_trans ((Touch.refl (fun _ => False) wA).alloc _) ht6
                         have hcb6 := Hcb0.out.keep zz Hnr.out
                         obtain ⟨s0, t0⟩ := hcb6 0 _ rfl
                         have hb6' : (Value.slice va (P1.length + 1) vc).ownBlock = (Value.slice ra P1.length rc).ownBlock ∨ ∃ M, (Value.slice va (P1.length + 1) vc).ownBlock = some M ∧ wA.heap.size ≤ M := hb6.imp id (fun h => ⟨_, h, by simp⟩)
                         clear ht6 hb6
                         have Hown6 := Lib.hid hown6
                         clear hown6
                         have Zz := Lib.hid zz
                         clear zz
                         have Hcb6 := Lib.hid hcb6
                         clear hcb6
                         have Hb6' := Lib.hid hb6'
                         clear hb6'
                         skip)
            go_meet
            have hcb9 := Hcb6.out.set 0 (.slice va (P1.length + 1) vc)
            have t69 : Touch (fun i => i = rb) w6 (w6.setCell ⟨rb, 0, none⟩ (.slice va (P1.length + 1) vc)) := (Touch.refl (fun i => i = rb) w6).setCell (p := ⟨rb, 0, none⟩) (Or.inl rfl) _
            rw [if_pos (rfl : true = true)]
            refine ⟨RSt.more (w := wA) (qs := [(way ++ [b], x)]) (fs := [(.slice oa (wn + 1) oc, (way ++ [b], x))]) Hes.out rfl Hrlt.out (by omega) hrbl Hrk0.out (fun e he => ?_) Hown6.out Zz.out Hb6'.out t69 hcb9, (Zt1.out.trans Zz.out (fun i hi hlt => by have := (Hrlt.out i hi).1; omega)).trans' t69⟩
            obtain rfl := List.mem_singleton.1 he
            have hk0 : OB wA (fun b' => w.heap.size + 1 ≤ b' ∧ b' ≠ rb ∧ b' < wA.heap.size ∧ (Value.slice ra P1.length rc).ownBlock ≠ some b') (.slice oa (wn + 1) oc) (way ++ [b]) := ⟨HobA.out.1, fun b' hb' => by
              have h7 := Hob7.out b' hb'
              have h6 := HobA.out.2 b' hb'
              have h5 := Hrb.out
              have h4 := HobA.out.lt b' hb'
              exact ⟨by omega, by omega, h4, fun h => by have := (Hrlt.out b' h).1; omega⟩⟩
            exact hk0.rb
        case rest =>
          obtain ⟨hst2, zt2⟩ := hcut
          obtain ⟨wB, rfl⟩ : ∃ wB, wB = wc := ⟨_, rfl⟩
          obtain ⟨PB, hPB⟩ : ∃ P, P = P1 ++ (if f then [(way ++ [b], x)] else []) := ⟨_, rfl⟩
          rw [← hPB] at hst2
          have hlPB : PB.length ≤ 1000001 := by rw [hPB]; cases f <;> simp <;> omega
          clear e3 e5 e6
          have hcCB := HcC8.out.keep zt2 (fun h => hcbne h)
          obtain ⟨e3, _⟩ := hcCB 3 _ rfl
          have hobB := Hob8.out.keep' zt2 (fun b' hb' h => by have h8 := Hob7.out b' hb'; have h9 := Hrb.out; omega)
          have hnx := hst2
          obtain ⟨_, _, _, _, hcbp, _⟩ := hnx
          obtain ⟨nxc, _⟩ := hcbp 1 _ rfl
          obtain ⟨n3c, _⟩ := hcbp 3 _ rfl
          have Hst2 := Lib.hid hst2
          clear hst2
          have Zt2 := Lib.hid zt2
          clear zt2
          have HcCB := Lib.hid hcCB
          clear hcCB
          have HPB := Lib.hid hPB
          clear hPB
          have HobB := Lib.hid hobB
          clear hobB
          have Hcbp := Lib.hid hcbp
          clear hcbp
          go_upto_if 147 with (fail)
          go_cut [] (fun wx => RSt (w.heap.size + 1) w8.heap.size wx rb (PB ++ ps) ((i : Int) + 1 + n1 + n2) (max d1 d2) ∧ Touch (fun i => i = rb) w8 wx)
          case first =>
           as_aux_lemma =>
            have hkB := HkB.out
            by_cases hl0 : ps.length = 0
            · rw [if_pos hl0] at hkB
              obtain ⟨z2, z3⟩ := Hz2.out hl0
              have zp := List.eq_nil_of_length_eq_zero hl0
              have Z2 := Lib.hid z2
              clear z2
              have Z3 := Lib.hid z3
              clear z3
              have Zp := Lib.hid zp
              clear zp
              go_wp2_with (fail)
              go_meet
              rw [Z2.out, Z3.out, Zp.out]
              exact ⟨by simpa using Hst2.out, Zt2.out⟩
            · rw [if_neg hl0] at hkB
              have hrbw : w.heap.size ≤ rb := by omega
              have hc1 := H2.out hl0 wB (.slice oa (wn + 1) oc) (fun i => i = rb) (Touch.ext_trans Xw8.out Zt2.out) (fun b' hb' => by rw [hb']; exact hrbw) (HobB.out.rb.mono (fun _ _ => trivial))
              have hst := Hst2.out
              have hst9 := Zt2.out
              have Hc1 := Lib.hid hc1
              clear hc1
              have Hst := Lib.hid hst
              clear hst
              have Hst9 := Lib.hid hst9
              clear hst9
              go_wp2_with (fail)
              (with_reducible refine Hc1.out.mono ?_)
              intro e w5 hcall
              clear nxc n3c e3 Hcbp
              unfold TRead at hcall
              obtain ⟨⟨xa, xc, rfl, xl, xn, hrx⟩, tx⟩ := hcall
              obtain ⟨fs, hfs, hcx, hkx⟩ := rp_bound hrx
              have hfl : fs.length = ps.length := by rw [← hfs]; simp
              have hsx := hcx.src
              obtain ⟨wx, hwx⟩ : ∃ wx, wx = w5.alloc (.cells #[.slice xa ps.length xc, .int .i64 ((i : Int) + 1 + n1 + n2), .int .i64 (d2 : Int), .bool true] 96) := ⟨_, rfl⟩
              have x5 : Ext w5 wx := by rw [hwx]; exact (Touch.refl _ _).alloc _
              have y0 : wx.cell? ⟨w5.heap.size, 0, none⟩ = some (.slice xa ps.length xc) := by rw [hwx]; simp
              have y1 : wx.cell? ⟨w5.heap.size, 1, none⟩ = some (.int .i64 ((i : Int) + 1 + n1 + n2)) := by rw [hwx]; simp
              have y2 : wx.cell? ⟨w5.heap.size, 2, none⟩ = some (.int .i64 (d2 : Int)) := by rw [hwx]; simp
              have y3 : wx.cell? ⟨w5.heap.size, 3, none⟩ = some (.bool true) := by rw [hwx]; simp
              have xx := tx.trans' x5
              obtain ⟨ra, rc, es, hes, hcb0, hown0, hrlt, hrk0⟩ := Hst.out
              have hol : ∀ b', (Value.slice ra PB.length rc).ownBlock = some b' → b' < wB.heap.size := fun b' hb' => (hown0.lt b' hb').2
              have hcb := hcb0.keep xx id
              have hown := own_keep hown0 xx (fun _ _ h => h)
              have hrbl := World.block_lt_of_cell? _ _ (hcb0 0 _ rfl).1
              simp only at hrbl
              obtain ⟨q0, g0⟩ := hcb 0 _ rfl
              obtain ⟨q1, g1⟩ := hcb 1 _ rfl
              obtain ⟨q2, g2⟩ := hcb 2 _ rfl
              obtain ⟨q3, g3⟩ := hcb 3 _ rfl
              have hxb : w5.heap.size < wx.heap.size := by rw [hwx]; simp
              have hst9' := Hst9.out
              have hs8p : w8.heap.size ≤ wB.heap.size := hst9'.size
              have hsp5 : wB.heap.size ≤ w5.heap.size := tx.size
              have hmx : (if d1 < d2 then (d2 : Int) else (d1 : Int)) = ((max d1 d2 : Nat) : Int) := by split <;> omega
              have Hfs := Lib.hid hfs
              clear hfs
              have Hcx := Lib.hid hcx
              clear hcx
              have Hkx := Lib.hid hkx
              clear hkx
              have Hfl := Lib.hid hfl
              clear hfl
              have Hsx := Lib.hid hsx
              clear hsx
              have Xx := Lib.hid xx
              clear xx
              have Hes := Lib.hid hes
              clear hes
              have Hcb0 := Lib.hid hcb0
              clear hcb0
              have Hown0 := Lib.hid hown0
              clear hown0
              have Hcb := Lib.hid hcb
              clear hcb
              have Hown := Lib.hid hown
              clear hown
              have Hrlt := Lib.hid hrlt
              clear hrlt
              have Hrk0 := Lib.hid hrk0
              clear hrk0
              have Hrx := Lib.hid hrx
              clear hrx
              have Tx := Lib.hid tx
              clear tx
              have X5 := Lib.hid x5
              clear x5
              have Hol := Lib.hid hol
              clear hol
              have Hst9' := Lib.hid hst9'
              clear hst9'
              have Hmx := Lib.hid hmx
              clear hmx
              go_wp2_with (fail)
              rw [← hwx]
              clear hwx
              refine wp_region_plan (.take 0 (.take 1 (.take 2 (.take 3 (.take 5 (.take 6 (.take 7 (.take 8 (.take 9 (.take 10 (.take 11 (.take 12 (.take 13 (.must 4 (.take 14 (.last 15 .done)))))))))))))))) (fun W => W.cell? ⟨rb, 0, none⟩ = some (.slice ra PB.length rc) ∧ W.cell? ⟨rb, 2, none⟩ = some (.int .i64 (d1 : Int)) ∧ W.cell? ⟨w5.heap.size, 0, none⟩ = some (.slice xa ps.length xc) ∧ W.cell? ⟨w5.heap.size, 1, none⟩ = some (.int .i64 ((i : Int) + 1 + n1 + n2)) ∧ W.cell? ⟨w5.heap.size, 2, none⟩ = some (.int .i64 (d2 : Int)) ∧ W.cell? ⟨w5.heap.size, 3, none⟩ = some (.bool true)) (by kernel_rfl) (by kernel_rfl) (by kernel_rfl) rfl ?_ (fun KK hKK => ?_)
              · exact ⟨q0, q2, y0, y1, y2, y3⟩
              repeat (first
                | (refine wpPlan_take (v := ?_) rfl (by rfl) (fun W hW => ?_) ?_; rotate_left; (focus ((try dsimp only at hW); go_split_ands; go_simp; (try with_reducible rfl); done)); (try simp only [Act.put, List.setIfInBounds_toArray, List.set_cons_zero, List.set_cons_succ]))
                | (refine wpPlan_skip rfl (by rfl) ?_; (try simp only [Act.put, List.setIfInBounds_toArray, List.set_cons_zero, List.set_cons_succ])))
              refine wpPlan_must rfl (by rfl) (fun K hK => ?_)
              refine wp_push_any _ _ _ 22 rfl 33 _ 2 32 Try.underlying22 info_pair rfl (by decide) (.slice ra PB.length rc) PB.length (flat es) rfl (own_keep Hown.out (show Ext wx wx.drew from (Touch.refl _ _).drew) (fun _ _ h => h)) xa ps.length xc rfl xn (flat fs) xl (by rw [flat_length, Hfl.out]) ((Hsx.out.ext X5.out).ext (Touch.refl _ _).drew) (flat_one_cell _ (fun e he => by obtain ⟨a, c, h1, _⟩ := (Hkx.out e he).shape; rw [h1]; rfl)) (by simp [maxLen]; omega) (by omega) ?_
              intro v6 w6 hown6 ht6 hb6
              obtain ⟨va, vc, rfl⟩ := own_len hown6
              have zz : Touch (fun b' => (Value.slice ra PB.length rc).ownBlock = some b') wx w6 := (show Ext wx wx.drew from (Touch.refl _ _).drew).ext_trans ht6
              have hnr : ¬ (Value.slice ra PB.length rc).ownBlock = some rb := fun h => (Hrlt.out rb h).2 rfl
              have hnx : ¬ (Value.slice ra PB.length rc).ownBlock = some w5.heap.size := fun h => by have := Hol.out _ h; omega
              have hcb6 := Hcb.out.keep zz hnr
              obtain ⟨s0, t0⟩ := hcb6 0 _ rfl
              obtain ⟨s1, t1⟩ := hcb6 1 _ rfl
              obtain ⟨s2, t2⟩ := hcb6 2 _ rfl
              obtain ⟨s3, t3⟩ := hcb6 3 _ rfl
              have z0 := keepc zz hnx y0
              have z1 := keepc zz hnx y1
              have z2 := keepc zz hnx y2
              have z3 := keepc zz hnx y3
              have hb6' := hb6.imp id (fun h => (⟨_, h, Nat.le_refl _⟩ : ∃ M, (Value.slice va (PB.length + ps.length) vc).ownBlock = some M ∧ wx.heap.size ≤ M))
              clear ht6 hb6
              have Hown6 := Lib.hid hown6
              clear hown6
              have Zz := Lib.hid zz
              clear zz
              have Hcb6 := Lib.hid hcb6
              clear hcb6
              have Hb6' := Lib.hid hb6'
              clear hb6'
              have Hnr := Lib.hid hnr
              clear hnr
              have Hnx := Lib.hid hnx
              clear hnx
              refine hK.out _ _ ?_ ?_
              · exact ⟨s0, s2, z0, z1, z2, z3⟩
              clear hK K
              (try simp only [Act.put, List.setIfInBounds_toArray, List.set_cons_zero, List.set_cons_succ])
              repeat (first
                | (refine wpPlan_take (v := ?_) rfl (by rfl) (fun W hW => ?_) ?_; rotate_left; (focus ((try dsimp only at hW); go_split_ands; go_simp; (try with_reducible rfl); done)); (try simp only [Act.put, List.setIfInBounds_toArray, List.set_cons_zero, List.set_cons_succ]))
                | (refine wpPlan_skip rfl (by rfl) ?_; (try simp only [Act.put, List.setIfInBounds_toArray, List.set_cons_zero, List.set_cons_succ])))
              refine wpPlan_last rfl (by rfl) (fun K hK => ?_)
              go_simp
              obtain ⟨w9, hw9⟩ : ∃ w9, w9 = (((w6.setCell ⟨rb, 0, none⟩ (.slice va (PB.length + ps.length) vc)).setCell ⟨rb, 1, none⟩ (.int .i64 ((i : Int) + 1 + n1 + n2))).setCell ⟨rb, 2, none⟩ (.int .i64 (if d1 < d2 then (d2 : Int) else (d1 : Int)))).setCell ⟨rb, 3, none⟩ (.bool true) := ⟨_, rfl⟩
              have hcb9 : Cb w9 rb [.slice va (PB.length + ps.length) vc, .int .i64 ((i : Int) + 1 + n1 + n2), .int .i64 (if d1 < d2 then (d2 : Int) else (d1 : Int)), .bool true] := by
                rw [hw9]
                exact (((Hcb6.out.set 0 _).set 1 _).set 2 _).set 3 _
              have t69 : Touch (fun i => i = rb) w6 w9 := by
                rw [hw9]
                exact ((((Touch.refl (fun i => i = rb) w6).setCell (p := ⟨rb, 0, none⟩) (Or.inl rfl) _).setCell (p := ⟨rb, 1, none⟩) (Or.inl rfl) _).setCell (p := ⟨rb, 2, none⟩) (Or.inl rfl) _).setCell (p := ⟨rb, 3, none⟩) (Or.inl rfl) _
              rw [Hmx.out] at hcb9
              have hst9b : RSt (w.heap.size + 1) w8.heap.size w9 rb (PB ++ ps) ((i : Int) + 1 + n1 + n2) (max d1 d2) := RSt.more Hes.out Hfs.out Hrlt.out (by omega) (by omega) (fun e he => (Hrk0.out e he).ext Xx.out) (fun e he => ((Hkx.out e he).ext X5.out).mono (fun b' hb' => ⟨by have := Xw8.out.size; omega, by omega, by omega, fun h => by have := Hol.out b' h; omega⟩)) Hown6.out Zz.out Hb6'.out t69 hcb9
              have zst : Touch (fun i => i = rb) w8 w9 := ((Hst9'.out.trans_ext Xx.out).trans Zz.out (fun i hi hlt => by have := (Hrlt.out i hi).1; omega)).trans' t69
              rw [← hw9]
              clear hw9 hcb9 t69
              have Hst9b := Lib.hid hst9b
              clear hst9b
              have Zst := Lib.hid zst
              clear zst
              refine hK.out _ _ ?_
              clear hK K
              (try simp only [Act.put, List.setIfInBounds_toArray, List.set_cons_zero, List.set_cons_succ])
              refine wpPlan_done (hKK.out _ _ ?_)
              clear hKK KK
              go_wp2_with (fail)
              all_goals
                go_meet
              all_goals
                exact ⟨Hst9b.out, Zst.out⟩
          case rest =>
            obtain ⟨hst3, zt3⟩ := hcut
            obtain ⟨wC, rfl⟩ : ∃ wC, wC = wc := ⟨_, rfl⟩
            obtain ⟨PC, hPC⟩ : ∃ P, P = PB ++ ps := ⟨_, rfl⟩
            obtain ⟨dm, hdm⟩ : ∃ d, d = max d1 d2 := ⟨_, rfl⟩
            rw [← hPC, ← hdm] at hst3
            have hlPC : PC.length ≤ 2000001 := by rw [hPC, List.length_append]; omega
            clear e3 nxc n3c Hcbp
            have hcCC := HcC8.out.keep zt3 (fun h => hcbne h)
            obtain ⟨e3, _⟩ := hcCC 3 _ rfl
            have hnx := hst3
            obtain ⟨_, _, _, _, hcbp, _⟩ := hnx
            obtain ⟨nxc, _⟩ := hcbp 1 _ rfl
            obtain ⟨n3c, _⟩ := hcbp 3 _ rfl
            have hdmb : dm ≤ 1000000000000 := by have := Hd.out; omega
            have Hst3 := Lib.hid hst3
            clear hst3
            have Zt3 := Lib.hid zt3
            clear zt3
            have HcCC := Lib.hid hcCC
            clear hcCC
            have HPC := Lib.hid hPC
            clear hPC
            have Hdm := Lib.hid hdm
            clear hdm
            have Hcbp := Lib.hid hcbp
            clear hcbp
            go_upto_if 175 with (fail)
            go_cut [] (fun wx => RSt (w.heap.size + 1) w8.heap.size wx rb (PC ++ P3) ((i : Int) + 1 + n1 + n2 + n3) (max dm d3) ∧ Touch (fun i => i = rb) w8 wx)
            case first =>
             as_aux_lemma =>
              have hkC := HkC.out
              by_cases hl0 : l2.length = 0
              · rw [if_pos hl0] at hkC
                obtain ⟨z1, z2, z3⟩ := Hz3.out hl0
                have Z1 := Lib.hid z1
                clear z1
                have Z2 := Lib.hid z2
                clear z2
                have Z3 := Lib.hid z3
                clear z3
                go_wp2_with (fail)
                go_meet
                rw [Z1.out, Z2.out, Z3.out]
                exact ⟨by simpa using Hst3.out, Zt3.out⟩
              · rw [if_neg hl0] at hkC
                have hrbw : w.heap.size ≤ rb := by omega
                have hc1 := H3.out hl0 wC (fun i => i = rb) (Touch.ext_trans Xw8.out Zt3.out) (fun b' hb' => by rw [hb']; exact hrbw)
                have hst := Hst3.out
                have hst9 := Zt3.out
                have Hc1 := Lib.hid hc1
                clear hc1
                have Hst := Lib.hid hst
                clear hst
                have Hst9 := Lib.hid hst9
                clear hst9
                go_wp2_with (fail)
                (with_reducible refine Hc1.out.mono ?_)
                intro e w5 hcall
                clear nxc n3c e3 Hcbp
                unfold TRead at hcall
                obtain ⟨⟨xa, xc, rfl, xl, xn, hrx⟩, tx⟩ := hcall
                obtain ⟨fs, hfs, hcx, hkx⟩ := rp_bound hrx
                have hfl : fs.length = P3.length := by rw [← hfs]; simp
                have hsx := hcx.src
                obtain ⟨wx, hwx⟩ : ∃ wx, wx = w5.alloc (.cells #[.slice xa P3.length xc, .int .i64 ((i : Int) + 1 + n1 + n2 + n3), .int .i64 (d3 : Int), .bool true] 96) := ⟨_, rfl⟩
                have x5 : Ext w5 wx := by rw [hwx]; exact (Touch.refl _ _).alloc _
                have y0 : wx.cell? ⟨w5.heap.size, 0, none⟩ = some (.slice xa P3.length xc) := by rw [hwx]; simp
                have y1 : wx.cell? ⟨w5.heap.size, 1, none⟩ = some (.int .i64 ((i : Int) + 1 + n1 + n2 + n3)) := by rw [hwx]; simp
                have y2 : wx.cell? ⟨w5.heap.size, 2, none⟩ = some (.int .i64 (d3 : Int)) := by rw [hwx]; simp
                have y3 : wx.cell? ⟨w5.heap.size, 3, none⟩ = some (.bool true) := by rw [hwx]; simp
                have xx := tx.trans' x5
                obtain ⟨ra, rc, es, hes, hcb0, hown0, hrlt, hrk0⟩ := Hst.out
                have hol : ∀ b', (Value.slice ra PC.length rc).ownBlock = some b' → b' < wC.heap.size := fun b' hb' => (hown0.lt b' hb').2
                have hcb := hcb0.keep xx id
                have hown := own_keep hown0 xx (fun _ _ h => h)
                have hrbl := World.block_lt_of_cell? _ _ (hcb0 0 _ rfl).1
                simp only at hrbl
                obtain ⟨q0, g0⟩ := hcb 0 _ rfl
                obtain ⟨q1, g1⟩ := hcb 1 _ rfl
                obtain ⟨q2, g2⟩ := hcb 2 _ rfl
                obtain ⟨q3, g3⟩ := hcb 3 _ rfl
                have hxb : w5.heap.size < wx.heap.size := by rw [hwx]; simp
                have hst9' := Hst9.out
                have hs8p : w8.heap.size ≤ wC.heap.size := hst9'.size
                have hsp5 : wC.heap.size ≤ w5.heap.size := tx.size
                have hmx : (if dm < d3 then (d3 : Int) else (dm : Int)) = ((max dm d3 : Nat) : Int) := by split <;> omega
                have Hfs := Lib.hid hfs
                clear hfs
                have Hcx := Lib.hid hcx
                clear hcx
                have Hkx := Lib.hid hkx
                clear hkx
                have Hfl := Lib.hid hfl
                clear hfl
                have Hsx := Lib.hid hsx
                clear hsx
                have Xx := Lib.hid xx
                clear xx
                have Hes := Lib.hid hes
                clear hes
                have Hcb0 := Lib.hid hcb0
                clear hcb0
                have Hown0 := Lib.hid hown0
                clear hown0
                have Hcb := Lib.hid hcb
                clear hcb
                have Hown := Lib.hid hown
                clear hown
                have Hrlt := Lib.hid hrlt
                clear hrlt
                have Hrk0 := Lib.hid hrk0
                clear hrk0
                have Hrx := Lib.hid hrx
                clear hrx
                have Tx := Lib.hid tx
                clear tx
                have X5 := Lib.hid x5
                clear x5
                have Hol := Lib.hid hol
                clear hol
                have Hst9' := Lib.hid hst9'
                clear hst9'
                have Hmx := Lib.hid hmx
                clear hmx
                go_wp2_with (fail)
                rw [← hwx]
                clear hwx
                refine wp_region_plan (.take 0 (.take 1 (.take 2 (.take 3 (.take 5 (.take 6 (.take 7 (.take 8 (.take 9 (.take 10 (.take 11 (.take 12 (.take 13 (.must 4 (.take 14 (.last 15 .done)))))))))))))))) (fun W => W.cell? ⟨rb, 0, none⟩ = some (.slice ra PC.length rc) ∧ W.cell? ⟨rb, 2, none⟩ = some (.int .i64 (dm : Int)) ∧ W.cell? ⟨w5.heap.size, 0, none⟩ = some (.slice xa P3.length xc) ∧ W.cell? ⟨w5.heap.size, 1, none⟩ = some (.int .i64 ((i : Int) + 1 + n1 + n2 + n3)) ∧ W.cell? ⟨w5.heap.size, 2, none⟩ = some (.int .i64 (d3 : Int)) ∧ W.cell? ⟨w5.heap.size, 3, none⟩ = some (.bool true)) (by kernel_rfl) (by kernel_rfl) (by kernel_rfl) rfl ?_ (fun KK hKK => ?_)
                · exact ⟨q0, q2, y0, y1, y2, y3⟩
                repeat (first
                  | (refine wpPlan_take (v := ?_) rfl (by rfl) (fun W hW => ?_) ?_; rotate_left; (focus ((try dsimp only at hW); go_split_ands; go_simp; (try with_reducible rfl); done)); (try simp only [Act.put, List.setIfInBounds_toArray, List.set_cons_zero, List.set_cons_succ]))
                  | (refine wpPlan_skip rfl (by rfl) ?_; (try simp only [Act.put, List.setIfInBounds_toArray, List.set_cons_zero, List.set_cons_succ])))
                refine wpPlan_must rfl (by rfl) (fun K hK => ?_)
                refine wp_push_any _ _ _ 22 rfl 33 _ 2 32 Try.underlying22 info_pair rfl (by decide) (.slice ra PC.length rc) PC.length (flat es) rfl (own_keep Hown.out (show Ext wx wx.drew from (Touch.refl _ _).drew) (fun _ _ h => h)) xa P3.length xc rfl xn (flat fs) xl (by rw [flat_length, Hfl.out]) ((Hsx.out.ext X5.out).ext (Touch.refl _ _).drew) (flat_one_cell _ (fun e he => by obtain ⟨a, c, h1, _⟩ := (Hkx.out e he).shape; rw [h1]; rfl)) (by simp [maxLen]; omega) (by omega) ?_
                intro v6 w6 hown6 ht6 hb6
                obtain ⟨va, vc, rfl⟩ := own_len hown6
                have zz : Touch (fun b' => (Value.slice ra PC.length rc).ownBlock = some b') wx w6 := (show Ext wx wx.drew from (Touch.refl _ _).drew).ext_trans ht6
                have hnr : ¬ (Value.slice ra PC.length rc).ownBlock = some rb := fun h => (Hrlt.out rb h).2 rfl
                have hnx : ¬ (Value.slice ra PC.length rc).ownBlock = some w5.heap.size := fun h => by have := Hol.out _ h; omega
                have hcb6 := Hcb.out.keep zz hnr
                obtain ⟨s0, t0⟩ := hcb6 0 _ rfl
                obtain ⟨s1, t1⟩ := hcb6 1 _ rfl
                obtain ⟨s2, t2⟩ := hcb6 2 _ rfl
                obtain ⟨s3, t3⟩ := hcb6 3 _ rfl
                have z0 := keepc zz hnx y0
                have z1 := keepc zz hnx y1
                have z2 := keepc zz hnx y2
                have z3 := keepc zz hnx y3
                have hb6' := hb6.imp id (fun h => (⟨_, h, Nat.le_refl _⟩ : ∃ M, (Value.slice va (PC.length + P3.length) vc).ownBlock = some M ∧ wx.heap.size ≤ M))
                clear ht6 hb6
                have Hown6 := Lib.hid hown6
                clear hown6
                have Zz := Lib.hid zz
                clear zz
                have Hcb6 := Lib.hid hcb6
                clear hcb6
                have Hb6' := Lib.hid hb6'
                clear hb6'
                have Hnr := Lib.hid hnr
                clear hnr
                have Hnx := Lib.hid hnx
                clear hnx
                refine hK.out _ _ ?_ ?_
                · exact ⟨s0, s2, z0, z1, z2, z3⟩
                clear hK K
                (try simp only [Act.put, List.setIfInBounds_toArray, List.set_cons_zero, List.set_cons_succ])
                repeat (first
                  | (refine wpPlan_take (v := ?_) rfl (by rfl) (fun W hW => ?_) ?_; rotate_left; (focus ((try dsimp only at hW); go_split_ands; go_simp; (try with_reducible rfl); done)); (try simp only [Act.put, List.setIfInBounds_toArray, List.set_cons_zero, List.set_cons_succ]))
                  | (refine wpPlan_skip rfl (by rfl) ?_; (try simp only [Act.put, List.setIfInBounds_toArray, List.set_cons_zero, List.set_cons_succ])))
                refine wpPlan_last rfl (by rfl) (fun K hK => ?_)
                go_simp
                obtain ⟨w9, hw9⟩ : ∃ w9, w9 = (((w6.setCell ⟨rb, 0, none⟩ (.slice va (PC.length + P3.length) vc)).setCell ⟨rb, 1, none⟩ (.int .i64 ((i : Int) + 1 + n1 + n2 + n3))).setCell ⟨rb, 2, none⟩ (.int .i64 (if dm < d3 then (d3 : Int) else (dm : Int)))).setCell ⟨rb, 3, none⟩ (.bool true) := ⟨_, rfl⟩
                have hcb9 : Cb w9 rb [.slice va (PC.length + P3.length) vc, .int .i64 ((i : Int) + 1 + n1 + n2 + n3), .int .i64 (if dm < d3 then (d3 : Int) else (dm : Int)), .bool true] := by
                  rw [hw9]
                  exact (((Hcb6.out.set 0 _).set 1 _).set 2 _).set 3 _
                have t69 : Touch (fun i => i = rb) w6 w9 := by
                  rw [hw9]
                  exact ((((Touch.refl (fun i => i = rb) w6).setCell (p := ⟨rb, 0, none⟩) (Or.inl rfl) _).setCell (p := ⟨rb, 1, none⟩) (Or.inl rfl) _).setCell (p := ⟨rb, 2, none⟩) (Or.inl rfl) _).setCell (p := ⟨rb, 3, none⟩) (Or.inl rfl) _
                rw [Hmx.out] at hcb9
                have hst9b : RSt (w.heap.size + 1) w8.heap.size w9 rb (PC ++ P3) ((i : Int) + 1 + n1 + n2 + n3) (max dm d3) := RSt.more Hes.out Hfs.out Hrlt.out (by omega) (by omega) (fun e he => (Hrk0.out e he).ext Xx.out) (fun e he => ((Hkx.out e he).ext X5.out).mono (fun b' hb' => ⟨by have := Xw8.out.size; omega, by omega, by omega, fun h => by have := Hol.out b' h; omega⟩)) Hown6.out Zz.out Hb6'.out t69 hcb9
                have zst : Touch (fun i => i = rb) w8 w9 := ((Hst9'.out.trans_ext Xx.out).trans Zz.out (fun i hi hlt => by have := (Hrlt.out i hi).1; omega)).trans' t69
                rw [← hw9]
                clear hw9 hcb9 t69
                have Hst9b := Lib.hid hst9b
                clear hst9b
                have Zst := Lib.hid zst
                clear zst
                refine hK.out _ _ ?_
                clear hK K
                (try simp only [Act.put, List.setIfInBounds_toArray, List.set_cons_zero, List.set_cons_succ])
                refine wpPlan_done (hKK.out _ _ ?_)
                clear hKK KK
                go_wp2_with (fail)
                all_goals
                  go_meet
                all_goals
                  exact ⟨Hst9b.out, Zst.out⟩
            case rest =>
              obtain ⟨hst4, zt4⟩ := hcut
              obtain ⟨wD, rfl⟩ : ∃ wD, wD = wc := ⟨_, rfl⟩
              obtain ⟨dq, hdq⟩ : ∃ d, d = max dm d3 := ⟨_, rfl⟩
              have hRR : PC ++ P3 = R := by rw [HPC.out, HPB.out, HR.out]; simp
              have hRl : R.length = tot := by rw [HR.out, Htot.out]; cases f <;> simp <;> omega
              have hDD : D = dq + 1 := by have h1 := HD.out; have h2 := Hdm.out; omega
              have hdqb : dq ≤ 1000000000000 := by have h1 := Hd.out; omega
              rw [← hdq, hRR] at hst4
              clear e3 nxc n3c Hcbp
              have hcCD := HcC8.out.keep zt4 (fun h => hcbne h)
              obtain ⟨e2, _⟩ := hcCD 2 _ rfl
              have hcRD := HcR8.out.keep zt4 (fun h => by have h : w.heap.size = rb := h; omega)
              obtain ⟨ra, rc, es, hes, hcb, hown, hrlt, hrk⟩ := hst4
              have hesl : es.length = R.length := by rw [← hes]; simp
              have hrp : RP wD (fun b' => (w.heap.size ≤ b' ∧ b' ≠ w.heap.size) ∧ b' ≠ rb) (.slice ra R.length rc) R := ⟨es, hes, Cells2.of_own (by rw [hesl]; exact hown) (fun b' hb' => by have h8 := hrlt b' hb'; exact ⟨by omega, h8.2⟩), fun e he => (hrk e he).mono (fun b' hb' => by have h8 := hb'.1; exact ⟨⟨by omega, by omega⟩, hb'.2.1⟩)⟩
              obtain ⟨_, hrc, hrn, _⟩ := own_src hown
              rw [hRl] at hcb
              obtain ⟨q0, g0⟩ := hcb 0 _ rfl
              obtain ⟨q1, g1⟩ := hcb 1 _ rfl
              obtain ⟨q2, g2⟩ := hcb 2 _ rfl
              obtain ⟨q3, g3⟩ := hcb 3 _ rfl
              obtain ⟨r0, m0⟩ := hcRD 0 _ rfl
              obtain ⟨r1, m1⟩ := hcRD 1 _ rfl
              obtain ⟨r2, m2⟩ := hcRD 2 _ rfl
              obtain ⟨r3, m3⟩ := hcRD 3 _ rfl
              have hcb9 := hcb.set 2 (.int .i64 ((dq : Int) + 1))
              have t9 : Touch (fun i => i = rb) wD (wD.setCell ⟨rb, 2, none⟩ (.int .i64 ((dq : Int) + 1))) := (Touch.refl (fun i => i = rb) wD).setCell (p := ⟨rb, 2, none⟩) (Or.inl rfl) _
              have hcR9 := hcRD.keep t9 (fun h => by have h : w.heap.size = rb := h; omega)
              have hend := (((hcR9.set 0 (.slice ra tot rc)).set 1 (.int .i64 ((i : Int) + 1 + n1 + n2 + n3))).set 2 (.int .i64 ((dq : Int) + 1))).set 3 (.bool true)
              have tz := ((((Touch.refl (fun i => i = w.heap.size) (wD.setCell ⟨rb, 2, none⟩ (.int .i64 ((dq : Int) + 1)))).setCell (p := ⟨w.heap.size, 0, none⟩) (Or.inl rfl) (.slice ra tot rc)).setCell (p := ⟨w.heap.size, 1, none⟩) (Or.inl rfl) (.int .i64 ((i : Int) + 1 + n1 + n2 + n3))).setCell (p := ⟨w.heap.size, 2, none⟩) (Or.inl rfl) (.int .i64 ((dq : Int) + 1))).setCell (p := ⟨w.heap.size, 3, none⟩) (Or.inl rfl) (.bool true)
              have xz := ((Xw8.out.ext_new zt4 (fun i hi => by have hi : i = rb := hi; omega)).ext_new t9 (fun i hi => by have hi : i = rb := hi; omega)).ext_new tz (fun i hi => by have hi : i = w.heap.size := hi; omega)
              have rz := (((hrp.keep t9 (fun b' hb' h => hb'.2 h)).keep tz (fun b' hb' h => hb'.1.2 h))).mono (G := fun b' => w.heap.size ≤ b') (fun b' hb' => hb'.1.1)
              have Zt4 := Lib.hid zt4
              clear zt4
              have Hdq := Lib.hid hdq
              clear hdq
              have HRR := Lib.hid hRR
              clear hRR
              have HRl := Lib.hid hRl
              clear hRl
              have HDD := Lib.hid hDD
              clear hDD
              have HcCD := Lib.hid hcCD
              clear hcCD
              have HcRD := Lib.hid hcRD
              clear hcRD
              have Hes := Lib.hid hes
              clear hes
              have Hcb := Lib.hid hcb
              clear hcb
              have Hown := Lib.hid hown
              clear hown
              have Hrlt := Lib.hid hrlt
              clear hrlt
              have Hrk := Lib.hid hrk
              clear hrk
              have Hesl := Lib.hid hesl
              clear hesl
              have Hrp := Lib.hid hrp
              clear hrp
              have Hrc := Lib.hid hrc
              clear hrc
              have Hrn := Lib.hid hrn
              clear hrn
              have Hcb9 := Lib.hid hcb9
              clear hcb9
              have T9 := Lib.hid t9
              clear t9
              have HcR9 := Lib.hid hcR9
              clear hcR9
              have Hend := Lib.hid hend
              clear hend
              have Tz := Lib.hid tz
              clear tz
              have Xz := Lib.hid xz
              clear xz
              have Rz := Lib.hid rz
              clear rz
              go_wp2_with (fail)
              obtain ⟨k0, _⟩ := Hend.out 0 _ rfl
              obtain ⟨k1, _⟩ := Hend.out 1 _ rfl
              obtain ⟨k2, _⟩ := Hend.out 2 _ rfl
              obtain ⟨k3, _⟩ := Hend.out 3 _ rfl
              refine bodyPost_ret (v := .agg #[.slice ra tot rc, .int .i64 ((i : Int) + 1 + n1 + n2 + n3), .int .i64 ((dq : Int) + 1), .bool true]) (by simp [results, Try.results105, go_sem, k0, k1, k2, k3]) rfl ⟨⟨ra, rc, ?_, ?_, Hrn.out, Rz.out⟩, Xz.out⟩
              · rw [HRl.out, HDD.out]
                rfl
              · have h1 := Hrc.out
                simpa [flat_length, Hesl.out] using h1
end TernR
end Go.Proofs.Ythfnacadabhpdaa
