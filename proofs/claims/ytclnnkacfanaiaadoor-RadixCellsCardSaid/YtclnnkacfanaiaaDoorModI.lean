/- Contract of package model: Longest, by a range over slices.Backward. -/
import Derived.RangeFuncNested
import Derived.RangeFuncBound
import Derived.RangeFuncCalls
import Derived.RangeFuncLeaves
import Derived.Shelf.Abstract
import Derived.Shelf.RegionOpen
import Derived.OwnWalkIn
import Derived.TacticsInMore
import Derived.LoopNIn
import Derived.LoopIn
import Derived.Test.YtclnnkacfanaiaaDoorModG
namespace Go.Proofs.YtclnnkacfanaiaaDoor
open Go.RowKit Go.Shelf
set_option linter.unusedVariables false
set_option linter.unusedSimpArgs false
attribute [local go_sem] Oper.semAt_some

/-- the longest key that is a beginning of one -/
def longestK (ps : Prs) (k : List Int) : Option (List Int × Int) := ps.reverse.find? fun p => begK k p.1

namespace ModI
open ModA ModB
/-- a place of a row, and what lies there -/
abbrev At (es : List El) := { x : Nat × El // es[x.1]? = some x.2 }
def encAt {es : List El} (x : At es) : Array Value := #[.int .i64 x.1.1, .agg #[x.1.2.1, .int .u64 x.1.2.2.2]]
/-- all places, the last one first -/
def downAll (es : List El) : List (At es) := ((List.finRange es.length).map fun i => (⟨(i.1, es[i.1]), List.getElem?_eq_getElem i.2⟩ : At es)).reverse
theorem downAll_length (es : List El) : (downAll es).length = es.length := by simp [downAll]
theorem downAll_get (es : List El) (k : Nat) (h : k < es.length) : ∃ x : At es, (downAll es)[k]? = some x ∧ x.1.1 = es.length - 1 - k := by
  refine ⟨⟨(es.length - 1 - k, es[es.length - 1 - k]), List.getElem?_eq_getElem (by omega)⟩, ?_, rfl⟩
  have hlt : es.length - 1 - k < es.length := by omega
  unfold downAll
  rw [List.getElem?_reverse (by simpa using h), List.length_map, List.length_finRange, List.getElem?_map, List.getElem?_eq_getElem (by simpa using hlt)]
  simp
theorem downAll_map (es : List El) : (downAll es).map (fun x => x.1.2.2) = (es.map (·.2)).reverse := by
  unfold downAll
  rw [List.map_reverse]
  congr 1
  refine List.ext_getElem (by simp) (fun i h1 h2 => by simp)

theorem backward_any (w : World) (v : Value) (es : List El) (F : Nat → Prop) (h : Cells2 w F v es) :
    Calls Tryd.prog 79 #[v] w fun e w' => e = .returned (.func (.func 99) #[] #[.pointer (some ⟨w.heap.size, 0, none⟩)]) ∧ w.alloc (.cells #[v] 22) = w' := by
  obtain ⟨a, c, rfl, _⟩ := h.shape
  go_enter Tryd.func79, Tryd.ntmps79
  go_wp2_with (fail)
  go_ret
  exact ⟨rfl, rfl⟩

set_option maxRecDepth 100000 in
set_option maxHeartbeats 2000000 in
theorem backward1_in (n : Nat) (hn : 1 ≤ n) (l Bs n₀ : Nat) (v : Value) (es : List El) (hm : es.length ≤ 1000000) (J Jx : List (At es) → World → Prop)
    (hY : ∀ pre x W, J pre W → pre.length < es.length → YieldAt Fence.wide (n - 1) Tryd.prog l (encAt x) W fun e W' =>
      (e = .returned (.bool true) ∧ J (pre ++ [x]) W' ∧ Below n₀ W W') ∨ (e = .returned (.bool false) ∧ Jx (pre ++ [x]) W'))
    (W : World) (hBs : W.cell? ⟨Bs, 0, none⟩ = some v) (hBn : Bs < n₀) (hc : Cells2 W (fun b => b < n₀) v es) (h0 : J [] W) :
    CallsIn Fence.wide n Tryd.prog 99 #[.func (.yield l) #[] #[], .pointer (some ⟨Bs, 0, none⟩)] W fun e W' => (∃ v, e = .returned v) ∧
      ((∃ ys, ys = downAll es ∧ J ys W') ∨ (∃ pre, pre <+: downAll es ∧ Jx pre W')) := by
  obtain ⟨a, c, rfl, l1, m1, hnil⟩ := hc.shape
  unfold maxLen at m1
  refine callsIn_of_wp Tryd.func99 rfl trivial ?_ rfl
  simp only [Tryd.ntmps99, List.size_toArray, List.length_cons, List.length_nil, Nat.reduceAdd, Nat.reduceSub, Array.replicate_succ, Array.replicate_zero, List.push_toArray, List.append_toArray, List.nil_append, List.cons_append]
  gi_wp2
  have Hc := Lib.hid hc
  have HY := Lib.hid hY
  clear hc hY
  gi_loopw [3] (fun i wr => ∃ j : Int, -1 ≤ j ∧ j < es.length ∧ i = .int .i64 j ∧ J ((downAll es).take ((es.length : Int) - 1 - j).toNat) wr ∧ Below n₀ W wr) (fun i _ => ((match i with | .int _ z => z | _ => 0) + 1).toNat)
  case atStart => exact ⟨(es.length : Int) - 1, by omega, by omega, rfl, by simpa using h0, Below.refl _ _⟩
  case round =>
    obtain ⟨j, hj0, hj, rfl, hJs, hnx⟩ := hrel
    have hbx := (hnx.cell (p := ⟨Bs, 0, none⟩) hBn).trans hBs
    by_cases hlt : 0 ≤ j
    · obtain ⟨jn, rfl⟩ := Int.eq_ofNat_of_zero_le hlt
      have hjn : jn < es.length := by omega
      have hk : ((es.length : Int) - 1 - jn).toNat = es.length - 1 - jn := by omega
      rw [hk] at hJs
      obtain ⟨x, hx, hx1⟩ := downAll_get es (es.length - 1 - jn) (by omega)
      rw [show es.length - 1 - (es.length - 1 - jn) = jn by omega] at hx1
      have hxe := x.2
      rw [hx1] at hxe
      obtain ⟨b, off, rfl, hb⟩ := Hc.out.addr (by omega)
      obtain ⟨c0, c1⟩ := Hc.out.cell _ _ hxe
      have d0 := (hnx.cell (p := ⟨b, off + jn * 2, none⟩) hb).trans c0
      have d1 := (hnx.cell (p := ⟨b, off + jn * 2 + 1, none⟩) hb).trans c1
      obtain ⟨fn, tmps, assign, body, hy, hR⟩ := HY.out _ x wr hJs (by rw [List.length_take, downAll_length]; omega)
      have henc : encAt x = #[.int .i64 jn, .agg #[x.1.2.1, .int .u64 x.1.2.2.2]] := by unfold encAt; rw [hx1]
      rw [henc] at hy
      have htake : (downAll es).take (es.length - 1 - jn) ++ [x] = (downAll es).take (es.length - 1 - jn + 1) := by rw [List.take_add_one, hx]; rfl
      have i1 : (jn : Int) < (es.length : Int) := by omega
      generalize x.1.2.1 = kv at *
      generalize x.1.2.2.2 = xv at *
      have Hcells := Lib.hid c0
      have Hx := Lib.hid hx
      clear hx
      have Hx1 := Lib.hid hx1
      clear hx1
      have Hxe := Lib.hid hxe
      clear hxe
      have Henc := Lib.hid henc
      clear henc
      have Htake := Lib.hid htake
      clear htake
      have Hk := Lib.hid hk
      clear hk
      have HJs := Lib.hid hJs
      clear hJs
      have HR := Lib.hid hR
      clear hR
      clear c0 c1
      gi_wp2
      refine HR.out.mono ?_
      rintro e W3 (⟨rfl, hJ3, hk3⟩ | ⟨rfl, hJx3⟩)
      · have HJ3 := Lib.hid hJ3
        clear hJ3
        gi_wp2
        go_roundw
        case rel =>
          refine ⟨(jn : Int) - 1, by omega, by omega, rfl, ?_, hnx.trans hk3⟩
          have := HJ3.out
          rw [Htake.out] at this
          rw [show ((es.length : Int) - 1 - ((jn : Int) - 1)).toNat = es.length - 1 - jn + 1 by omega]
          exact this
        case measure => simp <;> omega
      · have HJx3 := Lib.hid hJx3
        clear hJx3
        gi_wp2
        refine bodyPost_ret (results_none rfl _ _ _) rfl ?_
        have := HJx3.out
        rw [Htake.out] at this
        exact ⟨⟨_, rfl⟩, .inr ⟨_, List.take_prefix _ _, this⟩⟩
    · obtain rfl : j = -1 := by omega
      have hfin : J (downAll es) W → True := fun _ => trivial
      have hall : (downAll es).take ((es.length : Int) - 1 - (-1)).toNat = downAll es := List.take_of_length_le (by rw [downAll_length]; omega)
      rw [hall] at hJs
      have HJs := Lib.hid hJs
      clear hJs
      have Hall := Lib.hid hall
      clear hall
      gi_wp2
      go_end0
      first | exact ⟨⟨_, rfl⟩, .inl ⟨_, rfl, HJs.out⟩⟩ | exact ⟨⟨_, rfl⟩, .inl HJs.out⟩

theorem backward_stops (n : Nat) (hn : 1 ≤ n) (Bs n₀ : Nat) (v : Value) (es : List El) (hm : es.length ≤ 1000000) (w : World) (hBs : Bs < n₀) (hn₀ : n₀ ≤ w.heap.size) (hc : w.cell? ⟨Bs, 0, none⟩ = some v) (h : Cells2 w (fun b => b < n₀) v es) :
    SeqStopsK Fence.wide n Tryd.prog 99 #[.pointer (some ⟨Bs, 0, none⟩)] (fun x : At es => #[.int .i64 x.1.1, .agg #[x.1.2.1, .int .u64 x.1.2.2.2]]) (Below n₀) (fun ys => ys = downAll es) (fun pre => pre <+: downAll es) es.length w := fun l J Jx W hW _ _ hY h0 => by
  have t : Ext w W := Touch.of_below hW
  exact backward1_in n hn l Bs n₀ v es hm J Jx hY W (keepc t id hc) hBs (h.ext t) h0

theorem cell_at_new (w : World) (o : Array Value) (t : TypeId) {n : Nat} (hn : n = w.heap.size) (i : Nat) (v : Value) (h : o[i]? = some v) : (w.alloc (.cells o t)).cell? ⟨n, i, none⟩ = some v := by
  subst hn; rw [World.cell?_alloc_new]; exact h
theorem frozen_at_new (w : World) (o : Array Value) (t : TypeId) {n : Nat} (hn : n = w.heap.size) (i : Nat) : (w.alloc (.cells o t)).frozen? ⟨n, i, none⟩ = false := by
  subst hn; exact World.frozen?_alloc_new _ _ _ _

theorem own_ofFrom {β : Type} (e size : Nat) (f : β → Value) (m : β → Nat) (g : β → List Value) : Own (fun s W => W.ownsRow 0 e size (f s) (m s) (g s)) := fun s X Y row hs hg hrow =>
  hs.kept hg (by
    cases hv : (f s).ownBlock with
    | none => exact Or.inl rfl
    | some b =>
      refine Or.inr fun h => ?_
      obtain ⟨o, ho, hc⟩ := hrow b h.symm
      rcases hs.2 with ⟨h1, _⟩ | ⟨g', c', cur, h1, _, hgg, _⟩
      · rw [h1] at hv; cases hv
      · rw [h1] at hv; cases hv
        rw [hgg] at ho; cases ho; cases hc)

/-- what a round finds -/
theorem find_prefix {α β : Type} {R : List α} {f : α → β} {p : β → Bool} {pre : List α} {x : α} (hp : pre ++ [x] <+: R) (hno : ∀ y ∈ pre, p (f y) = false) (hyes : p (f x) = true) : (R.map f).find? p = some (f x) := by
  obtain ⟨t, rfl⟩ := hp
  rw [List.map_append, List.map_append, List.find?_append, List.find?_append]
  have h1 : (pre.map f).find? p = none := by
    rw [List.find?_eq_none]
    intro y hy
    rw [List.mem_map] at hy
    obtain ⟨z, hz, rfl⟩ := hy
    rw [hno z hz]; simp
  rw [h1]
  simp [hyes]
theorem find_none {α β : Type} {R : List α} {f : α → β} {p : β → Bool} (hno : ∀ y ∈ R, p (f y) = false) : (R.map f).find? p = none := by
  rw [List.find?_eq_none]
  intro y hy
  rw [List.mem_map] at hy
  obtain ⟨z, hz, rfl⟩ := hy
  rw [hno z hz]; simp
variable {F G : Nat → Prop}
set_option maxRecDepth 100000 in
set_option maxHeartbeats 2000000 in
theorem longest_some (w : World) (g : Nat) (kw : Value) (ps : Prs) (k : List Int) (h : Mp w g F ps) (hk : RB w G kw k) (kb : KB k) (hm : ps.length ≤ 1000000) :
    Calls Tryd.prog 51 #[.pointer (some ⟨g, 0, none⟩), kw] w (PairRet w (longestK ps k)) := by
  have hmp := h
  obtain ⟨v, es, hes, c0, f0, hg, ho, hF, hks, hFlt, hr, hp⟩ := h
  have hc2 : Cells2 w (fun b => b < w.heap.size) v es := Cells2.of_own ho (fun b hb => hFlt b (hF b hb).1)
  obtain ⟨a, c, rfl⟩ := own_len ho
  obtain ⟨ka, kc, rfl, _⟩ := hk.shape
  have hel : es.length = ps.length := by rw [← hes]; simp
  obtain ⟨W0, hW0⟩ : ∃ W0, W0 = ((w.alloc (.cells #[.slice ka k.length kc] 23)).alloc (.cells #[.slice none 0 0, .int .u64 0] 33)).alloc (.cells #[.bool false] 4) := ⟨_, rfl⟩
  have t0 : Ext w W0 := by rw [hW0]; exact (((Touch.refl _ _).alloc _).alloc _).alloc _
  have d0 := keepc t0 id c0
  have hW0s : W0.heap.size = w.heap.size + 3 := by rw [hW0, World.size_alloc, World.size_alloc, World.size_alloc]
  have s1 : (w.alloc (.cells #[.slice ka k.length kc] 23)).heap.size = w.heap.size + 1 := World.size_alloc _ _
  have s2 : ((w.alloc (.cells #[.slice ka k.length kc] 23)).alloc (.cells #[.slice none 0 0, .int .u64 0] 33)).heap.size = w.heap.size + 1 + 1 := by rw [World.size_alloc, World.size_alloc]
  have t1 : Ext (w.alloc (.cells #[.slice ka k.length kc] 23)) W0 := by rw [hW0]; exact ((Touch.refl _ _).alloc _).alloc _
  have t2 : Ext ((w.alloc (.cells #[.slice ka k.length kc] 23)).alloc (.cells #[.slice none 0 0, .int .u64 0] 33)) W0 := by rw [hW0]; exact (Touch.refl _ _).alloc _
  have k0 : W0.cell? ⟨w.heap.size, 0, none⟩ = some (.slice ka k.length kc) := keepc t1 id (cell_at_new w _ _ rfl 0 _ rfl)
  have p0 : W0.cell? ⟨w.heap.size + 1, 0, none⟩ = some (.slice none 0 0) := keepc t2 id (cell_at_new _ _ _ s1.symm 0 _ rfl)
  have p1 : W0.cell? ⟨w.heap.size + 1, 1, none⟩ = some (.int .u64 0) := keepc t2 id (cell_at_new _ _ _ s1.symm 1 _ rfl)
  have b0 : W0.cell? ⟨w.heap.size + 1 + 1, 0, none⟩ = some (.bool false) := by rw [hW0]; exact cell_at_new _ _ _ s2.symm 0 _ rfl
  have pf0 : W0.frozen? ⟨w.heap.size + 1, 0, none⟩ = false := keepf (p := ⟨w.heap.size + 1, 0, none⟩) t2 (by simp only [s2]; omega) id (frozen_at_new _ _ _ s1.symm 0)
  have pf1 : W0.frozen? ⟨w.heap.size + 1, 1, none⟩ = false := keepf (p := ⟨w.heap.size + 1, 1, none⟩) t2 (by simp only [s2]; omega) id (frozen_at_new _ _ _ s1.symm 1)
  have bf0 : W0.frozen? ⟨w.heap.size + 1 + 1, 0, none⟩ = false := by rw [hW0]; exact frozen_at_new _ _ _ s2.symm 0
  clear s1 s2 t1 t2
  rw [hW0] at d0
  have Hes := Lib.hid hes
  clear hes
  have Ho := Lib.hid ho
  clear ho
  have HF := Lib.hid hF
  clear hF
  have Hks := Lib.hid hks
  clear hks
  have HFlt := Lib.hid hFlt
  clear hFlt
  have Hr := Lib.hid hr
  clear hr
  have Hp := Lib.hid hp
  clear hp
  have Hmp := Lib.hid hmp
  clear hmp
  have Hk := Lib.hid hk
  clear hk
  have Hc2 := Lib.hid hc2
  clear hc2
  have HW0 := Lib.hid hW0
  clear hW0
  have HW0s := Lib.hid hW0s
  clear hW0s
  have Hel := Lib.hid hel
  clear hel
  refine (callsIn_wide (n := 3)).1 ?_
  refine callsIn_of_wp_marks Tryd.func51 rfl trivial ?_ rfl
  simp only [Tryd.ntmps51, List.size_toArray, List.length_cons, List.length_nil, Nat.reduceAdd, Nat.reduceSub, Array.replicate_succ, Array.replicate_zero, List.push_toArray, List.append_toArray, List.nil_append, List.cons_append]
  gi_wp2
  refine ⟨trivial, ?_⟩
  rw [← HW0.out]
  refine (callsIn_wide.2 (backward_any _ _ es (fun b => b < w.heap.size) (Hc2.out.ext t0))).mono ?_
  rintro e w1 ⟨rfl, rfl⟩
  gi_wp2
  obtain ⟨WB, hWB⟩ : ∃ WB, WB = W0.alloc (.cells #[.slice a es.length c] 22) := ⟨_, rfl⟩
  have tB : Ext W0 WB := by rw [hWB]; exact (Touch.refl _ _).alloc _
  have hBs : WB.heap.size = W0.heap.size + 1 := by rw [hWB, World.size_alloc]
  have hbx : WB.cell? ⟨W0.heap.size, 0, none⟩ = some (.slice a es.length c) := by rw [hWB]; exact cell_at_new _ _ _ rfl 0 _ rfl
  rw [← hWB]
  have k1 := keepc tB id k0
  have p2 := keepc tB id p0
  have p3 := keepc tB id p1
  have b1 := keepc tB id b0
  have pf2 := keepf (p := ⟨w.heap.size + 1, 0, none⟩) tB (World.block_lt_of_cell? _ _ p0) id pf0
  have pf3 := keepf (p := ⟨w.heap.size + 1, 1, none⟩) tB (World.block_lt_of_cell? _ _ p1) id pf1
  have bf1 := keepf (p := ⟨w.heap.size + 1 + 1, 0, none⟩) tB (World.block_lt_of_cell? _ _ b0) id bf0
  have hBw : Below w.heap.size w WB := (t0.trans' tB).below (fun _ h _ => h)
  have hwB : w.heap.size + 4 = WB.heap.size := by rw [hBs, HW0s.out]
  have hcB : Cells2 WB (fun b => b < WB.heap.size) (.slice a es.length c) es := ((Hc2.out.ext t0).ext tB).mono (fun b hb => by omega)
  have hst := backward_stops 2 (by omega) W0.heap.size WB.heap.size _ es (by have := Hel.out; omega) WB (by omega) (Nat.le_refl _) hbx hcB
  have hmap := downAll_map es
  have HWB := Lib.hid hWB
  clear hWB
  have Hst := Lib.hid hst
  clear hst
  have Hmap := Lib.hid hmap
  clear hmap
  have HcB := Lib.hid hcB
  clear hcB
  clear k0 p0 p1 b0 pf0 pf1 bf0 d0
  refine wpIn_rangeFunc_ownH (rfl : Fence.wide.round = none) (by omega : 1 ≤ 3) (gf := 99) (lb := #[.pointer (some ⟨W0.heap.size, 0, none⟩)]) rfl trivial
    (enters_of Tryd.func99 (by kernel_rfl) rfl) Hst.out belowK_t (belowK_b (Nat.le_refl _)) (Below.refl _ _) (fun _ => rfl)
    (fun pre W => (∀ y ∈ pre, begK k y.1.2.2.1 = false) ∧ Below WB.heap.size WB W)
    (fun cc pre W => (cc = .ret ∧ ∃ init x kv', pre = init ++ [x] ∧ (∀ y ∈ init, begK k y.1.2.2.1 = false) ∧ begK k x.1.2.2.1 = true ∧ W.cell? ⟨w.heap.size + 1, 0, none⟩ = some kv' ∧ W.cell? ⟨w.heap.size + 1, 1, none⟩ = some (.int .u64 x.1.2.2.2) ∧
      W.cell? ⟨w.heap.size + 1 + 1, 0, none⟩ = some (.bool true) ∧ OB W (Ge WB.heap.size) kv' x.1.2.2.1) ∧ Below w.heap.size w W)
    ?hI ?hIx ⟨fun y hy => by simp at hy, Below.refl _ _⟩
    (fun x a' W => ∃ Bx, WB.heap.size ≤ Bx ∧ W.heap[Bx]? = some (.cells #[x.1.2.1, .int .u64 x.1.2.2.2] 33 (0, 0)) ∧ a' = { tmps := #[.pointer (some ⟨g, 0, none⟩), .slice ka k.length kc, undef, .pointer (some ⟨w.heap.size, 0, none⟩), .pointer (some ⟨w.heap.size + 1, 0, none⟩), .pointer (some ⟨w.heap.size + 1 + 1, 0, none⟩), undef, .pointer (some ⟨Bx, 0, none⟩),
      .pointer (some ⟨g, 0, none⟩), .bool false, undef, .pointer (some ⟨g, 0, none⟩), .pointer (some ⟨g, 0, none⟩), .pointer (some ⟨g, 0, none⟩), .slice a es.length c, .func (.func 99) #[] #[.pointer (some ⟨W0.heap.size, 0, none⟩)], .int .i64 x.1.1, .agg #[x.1.2.1, .int .u64 x.1.2.2.2], undef, undef, undef, undef, undef, undef, undef], defers := [] })
    ?hAx ?assign ?body ?done ?stop
  case hI => exact OwnFrom.and (ownFrom_pure _ (fun pre : List (At es) => ∀ y ∈ pre, begK k y.1.2.2.1 = false)) (ownFrom_below (Nat.le_refl _) (Nat.le_refl _))
  case hIx =>
    intro cc s W W' row hs hg hr
    obtain ⟨⟨rfl, init, x, kv', h1, h2, h3, h4, h5, h6, h7⟩, h8⟩ := hs
    have hr' := fun r e => (hr r e).2
    refine ⟨⟨rfl, init, x, kv', h1, h2, h3, cell_kept h4 hg hr', cell_kept h5 hg hr', cell_kept h6 hg hr', ?_, h7.2⟩, ?_⟩
    · exact own_ofFrom (β := Unit) _ _ (fun _ => kv') (fun _ => _) (fun _ => _) () W W' row h7.1 hg hr'
    · exact h8.grown hg h8.size (fun j e => by have := (hr j e).1; omega)
  case hAx =>
    rintro x a' s W W' row ⟨Bx, h1, h2, h3⟩ hg hr
    refine ⟨Bx, h1, (hg.block Bx (Array.getElem?_eq_some_iff.1 h2).1 (fun e => ?_)).trans h2, h3⟩
    obtain ⟨o, ho, hc⟩ := (hr Bx e.symm).2
    rw [h2] at ho; cases ho; cases hc
  case assign =>
    rintro l pre x W K ⟨h1, h2⟩ hK
    have hxm : x.1.2 ∈ es := List.mem_of_getElem? x.2
    obtain ⟨xa, xc, hxs, _⟩ := (Hks.out _ hxm).shape
    obtain ⟨⟨idx, xkv, xk, xv⟩, hx⟩ := x
    simp only at hxs hK ⊢
    subst hxs
    have hsz := h2.size
    gi_wp2
    refine hK _ _ ?_ ?_ ⟨h1, ?_⟩ ⟨W.heap.size, hsz, ?_, rfl⟩
    · exact (KeepsOthers.alloc _ _).from _
    · exact (Below.refl _ W).alloc hsz _
    · exact h2.alloc hsz _
    · exact heap_alloc_new W _
  case body =>
    rintro l pre x a' W hl ⟨rr, hrr⟩ ⟨hno, hB⟩ ⟨Bx, hBx, hbx2, rfl⟩ hlt
    have hxm : x.1.2 ∈ es := List.mem_of_getElem? x.2
    have hrb := Hks.out _ hxm
    have hkb := (Hp.out x.1.2.2 (by rw [← Hes.out]; exact List.mem_map_of_mem hxm)).1
    have hkl := (Hp.out x.1.2.2 (by rw [← Hes.out]; exact List.mem_map_of_mem hxm)).2
    obtain ⟨xa, xc, hxs, _⟩ := hrb.shape
    obtain ⟨⟨idx, xkv, xk, xv⟩, hx⟩ := x
    simp only at hxs hrb hkb hkl hbx2 ⊢
    subst hxs
    have tW : Ext WB W := Touch.of_below hB
    have twW : Ext w W := t0.trans' (tB.trans' tW)
    have x0 : W.cell? ⟨Bx, 0, none⟩ = some (.slice xa xk.length xc) := by simp [World.cell?, hbx2]
    have x1 : W.cell? ⟨Bx, 1, none⟩ = some (.int .u64 xv) := by simp [World.cell?, hbx2]
    have k2 := keepc tW id k1
    have q0 := keepc tW id p2
    have q1 := keepc tW id p3
    have qb := keepc tW id b1
    have qf0 := keepf (p := ⟨w.heap.size + 1, 0, none⟩) tW (World.block_lt_of_cell? _ _ p2) id pf2
    have qf1 := keepf (p := ⟨w.heap.size + 1, 1, none⟩) tW (World.block_lt_of_cell? _ _ p3) id pf3
    have qfb := keepf (p := ⟨w.heap.size + 1 + 1, 0, none⟩) tW (World.block_lt_of_cell? _ _ b1) id bf1
    have hbeg := begins_any W G _ (.slice ka k.length kc) (.slice xa xk.length xc) k xk (Hk.out.ext twW) (hrb.ext twW) kb hkb
    have hcop := pcopied_any (G := fun b => F b ∧ b ≠ g ∧ (Value.slice a es.length c).ownBlock ≠ some b) W (.slice xa xk.length xc) xv xk (hrb.ext twW) (by omega)
    by_cases hbk : begK k xk = true
    · rw [hbk] at hbeg
      have Hbeg := Lib.hid hbeg
      clear hbeg
      have Hcop := Lib.hid hcop
      clear hcop
      have Hrb := Lib.hid hrb
      clear hrb
      have Hkb := Lib.hid hkb
      clear hkb
      have Hno := Lib.hid hno
      clear hno
      have Hbk := Lib.hid hbk
      clear hbk
      gi_wp2
      refine ⟨trivial, ?_⟩
      refine (CallsIn.inRound l (callsIn_wide.2 Hbeg.out)).mono ?_
      rintro e w' ⟨rfl, rfl⟩
      gi_wp2
      refine ⟨trivial, ?_⟩
      refine (CallsIn.inRound l (callsIn_wide.2 Hcop.out)).mono ?_
      rintro e w2 ⟨⟨kv', rfl, hob⟩, ht2⟩
      obtain ⟨va, vc, rfl⟩ := hob.shape
      have e0 := keepc ht2 id q0
      have e1 := keepc ht2 id q1
      have eb := keepc ht2 id qb
      have g0 := keepf (p := ⟨w.heap.size + 1, 0, none⟩) ht2 (World.block_lt_of_cell? _ _ q0) id qf0
      have g1 := keepf (p := ⟨w.heap.size + 1, 1, none⟩) ht2 (World.block_lt_of_cell? _ _ q1) id qf1
      have gb := keepf (p := ⟨w.heap.size + 1 + 1, 0, none⟩) ht2 (World.block_lt_of_cell? _ _ qb) id qfb
      have hsz2 := ht2.size
      have hszW := hB.size
      clear q0 q1 qb qf0 qf1 qfb
      have Hob := Lib.hid hob
      clear hob
      gi_wp2
      have tt : Touch (fun j => j = w.heap.size + 1 ∨ j = w.heap.size + 1 + 1) w2 (((w2.setCell ⟨w.heap.size + 1, 0, none⟩ (.slice va xk.length vc)).setCell ⟨w.heap.size + 1, 1, none⟩ (.int .u64 xv)).setCell ⟨w.heap.size + 1 + 1, 0, none⟩ (.bool true)) :=
        Touch.setCell (S := fun j => j = w.heap.size + 1 ∨ j = w.heap.size + 1 + 1) (Touch.setCell (S := fun j => j = w.heap.size + 1 ∨ j = w.heap.size + 1 + 1) (Touch.setCell (S := fun j => j = w.heap.size + 1 ∨ j = w.heap.size + 1 + 1) (Touch.refl _ _) (p := ⟨w.heap.size + 1, 0, none⟩) (Or.inl (Or.inl rfl)) _) (p := ⟨w.heap.size + 1, 1, none⟩) (Or.inl (Or.inl rfl)) _) (p := ⟨w.heap.size + 1 + 1, 0, none⟩) (Or.inl (Or.inr rfl)) _
      refine ⟨((((KeepsOthers.of_grownBy (row := none) ⟨ht2.os, ht2.tape, ht2.output, ht2.size, fun j hj _ => ht2.block j hj id⟩ (fun j o h => by cases h)).trans (KeepsOthers.setCell _ _ _)).trans (KeepsOthers.setCell _ _ _)).trans (KeepsOthers.setCell _ _ _)).from _,
        ⟨rfl, pre, ⟨(idx, .slice xa xk.length xc, xk, xv), hx⟩, .slice va xk.length vc, rfl, Hno.out, Hbk.out, ?_, ?_, ?_, ?_⟩, ?_⟩
      · rw [World.cell?_setCell_other _ _ _ _ (by simp), World.cell?_setCell_other _ _ _ _ (by simp)]
        exact World.cell?_setCell_same _ _ _ e0
      · rw [World.cell?_setCell_other _ _ _ _ (by simp)]
        exact World.cell?_setCell_same _ _ _ (by rw [World.cell?_setCell_other _ _ _ _ (by simp)]; exact e1)
      · exact World.cell?_setCell_same _ _ _ (by rw [World.cell?_setCell_other _ _ _ _ (by simp), World.cell?_setCell_other _ _ _ _ (by simp)]; exact eb)
      · exact (Hob.out.keep' tt (fun b hb hb' => by have h1 : W.heap.size ≤ b := Hob.out.2 b hb; omega)).mono (fun b hb => by have h1 : W.heap.size ≤ b := hb; unfold Ge; omega)
      · exact Touch.below ((twW.trans' ht2).ext_new tt (fun j hj => by omega)) (fun _ h _ => h)
    · have hbk' : begK k xk = false := by simpa using hbk
      rw [hbk'] at hbeg
      have Hbeg := Lib.hid hbeg
      clear hbeg
      have Hcop := Lib.hid hcop
      clear hcop
      have Hrb := Lib.hid hrb
      clear hrb
      have Hkb := Lib.hid hkb
      clear hkb
      have Hno := Lib.hid hno
      clear hno
      have Hbk' := Lib.hid hbk'
      clear hbk'
      clear hbk
      gi_wp2
      refine ⟨trivial, ?_⟩
      refine (CallsIn.inRound l (callsIn_wide.2 Hbeg.out)).mono ?_
      rintro e w' ⟨rfl, rfl⟩
      gi_wp2
      refine ⟨KeepsFrom.refl _ _, Below.refl _ _, fun y hy => ?_, hB⟩
      rw [List.mem_append, List.mem_singleton] at hy
      rcases hy with hy | rfl
      · exact Hno.out y hy
      · exact Hbk'.out
  case done =>
    rintro D ys W hD rfl ⟨hno, hB⟩ hKD
    have tW : Ext WB W := Touch.of_below hB
    have q0 := keepc tW id p2
    have q1 := keepc tW id p3
    have qb := keepc tW id b1
    have qf0 := keepf (p := ⟨w.heap.size + 1, 0, none⟩) tW (World.block_lt_of_cell? _ _ p2) id pf2
    have qf1 := keepf (p := ⟨w.heap.size + 1, 1, none⟩) tW (World.block_lt_of_cell? _ _ p3) id pf3
    have qfb := keepf (p := ⟨w.heap.size + 1 + 1, 0, none⟩) tW (World.block_lt_of_cell? _ _ b1) id bf1
    have hfin : longestK ps k = none := by
      unfold longestK
      rw [← Hes.out, ← Hmap.out]
      exact find_none (f := fun x : At es => x.1.2.2) (p := fun p => begK k p.1) hno
    have Hno := Lib.hid hno
    clear hno
    have Hfin := Lib.hid hfin
    clear hfin
    gi_wp2
    have tt : Touch (fun j => j = w.heap.size + 1 ∨ j = w.heap.size + 1 + 1) W (((W.setCell ⟨w.heap.size + 1, 0, none⟩ (.slice none 0 0)).setCell ⟨w.heap.size + 1, 1, none⟩ (.int .u64 0)).setCell ⟨w.heap.size + 1 + 1, 0, none⟩ (.bool false)) :=
      Touch.setCell (S := fun j => j = w.heap.size + 1 ∨ j = w.heap.size + 1 + 1) (Touch.setCell (S := fun j => j = w.heap.size + 1 ∨ j = w.heap.size + 1 + 1) (Touch.setCell (S := fun j => j = w.heap.size + 1 ∨ j = w.heap.size + 1 + 1) (Touch.refl _ _) (p := ⟨w.heap.size + 1, 0, none⟩) (Or.inl (Or.inl rfl)) _) (p := ⟨w.heap.size + 1, 1, none⟩) (Or.inl (Or.inl rfl)) _) (p := ⟨w.heap.size + 1 + 1, 0, none⟩) (Or.inl (Or.inr rfl)) _
    have hKD' := (((KeepsOthers.setCell W ⟨w.heap.size + 1, 0, none⟩ (.slice none 0 0)).trans (KeepsOthers.setCell _ ⟨w.heap.size + 1, 1, none⟩ (.int .u64 0))).trans (KeepsOthers.setCell _ ⟨w.heap.size + 1 + 1, 0, none⟩ (.bool false))).same D _ hKD rfl
    have z0 : (((W.setCell ⟨w.heap.size + 1, 0, none⟩ (.slice none 0 0)).setCell ⟨w.heap.size + 1, 1, none⟩ (.int .u64 0)).setCell ⟨w.heap.size + 1 + 1, 0, none⟩ (.bool false)).cell? ⟨w.heap.size + 1, 0, none⟩ = some (.slice none 0 0) := by
      rw [World.cell?_setCell_other _ _ _ _ (by simp), World.cell?_setCell_other _ _ _ _ (by simp)]
      exact World.cell?_setCell_same _ _ _ q0
    have z1 : (((W.setCell ⟨w.heap.size + 1, 0, none⟩ (.slice none 0 0)).setCell ⟨w.heap.size + 1, 1, none⟩ (.int .u64 0)).setCell ⟨w.heap.size + 1 + 1, 0, none⟩ (.bool false)).cell? ⟨w.heap.size + 1, 1, none⟩ = some (.int .u64 0) := by
      rw [World.cell?_setCell_other _ _ _ _ (by simp)]
      exact World.cell?_setCell_same _ _ _ (by rw [World.cell?_setCell_other _ _ _ _ (by simp)]; exact q1)
    have z2 : (((W.setCell ⟨w.heap.size + 1, 0, none⟩ (.slice none 0 0)).setCell ⟨w.heap.size + 1, 1, none⟩ (.int .u64 0)).setCell ⟨w.heap.size + 1 + 1, 0, none⟩ (.bool false)).cell? ⟨w.heap.size + 1 + 1, 0, none⟩ = some (.bool false) :=
      World.cell?_setCell_same _ _ _ (by rw [World.cell?_setCell_other _ _ _ _ (by simp), World.cell?_setCell_other _ _ _ _ (by simp)]; exact qb)
    have hX : Below w.heap.size w (((W.setCell ⟨w.heap.size + 1, 0, none⟩ (.slice none 0 0)).setCell ⟨w.heap.size + 1, 1, none⟩ (.int .u64 0)).setCell ⟨w.heap.size + 1 + 1, 0, none⟩ (.bool false)) :=
      Touch.below ((t0.trans' (tB.trans' tW)).ext_new tt (fun j hj => by omega)) (fun _ h _ => h)
    refine ⟨by simp, .inl ⟨_, _, rfl, run_takeDeferred hKD', ?_⟩⟩
    have y0 := cell_kept z0 (grownBy_putObj' _ D (.deferred none)) (fun r e => by cases e; exact ⟨_, hKD', rfl⟩)
    have y1 := cell_kept z1 (grownBy_putObj' _ D (.deferred none)) (fun r e => by cases e; exact ⟨_, hKD', rfl⟩)
    have y2 := cell_kept z2 (grownBy_putObj' _ D (.deferred none)) (fun r e => by cases e; exact ⟨_, hKD', rfl⟩)
    rw [Hfin.out]
    refine ⟨.tuple #[.agg #[.slice none 0 0, .int .u64 0], .bool false], ?_, ⟨_, rfl, OB.nil _ _⟩, Touch.of_below (hX.trans (belowK_b (w := w) (Nat.le_refl _) _ D _ _ (by omega) hKD' rfl rfl))⟩
    simp [results, Tryd.f51, go_sem, y0, y1, y2]
  case stop =>
    rintro D c pre W hD hpre ⟨⟨rfl, init, x, kv', rfl, hno, hyes, z0, z1, z2, hob⟩, hX⟩ hKD
    have hfin : longestK ps k = some x.1.2.2 := by
      unfold longestK
      rw [← Hes.out, ← Hmap.out]
      exact find_prefix (f := fun x : At es => x.1.2.2) (p := fun p => begK k p.1) hpre hno hyes
    have Hob := Lib.hid hob
    clear hob
    gi_wp2
    refine ⟨by simp, .inl ⟨_, _, rfl, run_takeDeferred hKD, ?_⟩⟩
    have hg := grownBy_putObj' W D (.deferred none)
    have y0 := cell_kept z0 hg (fun r e => by cases e; exact ⟨_, hKD, rfl⟩)
    have y1 := cell_kept z1 hg (fun r e => by cases e; exact ⟨_, hKD, rfl⟩)
    have y2 := cell_kept z2 hg (fun r e => by cases e; exact ⟨_, hKD, rfl⟩)
    have hob2 : OB (W.putObj D (.deferred none)) (Ge WB.heap.size) kv' x.1.2.2.1 := ⟨own_ofFrom (β := Unit) _ _ (fun _ => kv') (fun _ => _) (fun _ => _) () W _ (some D) Hob.out.1 hg (fun r e => by cases e; exact ⟨_, hKD, rfl⟩), Hob.out.2⟩
    rw [hfin]
    refine ⟨.tuple #[.agg #[kv', .int .u64 x.1.2.2.2], .bool true], ?_, ⟨_, rfl, hob2.mono (fun b hb => by have h1 : WB.heap.size ≤ b := hb; unfold Ge; omega)⟩, Touch.of_below (hX.trans (belowK_b (w := w) (Nat.le_refl _) _ D _ _ (by omega) hKD rfl rfl))⟩
    simp [results, Tryd.f51, go_sem, y0, y1, y2]


theorem longest_nil (w : World) (kw : Value) (k : List Int) (hk : RB w G kw k) :
    Calls Tryd.prog 51 #[.pointer none, kw] w (PairRet w none) := by
  obtain ⟨ka, kc, rfl, _⟩ := hk.shape
  have Hk := Lib.hid hk
  clear hk
  go_enter Tryd.func51, Tryd.ntmps51
  go_wp2
  have c0 : (((w.alloc (.cells #[.slice ka k.length kc] 23)).alloc (.cells #[.slice none 0 0, .int .u64 0] 33)).alloc (.cells #[.bool false] 4)).cell? ⟨w.heap.size + 1, 0, none⟩ = some (.slice none 0 0) :=
    keepc (S := fun _ => False) ((Touch.refl _ _).alloc _) id (cell_at_new _ _ _ (World.size_alloc _ _).symm 0 _ rfl)
  have c1 : (((w.alloc (.cells #[.slice ka k.length kc] 23)).alloc (.cells #[.slice none 0 0, .int .u64 0] 33)).alloc (.cells #[.bool false] 4)).cell? ⟨w.heap.size + 1, 1, none⟩ = some (.int .u64 0) :=
    keepc (S := fun _ => False) ((Touch.refl _ _).alloc _) id (cell_at_new _ _ _ (World.size_alloc _ _).symm 1 _ rfl)
  have c2 : (((w.alloc (.cells #[.slice ka k.length kc] 23)).alloc (.cells #[.slice none 0 0, .int .u64 0] 33)).alloc (.cells #[.bool false] 4)).cell? ⟨w.heap.size + 1 + 1, 0, none⟩ = some (.bool false) :=
    cell_at_new _ _ _ (by rw [World.size_alloc, World.size_alloc]) 0 _ rfl
  exact bodyPost_ret (v := .tuple #[.agg #[.slice none 0 0, .int .u64 0], .bool false]) (by simp [results, Tryd.results51, go_sem, c0, c1, c2]) rfl ⟨⟨_, rfl, OB.nil _ _⟩, ((Touch.refl _ _).alloc _).alloc _ |>.alloc _⟩

theorem longest_any (w : World) (m kw : Value) (ps : Prs) (k : List Int) (h : Mq w m F ps) (hk : RB w G kw k) (kb : KB k) (hm : ps.length ≤ 1000000) :
    Calls Tryd.prog 51 #[m, kw] w (PairRet w (longestK ps k)) := by
  rcases h with ⟨rfl, rfl⟩ | ⟨g, rfl, h⟩
  · exact longest_nil w kw k hk
  · exact longest_some w g kw ps k h hk kb hm
end ModI
end Go.Proofs.YtclnnkacfanaiaaDoor
