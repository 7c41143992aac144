/- Contracts of package model: a pair of a map, its pairs. -/
import Derived.Test.YtclnnkacfanaiaaDoorModA
namespace Go.Proofs.YtclnnkacfanaiaaDoor
open Go.RowKit
set_option linter.unusedVariables false
set_option linter.unusedSimpArgs false

def keyO (o : Option (List Int × Int)) : List Int := match o with | some p => p.1 | none => []
def valO (o : Option (List Int × Int)) : Int := match o with | some p => p.2 | none => 0
/-- a pair that may be there is returned, its key one's own -/
def PairRet (w : World) (o : Option (List Int × Int)) (e : Ending) (w' : World) : Prop :=
  (∃ kv, e = .returned (.tuple #[.agg #[kv, .int .u64 (valO o)], .bool o.isSome]) ∧ OB w' (Ge w.heap.size) kv (keyO o)) ∧ Ext w w'
def selK (ps : Prs) (i : Int) : Option (List Int × Int) := if 0 ≤ i then ps[i.toNat]? else none
def floorK (ps : Prs) (k : List Int) : Option (List Int × Int) := selK ps (if hasK ps k then rk ps k else (rk ps k : Int) - 1)
def ceilK (ps : Prs) (k : List Int) : Option (List Int × Int) := selK ps (rk ps k)

theorem PairRet.after {w w1 : World} {o : Option (List Int × Int)} {e : Ending} {w' : World} (h : PairRet w1 o e w') (t : Ext w w1) : PairRet w o e w' := by
  obtain ⟨⟨kv, h1, h2⟩, h3⟩ := h
  exact ⟨⟨kv, h1, h2.mono fun b hb => Nat.le_trans t.size hb⟩, t.trans' h3⟩

/-- the end of a function that hands a pair on -/
theorem pair_tail {w W w2 : World} {kv u v : Value} {k : List Int} (t : Ext w W) (ht : Ext W w2) (hlt : w.heap.size < W.heap.size) (hob : OB w2 (Ge W.heap.size) kv k) :
    OB ((w2.setCell ⟨w.heap.size, 0, none⟩ u).setCell ⟨w.heap.size, 1, none⟩ v) (Ge w.heap.size) kv k ∧ Ext w ((w2.setCell ⟨w.heap.size, 0, none⟩ u).setCell ⟨w.heap.size, 1, none⟩ v) := by
  have tt := touch_set2 w2 w.heap.size 0 1 u v
  refine ⟨(hob.keep' tt (fun b hb hb' => ?_)).mono (fun b hb => Nat.le_trans t.size hb), (t.trans' ht).ext_new tt (fun i hi => by omega)⟩
  have h1 : W.heap.size ≤ b := hob.2 b hb
  omega

namespace ModB
open ModA
variable {F G : Nat → Prop}
theorem select_none (w : World) (m : Value) (ps : Prs) (i : Int) (h : Mq w m F ps) (hm : ps.length ≤ 1000000) (hi : i < 0 ∨ ps.length ≤ i) :
    Calls Tryd.prog 56 #[m, .int .i64 i] w (PairRet w none) := by
  rcases hi with hi | hi
  · have b0 : decide (i < 0) = true := by simpa using hi
    go_enter Tryd.func56, Tryd.ntmps56
    go_wp2_with (fail)
    refine bodyPost_ret (v := .tuple #[.agg #[.slice none 0 0, .int .u64 0], .bool false]) (by simp [results, Tryd.results56, go_sem]) rfl ⟨⟨_, rfl, OB.nil _ _⟩, ?_⟩
    exact (((Touch.refl _ _).alloc _))
  · have b0 : decide (i < 0) = false := by simp; omega
    have b1 : decide ((ps.length : Int) ≤ i) = true := by simpa using hi
    go_enter Tryd.func56, Tryd.ntmps56
    go_wp2_with (fail)
    (with_reducible refine (len_any (F := F) _ m ps (h.ext ((Touch.refl _ _).alloc _))).mono ?_)
    rintro e w1 ⟨rfl, rfl⟩
    go_wp2_with (fail)
    refine bodyPost_ret (v := .tuple #[.agg #[.slice none 0 0, .int .u64 0], .bool false]) (by simp [results, Tryd.results56, go_sem]) rfl ⟨⟨_, rfl, OB.nil _ _⟩, ?_⟩
    exact (((Touch.refl _ _).alloc _))

set_option maxRecDepth 100000 in
set_option maxHeartbeats 800000 in
theorem select_some (w : World) (m : Value) (ps : Prs) (i : Nat) (h : Mq w m F ps) (hm : ps.length ≤ 1000000) (p : List Int × Int) (hp : ps[i]? = some p) :
    Calls Tryd.prog 56 #[m, .int .i64 i] w (PairRet w (some p)) := by
  have hlt := (List.getElem?_eq_some_iff.1 hp).1
  rcases h with ⟨rfl, rfl⟩ | ⟨g, rfl, h⟩
  · simp at hp
  · obtain ⟨v, c0, hrp⟩ := h.row
    have hlong := h.long p (List.mem_of_getElem? hp)
    obtain ⟨a, c, rfl, _⟩ := hrp.shape
    obtain ⟨b, off, rfl, _⟩ := hrp.addr (by omega)
    obtain ⟨kv, c1, c2, hkv⟩ := hrp.get _ _ hp
    obtain ⟨ka, kc, rfl, _⟩ := hkv.shape
    have b0 : decide ((i : Int) < 0) = false := by simp
    have b1 : decide ((ps.length : Int) ≤ (i : Int)) = false := by simp; omega
    have t0 : Ext w (w.alloc (.cells #[.slice none 0 0, .int .u64 0] 33)) := (Touch.refl _ _).alloc _
    have hl := len_any (F := F) _ _ ps (Mq.of (h.ext t0))
    have d0 := keepc t0 id c0
    have d1 := keepc t0 id c1
    have d2 := keepc t0 id c2
    have H := Lib.hid h
    clear h
    have Hrp := Lib.hid hrp
    clear hrp
    have Hp := Lib.hid hp
    clear hp
    have Hkv := Lib.hid hkv
    clear hkv
    have Hl := Lib.hid hl
    clear hl
    clear c0 c1 c2
    have i0 : (0 : Int) ≤ (i : Int) := by omega
    have i1 : (i : Int) < (ps.length : Int) := by omega
    go_enter Tryd.func56, Tryd.ntmps56
    go_wp2_with (fail)
    refine Hl.out.mono ?_
    rintro e w1 ⟨rfl, rfl⟩
    go_wp2_with (fail)
    (with_reducible refine (pcopied_any (G := F) _ _ p.2 p.1 (Hkv.out.ext t0) (by omega)).mono ?_)
    rintro e w1 ⟨⟨kv', rfl, hob⟩, ht1⟩
    obtain ⟨va, vc, rfl⟩ := hob.shape
    have e0 := keepc (p := ⟨w.heap.size, 0, none⟩) (v := .slice none 0 0) ht1 id (by simp)
    have e1 := keepc (p := ⟨w.heap.size, 1, none⟩) (v := .int .u64 0) ht1 id (by simp)
    have f0 := keepf (p := ⟨w.heap.size, 0, none⟩) ht1 (by simp) id (by simp)
    have f1 := keepf (p := ⟨w.heap.size, 1, none⟩) ht1 (by simp) id (by simp)
    have tt := touch_set2 w1 w.heap.size 0 1 (.slice va p.1.length vc) (.int .u64 p.2)
    have r0 := set2_get0 (u := .slice va p.1.length vc) (v := .int .u64 p.2) e0
    have r1 := set2_get1 (u := .slice va p.1.length vc) (v := .int .u64 p.2) e1
    have Hob := Lib.hid hob
    clear hob
    go_wp2_with (fail)
    refine bodyPost_ret (v := .tuple #[.agg #[.slice va p.1.length vc, .int .u64 p.2], .bool true]) (by simp [results, Tryd.results56, go_sem, r0, r1]) rfl ⟨⟨_, rfl, ?_⟩, (t0.trans' ht1).ext_new tt (fun i hi => by omega)⟩
    refine (Hob.out.keep' tt (fun b hb hb' => ?_)).mono (fun b hb => ?_)
    · have h1 : (w.alloc (.cells #[.slice none 0 0, .int .u64 0] 33)).heap.size ≤ b := Hob.out.2 b hb
      simp at h1; omega
    · have h1 : (w.alloc (.cells #[.slice none 0 0, .int .u64 0] 33)).heap.size ≤ b := hb
      simp at h1; unfold Ge; omega

theorem select_any (w : World) (m : Value) (ps : Prs) (i : Int) (h : Mq w m F ps) (hm : ps.length ≤ 1000000) :
    Calls Tryd.prog 56 #[m, .int .i64 i] w (PairRet w (selK ps i)) := by
  unfold selK
  by_cases h0 : 0 ≤ i
  · rw [if_pos h0]
    by_cases h1 : i.toNat < ps.length
    · obtain ⟨n, rfl⟩ := Int.eq_ofNat_of_zero_le h0
      rw [Int.toNat_natCast] at *
      have hg := List.getElem?_eq_getElem h1
      rw [hg]
      exact select_some w m ps n h hm _ hg
    · rw [List.getElem?_eq_none (by omega)]
      exact select_none w m ps i h hm (Or.inr (by omega))
  · rw [if_neg h0]
    exact select_none w m ps i h hm (Or.inl (by omega))

set_option maxRecDepth 100000 in
set_option maxHeartbeats 800000 in
theorem ceil_any (w : World) (m kw : Value) (ps : Prs) (k : List Int) (h : Mq w m F ps) (hk : RB w G kw k) (kb : KB k) (hm : ps.length ≤ 1000000) :
    Calls Tryd.prog 55 #[m, kw] w (PairRet w (ceilK ps k)) := by
  have t0 : Ext w (w.alloc (.cells #[.slice none 0 0, .int .u64 0] 33)) := (Touch.refl _ _).alloc _
  have hf := find_any (F := F) (G := G) _ m kw ps k (h.ext t0) (hk.ext t0) kb hm
  have hs := fun (W : World) (t : Ext w W) => select_any (F := F) W m ps (rk ps k) (h.ext t) hm
  have H := Lib.hid h
  have Hf := Lib.hid hf
  clear hf
  have Hs := Lib.hid hs
  clear hs
  clear h hk
  go_enter Tryd.func55, Tryd.ntmps55
  go_wp2_with (fail)
  refine Hf.out.mono ?_
  rintro e w1 ⟨rfl, ht1⟩
  go_wp2_with (fail)
  refine (Hs.out _ (t0.trans' ht1)).mono ?_
  rintro e w2 ⟨⟨kv, rfl, hob⟩, ht2⟩
  have hce : selK ps (rk ps k) = ceilK ps k := rfl
  rw [hce] at hob ⊢
  generalize ceilK ps k = o at *
  obtain ⟨va, vc, rfl⟩ := hob.shape
  have e0 := keepc (p := ⟨w.heap.size, 0, none⟩) (v := .slice none 0 0) ((ht1).trans' (ht2)) id (by simp)
  have e1 := keepc (p := ⟨w.heap.size, 1, none⟩) (v := .int .u64 0) ((ht1).trans' (ht2)) id (by simp)
  have f0 := keepf (p := ⟨w.heap.size, 0, none⟩) ((ht1).trans' (ht2)) (by simp) id (by simp)
  have f1 := keepf (p := ⟨w.heap.size, 1, none⟩) ((ht1).trans' (ht2)) (by simp) id (by simp)
  have r0 := set2_get0 (u := .slice va (keyO (o)).length vc) (v := .int .u64 (valO (o))) e0
  have r1 := set2_get1 (u := .slice va (keyO (o)).length vc) (v := .int .u64 (valO (o))) e1
  have hend := pair_tail (u := .slice va (keyO (o)).length vc) (v := .int .u64 (valO (o))) (t0.trans' ht1) (ht2) (by have := (ht1).size; simp at this ⊢ <;> omega) hob
  have Hend := Lib.hid hend
  clear hend hob
  go_wp2_with (fail)
  exact bodyPost_ret (v := .tuple #[.agg #[.slice va (keyO (o)).length vc, .int .u64 (valO (o))], .bool (o).isSome]) (by simp [results, Tryd.results55, go_sem, r0, r1]) rfl ⟨⟨_, rfl, Hend.out.1⟩, Hend.out.2⟩

set_option maxRecDepth 100000 in
set_option maxHeartbeats 800000 in
theorem floor_any (w : World) (m kw : Value) (ps : Prs) (k : List Int) (h : Mq w m F ps) (hk : RB w G kw k) (kb : KB k) (hm : ps.length ≤ 1000000) :
    Calls Tryd.prog 54 #[m, kw] w (PairRet w (floorK ps k)) := by
  have t0 : Ext w (w.alloc (.cells #[.slice none 0 0, .int .u64 0] 33)) := (Touch.refl _ _).alloc _
  have hf := find_any (F := F) (G := G) _ m kw ps k (h.ext t0) (hk.ext t0) kb hm
  have hle := rk_le ps k
  cases hh : hasK ps k with
  | true =>
    have hce : selK ps (rk ps k) = floorK ps k := by unfold floorK; rw [if_pos hh]
    have hs := fun (W : World) (t : Ext w W) => select_any (F := F) W m ps (rk ps k) (h.ext t) hm
    rw [hce] at hs
    rw [hh] at hf
    generalize floorK ps k = o at *
    generalize rk ps k = r at *
    have Hf := Lib.hid hf
    clear hf
    have Hs := Lib.hid hs
    clear hs
    have Hce := Lib.hid hce
    clear hce
    have Hh := Lib.hid hh
    clear hh
    clear h hk
    go_enter Tryd.func54, Tryd.ntmps54
    go_wp2_with (fail)
    refine Hf.out.mono ?_
    rintro e w1 ⟨rfl, ht1⟩
    go_wp2_with (fail)
    refine (Hs.out _ (t0.trans' ht1)).mono ?_
    rintro e w2 ⟨⟨kv, rfl, hob⟩, ht2⟩
    obtain ⟨va, vc, rfl⟩ := hob.shape
    have e0 := keepc (p := ⟨w.heap.size, 0, none⟩) (v := .slice none 0 0) ((ht1).trans' (ht2)) id (by simp)
    have e1 := keepc (p := ⟨w.heap.size, 1, none⟩) (v := .int .u64 0) ((ht1).trans' (ht2)) id (by simp)
    have f0 := keepf (p := ⟨w.heap.size, 0, none⟩) ((ht1).trans' (ht2)) (by simp) id (by simp)
    have f1 := keepf (p := ⟨w.heap.size, 1, none⟩) ((ht1).trans' (ht2)) (by simp) id (by simp)
    have r0 := set2_get0 (u := .slice va (keyO (o)).length vc) (v := .int .u64 (valO (o))) e0
    have r1 := set2_get1 (u := .slice va (keyO (o)).length vc) (v := .int .u64 (valO (o))) e1
    have hend := pair_tail (u := .slice va (keyO (o)).length vc) (v := .int .u64 (valO (o))) (t0.trans' ht1) (ht2) (by have := (ht1).size; simp at this ⊢ <;> omega) hob
    have Hend := Lib.hid hend
    clear hend hob
    go_wp2_with (fail)
    exact bodyPost_ret (v := .tuple #[.agg #[.slice va (keyO (o)).length vc, .int .u64 (valO (o))], .bool (o).isSome]) (by simp [results, Tryd.results54, go_sem, r0, r1]) rfl ⟨⟨_, rfl, Hend.out.1⟩, Hend.out.2⟩
  | false =>
    have hce : selK ps ((rk ps k : Int) - 1) = floorK ps k := by unfold floorK; rw [if_neg (by simp [hh])]
    have hs := fun (W : World) (t : Ext w W) => select_any (F := F) W m ps ((rk ps k : Int) - 1) (h.ext t) hm
    rw [hce] at hs
    rw [hh] at hf
    generalize floorK ps k = o at *
    generalize rk ps k = r at *
    have Hf := Lib.hid hf
    clear hf
    have Hs := Lib.hid hs
    clear hs
    have Hce := Lib.hid hce
    clear hce
    have Hh := Lib.hid hh
    clear hh
    clear h hk
    go_enter Tryd.func54, Tryd.ntmps54
    go_wp2_with (fail)
    refine Hf.out.mono ?_
    rintro e w1 ⟨rfl, ht1⟩
    go_wp2_with (fail)
    refine (Hs.out _ (t0.trans' ht1)).mono ?_
    rintro e w2 ⟨⟨kv, rfl, hob⟩, ht2⟩
    obtain ⟨va, vc, rfl⟩ := hob.shape
    have e0 := keepc (p := ⟨w.heap.size, 0, none⟩) (v := .slice none 0 0) ((ht1).trans' (ht2)) id (by simp)
    have e1 := keepc (p := ⟨w.heap.size, 1, none⟩) (v := .int .u64 0) ((ht1).trans' (ht2)) id (by simp)
    have f0 := keepf (p := ⟨w.heap.size, 0, none⟩) ((ht1).trans' (ht2)) (by simp) id (by simp)
    have f1 := keepf (p := ⟨w.heap.size, 1, none⟩) ((ht1).trans' (ht2)) (by simp) id (by simp)
    have r0 := set2_get0 (u := .slice va (keyO (o)).length vc) (v := .int .u64 (valO (o))) e0
    have r1 := set2_get1 (u := .slice va (keyO (o)).length vc) (v := .int .u64 (valO (o))) e1
    have hend := pair_tail (u := .slice va (keyO (o)).length vc) (v := .int .u64 (valO (o))) (t0.trans' ht1) (ht2) (by have := (ht1).size; simp at this ⊢ <;> omega) hob
    have Hend := Lib.hid hend
    clear hend hob
    go_wp2_with (fail)
    exact bodyPost_ret (v := .tuple #[.agg #[.slice va (keyO (o)).length vc, .int .u64 (valO (o))], .bool (o).isSome]) (by simp [results, Tryd.results54, go_sem, r0, r1]) rfl ⟨⟨_, rfl, Hend.out.1⟩, Hend.out.2⟩

/-! ### the first pairs from a key on -/
def fromN (ps : Prs) (r : Nat) (most : Int) : Prs := (ps.drop r).take most.toNat
def fromK (ps : Prs) (k : List Int) (most : Int) : Prs := fromN ps (rk ps k) most
theorem fromN_step (ps : Prs) (r j : Nat) (p : List Int × Int) (h : ps[r + j]? = some p) : (ps.drop r).take (j + 1) = (ps.drop r).take j ++ [p] := by
  rw [List.take_add_one, List.getElem?_drop, h]; rfl
theorem fromN_end (ps : Prs) (r j : Nat) (most : Int) (h : (j : Int) = most ∨ most < j ∧ j = 0 ∨ ps.length ≤ r + j) (hj : (j : Int) ≤ most ∨ j = 0) : (ps.drop r).take j = fromN ps r most := by
  unfold fromN
  rcases h with h | h | h
  · rw [← h]; simp
  · obtain ⟨h1, rfl⟩ := h
    have : most.toNat = 0 := by omega
    rw [this]
  · rw [List.take_of_length_le (by simp; omega), List.take_of_length_le (by simp; omega)]

set_option maxRecDepth 100000 in
set_option maxHeartbeats 1600000 in
theorem from_any (w : World) (m kw : Value) (ps : Prs) (k : List Int) (most : Int) (h : Mq w m F ps) (hk : RB w G kw k) (kb : KB k) (hm : ps.length ≤ 1000000) (hV : V64 most) :
    Calls Tryd.prog 52 #[m, kw, .int .i64 most] w fun e w' => (∃ v, e = .returned v ∧ OP w' (Ge w.heap.size) v (fromK ps k most)) ∧ Ext w w' := by
  have hf := find_any (F := F) (G := G) _ m kw ps k h hk kb hm
  have hend : ∀ j : Nat, ((j : Int) = most ∨ most < j ∧ j = 0 ∨ ps.length ≤ rk ps k + j) → ((j : Int) ≤ most ∨ j = 0) → (ps.drop (rk ps k)).take j = fromK ps k most := fun j h1 h2 => fromN_end ps _ j most h1 h2
  have hrl := rk_le ps k
  generalize fromK ps k most = out at *
  generalize rk ps k = r at *
  unfold V64 at hV
  have Hf := Lib.hid hf
  clear hf
  have H := Lib.hid h
  clear h
  have Hend := Lib.hid hend
  clear hend
  clear hk
  go_enter Tryd.func52, Tryd.ntmps52
  go_wp2_with (fail)
  refine Hf.out.mono ?_
  rintro e w1 ⟨rfl, ht1⟩
  go_wp2_with (fail)
  go_loopw [7, 9] (fun s7 s9 wr => ∃ j : Nat, r + j ≤ ps.length ∧ s7 = .int .i64 ((r + j : Nat) : Int) ∧ ((j : Int) ≤ most ∨ j = 0) ∧ OP wr (Ge w.heap.size) s9 ((ps.drop r).take j) ∧ Ext w wr) (fun s7 _ _ => ps.length - (intOf s7).toNat)
  case atStart => exact ⟨0, by omega, rfl, Or.inr rfl, OP.nil _ _, ht1⟩
  case round =>
    obtain ⟨j, hj, rfl, hjm, hop, ht⟩ := hrel
    rcases h0 : H.out with ⟨rfl, rfl⟩ | ⟨g, rfl, hmp⟩
    · clear h0
      have hl := len_any (F := F) wr (.pointer none) [] (Or.inl ⟨rfl, rfl⟩)
      have hr0 : r = 0 ∧ j = 0 := by simp at hj; omega
      obtain ⟨rfl, rfl⟩ := hr0
      have hfin := Hend.out 0 (Or.inr (Or.inr (by simp))) (Or.inr rfl)
      simp only [List.take_zero] at hop hfin
      subst hfin
      have Hl := Lib.hid hl
      clear hl
      have Hop := Lib.hid hop
      clear hop
      go_wp2_with (fail)
      refine Hl.out.mono ?_
      rintro e w2 ⟨rfl, rfl⟩
      go_wp2_with (fail)
      go_ret
      exact ⟨⟨_, rfl, Hop.out⟩, ht⟩
    · clear h0
      have hl := len_any (F := F) wr _ ps (Mq.of (hmp.ext ht))
      obtain ⟨v, c0, hrp⟩ := (hmp.ext ht).row
      obtain ⟨a, c, rfl, _⟩ := hrp.shape
      obtain ⟨va, vc, hva⟩ : ∃ va vc, u9 = .slice va ((ps.drop r).take j).length vc := by
        obtain ⟨es, hes, ho, _⟩ := hop
        obtain ⟨va, vc, h⟩ := own_len ho
        exact ⟨va, vc, by rw [← hes]; simpa using h⟩
      have hlen : ((ps.drop r).take j).length = j := by simp; omega
      rw [hlen] at hva
      subst hva
      by_cases hlt : r + j < ps.length
      · by_cases hmost : (j : Int) < most
        · obtain ⟨b, off, rfl, _⟩ := hrp.addr (by omega)
          have hg := List.getElem?_eq_getElem hlt
          obtain ⟨kv, c1, c2, hkv⟩ := hrp.get _ _ hg
          have hlong := hmp.long _ (List.mem_of_getElem? hg)
          obtain ⟨ka, kc, rfl, _⟩ := hkv.shape
          generalize ps[r + j] = p at *
          have hstep := fromN_step ps r j p hg
          obtain ⟨es, hes, ho, hF, hks, hd⟩ := hop
          have hel : es.length = j := by have := congrArg List.length hes; rw [hlen] at this; simpa using this
          have Hl := Lib.hid hl
          clear hl
          have Hg := Lib.hid hg
          clear hg
          have Hkv := Lib.hid hkv
          clear hkv
          have Hes := Lib.hid hes
          clear hes
          have Ho := Lib.hid ho
          clear ho
          have HF := Lib.hid hF
          clear hF
          have Hks := Lib.hid hks
          clear hks
          have Hd := Lib.hid hd
          clear hd
          have Hel := Lib.hid hel
          clear hel
          have Hstep := Lib.hid hstep
          clear hstep
          have Hlen := Lib.hid hlen
          clear hlen
          have i0 : (0 : Int) ≤ ((r + j : Nat) : Int) := by omega
          have i1 : ((r + j : Nat) : Int) < (ps.length : Int) := by omega
          go_wp2_with (fail)
          refine Hl.out.mono ?_
          rintro e w2 ⟨rfl, rfl⟩
          go_wp2_with (fail)
          (with_reducible refine (pcopied_any (G := F) _ _ p.2 p.1 Hkv.out (by omega)).mono ?_)
          rintro e w2 ⟨⟨kv', rfl, hob⟩, ht2⟩
          obtain ⟨qa, qc, rfl⟩ := hob.shape
          have ho2 := own_keep Ho.out (ht2.alloc (.cells #[.slice qa p.1.length qc, .int .u64 p.2] 33)) (fun _ _ h => h)
          have Hob := Lib.hid hob
          clear hob
          have Ho2 := Lib.hid ho2
          clear ho2
          go_wp2_with (at_builtin; refine wpList_push_any _ rfl _ _ 22 rfl 33 _ 2 32 Tryd.underlying22 info_pair rfl (by decide) (.slice va j vc) es.length (flat es) rfl Ho2.out (some ⟨w2.heap.size, 0, none⟩) 1 1 rfl (fun h => by cases h) [.slice qa p.1.length qc, .int .u64 p.2] (by omega) rfl (src_pair _ _ _ _) (pair_one Hob.out _) (by simp [maxLen]; have := Hel.out; omega) (by have := Hel.out; omega) ?_; intro v6 w3 hown3 ht3 hb3)
          have hop3 : OP w3 (Ge w.heap.size) v6 (es.map (·.2) ++ [(p.1, p.2)]) := op_append Ho.out HF.out Hks.out Hd.out (ht2.alloc _) (Hob.out.ext ((Touch.refl _ _).alloc _)) (fun b hb => by have := ht.size; unfold Ge; omega) hown3 ht3 hb3
          have e3 : Ext w w3 := (ht.trans' (ht2.alloc _)).ext_new ht3 (fun i hi => HF.out i hi)
          have Hop3 := Lib.hid hop3
          clear hop3 hown3 hb3 ht3
          go_wp2_with (fail)
          go_roundw
          case rel =>
            refine ⟨j + 1, by omega, by go_num, Or.inl (by omega), ?_, e3⟩
            rw [Hstep.out, ← Hes.out]
            exact Hop3.out
          case measure => simp [intOf]; omega
        · have hfin := Hend.out j (by omega) hjm
          rw [hfin] at hop
          have Hl := Lib.hid hl
          clear hl
          have Hop := Lib.hid hop
          clear hop
          have Hfin := Lib.hid hfin
          clear hfin
          have Hlen := Lib.hid hlen
          clear hlen
          go_wp2_with (fail)
          refine Hl.out.mono ?_
          rintro e w2 ⟨rfl, rfl⟩
          go_wp2_with (fail)
          go_ret
          exact ⟨⟨_, rfl, Hop.out⟩, ht⟩
      · have hfin := Hend.out j (by omega) hjm
        rw [hfin] at hop
        have Hl := Lib.hid hl
        clear hl
        have Hop := Lib.hid hop
        clear hop
        have Hfin := Lib.hid hfin
        clear hfin
        have Hlen := Lib.hid hlen
        clear hlen
        go_wp2_with (fail)
        refine Hl.out.mono ?_
        rintro e w2 ⟨rfl, rfl⟩
        go_wp2_with (fail)
        go_ret
        exact ⟨⟨_, rfl, Hop.out⟩, ht⟩
end ModB
end Go.Proofs.YtclnnkacfanaiaaDoor
