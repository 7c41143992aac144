/- A tree's own calls: New, Live, Put, Drop. -/
import Derived.Test.YthfnacadabhpdaaTreeA
import Derived.Test.YthfnacadabhpdaaTreeC
namespace Go.Proofs.Ythfnacadabhpdaa
open Go.RowKit
set_option linter.unusedVariables false
set_option linter.unusedSimpArgs false

/-- block t holds a tree: its map, how many cells there are in all, how many are taken -/
def Tp (w : World) (t : Nat) (F : Nat → Prop) (ps : Prs) (most : Int) : Prop :=
  ∃ g Fm, w.cell? ⟨t, 0, none⟩ = some (.pointer (some ⟨g, 0, none⟩)) ∧ w.cell? ⟨t, 1, none⟩ = some (.int .i64 most) ∧ w.cell? ⟨t, 2, none⟩ = some (.int .i64 (szK ps)) ∧ w.frozen? ⟨t, 0, none⟩ = false ∧ w.frozen? ⟨t, 1, none⟩ = false ∧ w.frozen? ⟨t, 2, none⟩ = false ∧
    Mp w g Fm ps ∧ (∀ b, Fm b → F b ∧ b ≠ t) ∧ F t ∧ (∀ b, F b → b < w.heap.size) ∧ (szK ps : Int) ≤ most ∧ most ≤ 1048576 ∧ ps.length ≤ 1000000
namespace Tp
variable {w w' : World} {t : Nat} {F S : Nat → Prop} {ps : Prs} {most : Int}
theorem keep (h : Tp w t F ps most) (x : Touch S w w') (hd : ∀ b, F b → ¬ S b) : Tp w' t F ps most := by
  obtain ⟨g, Fm, h1, h2, h2', h3, h4, h4', h5, h6, h7, h8, h9⟩ := h
  have hn := hd t h7
  exact ⟨g, Fm, keepc x hn h1, keepc x hn h2, keepc x hn h2', keepf (p := ⟨t, 0, none⟩) x (World.block_lt_of_cell? _ _ h1) hn h3, keepf (p := ⟨t, 1, none⟩) x (World.block_lt_of_cell? _ _ h2) hn h4, keepf (p := ⟨t, 2, none⟩) x (World.block_lt_of_cell? _ _ h2') hn h4',
    h5.keep x (fun b hb => hd b (h6 b hb).1), h6, h7, fun b hb => Nat.lt_of_lt_of_le (h8 b hb) x.size, h9⟩
theorem ext (h : Tp w t F ps most) (x : Ext w w') : Tp w' t F ps most := h.keep x fun _ _ h => h
theorem map (h : Tp w t F ps most) : ∃ g Fm, w.cell? ⟨t, 0, none⟩ = some (.pointer (some ⟨g, 0, none⟩)) ∧ w.cell? ⟨t, 1, none⟩ = some (.int .i64 most) ∧ w.cell? ⟨t, 2, none⟩ = some (.int .i64 (szK ps)) ∧ Mp w g Fm ps := by
  obtain ⟨g, Fm, h1, h2, h2', h3, h4, h4', h5, h6, h7, h8, h9⟩ := h; exact ⟨g, Fm, h1, h2, h2', h5⟩
theorem self (h : Tp w t F ps most) : F t := by obtain ⟨g, Fm, h1, h2, h2', h3, h4, h4', h5, h6, h7, h8, h9⟩ := h; exact h7
theorem lt (h : Tp w t F ps most) : ∀ b, F b → b < w.heap.size := by obtain ⟨g, Fm, h1, h2, h2', h3, h4, h4', h5, h6, h7, h8, h9⟩ := h; exact h8
theorem rises (h : Tp w t F ps most) : Rises ps := by obtain ⟨g, Fm, h1, h2, h3, h4⟩ := h.map; exact h4.rises
theorem kb (h : Tp w t F ps most) : ∀ p ∈ ps, KB p.1 := by obtain ⟨g, Fm, h1, h2, h3, h4⟩ := h.map; exact h4.kb
theorem long (h : Tp w t F ps most) : ∀ p ∈ ps, p.1.length ≤ 65535 := by obtain ⟨g, Fm, h1, h2, h3, h4⟩ := h.map; exact h4.long
theorem fits (h : Tp w t F ps most) : (szK ps : Int) ≤ most ∧ most ≤ 1048576 := by obtain ⟨g, Fm, h1, h2, h2', h3, h4, h4', h5, h6, h7, h8, h9⟩ := h; exact ⟨h9.1, h9.2.1⟩
theorem few (h : Tp w t F ps most) : ps.length ≤ 1000000 := by obtain ⟨g, Fm, h1, h2, h2', h3, h4, h4', h5, h6, h7, h8, h9⟩ := h; exact h9.2.2
theorem tq (h : Tp w t F ps most) : Tq w (.pointer (some ⟨t, 0, none⟩)) (fun b => b < w.heap.size) ps := by
  obtain ⟨g, Fm, h1, h2, h2', h3, h4, h4', h5, h6, h7, h8, h9⟩ := h
  refine Or.inr ⟨t, g, rfl, h1, ?_⟩
  obtain ⟨v, es, a1, a2, a3, a4, a5, a6, a7, a8, a9, a10⟩ := h5
  exact ⟨v, es, a1, a2, a3, a8 _ a4, a5, fun b hb => ⟨a8 _ (a6 b hb).1, (a6 b hb).2⟩, fun e he => (a7 e he).mono (fun b hb => ⟨a8 _ hb.1, hb.2⟩), fun b hb => hb, a9, a10⟩
end Tp

namespace TreeB
open ModF (NewRet PutRet DropRet)
open ModA (Mq)
variable {F G : Nat → Prop}

theorem most_any (w : World) (t : Nat) (ps : Prs) (most : Int) (h : Tp w t F ps most) :
    Calls Try.prog 46 #[.pointer (some ⟨t, 0, none⟩)] w fun e w' => e = .returned (.int .i64 most) ∧ w = w' := by
  obtain ⟨g, Fm, c0, c1, c2, hmp⟩ := h.map
  have H := Lib.hid h
  clear h
  have Hmp := Lib.hid hmp
  clear hmp
  go_enter Try.func46, Try.ntmps46
  go_wp2_with (fail)
  go_ret
  exact ⟨rfl, rfl⟩
theorem live_any (w : World) (t : Nat) (ps : Prs) (most : Int) (h : Tp w t F ps most) :
    Calls Try.prog 38 #[.pointer (some ⟨t, 0, none⟩)] w fun e w' => e = .returned (.int .i64 (szK ps)) ∧ w = w' := by
  obtain ⟨g, Fm, c0, c1, c2, hmp⟩ := h.map
  have H := Lib.hid h
  clear h
  have Hmp := Lib.hid hmp
  clear hmp
  go_enter Try.func38, Try.ntmps38
  go_wp2_with (fail)
  go_ret
  exact ⟨rfl, rfl⟩

def TNew (w : World) (most : Int) (e : Ending) (w' : World) : Prop := ∃ t F, e = .returned (.pointer (some ⟨t, 0, none⟩)) ∧ Tp w' t F [] most ∧ (∀ b, F b → w.heap.size ≤ b) ∧ Ext w w'
theorem new_yes (w : World) (most : Int) (h0 : 0 ≤ most) (h1 : most ≤ 1048576) : Calls Try.prog 16 #[.int .i64 most] w (TNew w most) := by
  have hn := ModF.new_any (G := fun _ => False) w _ [] (RP.nil _ _) (by decide) (fun p hp => by simp at hp)
  unfold NewRet at hn
  have b0 : decide (most < 0) = false := by simp; omega
  have b1 : decide (1048576 < most) = false := by simp; omega
  have Hn := Lib.hid hn
  clear hn
  go_enter Try.func16, Try.ntmps16
  go_wp2_with (fail)
  (with_reducible refine Hn.out.mono ?_)
  rintro e w1 ⟨g, Fm, rfl, hmp, hF, ht⟩
  have Hmp := Lib.hid hmp
  clear hmp
  have HF := Lib.hid hF
  clear hF
  go_wp2_with (fail)
  go_ret
  have t1 : Ext w1 (w1.alloc (.cells #[.pointer (some ⟨g, 0, none⟩), .int .i64 most, .int .i64 0] 81)) := (Touch.refl _ _).alloc _
  refine ⟨w1.heap.size, fun b => b = w1.heap.size ∨ Fm b, rfl, ⟨g, Fm, by simp, by simp, by simp [szK, szT], by simp, by simp, by simp, Hmp.out.ext t1, fun b hb => ⟨Or.inr hb, fun h => by have := Hmp.out.lt b hb; omega⟩, Or.inl rfl, fun b hb => ?_, by simp [szK, szT]; omega, h1, by simp⟩, fun b hb => ?_, ht.trans' t1⟩
  · rcases hb with rfl | hb
    · simp
    · have := Hmp.out.lt b hb; simp; omega
  · rcases hb with rfl | hb
    · exact ht.size
    · exact HF.out b hb
theorem new_no (w : World) (most : Int) (h : most < 0 ∨ 1048576 < most) : Calls Try.prog 16 #[.int .i64 most] w fun e w' => e = .returned (.pointer none) ∧ w = w' := by
  rcases h with h | h
  · have b0 : decide (most < 0) = true := by simpa using h
    go_enter Try.func16, Try.ntmps16
    go_wp2_with (fail)
    go_ret
    exact ⟨rfl, rfl⟩
  · have b0 : decide (most < 0) = false := by simp; omega
    have b1 : decide (1048576 < most) = true := by simpa using h
    go_enter Try.func16, Try.ntmps16
    go_wp2_with (fail)
    go_ret
    exact ⟨rfl, rfl⟩

theorem live_nil (w : World) : Calls Try.prog 38 #[.pointer none] w fun e w' => e = .returned (.int .i64 0) ∧ w = w' := by
  go_enter Try.func38, Try.ntmps38
  go_wp2_with (fail)
  go_ret
  exact ⟨rfl, rfl⟩
theorem live_tp (w : World) (t : Nat) (ps : Prs) (most : Int) (h : Tp w t F ps most) : Calls Try.prog 38 #[.pointer (some ⟨t, 0, none⟩)] w fun e w' => e = .returned (.int .i64 (szK ps)) ∧ w = w' := live_any w t ps most h
theorem put_nil (w : World) (kw : Value) (v : Int) :
    Calls Try.prog 17 #[.pointer none, kw, .int .u64 v] w fun e w' => e = .returned (.tuple #[.int .u64 0, .bool false, .int .i64 1]) ∧ w = w' := by
  go_enter Try.func17, Try.ntmps17
  go_wp2_with (fail)
  go_ret3
  exact ⟨rfl, rfl⟩
theorem put_long (w : World) (t : Nat) (kw : Value) (k : List Int) (v : Int) (hk : RB w G kw k) (hl : 65535 < k.length) :
    Calls Try.prog 17 #[.pointer (some ⟨t, 0, none⟩), kw, .int .u64 v] w fun e w' => e = .returned (.tuple #[.int .u64 0, .bool false, .int .i64 3]) ∧ w = w' := by
  have hmay := may_any w G kw k hk
  rw [decide_eq_false (by omega)] at hmay
  have Hmay := Lib.hid hmay
  clear hmay
  go_enter Try.func17, Try.ntmps17
  go_wp2_with (fail)
  refine Hmay.out.mono ?_
  rintro e w1 ⟨rfl, rfl⟩
  go_wp2_with (fail)
  go_ret3
  exact ⟨rfl, rfl⟩

/-- what Put comes to where there is room -/
def TPut (w : World) (t : Nat) (F : Nat → Prop) (ps : Prs) (most : Int) (k : List Int) (v : Int) (e : Ending) (w' : World) : Prop :=
  e = .returned (.tuple #[.int .u64 (valK ps k), .bool (hasK ps k), .int .i64 0]) ∧ ∃ F', Tp w' t F' (putK ps k v) most ∧ Upd w w' F F'
def TDrop (w : World) (t : Nat) (F : Nat → Prop) (ps : Prs) (most : Int) (k : List Int) (e : Ending) (w' : World) : Prop :=
  e = .returned (.tuple #[.int .u64 (valK ps k), .bool (hasK ps k)]) ∧ ∃ F', Tp w' t F' (dropK ps k) most ∧ Upd w w' F F'

/-- the tree behind a change: w1 is the world in which its own cells stand as they shall, wr the one at first -/
theorem tp_mk {wr w w' : World} {t g : Nat} {F Fm Fm' : Nat → Prop} {ps' : Prs} {most : Int} (hw : Touch (fun b => b = t) wr w) (hlt : ∀ b, F b → b < wr.heap.size) (c0 : w.cell? ⟨t, 0, none⟩ = some (.pointer (some ⟨g, 0, none⟩))) (c1 : w.cell? ⟨t, 1, none⟩ = some (.int .i64 most)) (c2 : w.cell? ⟨t, 2, none⟩ = some (.int .i64 (szK ps')))
    (f0 : w.frozen? ⟨t, 0, none⟩ = false) (f1 : w.frozen? ⟨t, 1, none⟩ = false) (f2 : w.frozen? ⟨t, 2, none⟩ = false)
    (hF : ∀ b, Fm b → F b ∧ b ≠ t) (ht : F t) (hmp : Mp w' g Fm' ps') (hu : Upd w w' Fm Fm') (hsz : (szK ps' : Int) ≤ most) (hmost : most ≤ 1048576) (hmn : ps'.length ≤ 1000000) : ∃ F', Tp w' t F' ps' most ∧ Upd wr w' F F' := by
  obtain ⟨hu1, hu2⟩ := hu
  have hn : ¬ Fm t := fun h => (hF t h).2 rfl
  have hlt' := World.block_lt_of_cell? _ _ c0
  refine ⟨fun b => b = t ∨ Fm' b, ⟨g, Fm', keepc hu1 hn c0, keepc hu1 hn c1, keepc hu1 hn c2, keepf (p := ⟨t, 0, none⟩) hu1 hlt' hn f0, keepf (p := ⟨t, 1, none⟩) hu1 hlt' hn f1, keepf (p := ⟨t, 2, none⟩) hu1 hlt' hn f2, hmp, fun b hb => ⟨Or.inr hb, fun h => ?_⟩, Or.inl rfl, fun b hb => ?_, hsz, hmost, hmn⟩,
    (hw.mono (fun i hi _ => by subst hi; exact ht)).trans' (hu1.mono (fun i hi _ => (hF i hi).1)), fun b hb => ?_⟩
  · subst h
    rcases hu2 b hb with h | h
    · exact hn h
    · simp only at hlt'; omega
  · rcases hb with rfl | hb
    · exact Nat.lt_of_lt_of_le hlt' hu1.size
    · exact hmp.lt b hb
  · rcases hb with rfl | hb
    · exact Or.inl ht
    · exact (hu2 b hb).imp (fun h => (hF b h).1) (fun h => Nat.le_trans hw.size h)

set_option maxRecDepth 100000 in
set_option maxHeartbeats 800000 in
theorem put_has (w : World) (t : Nat) (kw : Value) (ps : Prs) (most : Int) (k : List Int) (v : Int) (h : Tp w t F ps most) (hm : ps.length ≤ 1000000) (hk : RB w G kw k) (kb : KB k) (hl : k.length ≤ 65535) (hh : hasK ps k = true) :
    Calls Try.prog 17 #[.pointer (some ⟨t, 0, none⟩), kw, .int .u64 v] w (TPut w t F ps most k v) := by
  have hmay := may_any w G kw k hk
  rw [decide_eq_true hl] at hmay
  obtain ⟨g, Fm, c0, c1, c2, f0, f1, f2, hmp, hF, hFt, hlt, hsz, hmost, hmn⟩ := h
  have hget := ModA.get_any w _ kw ps k (Mq.of hmp) hk kb (by omega)
  rw [hh] at hget
  have hput := fun W (x : Ext w W) => ModF.put_any W g kw ps k v (hmp.ext x) (hk.ext x) kb hl (by omega)
  unfold PutRet at hput
  unfold TPut
  have hszp : szK (putK ps k v) = szK ps := sz_put_has hh
  have c2' := c2
  have Hmay := Lib.hid hmay
  clear hmay
  have Hget := Lib.hid hget
  clear hget
  have Hput := Lib.hid hput
  clear hput
  have Hmp := Lib.hid hmp
  clear hmp
  have HF := Lib.hid hF
  clear hF
  have HFt := Lib.hid hFt
  clear hFt
  have Hlt := Lib.hid hlt
  clear hlt
  have Hsz := Lib.hid hsz
  clear hsz
  have Hszp := Lib.hid hszp
  clear hszp
  have Hk := Lib.hid hk
  clear hk
  have Hh := Lib.hid hh
  clear hh
  have C2' := Lib.hid c2'
  clear c2'
  go_enter Try.func17, Try.ntmps17
  go_wp2_with (fail)
  refine Hmay.out.mono ?_
  rintro e w1 ⟨rfl, rfl⟩
  go_wp2_with (fail)
  (with_reducible refine Hget.out.mono ?_)
  rintro e w1 ⟨rfl, ht1⟩
  have d0 := keepc ht1 id c0
  have d1 := keepc ht1 id c1
  go_wp2_with (fail)
  (with_reducible refine (Hput.out _ ht1).mono ?_)
  rintro e w2 ⟨rfl, Fm', hmp', hu⟩
  have Hmp' := Lib.hid hmp'
  clear hmp'
  have Hu := Lib.hid hu
  clear hu
  go_wp2_with (fail)
  go_ret3
  refine ⟨rfl, ?_⟩
  have hu := Hu.out
  exact tp_mk (w := w) (Touch.refl _ _) Hlt.out c0 c1 (by rw [Hszp.out]; exact C2'.out) f0 f1 f2 HF.out HFt.out Hmp'.out ⟨ht1.ext_trans hu.1, fun b hb => (hu.2 b hb).imp id (fun h => Nat.le_trans ht1.size h)⟩ (by rw [Hszp.out]; exact Hsz.out) hmost (by have := putK_length ps k v; rw [Hh.out] at this; simp at this; omega)

set_option maxRecDepth 100000 in
set_option maxHeartbeats 1600000 in
theorem put_new (w : World) (t : Nat) (kw : Value) (ps : Prs) (most : Int) (k : List Int) (v : Int) (h : Tp w t F ps most) (hm : ps.length < 1000000) (hk : RB w (fun b => b ≠ t) kw k) (kb : KB k) (hl : k.length ≤ 65535) (hh : hasK ps k = false) (hroom : (szK (putK ps k v) : Int) ≤ most) :
    Calls Try.prog 17 #[.pointer (some ⟨t, 0, none⟩), kw, .int .u64 v] w (TPut w t F ps most k v) := by
  have hmay := may_any w _ kw k hk
  rw [decide_eq_true hl] at hmay
  have hpl := h.long
  have hri := h.rises
  obtain ⟨g, Fm, c0, c1, c2, f0, f1, f2, hmp, hF, hFt, hlt, hsz, hmost, hmn⟩ := h
  have hget := ModA.get_any w _ kw ps k (Mq.of hmp) hk kb (by omega)
  rw [hh] at hget
  have hal := fun W (x : Ext w W) => TreeC.alone_any W _ kw ps k (Mq.of (hmp.ext x)) (hk.ext x) kb (by omega) hpl hl
  have hF2 : ∀ b, Fm b → ¬ b = t := fun b hb => (hF b hb).2
  have htl := World.block_lt_of_cell? _ _ c0
  simp only at htl
  have hap := alone_pos ps k
  have hput := fun W (x : Touch (fun b => b = t) w W) => ModF.put_any W g kw ps k v (hmp.keep x hF2) (hk.keep x (fun b hb h => hb h)) kb hl (by omega)
  unfold PutRet at hput
  unfold TPut
  have hz := sz_put hri (v := v) hh
  have i3 : IntKind.i64.wrap ((szK ps : Int) + (aloneK ps k : Int)) = (szK ps : Int) + (aloneK ps k : Int) := by rw [IntKind.wrap_i64]; omega
  have hb : decide (most < (szK ps : Int) + (aloneK ps k : Int)) = false := by simp; omega
  have hz2 : ((szK ps : Int) + (aloneK ps k : Int)) = ((szK (putK ps k v) : Nat) : Int) := by omega
  generalize szK ps = sz at *
  generalize aloneK ps k = al at *
  have Hmay := Lib.hid hmay
  clear hmay
  have Hget := Lib.hid hget
  clear hget
  have Hal := Lib.hid hal
  clear hal
  have Hput := Lib.hid hput
  clear hput
  have Hmp := Lib.hid hmp
  clear hmp
  have HF := Lib.hid hF
  clear hF
  have HFt := Lib.hid hFt
  clear hFt
  have Hlt := Lib.hid hlt
  clear hlt
  have Hsz := Lib.hid hsz
  clear hsz
  have Hk := Lib.hid hk
  clear hk
  have Hh := Lib.hid hh
  clear hh
  have Hroom := Lib.hid hroom
  clear hroom
  have Hz := Lib.hid hz
  clear hz
  have Hz2 := Lib.hid hz2
  clear hz2
  have Hpl := Lib.hid hpl
  clear hpl
  have Hri := Lib.hid hri
  clear hri
  have HF2 := Lib.hid hF2
  clear hF2
  have Hap := Lib.hid hap
  clear hap
  go_enter Try.func17, Try.ntmps17
  go_wp2_with (fail)
  refine Hmay.out.mono ?_
  rintro e w1 ⟨rfl, rfl⟩
  go_wp2_with (fail)
  (with_reducible refine Hget.out.mono ?_)
  rintro e w1 ⟨rfl, ht1⟩
  have d0 := keepc ht1 id c0
  have d1 := keepc ht1 id c1
  have d2 := keepc ht1 id c2
  go_wp2_with (fail)
  refine wp_region_plan (.take 0 (.take 1 (.take 2 (.take 3 (.take 4 (.take 5 (.take 6 (.take 7 (.take 8 (.must 9 (.take 10 (.take 11 .done)))))))))))) (fun wy => wy.cell? ⟨t, 0, none⟩ = some (.pointer (some ⟨g, 0, none⟩)) ∧ wy.cell? ⟨t, 2, none⟩ = some (.int .i64 sz)) (by kernel_rfl) (by kernel_rfl) (by kernel_rfl) rfl ?_ (fun KK hKK => ?_)
  · exact ⟨d0, d2⟩
  repeat (first
    | (refine wpPlan_take (v := ?_) rfl (by rfl) (fun W hW => ?_) ?_; rotate_left; (focus ((try dsimp only at hW); go_split_ands; go_simp; (try with_reducible rfl); done)); (try simp only [Act.put, List.setIfInBounds_toArray, List.set_cons_zero, List.set_cons_succ]))
    | (refine wpPlan_skip rfl (by rfl) ?_; (try simp only [Act.put, List.setIfInBounds_toArray, List.set_cons_zero, List.set_cons_succ])))
  refine wpPlan_must rfl (by rfl) (fun K hK => ?_)
  go_simp
  (with_reducible refine (Hal.out _ ht1.drew).mono ?_)
  rintro e w2 ⟨rfl, ht2⟩
  have y2 := ht1.drew.trans' ht2
  have d0 := keepc y2 id c0
  have d1 := keepc y2 id c1
  have d2 := keepc y2 id c2
  refine hK.out _ _ ?_ ?_
  · exact ⟨d0, d2⟩
  clear hK K
  (try simp only [Act.put, List.setIfInBounds_toArray, List.set_cons_zero, List.set_cons_succ])
  repeat (first
    | (refine wpPlan_take (v := ?_) rfl (by rfl) (fun W hW => ?_) ?_; rotate_left; (focus ((try dsimp only at hW); go_split_ands; go_simp; (try with_reducible rfl); done)); (try simp only [Act.put, List.setIfInBounds_toArray, List.set_cons_zero, List.set_cons_succ]))
    | (refine wpPlan_skip rfl (by rfl) ?_; (try simp only [Act.put, List.setIfInBounds_toArray, List.set_cons_zero, List.set_cons_succ])))
  refine wpPlan_done (hKK.out _ _ ?_)
  clear hKK KK
  clear i3
  have g0 := keepf (p := ⟨t, 0, none⟩) y2 htl id f0
  have g1 := keepf (p := ⟨t, 1, none⟩) y2 htl id f1
  have g2 := keepf (p := ⟨t, 2, none⟩) y2 htl id f2
  have e0 : (w2.setCell ⟨t, 2, none⟩ (.int .i64 ((sz : Int) + (al : Int)))).cell? ⟨t, 0, none⟩ = some (.pointer (some ⟨g, 0, none⟩)) := by rw [World.cell?_setCell_other _ _ _ _ (by simp)]; exact d0
  have e1 : (w2.setCell ⟨t, 2, none⟩ (.int .i64 ((sz : Int) + (al : Int)))).cell? ⟨t, 1, none⟩ = some (.int .i64 most) := by rw [World.cell?_setCell_other _ _ _ _ (by simp)]; exact d1
  have tt : Touch (fun b => b = t) w2 (w2.setCell ⟨t, 2, none⟩ (.int .i64 ((sz : Int) + (al : Int)))) := Touch.setCell (S := fun b => b = t) (Touch.refl _ _) (p := ⟨t, 2, none⟩) (Or.inl rfl) _
  have e2 : (w2.setCell ⟨t, 2, none⟩ (.int .i64 ((sz : Int) + (al : Int)))).cell? ⟨t, 2, none⟩ = some (.int .i64 ((szK (putK ps k v) : Nat) : Int)) := by rw [← Hz2.out]; exact World.cell?_setCell_same _ _ _ d2
  have y3 : Touch (fun b => b = t) w (w2.setCell ⟨t, 2, none⟩ (.int .i64 ((sz : Int) + (al : Int)))) := y2.ext_trans tt
  clear ht2 ht1 tt
  have E2 := Lib.hid e2
  clear e2
  go_wp2_with (fail)
  (with_reducible refine (Hput.out _ y3).mono ?_)
  rintro e w3 ⟨rfl, Fm', hmp', hu⟩
  have Hmp' := Lib.hid hmp'
  clear hmp'
  have Hu := Lib.hid hu
  clear hu
  go_wp2_with (fail)
  go_ret3
  exact ⟨rfl, tp_mk y3 Hlt.out e0 e1 E2.out (by rw [World.frozen?_setCell]; exact g0) (by rw [World.frozen?_setCell]; exact g1) (by rw [World.frozen?_setCell]; exact g2) HF.out HFt.out Hmp'.out Hu.out Hroom.out hmost (by have := putK_length ps k v; rw [Hh.out] at this; simp at this; omega)⟩

set_option maxRecDepth 100000 in
set_option maxHeartbeats 1600000 in
theorem put_full (w : World) (t : Nat) (kw : Value) (ps : Prs) (most : Int) (k : List Int) (v : Int) (h : Tp w t F ps most) (hm : ps.length ≤ 1000000) (hk : RB w (fun b => b ≠ t) kw k) (kb : KB k) (hl : k.length ≤ 65535) (hh : hasK ps k = false) (hroom : most < (szK (putK ps k v) : Int)) :
    Calls Try.prog 17 #[.pointer (some ⟨t, 0, none⟩), kw, .int .u64 v] w (fun e w' => e = .returned (.tuple #[.int .u64 0, .bool false, .int .i64 4]) ∧ Ext w w') := by
  have hmay := may_any w _ kw k hk
  rw [decide_eq_true hl] at hmay
  have hpl := h.long
  have hri := h.rises
  obtain ⟨g, Fm, c0, c1, c2, f0, f1, f2, hmp, hF, hFt, hlt, hsz, hmost, hmn⟩ := h
  have hget := ModA.get_any w _ kw ps k (Mq.of hmp) hk kb (by omega)
  rw [hh] at hget
  have hal := fun W (x : Ext w W) => TreeC.alone_any W _ kw ps k (Mq.of (hmp.ext x)) (hk.ext x) kb (by omega) hpl hl
  have hF2 : ∀ b, Fm b → ¬ b = t := fun b hb => (hF b hb).2
  have htl := World.block_lt_of_cell? _ _ c0
  simp only at htl
  have hap := alone_pos ps k
  have hz := sz_put hri (v := v) hh
  have i3 : IntKind.i64.wrap ((szK ps : Int) + (aloneK ps k : Int)) = (szK ps : Int) + (aloneK ps k : Int) := by rw [IntKind.wrap_i64]; omega
  have hb : decide (most < (szK ps : Int) + (aloneK ps k : Int)) = true := by simp; omega
  generalize szK ps = sz at *
  generalize aloneK ps k = al at *
  have Hmay := Lib.hid hmay
  clear hmay
  have Hget := Lib.hid hget
  clear hget
  have Hal := Lib.hid hal
  clear hal
  have Hmp := Lib.hid hmp
  clear hmp
  have HF := Lib.hid hF
  clear hF
  have HFt := Lib.hid hFt
  clear hFt
  have Hlt := Lib.hid hlt
  clear hlt
  have Hsz := Lib.hid hsz
  clear hsz
  have Hk := Lib.hid hk
  clear hk
  have Hh := Lib.hid hh
  clear hh
  have Hroom := Lib.hid hroom
  clear hroom
  have Hz := Lib.hid hz
  clear hz
  have Hpl := Lib.hid hpl
  clear hpl
  have Hri := Lib.hid hri
  clear hri
  have HF2 := Lib.hid hF2
  clear hF2
  have Hap := Lib.hid hap
  clear hap
  go_enter Try.func17, Try.ntmps17
  go_wp2_with (fail)
  refine Hmay.out.mono ?_
  rintro e w1 ⟨rfl, rfl⟩
  go_wp2_with (fail)
  (with_reducible refine Hget.out.mono ?_)
  rintro e w1 ⟨rfl, ht1⟩
  have d0 := keepc ht1 id c0
  have d1 := keepc ht1 id c1
  have d2 := keepc ht1 id c2
  go_wp2_with (fail)
  refine wp_region_plan (.take 0 (.take 1 (.take 2 (.take 3 (.take 4 (.take 5 (.take 6 (.take 7 (.take 8 (.must 9 (.take 10 (.take 11 .done)))))))))))) (fun wy => wy.cell? ⟨t, 0, none⟩ = some (.pointer (some ⟨g, 0, none⟩)) ∧ wy.cell? ⟨t, 2, none⟩ = some (.int .i64 sz)) (by kernel_rfl) (by kernel_rfl) (by kernel_rfl) rfl ?_ (fun KK hKK => ?_)
  · exact ⟨d0, d2⟩
  repeat (first
    | (refine wpPlan_take (v := ?_) rfl (by rfl) (fun W hW => ?_) ?_; rotate_left; (focus ((try dsimp only at hW); go_split_ands; go_simp; (try with_reducible rfl); done)); (try simp only [Act.put, List.setIfInBounds_toArray, List.set_cons_zero, List.set_cons_succ]))
    | (refine wpPlan_skip rfl (by rfl) ?_; (try simp only [Act.put, List.setIfInBounds_toArray, List.set_cons_zero, List.set_cons_succ])))
  refine wpPlan_must rfl (by rfl) (fun K hK => ?_)
  go_simp
  (with_reducible refine (Hal.out _ ht1.drew).mono ?_)
  rintro e w2 ⟨rfl, ht2⟩
  have y2 := ht1.drew.trans' ht2
  have d0 := keepc y2 id c0
  have d1 := keepc y2 id c1
  have d2 := keepc y2 id c2
  refine hK.out _ _ ?_ ?_
  · exact ⟨d0, d2⟩
  clear hK K
  (try simp only [Act.put, List.setIfInBounds_toArray, List.set_cons_zero, List.set_cons_succ])
  repeat (first
    | (refine wpPlan_take (v := ?_) rfl (by rfl) (fun W hW => ?_) ?_; rotate_left; (focus ((try dsimp only at hW); go_split_ands; go_simp; (try with_reducible rfl); done)); (try simp only [Act.put, List.setIfInBounds_toArray, List.set_cons_zero, List.set_cons_succ]))
    | (refine wpPlan_skip rfl (by rfl) ?_; (try simp only [Act.put, List.setIfInBounds_toArray, List.set_cons_zero, List.set_cons_succ])))
  refine wpPlan_done (hKK.out _ _ ?_)
  clear hKK KK
  clear i3
  go_wp2_with (fail)
  go_ret3
  exact ⟨rfl, y2⟩

theorem put_any (w : World) (t : Nat) (kw : Value) (ps : Prs) (most : Int) (k : List Int) (v : Int) (h : Tp w t F ps most) (hm : ps.length < 1000000) (hk : RB w (fun b => b ≠ t) kw k) (kb : KB k) (hl : k.length ≤ 65535) (hroom : hasK ps k = true ∨ (szK (putK ps k v) : Int) ≤ most) :
    Calls Try.prog 17 #[.pointer (some ⟨t, 0, none⟩), kw, .int .u64 v] w (TPut w t F ps most k v) := by
  cases hh : hasK ps k with
  | true => exact put_has w t kw ps most k v h h.few hk kb hl hh
  | false => exact put_new w t kw ps most k v h hm hk kb hl hh (hroom.resolve_left (by simp [hh]))

set_option maxRecDepth 100000 in
set_option maxHeartbeats 1600000 in
theorem drop_not (w : World) (t : Nat) (kw : Value) (ps : Prs) (most : Int) (k : List Int) (h : Tp w t F ps most) (hk : RB w G kw k) (kb : KB k) (hh : hasK ps k = false) :
    Calls Try.prog 36 #[.pointer (some ⟨t, 0, none⟩), kw] w fun e w' => e = .returned (.tuple #[.int .u64 0, .bool false]) ∧ Ext w w' := by
  have hget := TreeA.get_any w _ kw ps k h.tq hk kb h.few
  rw [hh] at hget
  have Hget := Lib.hid hget
  clear hget
  have H := Lib.hid h
  clear h
  have Hk := Lib.hid hk
  clear hk
  go_enter Try.func36, Try.ntmps36
  go_wp2_with (fail)
  (with_reducible refine Hget.out.mono ?_)
  rintro e w1 ⟨rfl, ht1⟩
  go_wp2_with (fail)
  go_ret2
  exact ⟨rfl, ht1⟩

set_option maxRecDepth 100000 in
set_option maxHeartbeats 1600000 in
theorem drop_has (w : World) (t : Nat) (kw : Value) (ps : Prs) (most : Int) (k : List Int) (h : Tp w t F ps most) (hm : ps.length ≤ 1000000) (hk : RB w (fun b => b ≠ t) kw k) (kb : KB k) (hl : k.length ≤ 65535) (hh : hasK ps k = true) :
    Calls Try.prog 36 #[.pointer (some ⟨t, 0, none⟩), kw] w (TDrop w t F ps most k) := by
  have hget := TreeA.get_any w _ kw ps k h.tq hk kb hm
  rw [hh] at hget
  have hpl := h.long
  have hri := h.rises
  obtain ⟨g, Fm, c0, c1, c2, f0, f1, f2, hmp, hF, hFt, hlt, hsz, hmost, hmn⟩ := h
  have hal := fun W (x : Ext w W) => TreeC.alone_any W _ kw ps k (Mq.of (hmp.ext x)) (hk.ext x) kb (by omega) hpl hl
  have hF2 : ∀ b, Fm b → ¬ b = t := fun b hb => (hF b hb).2
  have htl := World.block_lt_of_cell? _ _ c0
  simp only at htl
  have hap := alone_pos ps k
  have hd := fun W (x : Touch (fun b => b = t) w W) => ModF.drop_any W g kw ps k (hmp.keep x hF2) (hk.keep x (fun b hb h => hb h)) kb hm
  unfold DropRet at hd
  unfold TDrop
  have hz := sz_drop hri hh
  have i3 : IntKind.i64.wrap ((szK ps : Int) - (aloneK ps k : Int)) = (szK ps : Int) - (aloneK ps k : Int) := by rw [IntKind.wrap_i64]; omega
  have hz2 : ((szK ps : Int) - (aloneK ps k : Int)) = ((szK (dropK ps k) : Nat) : Int) := by omega
  have hroom : (szK (dropK ps k) : Int) ≤ most := by omega
  generalize szK ps = sz at *
  generalize aloneK ps k = al at *
  have Hget := Lib.hid hget
  clear hget
  have Hal := Lib.hid hal
  clear hal
  have Hd := Lib.hid hd
  clear hd
  have Hmp := Lib.hid hmp
  clear hmp
  have HF := Lib.hid hF
  clear hF
  have HFt := Lib.hid hFt
  clear hFt
  have Hlt := Lib.hid hlt
  clear hlt
  have Hsz := Lib.hid hsz
  clear hsz
  have Hk := Lib.hid hk
  clear hk
  have Hh := Lib.hid hh
  clear hh
  have Hroom := Lib.hid hroom
  clear hroom
  have Hz := Lib.hid hz
  clear hz
  have Hz2 := Lib.hid hz2
  clear hz2
  have Hpl := Lib.hid hpl
  clear hpl
  have Hri := Lib.hid hri
  clear hri
  have HF2 := Lib.hid hF2
  clear hF2
  have Hap := Lib.hid hap
  clear hap
  go_enter Try.func36, Try.ntmps36
  go_wp2_with (fail)
  (with_reducible refine Hget.out.mono ?_)
  rintro e w1 ⟨rfl, ht1⟩
  have d0 := keepc ht1 id c0
  have d2 := keepc ht1 id c2
  have g0 := keepf (p := ⟨t, 0, none⟩) ht1 htl id f0
  have g1 := keepf (p := ⟨t, 1, none⟩) ht1 htl id f1
  have g2 := keepf (p := ⟨t, 2, none⟩) ht1 htl id f2
  go_wp2_with (fail)
  refine wp_region_plan (.take 0 (.take 1 (.take 2 (.take 3 (.take 4 (.take 5 (.take 6 (.take 7 (.take 8 (.must 9 (.take 10 (.take 11 (.take 12 (.last 13 .done)))))))))))))) (fun wy => wy.cell? ⟨t, 0, none⟩ = some (.pointer (some ⟨g, 0, none⟩)) ∧ wy.cell? ⟨t, 2, none⟩ = some (.int .i64 sz)) (by kernel_rfl) (by kernel_rfl) (by kernel_rfl) rfl ?_ (fun KK hKK => ?_)
  · exact ⟨d0, d2⟩
  repeat (first
    | (refine wpPlan_take (v := ?_) rfl (by rfl) (fun W hW => ?_) ?_; rotate_left; (focus ((try dsimp only at hW); go_split_ands; go_simp; (try with_reducible rfl); done)); (try simp only [Act.put, List.setIfInBounds_toArray, List.set_cons_zero, List.set_cons_succ]))
    | (refine wpPlan_skip rfl (by rfl) ?_; (try simp only [Act.put, List.setIfInBounds_toArray, List.set_cons_zero, List.set_cons_succ])))
  refine wpPlan_must rfl (by rfl) (fun K hK => ?_)
  go_simp
  (with_reducible refine (Hal.out _ ht1.drew).mono ?_)
  rintro e w2 ⟨rfl, ht2⟩
  have y2 := ht1.drew.trans' ht2
  have d0 := keepc y2 id c0
  have d1 := keepc y2 id c1
  have d2 := keepc y2 id c2
  have g0 := keepf (p := ⟨t, 0, none⟩) y2 htl id f0
  have g1 := keepf (p := ⟨t, 1, none⟩) y2 htl id f1
  have g2 := keepf (p := ⟨t, 2, none⟩) y2 htl id f2
  refine hK.out _ _ ?_ ?_
  · exact ⟨d0, d2⟩
  clear hK K
  (try simp only [Act.put, List.setIfInBounds_toArray, List.set_cons_zero, List.set_cons_succ])
  repeat (first
    | (refine wpPlan_take (v := ?_) rfl (by rfl) (fun W hW => ?_) ?_; rotate_left; (focus ((try dsimp only at hW); go_split_ands; go_simp; (try with_reducible rfl); done)); (try simp only [Act.put, List.setIfInBounds_toArray, List.set_cons_zero, List.set_cons_succ]))
    | (refine wpPlan_skip rfl (by rfl) ?_; (try simp only [Act.put, List.setIfInBounds_toArray, List.set_cons_zero, List.set_cons_succ])))
  refine wpPlan_last rfl (by rfl) (fun K hK => ?_)
  go_simp
  refine hK.out _ _ ?_
  clear hK K
  (try simp only [Act.put, List.setIfInBounds_toArray, List.set_cons_zero, List.set_cons_succ])
  refine wpPlan_done (hKK.out _ _ ?_)
  clear hKK KK
  clear i3
  have e0 : (w2.setCell ⟨t, 2, none⟩ (.int .i64 ((sz : Int) - (al : Int)))).cell? ⟨t, 0, none⟩ = some (.pointer (some ⟨g, 0, none⟩)) := by rw [World.cell?_setCell_other _ _ _ _ (by simp)]; exact d0
  have e1 : (w2.setCell ⟨t, 2, none⟩ (.int .i64 ((sz : Int) - (al : Int)))).cell? ⟨t, 1, none⟩ = some (.int .i64 most) := by rw [World.cell?_setCell_other _ _ _ _ (by simp)]; exact d1
  have tt : Touch (fun b => b = t) w2 (w2.setCell ⟨t, 2, none⟩ (.int .i64 ((sz : Int) - (al : Int)))) := Touch.setCell (S := fun b => b = t) (Touch.refl _ _) (p := ⟨t, 2, none⟩) (Or.inl rfl) _
  have e2 : (w2.setCell ⟨t, 2, none⟩ (.int .i64 ((sz : Int) - (al : Int)))).cell? ⟨t, 2, none⟩ = some (.int .i64 ((szK (dropK ps k) : Nat) : Int)) := by rw [← Hz2.out]; exact World.cell?_setCell_same _ _ _ d2
  have y3 : Touch (fun b => b = t) w (w2.setCell ⟨t, 2, none⟩ (.int .i64 ((sz : Int) - (al : Int)))) := y2.ext_trans tt
  clear ht2 ht1 tt
  have E2 := Lib.hid e2
  clear e2
  go_wp2_with (fail)
  (with_reducible refine (Hd.out _ y3).mono ?_)
  rintro e w3 ⟨rfl, Fm', hmp', hu⟩
  have Hmp' := Lib.hid hmp'
  clear hmp'
  have Hu := Lib.hid hu
  clear hu
  go_wp2_with (fail)
  go_ret2
  refine ⟨rfl, ?_⟩
  exact tp_mk y3 Hlt.out e0 e1 E2.out (by rw [World.frozen?_setCell]; exact g0) (by rw [World.frozen?_setCell]; exact g1) (by rw [World.frozen?_setCell]; exact g2) HF.out HFt.out Hmp'.out Hu.out Hroom.out hmost (by have := dropK_length ps k; omega)

theorem drop_any (w : World) (t : Nat) (kw : Value) (ps : Prs) (most : Int) (k : List Int) (h : Tp w t F ps most) (hk : RB w (fun b => b ≠ t) kw k) (kb : KB k) (hl : k.length ≤ 65535) :
    Calls Try.prog 36 #[.pointer (some ⟨t, 0, none⟩), kw] w (TDrop w t F ps most k) := by
  cases hh : hasK ps k with
  | true => exact drop_has w t kw ps most k h h.few hk kb hl hh
  | false =>
    refine (drop_not w t kw ps most k h hk kb hh).mono ?_
    rintro e w' ⟨rfl, ht⟩
    refine ⟨by rw [hh, valK_none hh], F, ?_, ht.none_to, fun b hb => Or.inl hb⟩
    rw [dropK_not hh]
    exact h.ext ht
end TreeB
end Go.Proofs.Ythfnacadabhpdaa
