/- A tree's own calls: New, Live, Put, Drop. -/
import Derived.Test.YtmdgmkmddkaadaaTreeA
namespace Go.Proofs.Ytmdgmkmddkaadaa
open Go.RowKit
set_option linter.unusedVariables false
set_option linter.unusedSimpArgs false

/-- how many cells a crit-bit tree of some pairs has -/
def szK (ps : Prs) : Nat := 2 * ps.length - 1
/-- block t holds a tree: its map, how many cells there are in all -/
def Tp (w : World) (t : Nat) (F : Nat → Prop) (ps : Prs) (most : Int) : Prop :=
  ∃ g Fm, w.cell? ⟨t, 0, none⟩ = some (.pointer (some ⟨g, 0, none⟩)) ∧ w.cell? ⟨t, 1, none⟩ = some (.int .i64 most) ∧ w.frozen? ⟨t, 0, none⟩ = false ∧ w.frozen? ⟨t, 1, none⟩ = false ∧
    Mp w g Fm ps ∧ (∀ b, Fm b → F b ∧ b ≠ t) ∧ F t ∧ (∀ b, F b → b < w.heap.size) ∧ (szK ps : Int) ≤ most ∧ most ≤ 1048576
namespace Tp
variable {w w' : World} {t : Nat} {F S : Nat → Prop} {ps : Prs} {most : Int}
theorem keep (h : Tp w t F ps most) (x : Touch S w w') (hd : ∀ b, F b → ¬ S b) : Tp w' t F ps most := by
  obtain ⟨g, Fm, h1, h2, h3, h4, h5, h6, h7, h8, h9⟩ := h
  have hn := hd t h7
  exact ⟨g, Fm, keepc x hn h1, keepc x hn h2, keepf (p := ⟨t, 0, none⟩) x (World.block_lt_of_cell? _ _ h1) hn h3, keepf (p := ⟨t, 1, none⟩) x (World.block_lt_of_cell? _ _ h2) hn h4,
    h5.keep x (fun b hb => hd b (h6 b hb).1), h6, h7, fun b hb => Nat.lt_of_lt_of_le (h8 b hb) x.size, h9⟩
theorem ext (h : Tp w t F ps most) (x : Ext w w') : Tp w' t F ps most := h.keep x fun _ _ h => h
theorem map (h : Tp w t F ps most) : ∃ g Fm, w.cell? ⟨t, 0, none⟩ = some (.pointer (some ⟨g, 0, none⟩)) ∧ w.cell? ⟨t, 1, none⟩ = some (.int .i64 most) ∧ Mp w g Fm ps := by
  obtain ⟨g, Fm, h1, h2, h3, h4, h5, h6, h7, h8, h9⟩ := h; exact ⟨g, Fm, h1, h2, h5⟩
theorem self (h : Tp w t F ps most) : F t := by obtain ⟨g, Fm, h1, h2, h3, h4, h5, h6, h7, h8, h9⟩ := h; exact h7
theorem lt (h : Tp w t F ps most) : ∀ b, F b → b < w.heap.size := by obtain ⟨g, Fm, h1, h2, h3, h4, h5, h6, h7, h8, h9⟩ := h; exact h8
theorem rises (h : Tp w t F ps most) : Rises ps := by obtain ⟨g, Fm, h1, h2, h3⟩ := h.map; exact h3.rises
theorem kb (h : Tp w t F ps most) : ∀ p ∈ ps, KB p.1 := by obtain ⟨g, Fm, h1, h2, h3⟩ := h.map; exact h3.kb
theorem long (h : Tp w t F ps most) : ∀ p ∈ ps, p.1.length ≤ 65535 := by obtain ⟨g, Fm, h1, h2, h3⟩ := h.map; exact h3.long
theorem fits (h : Tp w t F ps most) : (szK ps : Int) ≤ most ∧ most ≤ 1048576 := by obtain ⟨g, Fm, h1, h2, h3, h4, h5, h6, h7, h8, h9⟩ := h; exact h9
theorem few (h : Tp w t F ps most) : ps.length ≤ 1000000 := by have := h.fits; unfold szK at this; omega
theorem tq (h : Tp w t F ps most) : Tq w (.pointer (some ⟨t, 0, none⟩)) (fun b => b < w.heap.size) ps := by
  obtain ⟨g, Fm, h1, h2, h3, h4, h5, h6, h7, h8, h9⟩ := h
  refine Or.inr ⟨t, g, rfl, h1, ?_⟩
  obtain ⟨v, es, a1, a2, a3, a4, a5, a6, a7, a8, a9, a10⟩ := h5
  exact ⟨v, es, a1, a2, a3, a8 _ a4, a5, fun b hb => ⟨a8 _ (a6 b hb).1, (a6 b hb).2⟩, fun e he => (a7 e he).mono (fun b hb => ⟨a8 _ hb.1, hb.2⟩), fun b hb => hb, a9, a10⟩
end Tp

namespace TreeB
open ModF (NewRet PutRet DropRet)
open ModA (Mq)
variable {F G : Nat → Prop}

theorem cells_any (n : Int) (w : World) (h0 : 0 ≤ n) (h1 : n ≤ 10000000) : Calls Try.prog 52 #[.int .i64 n] w fun e w' => e = .returned (.int .i64 (max (2 * n - 1) 0)) ∧ w = w' := by
  go_enter Try.func52, Try.ntmps52
  go_wp2_with (fail)
  all_goals
    go_ret
    exact ⟨congrArg (fun z => Ending.returned (.int .i64 z)) (by omega), rfl⟩

theorem most_any (w : World) (t : Nat) (ps : Prs) (most : Int) (h : Tp w t F ps most) :
    Calls Try.prog 45 #[.pointer (some ⟨t, 0, none⟩)] w fun e w' => e = .returned (.int .i64 most) ∧ w = w' := by
  obtain ⟨g, Fm, c0, c1, hmp⟩ := h.map
  have H := Lib.hid h
  clear h
  have Hmp := Lib.hid hmp
  clear hmp
  go_enter Try.func45, Try.ntmps45
  go_wp2_with (fail)
  go_ret
  exact ⟨rfl, rfl⟩
theorem most_nil (w : World) : Calls Try.prog 45 #[.pointer none] w fun e w' => e = .returned (.int .i64 0) ∧ w = w' := by
  go_enter Try.func45, Try.ntmps45
  go_wp2_with (fail)
  go_ret
  exact ⟨rfl, rfl⟩

def TNew (w : World) (most : Int) (e : Ending) (w' : World) : Prop := ∃ t F, e = .returned (.pointer (some ⟨t, 0, none⟩)) ∧ Tp w' t F [] most ∧ (∀ b, F b → w.heap.size ≤ b) ∧ Ext w w'
theorem new_yes (w : World) (most : Int) (h0 : 0 ≤ most) (h1 : most ≤ 1048576) : Calls Try.prog 16 #[.int .i64 most] w (TNew w most) := by
  have hn := ModF.new_any (G := fun _ => False) w _ [] (RP.nil _ _) (by decide) (fun p hp => by simp at hp)
  unfold NewRet at hn
  have b0 : decide (most < 0) = false := by simp; omega
  have b1 : decide (1048576 < most) = false := by simp; omega
  have Hn := Lib.hid hn
  clear hn
  go_enter Try.func16, Try.ntmps16
  go_wp2_with (fail)
  (with_reducible refine Hn.out.mono ?_)
  rintro e w1 ⟨g, Fm, rfl, hmp, hF, ht⟩
  have Hmp := Lib.hid hmp
  clear hmp
  have HF := Lib.hid hF
  clear hF
  go_wp2_with (fail)
  go_ret
  have t1 : Ext w1 (w1.alloc (.cells #[.pointer (some ⟨g, 0, none⟩), .int .i64 most] 85)) := (Touch.refl _ _).alloc _
  refine ⟨w1.heap.size, fun b => b = w1.heap.size ∨ Fm b, rfl, ⟨g, Fm, by simp, by simp, by simp, by simp, Hmp.out.ext t1, fun b hb => ⟨Or.inr hb, fun h => by have := Hmp.out.lt b hb; omega⟩, Or.inl rfl, fun b hb => ?_, by simp [szK]; omega, h1⟩, fun b hb => ?_, ht.trans' t1⟩
  · rcases hb with rfl | hb
    · simp
    · have := Hmp.out.lt b hb; simp; omega
  · rcases hb with rfl | hb
    · exact ht.size
    · exact HF.out b hb
theorem new_no (w : World) (most : Int) (h : most < 0 ∨ 1048576 < most) : Calls Try.prog 16 #[.int .i64 most] w fun e w' => e = .returned (.pointer none) ∧ w = w' := by
  rcases h with h | h
  · have b0 : decide (most < 0) = true := by simpa using h
    go_enter Try.func16, Try.ntmps16
    go_wp2_with (fail)
    go_ret
    exact ⟨rfl, rfl⟩
  · have b0 : decide (most < 0) = false := by simp; omega
    have b1 : decide (1048576 < most) = true := by simpa using h
    go_enter Try.func16, Try.ntmps16
    go_wp2_with (fail)
    go_ret
    exact ⟨rfl, rfl⟩

theorem live_any (w : World) (v : Value) (ps : Prs) (h : Tq w v F ps) (hm : ps.length ≤ 1000000) :
    Calls Try.prog 37 #[v] w fun e w' => e = .returned (.int .i64 (szK ps)) ∧ w = w' := by
  have hl := TreeA.len_any w v ps h
  have hc := cells_any ps.length w (by omega) (by omega)
  have Hl := Lib.hid hl
  clear hl
  have Hc := Lib.hid hc
  clear hc
  go_enter Try.func37, Try.ntmps37
  go_wp2_with (fail)
  (with_reducible refine Hl.out.mono ?_)
  rintro e w1 ⟨rfl, rfl⟩
  go_wp2_with (fail)
  (with_reducible refine Hc.out.mono ?_)
  rintro e w1 ⟨rfl, rfl⟩
  go_wp2_with (fail)
  go_ret
  exact ⟨congrArg (fun z => Ending.returned (.int .i64 z)) (by unfold szK; omega), rfl⟩

theorem live_nil (w : World) : Calls Try.prog 37 #[.pointer none] w fun e w' => e = .returned (.int .i64 0) ∧ w = w' := live_any (F := fun _ => False) w _ [] (Or.inl ⟨rfl, rfl⟩) (by simp)
theorem live_tp (w : World) (t : Nat) (ps : Prs) (most : Int) (h : Tp w t F ps most) : Calls Try.prog 37 #[.pointer (some ⟨t, 0, none⟩)] w fun e w' => e = .returned (.int .i64 (szK ps)) ∧ w = w' := live_any w _ ps h.tq h.few
theorem put_nil (w : World) (kw : Value) (v : Int) :
    Calls Try.prog 17 #[.pointer none, kw, .int .u64 v] w fun e w' => e = .returned (.tuple #[.int .u64 0, .bool false, .int .i64 1]) ∧ w = w' := by
  go_enter Try.func17, Try.ntmps17
  go_wp2_with (fail)
  go_ret3
  exact ⟨rfl, rfl⟩
theorem put_long (w : World) (t : Nat) (kw : Value) (k : List Int) (v : Int) (hk : RB w G kw k) (hl : 65535 < k.length) :
    Calls Try.prog 17 #[.pointer (some ⟨t, 0, none⟩), kw, .int .u64 v] w fun e w' => e = .returned (.tuple #[.int .u64 0, .bool false, .int .i64 3]) ∧ w = w' := by
  have hmay := may_any w G kw k hk
  rw [decide_eq_false (by omega)] at hmay
  have Hmay := Lib.hid hmay
  clear hmay
  go_enter Try.func17, Try.ntmps17
  go_wp2_with (fail)
  refine Hmay.out.mono ?_
  rintro e w1 ⟨rfl, rfl⟩
  go_wp2_with (fail)
  go_ret3
  exact ⟨rfl, rfl⟩

/-- what Put comes to where there is room -/
def TPut (w : World) (t : Nat) (F : Nat → Prop) (ps : Prs) (most : Int) (k : List Int) (v : Int) (e : Ending) (w' : World) : Prop :=
  e = .returned (.tuple #[.int .u64 (valK ps k), .bool (hasK ps k), .int .i64 0]) ∧ ∃ F', Tp w' t F' (putK ps k v) most ∧ Upd w w' F F'
def TDrop (w : World) (t : Nat) (F : Nat → Prop) (ps : Prs) (most : Int) (k : List Int) (e : Ending) (w' : World) : Prop :=
  e = .returned (.tuple #[.int .u64 (valK ps k), .bool (hasK ps k)]) ∧ ∃ F', Tp w' t F' (dropK ps k) most ∧ Upd w w' F F'

theorem tp_mk {w w' : World} {t g : Nat} {F Fm Fm' : Nat → Prop} {ps' : Prs} {most : Int} (c0 : w.cell? ⟨t, 0, none⟩ = some (.pointer (some ⟨g, 0, none⟩))) (c1 : w.cell? ⟨t, 1, none⟩ = some (.int .i64 most)) (f0 : w.frozen? ⟨t, 0, none⟩ = false) (f1 : w.frozen? ⟨t, 1, none⟩ = false)
    (hF : ∀ b, Fm b → F b ∧ b ≠ t) (ht : F t) (hmp : Mp w' g Fm' ps') (hu : Upd w w' Fm Fm') (hsz : (szK ps' : Int) ≤ most) (hmost : most ≤ 1048576) : ∃ F', Tp w' t F' ps' most ∧ Upd w w' F F' := by
  obtain ⟨hu1, hu2⟩ := hu
  have hn : ¬ Fm t := fun h => (hF t h).2 rfl
  have hlt := World.block_lt_of_cell? _ _ c0
  refine ⟨fun b => b = t ∨ Fm' b, ⟨g, Fm', keepc hu1 hn c0, keepc hu1 hn c1, keepf (p := ⟨t, 0, none⟩) hu1 hlt hn f0, keepf (p := ⟨t, 1, none⟩) hu1 hlt hn f1, hmp, fun b hb => ⟨Or.inr hb, fun h => ?_⟩, Or.inl rfl, fun b hb => ?_, hsz, hmost⟩, hu1.mono (fun i hi _ => (hF i hi).1), fun b hb => ?_⟩
  · subst h
    rcases hu2 b hb with h | h
    · exact hn h
    · simp only at hlt; omega
  · rcases hb with rfl | hb
    · exact Nat.lt_of_lt_of_le hlt hu1.size
    · exact hmp.lt b hb
  · rcases hb with rfl | hb
    · exact Or.inl ht
    · exact (hu2 b hb).imp (fun h => (hF b h).1) id

set_option maxRecDepth 100000 in
set_option maxHeartbeats 800000 in
theorem put_has (w : World) (t : Nat) (kw : Value) (ps : Prs) (most : Int) (k : List Int) (v : Int) (h : Tp w t F ps most) (hk : RB w G kw k) (kb : KB k) (hl : k.length ≤ 65535) (hh : hasK ps k = true) :
    Calls Try.prog 17 #[.pointer (some ⟨t, 0, none⟩), kw, .int .u64 v] w (TPut w t F ps most k v) := by
  have hmay := may_any w G kw k hk
  rw [decide_eq_true hl] at hmay
  have hm := h.few
  obtain ⟨g, Fm, c0, c1, f0, f1, hmp, hF, hFt, hlt, hsz, hmost⟩ := h
  have hget := ModA.get_any w _ kw ps k (Mq.of hmp) hk kb hm
  rw [hh] at hget
  have hput := fun W (x : Ext w W) => ModF.put_any W g kw ps k v (hmp.ext x) (hk.ext x) kb hl hm
  unfold PutRet at hput
  unfold TPut
  have hszp : (szK (putK ps k v) : Int) ≤ most := by have := putK_length ps k v; rw [hh] at this; simp at this; unfold szK at hsz ⊢; omega
  have Hmay := Lib.hid hmay
  clear hmay
  have Hget := Lib.hid hget
  clear hget
  have Hput := Lib.hid hput
  clear hput
  have Hmp := Lib.hid hmp
  clear hmp
  have HF := Lib.hid hF
  clear hF
  have HFt := Lib.hid hFt
  clear hFt
  have Hlt := Lib.hid hlt
  clear hlt
  have Hsz := Lib.hid hsz
  clear hsz
  have Hszp := Lib.hid hszp
  clear hszp
  have Hk := Lib.hid hk
  clear hk
  have Hh := Lib.hid hh
  clear hh
  go_enter Try.func17, Try.ntmps17
  go_wp2_with (fail)
  refine Hmay.out.mono ?_
  rintro e w1 ⟨rfl, rfl⟩
  go_wp2_with (fail)
  (with_reducible refine Hget.out.mono ?_)
  rintro e w1 ⟨rfl, ht1⟩
  have d0 := keepc ht1 id c0
  have d1 := keepc ht1 id c1
  go_wp2_with (fail)
  refine wp_region_plan (.take 0 (.take 1 (.take 2 (.take 3 (.take 7 (.take 8 (.take 9 (.take 10 (.take 4 (.take 5 (.take 6 (.take 11 (.take 12 .done))))))))))))) (fun wy => wy.cell? ⟨t, 0, none⟩ = some (.pointer (some ⟨g, 0, none⟩)) ∧ wy.cell? ⟨t, 1, none⟩ = some (.int .i64 most)) (by kernel_rfl) (by kernel_rfl) (by kernel_rfl) rfl ?_ (fun KK hKK => ?_)
  · exact ⟨d0, d1⟩
  repeat (first
    | (refine wpPlan_take (v := ?_) rfl (by rfl) (fun W hW => ?_) ?_; rotate_left; (focus ((try dsimp only at hW); go_split_ands; go_simp; (try with_reducible rfl); done)); (try simp only [Act.put, List.setIfInBounds_toArray, List.set_cons_zero, List.set_cons_succ]))
    | (refine wpPlan_skip rfl (by rfl) ?_; (try simp only [Act.put, List.setIfInBounds_toArray, List.set_cons_zero, List.set_cons_succ])))
  refine wpPlan_done (hKK.out _ _ ?_)
  clear hKK KK
  go_wp2_with (fail)
  (with_reducible refine (Hput.out _ ht1.drew).mono ?_)
  rintro e w2 ⟨rfl, Fm', hmp', hu⟩
  have Hmp' := Lib.hid hmp'
  clear hmp'
  have Hu := Lib.hid hu
  clear hu
  go_wp2_with (fail)
  go_ret3
  refine ⟨rfl, ?_⟩
  have hu := Hu.out
  exact tp_mk (w := w) c0 c1 f0 f1 HF.out HFt.out Hmp'.out ⟨(ht1.drew).ext_trans hu.1, fun b hb => (hu.2 b hb).imp id (fun h => Nat.le_trans ht1.drew.size h)⟩ Hszp.out hmost
set_option maxRecDepth 100000 in
set_option maxHeartbeats 800000 in
theorem put_new (w : World) (t : Nat) (kw : Value) (ps : Prs) (most : Int) (k : List Int) (v : Int) (h : Tp w t F ps most) (hk : RB w G kw k) (kb : KB k) (hl : k.length ≤ 65535) (hh : hasK ps k = false) (hroom : (szK (putK ps k v) : Int) ≤ most) :
    Calls Try.prog 17 #[.pointer (some ⟨t, 0, none⟩), kw, .int .u64 v] w (TPut w t F ps most k v) := by
  have hmay := may_any w G kw k hk
  rw [decide_eq_true hl] at hmay
  have hm := h.few
  obtain ⟨g, Fm, c0, c1, f0, f1, hmp, hF, hFt, hlt, hsz, hmost⟩ := h
  have hget := ModA.get_any w _ kw ps k (Mq.of hmp) hk kb hm
  rw [hh] at hget
  have hput := fun W (x : Ext w W) => ModF.put_any W g kw ps k v (hmp.ext x) (hk.ext x) kb hl hm
  unfold PutRet at hput
  unfold TPut
  have hnl := (putK_length ps k v)
  rw [hh] at hnl
  simp only [Bool.false_eq_true, if_false] at hnl
  have hlen := fun W (x : Ext w W) => TreeA.len_any W (.pointer (some ⟨t, 0, none⟩)) ps (F := Fm) (Or.inr ⟨t, g, rfl, keepc x id c0, hmp.ext x⟩)
  have hcl := fun W => cells_any ((ps.length : Int) + 1) W (by omega) (by omega)
  have hz : max (2 * ((ps.length : Int) + 1) - 1) 0 = ((szK (putK ps k v) : Nat) : Int) := by unfold szK; omega
  rw [hz] at hcl
  have i3 : IntKind.i64.wrap ((ps.length : Int) + 1) = (ps.length : Int) + 1 := by rw [IntKind.wrap_i64]; omega
  have hb : decide (most < ((szK (putK ps k v) : Nat) : Int)) = false := by simp; omega
  have hszp := hroom
  generalize szK (putK ps k v) = z at *
  have Hmay := Lib.hid hmay
  clear hmay
  have Hget := Lib.hid hget
  clear hget
  have Hput := Lib.hid hput
  clear hput
  have Hmp := Lib.hid hmp
  clear hmp
  have HF := Lib.hid hF
  clear hF
  have HFt := Lib.hid hFt
  clear hFt
  have Hlt := Lib.hid hlt
  clear hlt
  have Hsz := Lib.hid hsz
  clear hsz
  have Hszp := Lib.hid hszp
  clear hszp
  have Hk := Lib.hid hk
  clear hk
  have Hh := Lib.hid hh
  clear hh
  have Hlen := Lib.hid hlen
  clear hlen
  have Hcl := Lib.hid hcl
  clear hcl
  have Hz := Lib.hid hz
  clear hz
  have Hnl := Lib.hid hnl
  clear hnl
  have Hroom := Lib.hid hroom
  clear hroom
  go_enter Try.func17, Try.ntmps17
  go_wp2_with (fail)
  refine Hmay.out.mono ?_
  rintro e w1 ⟨rfl, rfl⟩
  go_wp2_with (fail)
  (with_reducible refine Hget.out.mono ?_)
  rintro e w1 ⟨rfl, ht1⟩
  have d0 := keepc ht1 id c0
  have d1 := keepc ht1 id c1
  go_wp2_with (fail)
  refine wp_region_plan (.take 0 (.take 1 (.take 2 (.take 3 (.take 7 (.take 8 (.take 9 (.take 10 (.must 4 (.take 5 (.must 6 (.take 11 (.take 12 .done))))))))))))) (fun wy => wy.cell? ⟨t, 0, none⟩ = some (.pointer (some ⟨g, 0, none⟩)) ∧ wy.cell? ⟨t, 1, none⟩ = some (.int .i64 most)) (by kernel_rfl) (by kernel_rfl) (by kernel_rfl) rfl ?_ (fun KK hKK => ?_)
  · exact ⟨d0, d1⟩
  repeat (first
    | (refine wpPlan_take (v := ?_) rfl (by rfl) (fun W hW => ?_) ?_; rotate_left; (focus ((try dsimp only at hW); go_split_ands; go_simp; (try with_reducible rfl); done)); (try simp only [Act.put, List.setIfInBounds_toArray, List.set_cons_zero, List.set_cons_succ]))
    | (refine wpPlan_skip rfl (by rfl) ?_; (try simp only [Act.put, List.setIfInBounds_toArray, List.set_cons_zero, List.set_cons_succ])))
  refine wpPlan_must rfl (by rfl) (fun K hK => ?_)
  go_simp
  (with_reducible refine (Hlen.out _ ht1.drew).mono ?_)
  rintro e w1' ⟨rfl, rfl⟩
  refine hK.out _ _ ?_ ?_
  · exact ⟨d0, d1⟩
  clear hK K
  (try simp only [Act.put, List.setIfInBounds_toArray, List.set_cons_zero, List.set_cons_succ])
  repeat (first
    | (refine wpPlan_take (v := ?_) rfl (by rfl) (fun W hW => ?_) ?_; rotate_left; (focus ((try dsimp only at hW); go_split_ands; go_simp; (try with_reducible rfl); done)); (try simp only [Act.put, List.setIfInBounds_toArray, List.set_cons_zero, List.set_cons_succ]))
    | (refine wpPlan_skip rfl (by rfl) ?_; (try simp only [Act.put, List.setIfInBounds_toArray, List.set_cons_zero, List.set_cons_succ])))
  refine wpPlan_must rfl (by rfl) (fun K hK => ?_)
  go_simp
  (with_reducible refine (Hcl.out _).mono ?_)
  rintro e w1' ⟨rfl, rfl⟩
  refine hK.out _ _ ?_ ?_
  · exact ⟨d0, d1⟩
  clear hK K
  (try simp only [Act.put, List.setIfInBounds_toArray, List.set_cons_zero, List.set_cons_succ])
  clear i3
  repeat (first
    | (refine wpPlan_take (v := ?_) rfl (by rfl) (fun W hW => ?_) ?_; rotate_left; (focus ((try dsimp only at hW); go_split_ands; go_simp; (try with_reducible rfl); done)); (try simp only [Act.put, List.setIfInBounds_toArray, List.set_cons_zero, List.set_cons_succ]))
    | (refine wpPlan_skip rfl (by rfl) ?_; (try simp only [Act.put, List.setIfInBounds_toArray, List.set_cons_zero, List.set_cons_succ])))
  refine wpPlan_done (hKK.out _ _ ?_)
  clear hKK KK
  go_wp2_with (fail)
  (with_reducible refine (Hput.out _ ht1.drew).mono ?_)
  rintro e w2 ⟨rfl, Fm', hmp', hu⟩
  have Hmp' := Lib.hid hmp'
  clear hmp'
  have Hu := Lib.hid hu
  clear hu
  go_wp2_with (fail)
  go_ret3
  refine ⟨rfl, ?_⟩
  have hu := Hu.out
  have hsz2 : (szK (putK ps k v) : Int) ≤ most := by have h1 := Hz.out; have h2 := Hszp.out; have h3 := Hnl.out; unfold szK; omega
  exact tp_mk (w := w) c0 c1 f0 f1 HF.out HFt.out Hmp'.out ⟨(ht1.drew).ext_trans hu.1, fun b hb => (hu.2 b hb).imp id (fun h => Nat.le_trans ht1.drew.size h)⟩ hsz2 hmost

set_option maxRecDepth 100000 in
set_option maxHeartbeats 800000 in
theorem put_full (w : World) (t : Nat) (kw : Value) (ps : Prs) (most : Int) (k : List Int) (v : Int) (h : Tp w t F ps most) (hmn : ps.length < 1000000) (hk : RB w (fun b => b ≠ t) kw k) (kb : KB k) (hl : k.length ≤ 65535) (hh : hasK ps k = false) (hroom : most < (szK (putK ps k v) : Int)) :
    Calls Try.prog 17 #[.pointer (some ⟨t, 0, none⟩), kw, .int .u64 v] w (fun e w' => e = .returned (.tuple #[.int .u64 0, .bool false, .int .i64 4]) ∧ Ext w w') := by
  have hmay := may_any w _ kw k hk
  rw [decide_eq_true hl] at hmay
  have hm := h.few
  obtain ⟨g, Fm, c0, c1, f0, f1, hmp, hF, hFt, hlt, hsz, hmost⟩ := h
  have hget := ModA.get_any w _ kw ps k (Mq.of hmp) hk kb hm
  rw [hh] at hget
  have hput := fun W (x : Ext w W) => ModF.put_any W g kw ps k v (hmp.ext x) (hk.ext x) kb hl hm
  unfold PutRet at hput
  have hnl := (putK_length ps k v)
  rw [hh] at hnl
  simp only [Bool.false_eq_true, if_false] at hnl
  have hlen := fun W (x : Ext w W) => TreeA.len_any W (.pointer (some ⟨t, 0, none⟩)) ps (F := Fm) (Or.inr ⟨t, g, rfl, keepc x id c0, hmp.ext x⟩)
  have hcl := fun W => cells_any ((ps.length : Int) + 1) W (by omega) (by omega)
  have hz : max (2 * ((ps.length : Int) + 1) - 1) 0 = ((szK (putK ps k v) : Nat) : Int) := by unfold szK; omega
  rw [hz] at hcl
  have i3 : IntKind.i64.wrap ((ps.length : Int) + 1) = (ps.length : Int) + 1 := by rw [IntKind.wrap_i64]; omega
  have hb : decide (most < ((szK (putK ps k v) : Nat) : Int)) = true := by simp; omega
  have hszp := hroom
  generalize szK (putK ps k v) = z at *
  have Hmay := Lib.hid hmay
  clear hmay
  have Hget := Lib.hid hget
  clear hget
  have Hput := Lib.hid hput
  clear hput
  have Hmp := Lib.hid hmp
  clear hmp
  have HF := Lib.hid hF
  clear hF
  have HFt := Lib.hid hFt
  clear hFt
  have Hlt := Lib.hid hlt
  clear hlt
  have Hsz := Lib.hid hsz
  clear hsz
  have Hszp := Lib.hid hszp
  clear hszp
  have Hk := Lib.hid hk
  clear hk
  have Hh := Lib.hid hh
  clear hh
  have Hlen := Lib.hid hlen
  clear hlen
  have Hcl := Lib.hid hcl
  clear hcl
  have Hz := Lib.hid hz
  clear hz
  have Hnl := Lib.hid hnl
  clear hnl
  have Hroom := Lib.hid hroom
  clear hroom
  go_enter Try.func17, Try.ntmps17
  go_wp2_with (fail)
  refine Hmay.out.mono ?_
  rintro e w1 ⟨rfl, rfl⟩
  go_wp2_with (fail)
  (with_reducible refine Hget.out.mono ?_)
  rintro e w1 ⟨rfl, ht1⟩
  have d0 := keepc ht1 id c0
  have d1 := keepc ht1 id c1
  go_wp2_with (fail)
  refine wp_region_plan (.take 0 (.take 1 (.take 2 (.take 3 (.take 7 (.take 8 (.take 9 (.take 10 (.must 4 (.take 5 (.must 6 (.take 11 (.take 12 .done))))))))))))) (fun wy => wy.cell? ⟨t, 0, none⟩ = some (.pointer (some ⟨g, 0, none⟩)) ∧ wy.cell? ⟨t, 1, none⟩ = some (.int .i64 most)) (by kernel_rfl) (by kernel_rfl) (by kernel_rfl) rfl ?_ (fun KK hKK => ?_)
  · exact ⟨d0, d1⟩
  repeat (first
    | (refine wpPlan_take (v := ?_) rfl (by rfl) (fun W hW => ?_) ?_; rotate_left; (focus ((try dsimp only at hW); go_split_ands; go_simp; (try with_reducible rfl); done)); (try simp only [Act.put, List.setIfInBounds_toArray, List.set_cons_zero, List.set_cons_succ]))
    | (refine wpPlan_skip rfl (by rfl) ?_; (try simp only [Act.put, List.setIfInBounds_toArray, List.set_cons_zero, List.set_cons_succ])))
  refine wpPlan_must rfl (by rfl) (fun K hK => ?_)
  go_simp
  (with_reducible refine (Hlen.out _ ht1.drew).mono ?_)
  rintro e w1' ⟨rfl, rfl⟩
  refine hK.out _ _ ?_ ?_
  · exact ⟨d0, d1⟩
  clear hK K
  (try simp only [Act.put, List.setIfInBounds_toArray, List.set_cons_zero, List.set_cons_succ])
  repeat (first
    | (refine wpPlan_take (v := ?_) rfl (by rfl) (fun W hW => ?_) ?_; rotate_left; (focus ((try dsimp only at hW); go_split_ands; go_simp; (try with_reducible rfl); done)); (try simp only [Act.put, List.setIfInBounds_toArray, List.set_cons_zero, List.set_cons_succ]))
    | (refine wpPlan_skip rfl (by rfl) ?_; (try simp only [Act.put, List.setIfInBounds_toArray, List.set_cons_zero, List.set_cons_succ])))
  refine wpPlan_must rfl (by rfl) (fun K hK => ?_)
  go_simp
  (with_reducible refine (Hcl.out _).mono ?_)
  rintro e w1' ⟨rfl, rfl⟩
  refine hK.out _ _ ?_ ?_
  · exact ⟨d0, d1⟩
  clear hK K
  (try simp only [Act.put, List.setIfInBounds_toArray, List.set_cons_zero, List.set_cons_succ])
  clear i3
  repeat (first
    | (refine wpPlan_take (v := ?_) rfl (by rfl) (fun W hW => ?_) ?_; rotate_left; (focus ((try dsimp only at hW); go_split_ands; go_simp; (try with_reducible rfl); done)); (try simp only [Act.put, List.setIfInBounds_toArray, List.set_cons_zero, List.set_cons_succ]))
    | (refine wpPlan_skip rfl (by rfl) ?_; (try simp only [Act.put, List.setIfInBounds_toArray, List.set_cons_zero, List.set_cons_succ])))
  refine wpPlan_done (hKK.out _ _ ?_)
  clear hKK KK
  go_wp2_with (fail)
  go_ret3
  exact ⟨rfl, ht1.drew⟩

theorem put_any (w : World) (t : Nat) (kw : Value) (ps : Prs) (most : Int) (k : List Int) (v : Int) (h : Tp w t F ps most) (hm : ps.length < 1000000) (hk : RB w (fun b => b ≠ t) kw k) (kb : KB k) (hl : k.length ≤ 65535) (hroom : hasK ps k = true ∨ (szK (putK ps k v) : Int) ≤ most) :
    Calls Try.prog 17 #[.pointer (some ⟨t, 0, none⟩), kw, .int .u64 v] w (TPut w t F ps most k v) := by
  cases hh : hasK ps k with
  | true => exact put_has w t kw ps most k v h hk kb hl hh
  | false => exact put_new w t kw ps most k v h hk kb hl hh (hroom.resolve_left (by simp [hh]))

theorem drop_not (w : World) (t : Nat) (kw : Value) (ps : Prs) (most : Int) (k : List Int) (h : Tp w t F ps most) (hk : RB w G kw k) (kb : KB k) (hh : hasK ps k = false) :
    Calls Try.prog 35 #[.pointer (some ⟨t, 0, none⟩), kw] w fun e w' => e = .returned (.tuple #[.int .u64 0, .bool false]) ∧ Ext w w' := by
  have hix := TreeA.index_any w _ ps h.tq
  have hm := h.few
  have Hix := Lib.hid hix
  clear hix
  have Hk := Lib.hid hk
  clear hk
  have Hh := Lib.hid hh
  clear hh
  have H := Lib.hid h
  clear h
  go_enter Try.func35, Try.ntmps35
  go_wp2_with (fail)
  (with_reducible refine Hix.out.mono ?_)
  rintro e w1 ⟨⟨m, rfl, hq⟩, rfl⟩
  have hd := ModF.drop_not w m kw ps k hq Hk.out kb hm Hh.out
  have Hd := Lib.hid hd
  clear hd
  have Hq := Lib.hid hq
  clear hq
  go_wp2_with (fail)
  (with_reducible refine Hd.out.mono ?_)
  rintro e w2 ⟨rfl, t2⟩
  go_wp2_with (fail)
  go_ret2
  exact ⟨rfl, t2⟩

set_option maxRecDepth 100000 in
set_option maxHeartbeats 800000 in
theorem drop_any (w : World) (t : Nat) (kw : Value) (ps : Prs) (most : Int) (k : List Int) (h : Tp w t F ps most) (hk : RB w (fun b => b ≠ t) kw k) (kb : KB k) (hl : k.length ≤ 65535) :
    Calls Try.prog 35 #[.pointer (some ⟨t, 0, none⟩), kw] w (TDrop w t F ps most k) := by
  have hm := h.few
  obtain ⟨g, Fm, c0, c1, f0, f1, hmp, hF, hFt, hlt, hsz, hmost⟩ := h
  have hix : Calls Try.prog 54 #[.pointer (some ⟨t, 0, none⟩)] w fun e w' => e = .returned (.pointer (some ⟨g, 0, none⟩)) ∧ w = w' := by
    have Hmp := Lib.hid hmp
    clear hmp
    go_enter Try.func54, Try.ntmps54
    go_wp2_with (fail)
    go_ret
    exact ⟨rfl, rfl⟩
  have hd := ModF.drop_any w g kw ps k hmp hk kb hm
  unfold DropRet at hd
  unfold TDrop
  have hszp : (szK (dropK ps k) : Int) ≤ most := by have := dropK_length ps k; unfold szK at hsz ⊢; omega
  have Hd := Lib.hid hd
  clear hd
  have Hmp := Lib.hid hmp
  clear hmp
  have HF := Lib.hid hF
  clear hF
  have HFt := Lib.hid hFt
  clear hFt
  have Hlt := Lib.hid hlt
  clear hlt
  have Hsz := Lib.hid hsz
  clear hsz
  have Hszp := Lib.hid hszp
  clear hszp
  have Hk := Lib.hid hk
  clear hk
  have Hix := Lib.hid hix
  clear hix
  go_enter Try.func35, Try.ntmps35
  go_wp2_with (fail)
  (with_reducible refine Hix.out.mono ?_)
  rintro e w1 ⟨rfl, rfl⟩
  go_wp2_with (fail)
  (with_reducible refine Hd.out.mono ?_)
  rintro e w2 ⟨rfl, Fm', hmp', hu⟩
  have Hmp' := Lib.hid hmp'
  clear hmp'
  have Hu := Lib.hid hu
  clear hu
  go_wp2_with (fail)
  go_ret2
  exact ⟨rfl, tp_mk (w := w) c0 c1 f0 f1 HF.out HFt.out Hmp'.out Hu.out Hszp.out hmost⟩
end TreeB
end Go.Proofs.Ytmdgmkmddkaadaa
