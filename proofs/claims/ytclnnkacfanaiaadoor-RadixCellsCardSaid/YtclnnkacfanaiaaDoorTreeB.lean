/- A tree's own calls: New, Live, Put, Drop. -/
import Derived.Test.YtclnnkacfanaiaaDoorTreeA
import Derived.Test.YtclnnkacfanaiaaDoorRadD
import Derived.Test.YtclnnkacfanaiaaDoorRadE
import Derived.Test.YtclnnkacfanaiaaDoorRadF
import Derived.Test.YtclnnkacfanaiaaDoorRadX
namespace Go.Proofs.YtclnnkacfanaiaaDoor
open Go.RowKit
set_option linter.unusedVariables false
set_option linter.unusedSimpArgs false

/-- block t holds a tree: its map, how many cells there are in all, its nodes, how many there are -/
structure Tw (w : World) (t : Nat) (F : Nat → Prop) (g : Nat) (Fm : Nat → Prop) (v : Value) (Fr Kr : Nat → Prop) (T : RT) (ps : Prs) (most : Int) : Prop where
  c0 : w.cell? ⟨t, 0, none⟩ = some (.pointer (some ⟨g, 0, none⟩))
  c1 : w.cell? ⟨t, 1, none⟩ = some (.int .i64 most)
  c2 : w.cell? ⟨t, 2, none⟩ = some v
  c3 : w.cell? ⟨t, 3, none⟩ = some (.int .i64 ((szK ps : Nat) : Int))
  f0 : w.frozen? ⟨t, 0, none⟩ = false
  f2 : w.frozen? ⟨t, 2, none⟩ = false
  f3 : w.frozen? ⟨t, 3, none⟩ = false
  mp : Mp w g Fm ps
  rn : RadM.Rn w Kr Fr v T
  ok : RT.Ok [] T
  pr : T.prs = ps
  hm : ∀ b, Fm b → F b ∧ b ≠ t
  hr : ∀ b, Fr b → F b ∧ b ≠ t ∧ ¬ Fm b
  hk : ∀ b, Kr b → F b ∧ b ≠ t ∧ ¬ Fm b ∧ ¬ Fr b
  self : F t
  lt : ∀ b, F b → b < w.heap.size
  fit : (szK ps : Int) ≤ most ∧ most ≤ 1048576
  few : ps.length ≤ 1000000
  tr : KidA.Tr w
  rf : ¬ F 1
def Tp (w : World) (t : Nat) (F : Nat → Prop) (ps : Prs) (most : Int) : Prop := ∃ g Fm v Fr Kr T, Tw w t F g Fm v Fr Kr T ps most
theorem Tw.keep {w w' : World} {t : Nat} {F : Nat → Prop} {g : Nat} {Fm : Nat → Prop} {v : Value} {Fr Kr S : Nat → Prop} {T : RT} {ps : Prs} {most : Int} (h : Tw w t F g Fm v Fr Kr T ps most) (x : Touch S w w') (hd : ∀ b, F b → ¬ S b) (hr : ¬ S 1) : Tw w' t F g Fm v Fr Kr T ps most := by
  have hn := hd t h.self
  have hl := h.lt t h.self
  exact ⟨keepc x hn h.c0, keepc x hn h.c1, keepc x hn h.c2, keepc x hn h.c3, keepf (p := ⟨t, 0, none⟩) x hl hn h.f0, keepf (p := ⟨t, 2, none⟩) x hl hn h.f2, keepf (p := ⟨t, 3, none⟩) x hl hn h.f3,
    h.mp.keep x (fun b hb => hd b (h.hm b hb).1), h.rn.keep x (fun b hb => hd b (h.hr b hb).1) (fun b hb => hd b (h.hk b hb).1), h.ok, h.pr, h.hm, h.hr, h.hk, h.self, fun b hb => Nat.lt_of_lt_of_le (h.lt b hb) x.size, h.fit, h.few, h.tr.keep x hr, h.rf⟩
namespace Tp
variable {w w' : World} {t : Nat} {F S : Nat → Prop} {ps : Prs} {most : Int}
theorem keepR (h : Tp w t F ps most) (x : Touch S w w') (hd : ∀ b, F b → ¬ S b) (hr : ¬ S 1) : Tp w' t F ps most := by
  obtain ⟨g, Fm, v, Fr, Kr, T, h⟩ := h; exact ⟨g, Fm, v, Fr, Kr, T, h.keep x hd hr⟩
theorem ext (h : Tp w t F ps most) (x : Ext w w') : Tp w' t F ps most := h.keepR x (fun _ _ h => h) id
theorem map (h : Tp w t F ps most) : ∃ g Fm, w.cell? ⟨t, 0, none⟩ = some (.pointer (some ⟨g, 0, none⟩)) ∧ w.cell? ⟨t, 1, none⟩ = some (.int .i64 most) ∧ Mp w g Fm ps := by
  obtain ⟨g, Fm, v, Fr, Kr, T, h⟩ := h; exact ⟨g, Fm, h.c0, h.c1, h.mp⟩
theorem self (h : Tp w t F ps most) : F t := by obtain ⟨g, Fm, v, Fr, Kr, T, h⟩ := h; exact h.self
theorem lt (h : Tp w t F ps most) : ∀ b, F b → b < w.heap.size := by obtain ⟨g, Fm, v, Fr, Kr, T, h⟩ := h; exact h.lt
theorem tr (h : Tp w t F ps most) : KidA.Tr w := by obtain ⟨g, Fm, v, Fr, Kr, T, h⟩ := h; exact h.tr
theorem rf (h : Tp w t F ps most) : ¬ F 1 := by obtain ⟨g, Fm, v, Fr, Kr, T, h⟩ := h; exact h.rf
theorem rises (h : Tp w t F ps most) : Rises ps := by obtain ⟨g, Fm, h1, h2, h3⟩ := h.map; exact h3.rises
theorem kb (h : Tp w t F ps most) : ∀ p ∈ ps, KB p.1 := by obtain ⟨g, Fm, h1, h2, h3⟩ := h.map; exact h3.kb
theorem long (h : Tp w t F ps most) : ∀ p ∈ ps, p.1.length ≤ 65535 := by obtain ⟨g, Fm, h1, h2, h3⟩ := h.map; exact h3.long
theorem fits (h : Tp w t F ps most) : (szK ps : Int) ≤ most ∧ most ≤ 1048576 := by obtain ⟨g, Fm, v, Fr, Kr, T, h⟩ := h; exact h.fit
theorem few (h : Tp w t F ps most) : ps.length ≤ 1000000 := by obtain ⟨g, Fm, v, Fr, Kr, T, h⟩ := h; exact h.few
theorem live (h : Tp w t F ps most) : w.cell? ⟨t, 3, none⟩ = some (.int .i64 ((szK ps : Nat) : Int)) := by obtain ⟨g, Fm, v, Fr, Kr, T, h⟩ := h; exact h.c3
theorem tq (h : Tp w t F ps most) : Tq w (.pointer (some ⟨t, 0, none⟩)) (fun b => b < w.heap.size) ps := by
  obtain ⟨g, Fm, v', Fr, Kr, T, h⟩ := h
  refine Or.inr ⟨t, g, rfl, h.c0, ?_⟩
  have h8 := h.lt
  have h6 := h.hm
  obtain ⟨v, es, a1, a2, a3, a4, a5, a6, a7, a8, a9, a10⟩ := h.mp
  exact ⟨v, es, a1, a2, a3, a8 _ a4, a5, fun b hb => ⟨a8 _ (a6 b hb).1, (a6 b hb).2⟩, fun e he => (a7 e he).mono (fun b hb => ⟨a8 _ hb.1, hb.2⟩), fun b hb => hb, a9, a10⟩
end Tp

namespace TreeB
open ModF (NewRet PutRet DropRet)
open ModA (Mq)
open RadM RadK
variable {F G : Nat → Prop}
theorem aw {w : World} {t : Nat} {ps : Prs} {most : Int} (h : Tp w t F ps most) {b : Nat} (hb : ¬ F b) : ¬ F b := hb

theorem most_any (w : World) (t : Nat) (ps : Prs) (most : Int) (h : Tp w t F ps most) :
    Calls Tryd.prog 41 #[.pointer (some ⟨t, 0, none⟩)] w fun e w' => e = .returned (.int .i64 most) ∧ w = w' := by
  obtain ⟨g, Fm, c0, c1, hmp⟩ := h.map
  have H := Lib.hid h
  clear h
  have Hmp := Lib.hid hmp
  clear hmp
  go_enter Tryd.func41, Tryd.ntmps41
  go_wp2_with (fail)
  go_ret
  exact ⟨rfl, rfl⟩
theorem most_nil (w : World) : Calls Tryd.prog 41 #[.pointer none] w fun e w' => e = .returned (.int .i64 0) ∧ w = w' := by
  go_enter Tryd.func41, Tryd.ntmps41
  go_wp2_with (fail)
  go_ret
  exact ⟨rfl, rfl⟩
theorem live_tp (w : World) (t : Nat) (ps : Prs) (most : Int) (h : Tp w t F ps most) : Calls Tryd.prog 37 #[.pointer (some ⟨t, 0, none⟩)] w fun e w' => e = .returned (.int .i64 (szK ps)) ∧ w = w' := by
  have c3 := h.live
  have H := Lib.hid h
  clear h
  go_enter Tryd.func37, Tryd.ntmps37
  go_wp2_with (fail)
  go_ret
  exact ⟨rfl, rfl⟩
theorem live_nil (w : World) : Calls Tryd.prog 37 #[.pointer none] w fun e w' => e = .returned (.int .i64 0) ∧ w = w' := by
  go_enter Tryd.func37, Tryd.ntmps37
  go_wp2_with (fail)
  go_ret
  exact ⟨rfl, rfl⟩

def TNew (w : World) (most : Int) (e : Ending) (w' : World) : Prop := ∃ t F, e = .returned (.pointer (some ⟨t, 0, none⟩)) ∧ Tp w' t F [] most ∧ (∀ b, F b → w.heap.size ≤ b) ∧ Ext w w'
theorem new_yes (w : World) (htr : KidA.Tr w) (most : Int) (h0 : 0 ≤ most) (h1 : most ≤ 1048576) : Calls Tryd.prog 14 #[.int .i64 most] w (TNew w most) := by
  have hn := ModF.new_any (G := fun _ => False) w _ [] (RP.nil _ _) (by decide) (fun p hp => by simp at hp)
  unfold NewRet at hn
  have b0 : decide (most < 0) = false := by simp; omega
  have b1 : decide (1048576 < most) = false := by simp; omega
  have Hn := Lib.hid hn
  clear hn
  have Htr := Lib.hid htr
  clear htr
  go_enter Tryd.func14, Tryd.ntmps14
  go_wp2_with (fail)
  (with_reducible refine Hn.out.mono ?_)
  rintro e w1 ⟨g, Fm, rfl, hmp, hF, ht⟩
  have Hmp := Lib.hid hmp
  clear hmp
  have HF := Lib.hid hF
  clear hF
  go_wp2_with (fail)
  go_ret
  have t1 : Ext w1 (w1.alloc (.cells #[.pointer (some ⟨g, 0, none⟩), .int .i64 most, .pointer none, .int .i64 0] 76)) := (Touch.refl _ _).alloc _
  have hrl : 1 < w.heap.size := World.block_lt_of_cell? _ ⟨1, 0, none⟩ Htr.out.r0
  have hs1 := ht.size
  refine ⟨w1.heap.size, fun b => b = w1.heap.size ∨ Fm b, rfl, ⟨g, Fm, .pointer none, fun _ => False, fun _ => False, .nil, ⟨by simp, by simp, by simp, by simp; rfl, by simp, by simp, by simp, Hmp.out.ext t1, rfl, trivial, rfl, fun b hb => ⟨Or.inr hb, fun h => by have := Hmp.out.lt b hb; omega⟩, fun b hb => hb.elim, fun b hb => hb.elim, Or.inl rfl, fun b hb => ?_, ⟨by rw [show szK [] = 0 from rfl]; omega, h1⟩, by simp, (Htr.out.ext ht).ext t1, fun hb => ?_⟩⟩, fun b hb => ?_, ht.trans' t1⟩
  · rcases hb with rfl | hb
    · simp
    · have := Hmp.out.lt b hb; simp; omega
  · rcases hb with hb | hb
    · omega
    · have := HF.out _ hb; omega
  · rcases hb with rfl | hb
    · exact ht.size
    · exact HF.out b hb
theorem new_no (w : World) (most : Int) (h : most < 0 ∨ 1048576 < most) : Calls Tryd.prog 14 #[.int .i64 most] w fun e w' => e = .returned (.pointer none) ∧ w = w' := by
  rcases h with h | h
  · have b0 : decide (most < 0) = true := by simpa using h
    go_enter Tryd.func14, Tryd.ntmps14
    go_wp2_with (fail)
    go_ret
    exact ⟨rfl, rfl⟩
  · have b0 : decide (most < 0) = false := by simp; omega
    have b1 : decide (1048576 < most) = true := by simpa using h
    go_enter Tryd.func14, Tryd.ntmps14
    go_wp2_with (fail)
    go_ret
    exact ⟨rfl, rfl⟩
theorem put_nil (w : World) (kw : Value) (v : Int) :
    Calls Tryd.prog 15 #[.pointer none, kw, .int .u64 v] w fun e w' => e = .returned (.tuple #[.int .u64 0, .bool false, .int .i64 1]) ∧ w = w' := by
  go_enter Tryd.func15, Tryd.ntmps15
  go_wp2_with (fail)
  go_ret3
  exact ⟨rfl, rfl⟩
theorem put_long (w : World) (t : Nat) (kw : Value) (k : List Int) (v : Int) (hk : RB w G kw k) (hl : 65535 < k.length) :
    Calls Tryd.prog 15 #[.pointer (some ⟨t, 0, none⟩), kw, .int .u64 v] w fun e w' => e = .returned (.tuple #[.int .u64 0, .bool false, .int .i64 3]) ∧ w = w' := by
  have hmay := may_any w G kw k hk
  rw [decide_eq_false (by omega)] at hmay
  have Hmay := Lib.hid hmay
  clear hmay
  go_enter Tryd.func15, Tryd.ntmps15
  go_wp2_with (fail)
  refine Hmay.out.mono ?_
  rintro e w1 ⟨rfl, rfl⟩
  go_wp2_with (fail)
  go_ret3
  exact ⟨rfl, rfl⟩

/-- what Put comes to where there is room -/
def TPut (w : World) (t : Nat) (F : Nat → Prop) (ps : Prs) (most : Int) (k : List Int) (v : Int) (e : Ending) (w' : World) : Prop :=
  e = .returned (.tuple #[.int .u64 (valK ps k), .bool (hasK ps k), .int .i64 0]) ∧ ∃ F', Tp w' t F' (putK ps k v) most ∧ Upd w w' F F'
def TDrop (w : World) (t : Nat) (F : Nat → Prop) (ps : Prs) (most : Int) (k : List Int) (e : Ending) (w' : World) : Prop :=
  e = .returned (.tuple #[.int .u64 (valK ps k), .bool (hasK ps k)]) ∧ ∃ F', Tp w' t F' (dropK ps k) most ∧ Upd w w' F F'

/-- the tree behind a change of its nodes, of its own cells, of its map -/
theorem tp_mk {w w1 w2 w3 w4 : World} {t g : Nat} {F Fm Fm' Fr Kr Fr' Kr' : Nat → Prop} {v v' : Value} {T T' : RT} {ps ps' : Prs} {most : Int} (h : Tw w t F g Fm v Fr Kr T ps most)
    (x1 : Ext w w1) (x2 : Touch Fr w1 w2) (x3 : Touch (fun b => b = t) w2 w3) (x4 : Upd w3 w4 Fm Fm') (hrn : Rn w2 Kr' Fr' v' T') (hok : RT.Ok [] T') (hpr : T'.prs = ps')
    (hF' : ∀ b, Fr' b → (Fr b ∨ w.heap.size ≤ b) ∧ b < w2.heap.size) (hK' : ∀ b, Kr' b → (Kr b ∨ w.heap.size ≤ b) ∧ b < w2.heap.size ∧ ¬ Fr' b)
    (c0 : w3.cell? ⟨t, 0, none⟩ = some (.pointer (some ⟨g, 0, none⟩))) (c1 : w3.cell? ⟨t, 1, none⟩ = some (.int .i64 most)) (c2 : w3.cell? ⟨t, 2, none⟩ = some v') (c3 : w3.cell? ⟨t, 3, none⟩ = some (.int .i64 ((szK ps' : Nat) : Int)))
    (f0 : w3.frozen? ⟨t, 0, none⟩ = false) (f2 : w3.frozen? ⟨t, 2, none⟩ = false) (f3 : w3.frozen? ⟨t, 3, none⟩ = false)
    (hmp : Mp w4 g Fm' ps') (hfit : (szK ps' : Int) ≤ most) (hfew : ps'.length ≤ 1000000) : ∃ F', Tp w4 t F' ps' most ∧ Upd w w4 F F' := by
  have hs1 := x1.size
  have hs2 := x2.size
  have hs3 := x3.size
  have hs4 := x4.1.size
  have htl := h.lt t h.self
  have hnt : ¬ Fm t := fun hf => (h.hm t hf).2 rfl
  have hntr : ¬ Fr t := fun hf => (h.hr t hf).2.1 rfl
  have t3 : t < w3.heap.size := by omega
  have hmlt : ∀ b, Fm b → b < w.heap.size := fun b hb => h.lt b (h.hm b hb).1
  have hFt : ∀ b, Fr' b → b ≠ t ∧ ¬ Fm b := fun b hb => by
    rcases (hF' b hb).1 with h1 | h1
    · exact (h.hr b h1).2
    · exact ⟨by omega, fun hf => by have := hmlt b hf; omega⟩
  have hKt : ∀ b, Kr' b → b ≠ t ∧ ¬ Fm b := fun b hb => by
    rcases (hK' b hb).1 with h1 | h1
    · exact ⟨(h.hk b h1).2.1, (h.hk b h1).2.2.1⟩
    · exact ⟨by omega, fun hf => by have := hmlt b hf; omega⟩
  have hm' : ∀ b, Fm' b → b < w2.heap.size → Fm b := fun b hb hlt => (x4.2 b hb).elim id (fun h1 => by omega)
  have htr : KidA.Tr w4 := (((h.tr.ext x1).keep x2 (fun hf => h.rf (h.hr _ hf).1)).keep x3 (fun e => h.rf (e ▸ h.self))).keep x4.1 (fun hf => h.rf (h.hm _ hf).1)
  refine ⟨fun b => b = t ∨ Fm' b ∨ Fr' b ∨ Kr' b, ⟨g, Fm', v', Fr', Kr', T', ⟨keepc x4.1 hnt c0, keepc x4.1 hnt c1, keepc x4.1 hnt c2, keepc x4.1 hnt c3, keepf (p := ⟨t, 0, none⟩) x4.1 t3 hnt f0, keepf (p := ⟨t, 2, none⟩) x4.1 t3 hnt f2, keepf (p := ⟨t, 3, none⟩) x4.1 t3 hnt f3,
    hmp, (hrn.keep x3 (fun b hb => (hFt b hb).1) (fun b hb => (hKt b hb).1)).keep x4.1 (fun b hb => (hFt b hb).2) (fun b hb => (hKt b hb).2), hok, hpr,
    fun b hb => ⟨Or.inr (Or.inl hb), fun e => ?_⟩, fun b hb => ⟨Or.inr (Or.inr (Or.inl hb)), (hFt b hb).1, fun hf => (hFt b hb).2 (hm' b hf (hF' b hb).2)⟩, fun b hb => ⟨Or.inr (Or.inr (Or.inr hb)), (hKt b hb).1, fun hf => (hKt b hb).2 (hm' b hf (hK' b hb).2.1), (hK' b hb).2.2⟩,
    Or.inl rfl, fun b hb => ?_, ⟨hfit, h.fit.2⟩, hfew, htr, fun hb => ?_⟩⟩, ?_, fun b hb => ?_⟩
  · subst e
    rcases x4.2 b hb with h1 | h1
    · exact hnt h1
    · omega
  · rcases hb with rfl | hb | hb | hb
    · omega
    · exact hmp.lt b hb
    · have := (hF' b hb).2; omega
    · have := (hK' b hb).2.1; omega
  · have hrl : 1 < w.heap.size := World.block_lt_of_cell? _ ⟨1, 0, none⟩ h.tr.r0
    rcases hb with hb | hb | hb | hb
    · exact h.rf (hb ▸ h.self)
    · rcases x4.2 _ hb with h1 | h1
      · exact h.rf (h.hm _ h1).1
      · omega
    · rcases (hF' _ hb).1 with h1 | h1
      · exact h.rf (h.hr _ h1).1
      · omega
    · rcases (hK' _ hb).1 with h1 | h1
      · exact h.rf (h.hk _ h1).1
      · omega
  · exact ((x1.none_to.trans' (x2.mono (fun i hi _ => (h.hr i hi).1))).trans' (x3.mono (fun i hi _ => hi ▸ h.self))).trans' (x4.1.mono (fun i hi _ => (h.hm i hi).1))
  · rcases hb with rfl | hb | hb | hb
    · exact Or.inl h.self
    · exact (x4.2 b hb).imp (fun h1 => (h.hm b h1).1) (fun h1 => by omega)
    · exact (hF' b hb).1.imp (fun h1 => (h.hr b h1).1) id
    · exact (hK' b hb).1.imp (fun h1 => (h.hk b h1).1) id

set_option maxRecDepth 100000 in
set_option maxHeartbeats 1600000 in
theorem put_has (w : World) (t : Nat) (kw : Value) (ps : Prs) (most : Int) (k : List Int) (v : Int) (h : Tp w t F ps most) (hk : RB w (fun b => ¬ F b) kw k) (kb : KB k) (hl : k.length ≤ 65535) (hh : hasK ps k = true) :
    Calls Tryd.prog 15 #[.pointer (some ⟨t, 0, none⟩), kw, .int .u64 v] w (TPut w t F ps most k v) := by
  have hmay := may_any w _ kw k hk
  rw [decide_eq_true hl] at hmay
  have hm := h.few
  have hlong := h.long
  obtain ⟨g, Fm, rv, Fr, Kr, T, h⟩ := h
  obtain ⟨ka, kc, rfl, l1, m1, kz⟩ := hk.shape
  unfold maxLen at m1
  have hget := ModA.get_any w _ _ ps k (Mq.of h.mp) hk kb hm
  rw [hh] at hget
  have c0 := h.c0
  have c1 := h.c1
  have c2 := h.c2
  have c3 := h.c3
  have hszp : (szK (putK ps k v) : Int) ≤ most := by rw [RadS.sz_put_has2 h.mp.rises v hh]; exact h.fit.1
  have hpl : (putK ps k v).length ≤ 1000000 := by have := putK_length ps k v; rw [hh] at this; simp at this; omega
  unfold TPut
  have H := Lib.hid h
  clear h
  have Hmay := Lib.hid hmay
  clear hmay
  have Hk := Lib.hid hk
  clear hk
  have Kb := Lib.hid kb
  clear kb
  have Hget := Lib.hid hget
  clear hget
  have Hh := Lib.hid hh
  clear hh
  have Hlong := Lib.hid hlong
  clear hlong
  have Hszp := Lib.hid hszp
  clear hszp
  have Hpl := Lib.hid hpl
  clear hpl
  go_enter Tryd.func15, Tryd.ntmps15
  go_wp2_with (fail)
  refine Hmay.out.mono ?_
  rintro e w1 ⟨rfl, rfl⟩
  go_wp2_with (fail)
  (with_reducible refine Hget.out.mono ?_)
  rintro e w2 ⟨rfl, y2⟩
  have d0 := keepc y2 id c0
  have d1 := keepc y2 id c1
  have d2 := keepc y2 id c2
  have d3 := keepc y2 id c3
  have Y2 := Lib.hid y2
  clear y2
  go_wp2_with (fail)
  refine wp_region_plan (.take 0 (.take 1 (.take 2 (.take 3 (.take 4 (.take 5 (.take 6 (.take 7 (.take 8 (.take 9 (.take 10 (.take 11 (.take 12 (.take 13 (.take 14 (.take 15 (.take 16 .done))))))))))))))))) (fun W => W.cell? ⟨t, 1, none⟩ = some (.int .i64 most)) (by kernel_rfl) (by kernel_rfl) (by kernel_rfl) rfl ?_ (fun KK hKK => ?_)
  · exact d1
  repeat (first
    | (refine wpPlan_take (v := ?_) rfl (by rfl) (fun W hW => ?_) ?_; rotate_left; (focus ((try dsimp only at hW); go_split_ands; go_simp; (try with_reducible rfl); done)); (try simp only [Act.put, List.setIfInBounds_toArray, List.set_cons_zero, List.set_cons_succ]))
    | (refine wpPlan_skip rfl (by rfl) ?_; (try simp only [Act.put, List.setIfInBounds_toArray, List.set_cons_zero, List.set_cons_succ])))
  refine wpPlan_done (hKK.out _ _ ?_)
  clear hKK KK
  go_wp2_with (fail)
  refine wp_region_plan (.take 0 (.take 1 (.take 2 (.take 3 (.take 5 (.take 7 (.two 4 6 (.must 6 (.take 8 (.must 9 (.take 10 (.take 11 (.take 12 (.take 13 (.take 14 (.must 15 (.take 16 .done)))))))))) (.take 8 (.must 4 (.must 9 (.take 10 (.take 11 (.take 12 (.take 13 (.take 14 (.must 15 (.take 16 .done))))))))))))))))) (fun W => True) (by kernel_rfl) (by kernel_rfl) (by kernel_rfl) rfl ?_ (fun KK hKK => ?_)
  · trivial
  repeat (first
    | (refine wpPlan_take (v := ?_) rfl (by rfl) (fun W hW => ?_) ?_; rotate_left; (focus ((try dsimp only at hW); go_split_ands; go_simp; (try with_reducible rfl); done)); (try simp only [Act.put, List.setIfInBounds_toArray, List.set_cons_zero, List.set_cons_succ]))
    | (refine wpPlan_skip rfl (by rfl) ?_; (try simp only [Act.put, List.setIfInBounds_toArray, List.set_cons_zero, List.set_cons_succ])))
  refine wpPlan_two ?_ ?_
  · refine wpPlan_must rfl (by rfl) (fun K hK => ?_)
    go_simp
    refine hK.out _ _ ?_ ?_
    · trivial
    clear hK K
    (try simp only [Act.put, List.setIfInBounds_toArray, List.set_cons_zero, List.set_cons_succ])
    repeat (first
      | (refine wpPlan_take (v := ?_) rfl (by rfl) (fun W hW => ?_) ?_; rotate_left; (focus ((try dsimp only at hW); go_split_ands; go_simp; (try with_reducible rfl); done)); (try simp only [Act.put, List.setIfInBounds_toArray, List.set_cons_zero, List.set_cons_succ]))
      | (refine wpPlan_skip rfl (by rfl) ?_; (try simp only [Act.put, List.setIfInBounds_toArray, List.set_cons_zero, List.set_cons_succ])))
    refine wpPlan_must rfl (by rfl) (fun K hK => ?_)
    refine wp_push_any _ _ _ 23 rfl 5 (.int .u8 0) 1 1 Tryd.underlying23 info_u8 rfl (by decide) (.slice none 0 0) 0 [] rfl (World.ownsRow_nil _ _ _ _) ka k.length kc rfl kz (ivs .u8 k) l1 (by simp) (Hk.out.ext (Y2.out.drew.drew)).src (ivs_one _ _) (by unfold maxLen; omega) (by omega) ?_
    intro kv w3 hown t3 hb3
    rw [Nat.zero_add, List.nil_append] at hown
    have t3 : Ext (w2.drew.drew) w3 := t3.mono (fun i hi _ => by cases hi)
    have hbl : ∀ b, kv.ownBlock = some b → w.heap.size ≤ b ∧ b < w3.heap.size := fun b hb => by
      have h1 := (hown.lt b hb).2
      have h2 := (Y2.out.drew.drew).size
      rcases hb3 with h3 | h3
      · rw [h3] at hb; cases hb
      · rw [h3] at hb; cases hb; exact ⟨h2, h1⟩
    have y3 := (Y2.out.drew.drew).trans' t3
    have d0 := keepc t3 id d0
    have d1 := keepc t3 id d1
    have d2 := keepc t3 id d2
    have d3 := keepc t3 id d3
    have hpre : RadB.Pre w3 (fun b => Kr b ∨ (w.heap.size ≤ b ∧ b < w3.heap.size)) Fr rv kv T [] k := by
      refine ⟨(H.out.rn.ext y3).keys (fun b hb => Or.inl hb), H.out.ok, (show OB w3 (fun b => Kr b ∨ (w.heap.size ≤ b ∧ b < w3.heap.size)) kv k from ⟨hown, fun b hb => Or.inr (hbl b hb)⟩).rb, Kb.out, List.nil_prefix, hl, by rw [H.out.pr]; exact Hlong.out, fun b hb hf => ?_, fun b hb => Nat.lt_of_lt_of_le (H.out.lt b (H.out.hr b hb).1) y3.size, fun b hb => ?_, H.out.tr.ext y3, fun hf => H.out.rf (H.out.hr _ hf).1⟩
      · rcases hb with hb | hb
        · exact (H.out.hk b hb).2.2.2 hf
        · have := H.out.lt b (H.out.hr b hf).1; omega
      · rcases hb with hb | hb
        · exact Nat.lt_of_lt_of_le (H.out.lt b (H.out.hk b hb).1) y3.size
        · exact hb.2
    have hpu := RadD.put_any T v kv k w3 _ _ _ _ hpre
    unfold RadB.PutRet at hpu
    have htl := H.out.lt t H.out.self
    have hntr : ¬ Fr t := fun hf => (H.out.hr t hf).2.1 rfl
    have hntm : ¬ Fm t := fun hf => (H.out.hm t hf).2 rfl
    have g0 := keepf (p := ⟨t, 0, none⟩) y3 htl id H.out.f0
    have g2 := keepf (p := ⟨t, 2, none⟩) y3 htl id H.out.f2
    have g3 := keepf (p := ⟨t, 3, none⟩) y3 htl id H.out.f3
    have htl3 : t < w3.heap.size := Nat.lt_of_lt_of_le htl y3.size
    obtain ⟨va, vc, rfl⟩ := own_len hown
    have hmany := RT.manyT_le T k
    have hsz := RT.putT_cells v Kb.out H.out.ok
    rw [RadS.cells_sz H.out.ok, RadS.cells_sz (RT.putT_ok v Kb.out H.out.ok List.nil_prefix), RT.putT_prs v Kb.out H.out.ok List.nil_prefix, H.out.pr] at hsz
    have hprs := RT.putT_prs v Kb.out H.out.ok List.nil_prefix
    rw [H.out.pr] at hprs
    have hfit := H.out.fit
    generalize hmt : RT.manyT T k = mt at *
    clear hb3 hpre
    have Hown := Lib.hid hown
    clear hown
    have T3 := Lib.hid t3
    clear t3
    have Hbl := Lib.hid hbl
    clear hbl
    have Y3 := Lib.hid y3
    clear y3
    have Hpu := Lib.hid hpu
    clear hpu
    have Hsz := Lib.hid hsz
    clear hsz
    have Hprs := Lib.hid hprs
    clear hprs
    have Hmt := Lib.hid hmt
    clear hmt
    refine hK.out _ _ ?_ ?_
    · trivial
    clear hK K
    (try simp only [Act.put, List.setIfInBounds_toArray, List.set_cons_zero, List.set_cons_succ])
    repeat (first
      | (refine wpPlan_take (v := ?_) rfl (by rfl) (fun W hW => ?_) ?_; rotate_left; (focus ((try dsimp only at hW); go_split_ands; go_simp; (try with_reducible rfl); done)); (try simp only [Act.put, List.setIfInBounds_toArray, List.set_cons_zero, List.set_cons_succ]))
      | (refine wpPlan_skip rfl (by rfl) ?_; (try simp only [Act.put, List.setIfInBounds_toArray, List.set_cons_zero, List.set_cons_succ])))
    refine wpPlan_must rfl (by rfl) (fun K hK => ?_)
    go_simp
    (with_reducible refine (Hpu.out).mono ?_)
    rintro e w4 ⟨rv', F', rfl, hrn4, t4, hF4⟩
    obtain ⟨gr, rfl, _⟩ := hrn4.ptr (RT.putT_is T k v)
    have d0 := keepc t4 hntr d0
    have d1 := keepc t4 hntr d1
    have d2 := keepc t4 hntr d2
    have d3 := keepc t4 hntr d3
    have g0 := keepf (p := ⟨t, 0, none⟩) t4 htl3 hntr g0
    have g2 := keepf (p := ⟨t, 2, none⟩) t4 htl3 hntr g2
    have g3 := keepf (p := ⟨t, 3, none⟩) t4 htl3 hntr g3
    have Hrn4 := Lib.hid hrn4
    clear hrn4
    have T4 := Lib.hid t4
    clear t4
    have HF4 := Lib.hid hF4
    clear hF4
    have Hntr := Lib.hid hntr
    clear hntr
    have Hntm := Lib.hid hntm
    clear hntm
    refine hK.out _ _ ?_ ?_
    · trivial
    clear hK K
    (try simp only [Act.put, List.setIfInBounds_toArray, List.set_cons_zero, List.set_cons_succ])
    repeat (first
      | (refine wpPlan_take (v := ?_) rfl (by rfl) (fun W hW => ?_) ?_; rotate_left; (focus ((try dsimp only at hW); go_split_ands; go_simp; (try with_reducible rfl); done)); (try simp only [Act.put, List.setIfInBounds_toArray, List.set_cons_zero, List.set_cons_succ]))
      | (refine wpPlan_skip rfl (by rfl) ?_; (try simp only [Act.put, List.setIfInBounds_toArray, List.set_cons_zero, List.set_cons_succ])))
    refine wpPlan_must rfl (by rfl) (fun K hK => ?_)
    go_simp
    obtain ⟨w5, hw5⟩ : ∃ w5, w5 = w4.setCell ⟨t, 2, none⟩ (pt gr) := ⟨_, rfl⟩
    have d0 : w5.cell? ⟨t, 0, none⟩ = some (.pointer (some ⟨g, 0, none⟩)) := by rw [hw5, World.cell?_setCell_other _ _ _ _ (by simp)]; exact d0
    have d1 : w5.cell? ⟨t, 1, none⟩ = some (.int .i64 most) := by rw [hw5, World.cell?_setCell_other _ _ _ _ (by simp)]; exact d1
    have d3 : w5.cell? ⟨t, 3, none⟩ = some (.int .i64 ((szK ps : Nat) : Int)) := by rw [hw5, World.cell?_setCell_other _ _ _ _ (by simp)]; exact d3
    have d2 : w5.cell? ⟨t, 2, none⟩ = some (pt gr) := by rw [hw5]; exact World.cell?_setCell_same _ _ _ d2
    have t5 : Touch (fun b => b = t) w4 w5 := by rw [hw5]; exact Touch.setCell (S := fun b => b = t) (Touch.refl _ _) (p := ⟨t, 2, none⟩) (Or.inl rfl) _
    have g0 : w5.frozen? ⟨t, 0, none⟩ = false := by rw [hw5, World.frozen?_setCell]; exact g0
    have g2 : w5.frozen? ⟨t, 2, none⟩ = false := by rw [hw5, World.frozen?_setCell]; exact g2
    have g3 : w5.frozen? ⟨t, 3, none⟩ = false := by rw [hw5, World.frozen?_setCell]; exact g3
    rw [← hw5]
    clear hw5
    have T5 := Lib.hid t5
    clear t5
    refine hK.out _ _ ?_ ?_
    · trivial
    clear hK K
    (try simp only [Act.put, List.setIfInBounds_toArray, List.set_cons_zero, List.set_cons_succ])
    repeat (first
      | (refine wpPlan_take (v := ?_) rfl (by rfl) (fun W hW => ?_) ?_; rotate_left; (focus ((try dsimp only at hW); go_split_ands; go_simp; (try with_reducible rfl); done)); (try simp only [Act.put, List.setIfInBounds_toArray, List.set_cons_zero, List.set_cons_succ]))
      | (refine wpPlan_skip rfl (by rfl) ?_; (try simp only [Act.put, List.setIfInBounds_toArray, List.set_cons_zero, List.set_cons_succ])))
    refine wpPlan_done (hKK.out _ _ ?_)
    clear hKK KK
    have i3 : IntKind.i64.wrap (((szK ps : Nat) : Int) + (mt : Int)) = ((szK ps : Nat) : Int) + (mt : Int) := by rw [IntKind.wrap_i64]; omega
    have t6 : Touch (fun b => b = t) w5 (w5.setCell ⟨t, 3, none⟩ (.int .i64 (((szK ps : Nat) : Int) + (mt : Int)))) := Touch.setCell (S := fun b => b = t) (Touch.refl _ _) (p := ⟨t, 3, none⟩) (Or.inl rfl) _
    have e0 : (w5.setCell ⟨t, 3, none⟩ (.int .i64 (((szK ps : Nat) : Int) + (mt : Int)))).cell? ⟨t, 0, none⟩ = some (.pointer (some ⟨g, 0, none⟩)) := by rw [World.cell?_setCell_other _ _ _ _ (by simp)]; exact d0
    have e1 : (w5.setCell ⟨t, 3, none⟩ (.int .i64 (((szK ps : Nat) : Int) + (mt : Int)))).cell? ⟨t, 1, none⟩ = some (.int .i64 most) := by rw [World.cell?_setCell_other _ _ _ _ (by simp)]; exact d1
    have e2 : (w5.setCell ⟨t, 3, none⟩ (.int .i64 (((szK ps : Nat) : Int) + (mt : Int)))).cell? ⟨t, 2, none⟩ = some (pt gr) := by rw [World.cell?_setCell_other _ _ _ _ (by simp)]; exact d2
    have e3 : (w5.setCell ⟨t, 3, none⟩ (.int .i64 (((szK ps : Nat) : Int) + (mt : Int)))).cell? ⟨t, 3, none⟩ = some (.int .i64 ((szK (putK ps k v) : Nat) : Int)) := by rw [World.cell?_setCell_same _ _ _ d3, Hsz.out]; rfl
    have h0 : (w5.setCell ⟨t, 3, none⟩ (.int .i64 (((szK ps : Nat) : Int) + (mt : Int)))).frozen? ⟨t, 0, none⟩ = false := by rw [World.frozen?_setCell]; exact g0
    have h2 : (w5.setCell ⟨t, 3, none⟩ (.int .i64 (((szK ps : Nat) : Int) + (mt : Int)))).frozen? ⟨t, 2, none⟩ = false := by rw [World.frozen?_setCell]; exact g2
    have h3 : (w5.setCell ⟨t, 3, none⟩ (.int .i64 (((szK ps : Nat) : Int) + (mt : Int)))).frozen? ⟨t, 3, none⟩ = false := by rw [World.frozen?_setCell]; exact g3
    have y4 : Touch Fr w w4 := Y3.out.ext_trans T4.out
    have t46 := T5.out.trans' t6
    have y6 : Touch (fun b => Fr b ∨ b = t) w (w5.setCell ⟨t, 3, none⟩ (.int .i64 (((szK ps : Nat) : Int) + (mt : Int)))) := (y4.mono (fun i hi _ => Or.inl hi)).trans' (t46.mono (fun i hi _ => Or.inr hi))
    have hput := ModF.put_any _ g _ ps k v (H.out.mp.keep y6 (fun b hb e => e.elim (fun e => (H.out.hr b e).2.2 hb) (fun e => (H.out.hm b hb).2 e))) (Hk.out.keep y6 (fun b hb e => hb (e.elim (fun e => (H.out.hr b e).1) (fun e => e ▸ H.out.self)))) Kb.out hl hm
    unfold PutRet at hput
    have Hput := Lib.hid hput
    clear hput
    have Y6 := Lib.hid y6
    clear y6
    have T46 := Lib.hid t46
    clear t46
    have Y4 := Lib.hid y4
    clear y4
    have T6 := Lib.hid t6
    clear t6
    have E3 := Lib.hid e3
    clear e3
    have E2 := Lib.hid e2
    clear e2
    have E1 := Lib.hid e1
    clear e1
    have H0 := Lib.hid h0
    clear h0
    have H2 := Lib.hid h2
    clear h2
    have H3 := Lib.hid h3
    clear h3
    go_wp2_with (fail)
    (with_reducible refine Hput.out.mono ?_)
    rintro e w7 ⟨rfl, Fm', hmp', hu⟩
    have Hmp' := Lib.hid hmp'
    clear hmp'
    have Hu := Lib.hid hu
    clear hu
    go_wp2_with (fail)
    go_ret3
    refine ⟨rfl, ?_⟩
    have hs3 := Y3.out.size
    have hs4 := T4.out.size
    refine tp_mk H.out Y3.out T4.out T46.out Hu.out Hrn4.out (RT.putT_ok v Kb.out H.out.ok List.nil_prefix) Hprs.out (fun b hb => ⟨(HF4.out b hb).1.imp id (fun h => by omega), (HF4.out b hb).2⟩) (fun b hb => ?_) e0 E1.out E2.out E3.out H0.out H2.out H3.out Hmp'.out Hszp.out Hpl.out
    rcases hb with (hb | hb) | hb
    · have h1 := H.out.lt b (H.out.hk b hb).1
      refine ⟨Or.inl hb, by omega, fun hf => ?_⟩
      rcases (HF4.out b hf).1 with h2 | h2
      · exact (H.out.hk b hb).2.2.2 h2
      · omega
    · refine ⟨Or.inr hb.1, by omega, fun hf => ?_⟩
      rcases (HF4.out b hf).1 with h2 | h2
      · have h3 := H.out.lt b (H.out.hr b h2).1; omega
      · omega
    · exact ⟨Or.inr (by omega), hb.2.1, hb.2.2⟩
  · refine wpPlan_must rfl (by rfl) (fun K hK => ?_)
    refine wp_push_any _ _ _ 23 rfl 5 (.int .u8 0) 1 1 Tryd.underlying23 info_u8 rfl (by decide) (.slice none 0 0) 0 [] rfl (World.ownsRow_nil _ _ _ _) ka k.length kc rfl kz (ivs .u8 k) l1 (by simp) (Hk.out.ext (Y2.out.drew.drew)).src (ivs_one _ _) (by unfold maxLen; omega) (by omega) ?_
    intro kv w3 hown t3 hb3
    rw [Nat.zero_add, List.nil_append] at hown
    have t3 : Ext (w2.drew.drew) w3 := t3.mono (fun i hi _ => by cases hi)
    have hbl : ∀ b, kv.ownBlock = some b → w.heap.size ≤ b ∧ b < w3.heap.size := fun b hb => by
      have h1 := (hown.lt b hb).2
      have h2 := (Y2.out.drew.drew).size
      rcases hb3 with h3 | h3
      · rw [h3] at hb; cases hb
      · rw [h3] at hb; cases hb; exact ⟨h2, h1⟩
    have y3 := (Y2.out.drew.drew).trans' t3
    have d0 := keepc t3 id d0
    have d1 := keepc t3 id d1
    have d2 := keepc t3 id d2
    have d3 := keepc t3 id d3
    have hpre : RadB.Pre w3 (fun b => Kr b ∨ (w.heap.size ≤ b ∧ b < w3.heap.size)) Fr rv kv T [] k := by
      refine ⟨(H.out.rn.ext y3).keys (fun b hb => Or.inl hb), H.out.ok, (show OB w3 (fun b => Kr b ∨ (w.heap.size ≤ b ∧ b < w3.heap.size)) kv k from ⟨hown, fun b hb => Or.inr (hbl b hb)⟩).rb, Kb.out, List.nil_prefix, hl, by rw [H.out.pr]; exact Hlong.out, fun b hb hf => ?_, fun b hb => Nat.lt_of_lt_of_le (H.out.lt b (H.out.hr b hb).1) y3.size, fun b hb => ?_, H.out.tr.ext y3, fun hf => H.out.rf (H.out.hr _ hf).1⟩
      · rcases hb with hb | hb
        · exact (H.out.hk b hb).2.2.2 hf
        · have := H.out.lt b (H.out.hr b hf).1; omega
      · rcases hb with hb | hb
        · exact Nat.lt_of_lt_of_le (H.out.lt b (H.out.hk b hb).1) y3.size
        · exact hb.2
    have hpu := RadD.put_any T v kv k w3 _ _ _ _ hpre
    unfold RadB.PutRet at hpu
    have htl := H.out.lt t H.out.self
    have hntr : ¬ Fr t := fun hf => (H.out.hr t hf).2.1 rfl
    have hntm : ¬ Fm t := fun hf => (H.out.hm t hf).2 rfl
    have g0 := keepf (p := ⟨t, 0, none⟩) y3 htl id H.out.f0
    have g2 := keepf (p := ⟨t, 2, none⟩) y3 htl id H.out.f2
    have g3 := keepf (p := ⟨t, 3, none⟩) y3 htl id H.out.f3
    have htl3 : t < w3.heap.size := Nat.lt_of_lt_of_le htl y3.size
    obtain ⟨va, vc, rfl⟩ := own_len hown
    have hmany := RT.manyT_le T k
    have hsz := RT.putT_cells v Kb.out H.out.ok
    rw [RadS.cells_sz H.out.ok, RadS.cells_sz (RT.putT_ok v Kb.out H.out.ok List.nil_prefix), RT.putT_prs v Kb.out H.out.ok List.nil_prefix, H.out.pr] at hsz
    have hprs := RT.putT_prs v Kb.out H.out.ok List.nil_prefix
    rw [H.out.pr] at hprs
    have hfit := H.out.fit
    generalize hmt : RT.manyT T k = mt at *
    clear hb3 hpre
    have Hown := Lib.hid hown
    clear hown
    have T3 := Lib.hid t3
    clear t3
    have Hbl := Lib.hid hbl
    clear hbl
    have Y3 := Lib.hid y3
    clear y3
    have Hpu := Lib.hid hpu
    clear hpu
    have Hsz := Lib.hid hsz
    clear hsz
    have Hprs := Lib.hid hprs
    clear hprs
    have Hmt := Lib.hid hmt
    clear hmt
    refine hK.out _ _ ?_ ?_
    · trivial
    clear hK K
    (try simp only [Act.put, List.setIfInBounds_toArray, List.set_cons_zero, List.set_cons_succ])
    repeat (first
      | (refine wpPlan_take (v := ?_) rfl (by rfl) (fun W hW => ?_) ?_; rotate_left; (focus ((try dsimp only at hW); go_split_ands; go_simp; (try with_reducible rfl); done)); (try simp only [Act.put, List.setIfInBounds_toArray, List.set_cons_zero, List.set_cons_succ]))
      | (refine wpPlan_skip rfl (by rfl) ?_; (try simp only [Act.put, List.setIfInBounds_toArray, List.set_cons_zero, List.set_cons_succ])))
    refine wpPlan_must rfl (by rfl) (fun K hK => ?_)
    go_simp
    refine hK.out _ _ ?_ ?_
    · trivial
    clear hK K
    (try simp only [Act.put, List.setIfInBounds_toArray, List.set_cons_zero, List.set_cons_succ])
    repeat (first
      | (refine wpPlan_take (v := ?_) rfl (by rfl) (fun W hW => ?_) ?_; rotate_left; (focus ((try dsimp only at hW); go_split_ands; go_simp; (try with_reducible rfl); done)); (try simp only [Act.put, List.setIfInBounds_toArray, List.set_cons_zero, List.set_cons_succ]))
      | (refine wpPlan_skip rfl (by rfl) ?_; (try simp only [Act.put, List.setIfInBounds_toArray, List.set_cons_zero, List.set_cons_succ])))
    refine wpPlan_must rfl (by rfl) (fun K hK => ?_)
    go_simp
    (with_reducible refine (Hpu.out).mono ?_)
    rintro e w4 ⟨rv', F', rfl, hrn4, t4, hF4⟩
    obtain ⟨gr, rfl, _⟩ := hrn4.ptr (RT.putT_is T k v)
    have d0 := keepc t4 hntr d0
    have d1 := keepc t4 hntr d1
    have d2 := keepc t4 hntr d2
    have d3 := keepc t4 hntr d3
    have g0 := keepf (p := ⟨t, 0, none⟩) t4 htl3 hntr g0
    have g2 := keepf (p := ⟨t, 2, none⟩) t4 htl3 hntr g2
    have g3 := keepf (p := ⟨t, 3, none⟩) t4 htl3 hntr g3
    have Hrn4 := Lib.hid hrn4
    clear hrn4
    have T4 := Lib.hid t4
    clear t4
    have HF4 := Lib.hid hF4
    clear hF4
    have Hntr := Lib.hid hntr
    clear hntr
    have Hntm := Lib.hid hntm
    clear hntm
    refine hK.out _ _ ?_ ?_
    · trivial
    clear hK K
    (try simp only [Act.put, List.setIfInBounds_toArray, List.set_cons_zero, List.set_cons_succ])
    repeat (first
      | (refine wpPlan_take (v := ?_) rfl (by rfl) (fun W hW => ?_) ?_; rotate_left; (focus ((try dsimp only at hW); go_split_ands; go_simp; (try with_reducible rfl); done)); (try simp only [Act.put, List.setIfInBounds_toArray, List.set_cons_zero, List.set_cons_succ]))
      | (refine wpPlan_skip rfl (by rfl) ?_; (try simp only [Act.put, List.setIfInBounds_toArray, List.set_cons_zero, List.set_cons_succ])))
    refine wpPlan_must rfl (by rfl) (fun K hK => ?_)
    go_simp
    obtain ⟨w5, hw5⟩ : ∃ w5, w5 = w4.setCell ⟨t, 2, none⟩ (pt gr) := ⟨_, rfl⟩
    have d0 : w5.cell? ⟨t, 0, none⟩ = some (.pointer (some ⟨g, 0, none⟩)) := by rw [hw5, World.cell?_setCell_other _ _ _ _ (by simp)]; exact d0
    have d1 : w5.cell? ⟨t, 1, none⟩ = some (.int .i64 most) := by rw [hw5, World.cell?_setCell_other _ _ _ _ (by simp)]; exact d1
    have d3 : w5.cell? ⟨t, 3, none⟩ = some (.int .i64 ((szK ps : Nat) : Int)) := by rw [hw5, World.cell?_setCell_other _ _ _ _ (by simp)]; exact d3
    have d2 : w5.cell? ⟨t, 2, none⟩ = some (pt gr) := by rw [hw5]; exact World.cell?_setCell_same _ _ _ d2
    have t5 : Touch (fun b => b = t) w4 w5 := by rw [hw5]; exact Touch.setCell (S := fun b => b = t) (Touch.refl _ _) (p := ⟨t, 2, none⟩) (Or.inl rfl) _
    have g0 : w5.frozen? ⟨t, 0, none⟩ = false := by rw [hw5, World.frozen?_setCell]; exact g0
    have g2 : w5.frozen? ⟨t, 2, none⟩ = false := by rw [hw5, World.frozen?_setCell]; exact g2
    have g3 : w5.frozen? ⟨t, 3, none⟩ = false := by rw [hw5, World.frozen?_setCell]; exact g3
    rw [← hw5]
    clear hw5
    have T5 := Lib.hid t5
    clear t5
    refine hK.out _ _ ?_ ?_
    · trivial
    clear hK K
    (try simp only [Act.put, List.setIfInBounds_toArray, List.set_cons_zero, List.set_cons_succ])
    repeat (first
      | (refine wpPlan_take (v := ?_) rfl (by rfl) (fun W hW => ?_) ?_; rotate_left; (focus ((try dsimp only at hW); go_split_ands; go_simp; (try with_reducible rfl); done)); (try simp only [Act.put, List.setIfInBounds_toArray, List.set_cons_zero, List.set_cons_succ]))
      | (refine wpPlan_skip rfl (by rfl) ?_; (try simp only [Act.put, List.setIfInBounds_toArray, List.set_cons_zero, List.set_cons_succ])))
    refine wpPlan_done (hKK.out _ _ ?_)
    clear hKK KK
    have i3 : IntKind.i64.wrap (((szK ps : Nat) : Int) + (mt : Int)) = ((szK ps : Nat) : Int) + (mt : Int) := by rw [IntKind.wrap_i64]; omega
    have t6 : Touch (fun b => b = t) w5 (w5.setCell ⟨t, 3, none⟩ (.int .i64 (((szK ps : Nat) : Int) + (mt : Int)))) := Touch.setCell (S := fun b => b = t) (Touch.refl _ _) (p := ⟨t, 3, none⟩) (Or.inl rfl) _
    have e0 : (w5.setCell ⟨t, 3, none⟩ (.int .i64 (((szK ps : Nat) : Int) + (mt : Int)))).cell? ⟨t, 0, none⟩ = some (.pointer (some ⟨g, 0, none⟩)) := by rw [World.cell?_setCell_other _ _ _ _ (by simp)]; exact d0
    have e1 : (w5.setCell ⟨t, 3, none⟩ (.int .i64 (((szK ps : Nat) : Int) + (mt : Int)))).cell? ⟨t, 1, none⟩ = some (.int .i64 most) := by rw [World.cell?_setCell_other _ _ _ _ (by simp)]; exact d1
    have e2 : (w5.setCell ⟨t, 3, none⟩ (.int .i64 (((szK ps : Nat) : Int) + (mt : Int)))).cell? ⟨t, 2, none⟩ = some (pt gr) := by rw [World.cell?_setCell_other _ _ _ _ (by simp)]; exact d2
    have e3 : (w5.setCell ⟨t, 3, none⟩ (.int .i64 (((szK ps : Nat) : Int) + (mt : Int)))).cell? ⟨t, 3, none⟩ = some (.int .i64 ((szK (putK ps k v) : Nat) : Int)) := by rw [World.cell?_setCell_same _ _ _ d3, Hsz.out]; rfl
    have h0 : (w5.setCell ⟨t, 3, none⟩ (.int .i64 (((szK ps : Nat) : Int) + (mt : Int)))).frozen? ⟨t, 0, none⟩ = false := by rw [World.frozen?_setCell]; exact g0
    have h2 : (w5.setCell ⟨t, 3, none⟩ (.int .i64 (((szK ps : Nat) : Int) + (mt : Int)))).frozen? ⟨t, 2, none⟩ = false := by rw [World.frozen?_setCell]; exact g2
    have h3 : (w5.setCell ⟨t, 3, none⟩ (.int .i64 (((szK ps : Nat) : Int) + (mt : Int)))).frozen? ⟨t, 3, none⟩ = false := by rw [World.frozen?_setCell]; exact g3
    have y4 : Touch Fr w w4 := Y3.out.ext_trans T4.out
    have t46 := T5.out.trans' t6
    have y6 : Touch (fun b => Fr b ∨ b = t) w (w5.setCell ⟨t, 3, none⟩ (.int .i64 (((szK ps : Nat) : Int) + (mt : Int)))) := (y4.mono (fun i hi _ => Or.inl hi)).trans' (t46.mono (fun i hi _ => Or.inr hi))
    have hput := ModF.put_any _ g _ ps k v (H.out.mp.keep y6 (fun b hb e => e.elim (fun e => (H.out.hr b e).2.2 hb) (fun e => (H.out.hm b hb).2 e))) (Hk.out.keep y6 (fun b hb e => hb (e.elim (fun e => (H.out.hr b e).1) (fun e => e ▸ H.out.self)))) Kb.out hl hm
    unfold PutRet at hput
    have Hput := Lib.hid hput
    clear hput
    have Y6 := Lib.hid y6
    clear y6
    have T46 := Lib.hid t46
    clear t46
    have Y4 := Lib.hid y4
    clear y4
    have T6 := Lib.hid t6
    clear t6
    have E3 := Lib.hid e3
    clear e3
    have E2 := Lib.hid e2
    clear e2
    have E1 := Lib.hid e1
    clear e1
    have H0 := Lib.hid h0
    clear h0
    have H2 := Lib.hid h2
    clear h2
    have H3 := Lib.hid h3
    clear h3
    go_wp2_with (fail)
    (with_reducible refine Hput.out.mono ?_)
    rintro e w7 ⟨rfl, Fm', hmp', hu⟩
    have Hmp' := Lib.hid hmp'
    clear hmp'
    have Hu := Lib.hid hu
    clear hu
    go_wp2_with (fail)
    go_ret3
    refine ⟨rfl, ?_⟩
    have hs3 := Y3.out.size
    have hs4 := T4.out.size
    refine tp_mk H.out Y3.out T4.out T46.out Hu.out Hrn4.out (RT.putT_ok v Kb.out H.out.ok List.nil_prefix) Hprs.out (fun b hb => ⟨(HF4.out b hb).1.imp id (fun h => by omega), (HF4.out b hb).2⟩) (fun b hb => ?_) e0 E1.out E2.out E3.out H0.out H2.out H3.out Hmp'.out Hszp.out Hpl.out
    rcases hb with (hb | hb) | hb
    · have h1 := H.out.lt b (H.out.hk b hb).1
      refine ⟨Or.inl hb, by omega, fun hf => ?_⟩
      rcases (HF4.out b hf).1 with h2 | h2
      · exact (H.out.hk b hb).2.2.2 h2
      · omega
    · refine ⟨Or.inr hb.1, by omega, fun hf => ?_⟩
      rcases (HF4.out b hf).1 with h2 | h2
      · have h3 := H.out.lt b (H.out.hr b h2).1; omega
      · omega
    · exact ⟨Or.inr (by omega), hb.2.1, hb.2.2⟩

set_option maxRecDepth 100000 in
set_option maxHeartbeats 3200000 in
theorem put_new (w : World) (t : Nat) (kw : Value) (ps : Prs) (most : Int) (k : List Int) (v : Int) (h : Tp w t F ps most) (hmn : ps.length < 1000000) (hk : RB w (fun b => ¬ F b) kw k) (kb : KB k) (hl : k.length ≤ 65535) (hh : hasK ps k = false) (hroom : (szK (putK ps k v) : Int) ≤ most) :
    Calls Tryd.prog 15 #[.pointer (some ⟨t, 0, none⟩), kw, .int .u64 v] w (TPut w t F ps most k v) := by
  have hmay := may_any w _ kw k hk
  rw [decide_eq_true hl] at hmay
  have hm := h.few
  have hlong := h.long
  obtain ⟨g, Fm, rv, Fr, Kr, T, h⟩ := h
  obtain ⟨ka, kc, rfl, l1, m1, kz⟩ := hk.shape
  unfold maxLen at m1
  have hget := ModA.get_any w _ _ ps k (Mq.of h.mp) hk kb hm
  rw [hh] at hget
  have c0 := h.c0
  have c1 := h.c1
  have c2 := h.c2
  have c3 := h.c3
  have hno : ∀ x, (k, x) ∉ T.prs := fun x hx => by
    rw [h.pr] at hx
    have := (ModP.has_of h.mp.rises hx).1
    simp only at this
    rw [hh] at this; cases this
  have hmo := fun W (x : Ext w W) => RadF.more_any W Kr Fr _ t rv (.slice ka k.length kc) T [] k (keepc x id c2) (h.rn.ext x) h.ok (hk.ext x) kb hl hno (by rw [h.pr]; exact hlong)
  have hsz0 := RadS.sz_put_tree v h.ok kb
  rw [h.pr] at hsz0
  have hml := RT.manyT_le T k
  have hfit0 := h.fit
  have j3 : IntKind.i64.wrap (((szK ps : Nat) : Int) + ((RT.manyT T k : Nat) : Int)) = ((szK ps : Nat) : Int) + ((RT.manyT T k : Nat) : Int) := by rw [IntKind.wrap_i64]; omega
  have hcmp : decide (most < ((szK ps : Nat) : Int) + ((RT.manyT T k : Nat) : Int)) = false := by simp; omega
  have hpl : (putK ps k v).length ≤ 1000000 := by have := putK_length ps k v; rw [hh] at this; simp at this; omega
  unfold TPut
  have H := Lib.hid h
  clear h
  have Hmay := Lib.hid hmay
  clear hmay
  have Hk := Lib.hid hk
  clear hk
  have Kb := Lib.hid kb
  clear kb
  have Hget := Lib.hid hget
  clear hget
  have Hh := Lib.hid hh
  clear hh
  have Hlong := Lib.hid hlong
  clear hlong
  have Hroom := Lib.hid hroom
  clear hroom
  have Hpl := Lib.hid hpl
  clear hpl
  have Hno := Lib.hid hno
  clear hno
  have Hmo := Lib.hid hmo
  clear hmo
  have Hsz0 := Lib.hid hsz0
  clear hsz0
  have Hfit0 := Lib.hid hfit0
  clear hfit0
  go_enter Tryd.func15, Tryd.ntmps15
  go_wp2_with (fail)
  refine Hmay.out.mono ?_
  rintro e w1 ⟨rfl, rfl⟩
  go_wp2_with (fail)
  (with_reducible refine Hget.out.mono ?_)
  rintro e w2 ⟨rfl, y2⟩
  have d1 := keepc y2 id c1
  have d3 := keepc y2 id c3
  have Y2 := Lib.hid y2
  clear y2
  go_wp2_with (fail)
  refine wp_region_plan (.take 0 (.take 1 (.take 2 (.take 3 (.take 4 (.take 5 (.take 6 (.take 7 (.take 8 (.take 11 (.take 12 (.take 13 (.take 14 (.must 9 (.take 10 (.take 15 (.take 16 .done))))))))))))))))) (fun W => W.cell? ⟨t, 1, none⟩ = some (.int .i64 most) ∧ W.cell? ⟨t, 3, none⟩ = some (.int .i64 ((szK ps : Nat) : Int))) (by kernel_rfl) (by kernel_rfl) (by kernel_rfl) rfl ?_ (fun KK hKK => ?_)
  · exact ⟨d1, d3⟩
  repeat (first
    | (refine wpPlan_take (v := ?_) rfl (by rfl) (fun W hW => ?_) ?_; rotate_left; (focus ((try dsimp only at hW); go_split_ands; go_simp; (try with_reducible rfl); done)); (try simp only [Act.put, List.setIfInBounds_toArray, List.set_cons_zero, List.set_cons_succ]))
    | (refine wpPlan_skip rfl (by rfl) ?_; (try simp only [Act.put, List.setIfInBounds_toArray, List.set_cons_zero, List.set_cons_succ])))
  refine wpPlan_must rfl (by rfl) (fun K hK => ?_)
  go_simp
  (with_reducible refine (Hmo.out _ Y2.out.drew).mono ?_)
  rintro e w3' ⟨rfl, t3'⟩
  have y3' := Y2.out.drew.trans' t3'
  have d0 := keepc y3' id c0
  have d1 := keepc y3' id c1
  have d2 := keepc y3' id c2
  have d3 := keepc y3' id c3
  have Y3' := Lib.hid y3'
  clear y3'
  have T3' := Lib.hid t3'
  clear t3'
  refine hK.out _ _ ?_ ?_
  · exact ⟨d1, d3⟩
  clear hK K
  (try simp only [Act.put, List.setIfInBounds_toArray, List.set_cons_zero, List.set_cons_succ])
  repeat (first
    | (refine wpPlan_take (v := ?_) rfl (by rfl) (fun W hW => ?_) ?_; rotate_left; (focus ((try dsimp only at hW); go_split_ands; go_simp; (try with_reducible rfl); done)); (try simp only [Act.put, List.setIfInBounds_toArray, List.set_cons_zero, List.set_cons_succ]))
    | (refine wpPlan_skip rfl (by rfl) ?_; (try simp only [Act.put, List.setIfInBounds_toArray, List.set_cons_zero, List.set_cons_succ])))
  refine wpPlan_done (hKK.out _ _ ?_)
  clear hKK KK
  clear j3
  go_wp2_with (fail)
  refine wp_region_plan (.take 0 (.take 1 (.take 2 (.take 3 (.take 5 (.take 7 (.two 4 6 (.must 6 (.take 8 (.must 9 (.take 10 (.take 11 (.take 12 (.take 13 (.take 14 (.must 15 (.take 16 .done)))))))))) (.take 8 (.must 4 (.must 9 (.take 10 (.take 11 (.take 12 (.take 13 (.take 14 (.must 15 (.take 16 .done))))))))))))))))) (fun W => True) (by kernel_rfl) (by kernel_rfl) (by kernel_rfl) rfl ?_ (fun KK hKK => ?_)
  · trivial
  repeat (first
    | (refine wpPlan_take (v := ?_) rfl (by rfl) (fun W hW => ?_) ?_; rotate_left; (focus ((try dsimp only at hW); go_split_ands; go_simp; (try with_reducible rfl); done)); (try simp only [Act.put, List.setIfInBounds_toArray, List.set_cons_zero, List.set_cons_succ]))
    | (refine wpPlan_skip rfl (by rfl) ?_; (try simp only [Act.put, List.setIfInBounds_toArray, List.set_cons_zero, List.set_cons_succ])))
  refine wpPlan_two ?_ ?_
  · refine wpPlan_must rfl (by rfl) (fun K hK => ?_)
    go_simp
    refine hK.out _ _ ?_ ?_
    · trivial
    clear hK K
    (try simp only [Act.put, List.setIfInBounds_toArray, List.set_cons_zero, List.set_cons_succ])
    repeat (first
      | (refine wpPlan_take (v := ?_) rfl (by rfl) (fun W hW => ?_) ?_; rotate_left; (focus ((try dsimp only at hW); go_split_ands; go_simp; (try with_reducible rfl); done)); (try simp only [Act.put, List.setIfInBounds_toArray, List.set_cons_zero, List.set_cons_succ]))
      | (refine wpPlan_skip rfl (by rfl) ?_; (try simp only [Act.put, List.setIfInBounds_toArray, List.set_cons_zero, List.set_cons_succ])))
    refine wpPlan_must rfl (by rfl) (fun K hK => ?_)
    refine wp_push_any _ _ _ 23 rfl 5 (.int .u8 0) 1 1 Tryd.underlying23 info_u8 rfl (by decide) (.slice none 0 0) 0 [] rfl (World.ownsRow_nil _ _ _ _) ka k.length kc rfl kz (ivs .u8 k) l1 (by simp) (Hk.out.ext (Y3'.out.drew)).src (ivs_one _ _) (by unfold maxLen; omega) (by omega) ?_
    intro kv w3 hown t3 hb3
    rw [Nat.zero_add, List.nil_append] at hown
    have t3 : Ext (w3'.drew) w3 := t3.mono (fun i hi _ => by cases hi)
    have hbl : ∀ b, kv.ownBlock = some b → w.heap.size ≤ b ∧ b < w3.heap.size := fun b hb => by
      have h1 := (hown.lt b hb).2
      have h2 := (Y3'.out.drew).size
      rcases hb3 with h3 | h3
      · rw [h3] at hb; cases hb
      · rw [h3] at hb; cases hb; exact ⟨h2, h1⟩
    have y3 := (Y3'.out.drew).trans' t3
    have d0 := keepc t3 id d0
    have d1 := keepc t3 id d1
    have d2 := keepc t3 id d2
    have d3 := keepc t3 id d3
    have hpre : RadB.Pre w3 (fun b => Kr b ∨ (w.heap.size ≤ b ∧ b < w3.heap.size)) Fr rv kv T [] k := by
      refine ⟨(H.out.rn.ext y3).keys (fun b hb => Or.inl hb), H.out.ok, (show OB w3 (fun b => Kr b ∨ (w.heap.size ≤ b ∧ b < w3.heap.size)) kv k from ⟨hown, fun b hb => Or.inr (hbl b hb)⟩).rb, Kb.out, List.nil_prefix, hl, by rw [H.out.pr]; exact Hlong.out, fun b hb hf => ?_, fun b hb => Nat.lt_of_lt_of_le (H.out.lt b (H.out.hr b hb).1) y3.size, fun b hb => ?_, H.out.tr.ext y3, fun hf => H.out.rf (H.out.hr _ hf).1⟩
      · rcases hb with hb | hb
        · exact (H.out.hk b hb).2.2.2 hf
        · have := H.out.lt b (H.out.hr b hf).1; omega
      · rcases hb with hb | hb
        · exact Nat.lt_of_lt_of_le (H.out.lt b (H.out.hk b hb).1) y3.size
        · exact hb.2
    have hpu := RadD.put_any T v kv k w3 _ _ _ _ hpre
    unfold RadB.PutRet at hpu
    have htl := H.out.lt t H.out.self
    have hntr : ¬ Fr t := fun hf => (H.out.hr t hf).2.1 rfl
    have hntm : ¬ Fm t := fun hf => (H.out.hm t hf).2 rfl
    have g0 := keepf (p := ⟨t, 0, none⟩) y3 htl id H.out.f0
    have g2 := keepf (p := ⟨t, 2, none⟩) y3 htl id H.out.f2
    have g3 := keepf (p := ⟨t, 3, none⟩) y3 htl id H.out.f3
    have htl3 : t < w3.heap.size := Nat.lt_of_lt_of_le htl y3.size
    obtain ⟨va, vc, rfl⟩ := own_len hown
    have hmany := RT.manyT_le T k
    have hsz := RT.putT_cells v Kb.out H.out.ok
    rw [RadS.cells_sz H.out.ok, RadS.cells_sz (RT.putT_ok v Kb.out H.out.ok List.nil_prefix), RT.putT_prs v Kb.out H.out.ok List.nil_prefix, H.out.pr] at hsz
    have hprs := RT.putT_prs v Kb.out H.out.ok List.nil_prefix
    rw [H.out.pr] at hprs
    have hfit := H.out.fit
    generalize hmt : RT.manyT T k = mt at *
    clear hb3 hpre
    have Hown := Lib.hid hown
    clear hown
    have T3 := Lib.hid t3
    clear t3
    have Hbl := Lib.hid hbl
    clear hbl
    have Y3 := Lib.hid y3
    clear y3
    have Hpu := Lib.hid hpu
    clear hpu
    have Hsz := Lib.hid hsz
    clear hsz
    have Hprs := Lib.hid hprs
    clear hprs
    have Hmt := Lib.hid hmt
    clear hmt
    refine hK.out _ _ ?_ ?_
    · trivial
    clear hK K
    (try simp only [Act.put, List.setIfInBounds_toArray, List.set_cons_zero, List.set_cons_succ])
    repeat (first
      | (refine wpPlan_take (v := ?_) rfl (by rfl) (fun W hW => ?_) ?_; rotate_left; (focus ((try dsimp only at hW); go_split_ands; go_simp; (try with_reducible rfl); done)); (try simp only [Act.put, List.setIfInBounds_toArray, List.set_cons_zero, List.set_cons_succ]))
      | (refine wpPlan_skip rfl (by rfl) ?_; (try simp only [Act.put, List.setIfInBounds_toArray, List.set_cons_zero, List.set_cons_succ])))
    refine wpPlan_must rfl (by rfl) (fun K hK => ?_)
    go_simp
    (with_reducible refine (Hpu.out).mono ?_)
    rintro e w4 ⟨rv', F', rfl, hrn4, t4, hF4⟩
    obtain ⟨gr, rfl, _⟩ := hrn4.ptr (RT.putT_is T k v)
    have d0 := keepc t4 hntr d0
    have d1 := keepc t4 hntr d1
    have d2 := keepc t4 hntr d2
    have d3 := keepc t4 hntr d3
    have g0 := keepf (p := ⟨t, 0, none⟩) t4 htl3 hntr g0
    have g2 := keepf (p := ⟨t, 2, none⟩) t4 htl3 hntr g2
    have g3 := keepf (p := ⟨t, 3, none⟩) t4 htl3 hntr g3
    have Hrn4 := Lib.hid hrn4
    clear hrn4
    have T4 := Lib.hid t4
    clear t4
    have HF4 := Lib.hid hF4
    clear hF4
    have Hntr := Lib.hid hntr
    clear hntr
    have Hntm := Lib.hid hntm
    clear hntm
    refine hK.out _ _ ?_ ?_
    · trivial
    clear hK K
    (try simp only [Act.put, List.setIfInBounds_toArray, List.set_cons_zero, List.set_cons_succ])
    repeat (first
      | (refine wpPlan_take (v := ?_) rfl (by rfl) (fun W hW => ?_) ?_; rotate_left; (focus ((try dsimp only at hW); go_split_ands; go_simp; (try with_reducible rfl); done)); (try simp only [Act.put, List.setIfInBounds_toArray, List.set_cons_zero, List.set_cons_succ]))
      | (refine wpPlan_skip rfl (by rfl) ?_; (try simp only [Act.put, List.setIfInBounds_toArray, List.set_cons_zero, List.set_cons_succ])))
    refine wpPlan_must rfl (by rfl) (fun K hK => ?_)
    go_simp
    obtain ⟨w5, hw5⟩ : ∃ w5, w5 = w4.setCell ⟨t, 2, none⟩ (pt gr) := ⟨_, rfl⟩
    have d0 : w5.cell? ⟨t, 0, none⟩ = some (.pointer (some ⟨g, 0, none⟩)) := by rw [hw5, World.cell?_setCell_other _ _ _ _ (by simp)]; exact d0
    have d1 : w5.cell? ⟨t, 1, none⟩ = some (.int .i64 most) := by rw [hw5, World.cell?_setCell_other _ _ _ _ (by simp)]; exact d1
    have d3 : w5.cell? ⟨t, 3, none⟩ = some (.int .i64 ((szK ps : Nat) : Int)) := by rw [hw5, World.cell?_setCell_other _ _ _ _ (by simp)]; exact d3
    have d2 : w5.cell? ⟨t, 2, none⟩ = some (pt gr) := by rw [hw5]; exact World.cell?_setCell_same _ _ _ d2
    have t5 : Touch (fun b => b = t) w4 w5 := by rw [hw5]; exact Touch.setCell (S := fun b => b = t) (Touch.refl _ _) (p := ⟨t, 2, none⟩) (Or.inl rfl) _
    have g0 : w5.frozen? ⟨t, 0, none⟩ = false := by rw [hw5, World.frozen?_setCell]; exact g0
    have g2 : w5.frozen? ⟨t, 2, none⟩ = false := by rw [hw5, World.frozen?_setCell]; exact g2
    have g3 : w5.frozen? ⟨t, 3, none⟩ = false := by rw [hw5, World.frozen?_setCell]; exact g3
    rw [← hw5]
    clear hw5
    have T5 := Lib.hid t5
    clear t5
    refine hK.out _ _ ?_ ?_
    · trivial
    clear hK K
    (try simp only [Act.put, List.setIfInBounds_toArray, List.set_cons_zero, List.set_cons_succ])
    repeat (first
      | (refine wpPlan_take (v := ?_) rfl (by rfl) (fun W hW => ?_) ?_; rotate_left; (focus ((try dsimp only at hW); go_split_ands; go_simp; (try with_reducible rfl); done)); (try simp only [Act.put, List.setIfInBounds_toArray, List.set_cons_zero, List.set_cons_succ]))
      | (refine wpPlan_skip rfl (by rfl) ?_; (try simp only [Act.put, List.setIfInBounds_toArray, List.set_cons_zero, List.set_cons_succ])))
    refine wpPlan_done (hKK.out _ _ ?_)
    clear hKK KK
    have i3 : IntKind.i64.wrap (((szK ps : Nat) : Int) + (mt : Int)) = ((szK ps : Nat) : Int) + (mt : Int) := by rw [IntKind.wrap_i64]; omega
    have t6 : Touch (fun b => b = t) w5 (w5.setCell ⟨t, 3, none⟩ (.int .i64 (((szK ps : Nat) : Int) + (mt : Int)))) := Touch.setCell (S := fun b => b = t) (Touch.refl _ _) (p := ⟨t, 3, none⟩) (Or.inl rfl) _
    have e0 : (w5.setCell ⟨t, 3, none⟩ (.int .i64 (((szK ps : Nat) : Int) + (mt : Int)))).cell? ⟨t, 0, none⟩ = some (.pointer (some ⟨g, 0, none⟩)) := by rw [World.cell?_setCell_other _ _ _ _ (by simp)]; exact d0
    have e1 : (w5.setCell ⟨t, 3, none⟩ (.int .i64 (((szK ps : Nat) : Int) + (mt : Int)))).cell? ⟨t, 1, none⟩ = some (.int .i64 most) := by rw [World.cell?_setCell_other _ _ _ _ (by simp)]; exact d1
    have e2 : (w5.setCell ⟨t, 3, none⟩ (.int .i64 (((szK ps : Nat) : Int) + (mt : Int)))).cell? ⟨t, 2, none⟩ = some (pt gr) := by rw [World.cell?_setCell_other _ _ _ _ (by simp)]; exact d2
    have e3 : (w5.setCell ⟨t, 3, none⟩ (.int .i64 (((szK ps : Nat) : Int) + (mt : Int)))).cell? ⟨t, 3, none⟩ = some (.int .i64 ((szK (putK ps k v) : Nat) : Int)) := by rw [World.cell?_setCell_same _ _ _ d3, Hsz.out]; rfl
    have h0 : (w5.setCell ⟨t, 3, none⟩ (.int .i64 (((szK ps : Nat) : Int) + (mt : Int)))).frozen? ⟨t, 0, none⟩ = false := by rw [World.frozen?_setCell]; exact g0
    have h2 : (w5.setCell ⟨t, 3, none⟩ (.int .i64 (((szK ps : Nat) : Int) + (mt : Int)))).frozen? ⟨t, 2, none⟩ = false := by rw [World.frozen?_setCell]; exact g2
    have h3 : (w5.setCell ⟨t, 3, none⟩ (.int .i64 (((szK ps : Nat) : Int) + (mt : Int)))).frozen? ⟨t, 3, none⟩ = false := by rw [World.frozen?_setCell]; exact g3
    have y4 : Touch Fr w w4 := Y3.out.ext_trans T4.out
    have t46 := T5.out.trans' t6
    have y6 : Touch (fun b => Fr b ∨ b = t) w (w5.setCell ⟨t, 3, none⟩ (.int .i64 (((szK ps : Nat) : Int) + (mt : Int)))) := (y4.mono (fun i hi _ => Or.inl hi)).trans' (t46.mono (fun i hi _ => Or.inr hi))
    have hput := ModF.put_any _ g _ ps k v (H.out.mp.keep y6 (fun b hb e => e.elim (fun e => (H.out.hr b e).2.2 hb) (fun e => (H.out.hm b hb).2 e))) (Hk.out.keep y6 (fun b hb e => hb (e.elim (fun e => (H.out.hr b e).1) (fun e => e ▸ H.out.self)))) Kb.out hl hm
    unfold PutRet at hput
    have Hput := Lib.hid hput
    clear hput
    have Y6 := Lib.hid y6
    clear y6
    have T46 := Lib.hid t46
    clear t46
    have Y4 := Lib.hid y4
    clear y4
    have T6 := Lib.hid t6
    clear t6
    have E3 := Lib.hid e3
    clear e3
    have E2 := Lib.hid e2
    clear e2
    have E1 := Lib.hid e1
    clear e1
    have H0 := Lib.hid h0
    clear h0
    have H2 := Lib.hid h2
    clear h2
    have H3 := Lib.hid h3
    clear h3
    go_wp2_with (fail)
    (with_reducible refine Hput.out.mono ?_)
    rintro e w7 ⟨rfl, Fm', hmp', hu⟩
    have Hmp' := Lib.hid hmp'
    clear hmp'
    have Hu := Lib.hid hu
    clear hu
    go_wp2_with (fail)
    go_ret3
    refine ⟨rfl, ?_⟩
    have hs3 := Y3.out.size
    have hs4 := T4.out.size
    refine tp_mk H.out Y3.out T4.out T46.out Hu.out Hrn4.out (RT.putT_ok v Kb.out H.out.ok List.nil_prefix) Hprs.out (fun b hb => ⟨(HF4.out b hb).1.imp id (fun h => by omega), (HF4.out b hb).2⟩) (fun b hb => ?_) e0 E1.out E2.out E3.out H0.out H2.out H3.out Hmp'.out Hroom.out Hpl.out
    rcases hb with (hb | hb) | hb
    · have h1 := H.out.lt b (H.out.hk b hb).1
      refine ⟨Or.inl hb, by omega, fun hf => ?_⟩
      rcases (HF4.out b hf).1 with h2 | h2
      · exact (H.out.hk b hb).2.2.2 h2
      · omega
    · refine ⟨Or.inr hb.1, by omega, fun hf => ?_⟩
      rcases (HF4.out b hf).1 with h2 | h2
      · have h3 := H.out.lt b (H.out.hr b h2).1; omega
      · omega
    · exact ⟨Or.inr (by omega), hb.2.1, hb.2.2⟩
  · refine wpPlan_must rfl (by rfl) (fun K hK => ?_)
    refine wp_push_any _ _ _ 23 rfl 5 (.int .u8 0) 1 1 Tryd.underlying23 info_u8 rfl (by decide) (.slice none 0 0) 0 [] rfl (World.ownsRow_nil _ _ _ _) ka k.length kc rfl kz (ivs .u8 k) l1 (by simp) (Hk.out.ext (Y3'.out.drew)).src (ivs_one _ _) (by unfold maxLen; omega) (by omega) ?_
    intro kv w3 hown t3 hb3
    rw [Nat.zero_add, List.nil_append] at hown
    have t3 : Ext (w3'.drew) w3 := t3.mono (fun i hi _ => by cases hi)
    have hbl : ∀ b, kv.ownBlock = some b → w.heap.size ≤ b ∧ b < w3.heap.size := fun b hb => by
      have h1 := (hown.lt b hb).2
      have h2 := (Y3'.out.drew).size
      rcases hb3 with h3 | h3
      · rw [h3] at hb; cases hb
      · rw [h3] at hb; cases hb; exact ⟨h2, h1⟩
    have y3 := (Y3'.out.drew).trans' t3
    have d0 := keepc t3 id d0
    have d1 := keepc t3 id d1
    have d2 := keepc t3 id d2
    have d3 := keepc t3 id d3
    have hpre : RadB.Pre w3 (fun b => Kr b ∨ (w.heap.size ≤ b ∧ b < w3.heap.size)) Fr rv kv T [] k := by
      refine ⟨(H.out.rn.ext y3).keys (fun b hb => Or.inl hb), H.out.ok, (show OB w3 (fun b => Kr b ∨ (w.heap.size ≤ b ∧ b < w3.heap.size)) kv k from ⟨hown, fun b hb => Or.inr (hbl b hb)⟩).rb, Kb.out, List.nil_prefix, hl, by rw [H.out.pr]; exact Hlong.out, fun b hb hf => ?_, fun b hb => Nat.lt_of_lt_of_le (H.out.lt b (H.out.hr b hb).1) y3.size, fun b hb => ?_, H.out.tr.ext y3, fun hf => H.out.rf (H.out.hr _ hf).1⟩
      · rcases hb with hb | hb
        · exact (H.out.hk b hb).2.2.2 hf
        · have := H.out.lt b (H.out.hr b hf).1; omega
      · rcases hb with hb | hb
        · exact Nat.lt_of_lt_of_le (H.out.lt b (H.out.hk b hb).1) y3.size
        · exact hb.2
    have hpu := RadD.put_any T v kv k w3 _ _ _ _ hpre
    unfold RadB.PutRet at hpu
    have htl := H.out.lt t H.out.self
    have hntr : ¬ Fr t := fun hf => (H.out.hr t hf).2.1 rfl
    have hntm : ¬ Fm t := fun hf => (H.out.hm t hf).2 rfl
    have g0 := keepf (p := ⟨t, 0, none⟩) y3 htl id H.out.f0
    have g2 := keepf (p := ⟨t, 2, none⟩) y3 htl id H.out.f2
    have g3 := keepf (p := ⟨t, 3, none⟩) y3 htl id H.out.f3
    have htl3 : t < w3.heap.size := Nat.lt_of_lt_of_le htl y3.size
    obtain ⟨va, vc, rfl⟩ := own_len hown
    have hmany := RT.manyT_le T k
    have hsz := RT.putT_cells v Kb.out H.out.ok
    rw [RadS.cells_sz H.out.ok, RadS.cells_sz (RT.putT_ok v Kb.out H.out.ok List.nil_prefix), RT.putT_prs v Kb.out H.out.ok List.nil_prefix, H.out.pr] at hsz
    have hprs := RT.putT_prs v Kb.out H.out.ok List.nil_prefix
    rw [H.out.pr] at hprs
    have hfit := H.out.fit
    generalize hmt : RT.manyT T k = mt at *
    clear hb3 hpre
    have Hown := Lib.hid hown
    clear hown
    have T3 := Lib.hid t3
    clear t3
    have Hbl := Lib.hid hbl
    clear hbl
    have Y3 := Lib.hid y3
    clear y3
    have Hpu := Lib.hid hpu
    clear hpu
    have Hsz := Lib.hid hsz
    clear hsz
    have Hprs := Lib.hid hprs
    clear hprs
    have Hmt := Lib.hid hmt
    clear hmt
    refine hK.out _ _ ?_ ?_
    · trivial
    clear hK K
    (try simp only [Act.put, List.setIfInBounds_toArray, List.set_cons_zero, List.set_cons_succ])
    repeat (first
      | (refine wpPlan_take (v := ?_) rfl (by rfl) (fun W hW => ?_) ?_; rotate_left; (focus ((try dsimp only at hW); go_split_ands; go_simp; (try with_reducible rfl); done)); (try simp only [Act.put, List.setIfInBounds_toArray, List.set_cons_zero, List.set_cons_succ]))
      | (refine wpPlan_skip rfl (by rfl) ?_; (try simp only [Act.put, List.setIfInBounds_toArray, List.set_cons_zero, List.set_cons_succ])))
    refine wpPlan_must rfl (by rfl) (fun K hK => ?_)
    go_simp
    refine hK.out _ _ ?_ ?_
    · trivial
    clear hK K
    (try simp only [Act.put, List.setIfInBounds_toArray, List.set_cons_zero, List.set_cons_succ])
    repeat (first
      | (refine wpPlan_take (v := ?_) rfl (by rfl) (fun W hW => ?_) ?_; rotate_left; (focus ((try dsimp only at hW); go_split_ands; go_simp; (try with_reducible rfl); done)); (try simp only [Act.put, List.setIfInBounds_toArray, List.set_cons_zero, List.set_cons_succ]))
      | (refine wpPlan_skip rfl (by rfl) ?_; (try simp only [Act.put, List.setIfInBounds_toArray, List.set_cons_zero, List.set_cons_succ])))
    refine wpPlan_must rfl (by rfl) (fun K hK => ?_)
    go_simp
    (with_reducible refine (Hpu.out).mono ?_)
    rintro e w4 ⟨rv', F', rfl, hrn4, t4, hF4⟩
    obtain ⟨gr, rfl, _⟩ := hrn4.ptr (RT.putT_is T k v)
    have d0 := keepc t4 hntr d0
    have d1 := keepc t4 hntr d1
    have d2 := keepc t4 hntr d2
    have d3 := keepc t4 hntr d3
    have g0 := keepf (p := ⟨t, 0, none⟩) t4 htl3 hntr g0
    have g2 := keepf (p := ⟨t, 2, none⟩) t4 htl3 hntr g2
    have g3 := keepf (p := ⟨t, 3, none⟩) t4 htl3 hntr g3
    have Hrn4 := Lib.hid hrn4
    clear hrn4
    have T4 := Lib.hid t4
    clear t4
    have HF4 := Lib.hid hF4
    clear hF4
    have Hntr := Lib.hid hntr
    clear hntr
    have Hntm := Lib.hid hntm
    clear hntm
    refine hK.out _ _ ?_ ?_
    · trivial
    clear hK K
    (try simp only [Act.put, List.setIfInBounds_toArray, List.set_cons_zero, List.set_cons_succ])
    repeat (first
      | (refine wpPlan_take (v := ?_) rfl (by rfl) (fun W hW => ?_) ?_; rotate_left; (focus ((try dsimp only at hW); go_split_ands; go_simp; (try with_reducible rfl); done)); (try simp only [Act.put, List.setIfInBounds_toArray, List.set_cons_zero, List.set_cons_succ]))
      | (refine wpPlan_skip rfl (by rfl) ?_; (try simp only [Act.put, List.setIfInBounds_toArray, List.set_cons_zero, List.set_cons_succ])))
    refine wpPlan_must rfl (by rfl) (fun K hK => ?_)
    go_simp
    obtain ⟨w5, hw5⟩ : ∃ w5, w5 = w4.setCell ⟨t, 2, none⟩ (pt gr) := ⟨_, rfl⟩
    have d0 : w5.cell? ⟨t, 0, none⟩ = some (.pointer (some ⟨g, 0, none⟩)) := by rw [hw5, World.cell?_setCell_other _ _ _ _ (by simp)]; exact d0
    have d1 : w5.cell? ⟨t, 1, none⟩ = some (.int .i64 most) := by rw [hw5, World.cell?_setCell_other _ _ _ _ (by simp)]; exact d1
    have d3 : w5.cell? ⟨t, 3, none⟩ = some (.int .i64 ((szK ps : Nat) : Int)) := by rw [hw5, World.cell?_setCell_other _ _ _ _ (by simp)]; exact d3
    have d2 : w5.cell? ⟨t, 2, none⟩ = some (pt gr) := by rw [hw5]; exact World.cell?_setCell_same _ _ _ d2
    have t5 : Touch (fun b => b = t) w4 w5 := by rw [hw5]; exact Touch.setCell (S := fun b => b = t) (Touch.refl _ _) (p := ⟨t, 2, none⟩) (Or.inl rfl) _
    have g0 : w5.frozen? ⟨t, 0, none⟩ = false := by rw [hw5, World.frozen?_setCell]; exact g0
    have g2 : w5.frozen? ⟨t, 2, none⟩ = false := by rw [hw5, World.frozen?_setCell]; exact g2
    have g3 : w5.frozen? ⟨t, 3, none⟩ = false := by rw [hw5, World.frozen?_setCell]; exact g3
    rw [← hw5]
    clear hw5
    have T5 := Lib.hid t5
    clear t5
    refine hK.out _ _ ?_ ?_
    · trivial
    clear hK K
    (try simp only [Act.put, List.setIfInBounds_toArray, List.set_cons_zero, List.set_cons_succ])
    repeat (first
      | (refine wpPlan_take (v := ?_) rfl (by rfl) (fun W hW => ?_) ?_; rotate_left; (focus ((try dsimp only at hW); go_split_ands; go_simp; (try with_reducible rfl); done)); (try simp only [Act.put, List.setIfInBounds_toArray, List.set_cons_zero, List.set_cons_succ]))
      | (refine wpPlan_skip rfl (by rfl) ?_; (try simp only [Act.put, List.setIfInBounds_toArray, List.set_cons_zero, List.set_cons_succ])))
    refine wpPlan_done (hKK.out _ _ ?_)
    clear hKK KK
    have i3 : IntKind.i64.wrap (((szK ps : Nat) : Int) + (mt : Int)) = ((szK ps : Nat) : Int) + (mt : Int) := by rw [IntKind.wrap_i64]; omega
    have t6 : Touch (fun b => b = t) w5 (w5.setCell ⟨t, 3, none⟩ (.int .i64 (((szK ps : Nat) : Int) + (mt : Int)))) := Touch.setCell (S := fun b => b = t) (Touch.refl _ _) (p := ⟨t, 3, none⟩) (Or.inl rfl) _
    have e0 : (w5.setCell ⟨t, 3, none⟩ (.int .i64 (((szK ps : Nat) : Int) + (mt : Int)))).cell? ⟨t, 0, none⟩ = some (.pointer (some ⟨g, 0, none⟩)) := by rw [World.cell?_setCell_other _ _ _ _ (by simp)]; exact d0
    have e1 : (w5.setCell ⟨t, 3, none⟩ (.int .i64 (((szK ps : Nat) : Int) + (mt : Int)))).cell? ⟨t, 1, none⟩ = some (.int .i64 most) := by rw [World.cell?_setCell_other _ _ _ _ (by simp)]; exact d1
    have e2 : (w5.setCell ⟨t, 3, none⟩ (.int .i64 (((szK ps : Nat) : Int) + (mt : Int)))).cell? ⟨t, 2, none⟩ = some (pt gr) := by rw [World.cell?_setCell_other _ _ _ _ (by simp)]; exact d2
    have e3 : (w5.setCell ⟨t, 3, none⟩ (.int .i64 (((szK ps : Nat) : Int) + (mt : Int)))).cell? ⟨t, 3, none⟩ = some (.int .i64 ((szK (putK ps k v) : Nat) : Int)) := by rw [World.cell?_setCell_same _ _ _ d3, Hsz.out]; rfl
    have h0 : (w5.setCell ⟨t, 3, none⟩ (.int .i64 (((szK ps : Nat) : Int) + (mt : Int)))).frozen? ⟨t, 0, none⟩ = false := by rw [World.frozen?_setCell]; exact g0
    have h2 : (w5.setCell ⟨t, 3, none⟩ (.int .i64 (((szK ps : Nat) : Int) + (mt : Int)))).frozen? ⟨t, 2, none⟩ = false := by rw [World.frozen?_setCell]; exact g2
    have h3 : (w5.setCell ⟨t, 3, none⟩ (.int .i64 (((szK ps : Nat) : Int) + (mt : Int)))).frozen? ⟨t, 3, none⟩ = false := by rw [World.frozen?_setCell]; exact g3
    have y4 : Touch Fr w w4 := Y3.out.ext_trans T4.out
    have t46 := T5.out.trans' t6
    have y6 : Touch (fun b => Fr b ∨ b = t) w (w5.setCell ⟨t, 3, none⟩ (.int .i64 (((szK ps : Nat) : Int) + (mt : Int)))) := (y4.mono (fun i hi _ => Or.inl hi)).trans' (t46.mono (fun i hi _ => Or.inr hi))
    have hput := ModF.put_any _ g _ ps k v (H.out.mp.keep y6 (fun b hb e => e.elim (fun e => (H.out.hr b e).2.2 hb) (fun e => (H.out.hm b hb).2 e))) (Hk.out.keep y6 (fun b hb e => hb (e.elim (fun e => (H.out.hr b e).1) (fun e => e ▸ H.out.self)))) Kb.out hl hm
    unfold PutRet at hput
    have Hput := Lib.hid hput
    clear hput
    have Y6 := Lib.hid y6
    clear y6
    have T46 := Lib.hid t46
    clear t46
    have Y4 := Lib.hid y4
    clear y4
    have T6 := Lib.hid t6
    clear t6
    have E3 := Lib.hid e3
    clear e3
    have E2 := Lib.hid e2
    clear e2
    have E1 := Lib.hid e1
    clear e1
    have H0 := Lib.hid h0
    clear h0
    have H2 := Lib.hid h2
    clear h2
    have H3 := Lib.hid h3
    clear h3
    go_wp2_with (fail)
    (with_reducible refine Hput.out.mono ?_)
    rintro e w7 ⟨rfl, Fm', hmp', hu⟩
    have Hmp' := Lib.hid hmp'
    clear hmp'
    have Hu := Lib.hid hu
    clear hu
    go_wp2_with (fail)
    go_ret3
    refine ⟨rfl, ?_⟩
    have hs3 := Y3.out.size
    have hs4 := T4.out.size
    refine tp_mk H.out Y3.out T4.out T46.out Hu.out Hrn4.out (RT.putT_ok v Kb.out H.out.ok List.nil_prefix) Hprs.out (fun b hb => ⟨(HF4.out b hb).1.imp id (fun h => by omega), (HF4.out b hb).2⟩) (fun b hb => ?_) e0 E1.out E2.out E3.out H0.out H2.out H3.out Hmp'.out Hroom.out Hpl.out
    rcases hb with (hb | hb) | hb
    · have h1 := H.out.lt b (H.out.hk b hb).1
      refine ⟨Or.inl hb, by omega, fun hf => ?_⟩
      rcases (HF4.out b hf).1 with h2 | h2
      · exact (H.out.hk b hb).2.2.2 h2
      · omega
    · refine ⟨Or.inr hb.1, by omega, fun hf => ?_⟩
      rcases (HF4.out b hf).1 with h2 | h2
      · have h3 := H.out.lt b (H.out.hr b h2).1; omega
      · omega
    · exact ⟨Or.inr (by omega), hb.2.1, hb.2.2⟩
set_option maxRecDepth 100000 in
set_option maxHeartbeats 3200000 in
theorem put_full (w : World) (t : Nat) (kw : Value) (ps : Prs) (most : Int) (k : List Int) (v : Int) (h : Tp w t F ps most) (hmn : ps.length ≤ 1000000) (hk : RB w (fun b => ¬ F b) kw k) (kb : KB k) (hl : k.length ≤ 65535) (hh : hasK ps k = false) (hroom : most < (szK (putK ps k v) : Int)) :
    Calls Tryd.prog 15 #[.pointer (some ⟨t, 0, none⟩), kw, .int .u64 v] w (fun e w' => e = .returned (.tuple #[.int .u64 0, .bool false, .int .i64 4]) ∧ Ext w w') := by
  have hmay := may_any w _ kw k hk
  rw [decide_eq_true hl] at hmay
  have hm := h.few
  have hlong := h.long
  obtain ⟨g, Fm, rv, Fr, Kr, T, h⟩ := h
  obtain ⟨ka, kc, rfl, l1, m1, kz⟩ := hk.shape
  unfold maxLen at m1
  have hget := ModA.get_any w _ _ ps k (Mq.of h.mp) hk kb hm
  rw [hh] at hget
  have c0 := h.c0
  have c1 := h.c1
  have c2 := h.c2
  have c3 := h.c3
  have hno : ∀ x, (k, x) ∉ T.prs := fun x hx => by
    rw [h.pr] at hx
    have := (ModP.has_of h.mp.rises hx).1
    simp only at this
    rw [hh] at this; cases this
  have hmo := fun W (x : Ext w W) => RadF.more_any W Kr Fr _ t rv (.slice ka k.length kc) T [] k (keepc x id c2) (h.rn.ext x) h.ok (hk.ext x) kb hl hno (by rw [h.pr]; exact hlong)
  have hsz0 := RadS.sz_put_tree v h.ok kb
  rw [h.pr] at hsz0
  have hml := RT.manyT_le T k
  have hfit0 := h.fit
  have j3 : IntKind.i64.wrap (((szK ps : Nat) : Int) + ((RT.manyT T k : Nat) : Int)) = ((szK ps : Nat) : Int) + ((RT.manyT T k : Nat) : Int) := by rw [IntKind.wrap_i64]; omega
  have hcmp : decide (most < ((szK ps : Nat) : Int) + ((RT.manyT T k : Nat) : Int)) = true := by simp; omega
  have H := Lib.hid h
  clear h
  have Hmay := Lib.hid hmay
  clear hmay
  have Hk := Lib.hid hk
  clear hk
  have Kb := Lib.hid kb
  clear kb
  have Hget := Lib.hid hget
  clear hget
  have Hh := Lib.hid hh
  clear hh
  have Hlong := Lib.hid hlong
  clear hlong
  have Hroom := Lib.hid hroom
  clear hroom
  have Hno := Lib.hid hno
  clear hno
  have Hmo := Lib.hid hmo
  clear hmo
  have Hsz0 := Lib.hid hsz0
  clear hsz0
  have Hfit0 := Lib.hid hfit0
  clear hfit0
  go_enter Tryd.func15, Tryd.ntmps15
  go_wp2_with (fail)
  refine Hmay.out.mono ?_
  rintro e w1 ⟨rfl, rfl⟩
  go_wp2_with (fail)
  (with_reducible refine Hget.out.mono ?_)
  rintro e w2 ⟨rfl, y2⟩
  have d1 := keepc y2 id c1
  have d3 := keepc y2 id c3
  have Y2 := Lib.hid y2
  clear y2
  go_wp2_with (fail)
  refine wp_region_plan (.take 0 (.take 1 (.take 2 (.take 3 (.take 4 (.take 5 (.take 6 (.take 7 (.take 8 (.take 11 (.take 12 (.take 13 (.take 14 (.must 9 (.take 10 (.take 15 (.take 16 .done))))))))))))))))) (fun W => W.cell? ⟨t, 1, none⟩ = some (.int .i64 most) ∧ W.cell? ⟨t, 3, none⟩ = some (.int .i64 ((szK ps : Nat) : Int))) (by kernel_rfl) (by kernel_rfl) (by kernel_rfl) rfl ?_ (fun KK hKK => ?_)
  · exact ⟨d1, d3⟩
  repeat (first
    | (refine wpPlan_take (v := ?_) rfl (by rfl) (fun W hW => ?_) ?_; rotate_left; (focus ((try dsimp only at hW); go_split_ands; go_simp; (try with_reducible rfl); done)); (try simp only [Act.put, List.setIfInBounds_toArray, List.set_cons_zero, List.set_cons_succ]))
    | (refine wpPlan_skip rfl (by rfl) ?_; (try simp only [Act.put, List.setIfInBounds_toArray, List.set_cons_zero, List.set_cons_succ])))
  refine wpPlan_must rfl (by rfl) (fun K hK => ?_)
  go_simp
  (with_reducible refine (Hmo.out _ Y2.out.drew).mono ?_)
  rintro e w3' ⟨rfl, t3'⟩
  have y3' := Y2.out.drew.trans' t3'
  have d0 := keepc y3' id c0
  have d1 := keepc y3' id c1
  have d2 := keepc y3' id c2
  have d3 := keepc y3' id c3
  have Y3' := Lib.hid y3'
  clear y3'
  have T3' := Lib.hid t3'
  clear t3'
  refine hK.out _ _ ?_ ?_
  · exact ⟨d1, d3⟩
  clear hK K
  (try simp only [Act.put, List.setIfInBounds_toArray, List.set_cons_zero, List.set_cons_succ])
  repeat (first
    | (refine wpPlan_take (v := ?_) rfl (by rfl) (fun W hW => ?_) ?_; rotate_left; (focus ((try dsimp only at hW); go_split_ands; go_simp; (try with_reducible rfl); done)); (try simp only [Act.put, List.setIfInBounds_toArray, List.set_cons_zero, List.set_cons_succ]))
    | (refine wpPlan_skip rfl (by rfl) ?_; (try simp only [Act.put, List.setIfInBounds_toArray, List.set_cons_zero, List.set_cons_succ])))
  refine wpPlan_done (hKK.out _ _ ?_)
  clear hKK KK
  clear j3
  go_wp2_with (fail)
  go_ret3
  exact ⟨rfl, Y3'.out⟩
theorem put_any (w : World) (t : Nat) (kw : Value) (ps : Prs) (most : Int) (k : List Int) (v : Int) (h : Tp w t F ps most) (hm : ps.length < 1000000) (hk : RB w (fun b => ¬ F b) kw k) (kb : KB k) (hl : k.length ≤ 65535) (hroom : hasK ps k = true ∨ (szK (putK ps k v) : Int) ≤ most) :
    Calls Tryd.prog 15 #[.pointer (some ⟨t, 0, none⟩), kw, .int .u64 v] w (TPut w t F ps most k v) := by
  cases hh : hasK ps k with
  | true => exact put_has w t kw ps most k v h hk kb hl hh
  | false => exact put_new w t kw ps most k v h hm hk kb hl hh (hroom.resolve_left (by simp [hh]))

set_option maxRecDepth 100000 in
set_option maxHeartbeats 1600000 in
theorem drop_not (w : World) (t : Nat) (kw : Value) (ps : Prs) (most : Int) (k : List Int) (h : Tp w t F ps most) (hk : RB w G kw k) (kb : KB k) (hh : hasK ps k = false) :
    Calls Tryd.prog 32 #[.pointer (some ⟨t, 0, none⟩), kw] w fun e w' => e = .returned (.tuple #[.int .u64 0, .bool false]) ∧ Ext w w' := by
  have hget := TreeA.get_any w _ kw ps k h.tq hk kb h.few
  rw [hh] at hget
  have Hget := Lib.hid hget
  clear hget
  have H := Lib.hid h
  clear h
  have Hk := Lib.hid hk
  clear hk
  go_enter Tryd.func32, Tryd.ntmps32
  go_wp2_with (fail)
  (with_reducible refine Hget.out.mono ?_)
  rintro e w1 ⟨rfl, ht1⟩
  go_wp2_with (fail)
  go_ret2
  exact ⟨rfl, ht1⟩
set_option maxRecDepth 100000 in
set_option maxHeartbeats 3200000 in
theorem drop_has (w : World) (t : Nat) (kw : Value) (ps : Prs) (most : Int) (k : List Int) (h : Tp w t F ps most) (htb : KidA.Tl w) (hlf : ¬ F 0) (hk : RB w (fun b => ¬ F b) kw k) (kb : KB k) (hl : k.length ≤ 65535) (hh : hasK ps k = true) :
    Calls Tryd.prog 32 #[.pointer (some ⟨t, 0, none⟩), kw] w (TDrop w t F ps most k) := by
  have hm := h.few
  have hlong := h.long
  have htq := h.tq
  obtain ⟨g, Fm, rv, Fr, Kr, T, h⟩ := h
  obtain ⟨ka, kc, rfl, l1, m1, kz⟩ := hk.shape
  unfold maxLen at m1
  have hget := TreeA.get_any w _ _ ps k htq hk kb hm
  rw [hh] at hget
  have c0 := h.c0
  have c1 := h.c1
  have c2 := h.c2
  have c3 := h.c3
  have hin := ModP.of_has hh
  have hin2 := hin
  rw [← h.pr] at hin2
  have hfew := RT.few_le h.ok hin2
  have hsz := RT.dropT_cells h.ok hin2
  have hhT : hasK T.prs k = true := by rw [h.pr]; exact hh
  have hprs := RT.dropT_prs h.ok hhT
  rw [h.pr] at hprs
  have hdok := RT.dropT_ok h.ok hin2
  rw [RadS.cells_sz h.ok, RadS.cells_sz hdok, hprs, h.pr] at hsz
  have hdr := fun W (x : Ext w W) => RadE.drop_any T (.slice ka k.length kc) k (fun b => ¬ F b) W Kr Fr rv [] ⟨h.rn.ext x, h.ok, hk.ext x, hl, ⟨_, hin2⟩, by rw [h.pr]; exact hlong, fun b hb => (h.hk b hb).2.2.2, fun b hb => Nat.lt_of_lt_of_le (h.lt b (h.hr b hb).1) x.size, fun b hb => Nat.lt_of_lt_of_le (h.lt b (h.hk b hb).1) x.size, htb.ext x, fun hf => hlf (h.hr _ hf).1⟩
  unfold RadE.DropRet at hdr
  have htl := h.lt t h.self
  have hntr : ¬ Fr t := fun hf => (h.hr t hf).2.1 rfl
  have hfit := h.fit
  have hpl : (dropK ps k).length ≤ 1000000 := by have := dropK_length ps k; omega
  generalize hmt : RT.fewT T k = mt at *
  have i3 : IntKind.i64.wrap (((szK ps : Nat) : Int) - (mt : Int)) = ((szK ps : Nat) : Int) - (mt : Int) := by rw [IntKind.wrap_i64]; omega
  unfold TDrop
  have H := Lib.hid h
  clear h
  have Hk := Lib.hid hk
  clear hk
  have Kb := Lib.hid kb
  clear kb
  have Hget := Lib.hid hget
  clear hget
  have Hh := Lib.hid hh
  clear hh
  have Hlong := Lib.hid hlong
  clear hlong
  have Htq := Lib.hid htq
  clear htq
  have Hin := Lib.hid hin
  clear hin
  have Hin2 := Lib.hid hin2
  clear hin2
  have Hfew := Lib.hid hfew
  clear hfew
  have Hsz := Lib.hid hsz
  clear hsz
  have Hprs := Lib.hid hprs
  clear hprs
  have Hdok := Lib.hid hdok
  clear hdok
  have Hdr := Lib.hid hdr
  clear hdr
  have Hntr := Lib.hid hntr
  clear hntr
  have Hpl := Lib.hid hpl
  clear hpl
  have Hmt := Lib.hid hmt
  clear hmt
  have Htb := Lib.hid htb
  clear htb
  have Hlf := Lib.hid hlf
  clear hlf
  have HhT := Lib.hid hhT
  clear hhT
  go_enter Tryd.func32, Tryd.ntmps32
  go_wp2_with (fail)
  (with_reducible refine Hget.out.mono ?_)
  rintro e w2 ⟨rfl, y2⟩
  have d0 := keepc y2 id c0
  have d1 := keepc y2 id c1
  have d2 := keepc y2 id c2
  have d3 := keepc y2 id c3
  have g0 := keepf (p := ⟨t, 0, none⟩) y2 htl id H.out.f0
  have g2 := keepf (p := ⟨t, 2, none⟩) y2 htl id H.out.f2
  have g3 := keepf (p := ⟨t, 3, none⟩) y2 htl id H.out.f3
  have htl3 : t < w2.heap.size := Nat.lt_of_lt_of_le htl y2.size
  have Y2 := Lib.hid y2
  clear y2
  go_wp2_with (fail)
  (with_reducible refine (Hdr.out _ Y2.out).mono ?_)
  rintro e w4 ⟨rv', F', rfl, hrn4, t4, hF4⟩
  have d0 := keepc t4 Hntr.out d0
  have d1 := keepc t4 Hntr.out d1
  have d2 := keepc t4 Hntr.out d2
  have d3 := keepc t4 Hntr.out d3
  have g0 := keepf (p := ⟨t, 0, none⟩) t4 htl3 Hntr.out g0
  have g2 := keepf (p := ⟨t, 2, none⟩) t4 htl3 Hntr.out g2
  have g3 := keepf (p := ⟨t, 3, none⟩) t4 htl3 Hntr.out g3
  obtain ⟨ga, rfl⟩ : ∃ ga, rv' = .pointer ga := by
    cases hX : (RT.dropT T k).is with
    | false => rw [RT.is_false hX] at hrn4; exact ⟨_, hrn4⟩
    | true => obtain ⟨gr, h1, _⟩ := hrn4.ptr hX; exact ⟨_, h1⟩
  obtain ⟨w6, hw6⟩ : ∃ w6, w6 = (w4.setCell ⟨t, 2, none⟩ (.pointer ga)).setCell ⟨t, 3, none⟩ (.int .i64 (((szK ps : Nat) : Int) - (mt : Int))) := ⟨_, rfl⟩
  have t46 : Touch (fun b => b = t) w4 w6 := by rw [hw6]; exact Touch.setCell (S := fun b => b = t) (Touch.setCell (S := fun b => b = t) (Touch.refl _ _) (p := ⟨t, 2, none⟩) (Or.inl rfl) _) (p := ⟨t, 3, none⟩) (Or.inl rfl) _
  have e0 : w6.cell? ⟨t, 0, none⟩ = some (.pointer (some ⟨g, 0, none⟩)) := by rw [hw6, World.cell?_setCell_other _ _ _ _ (by simp), World.cell?_setCell_other _ _ _ _ (by simp)]; exact d0
  have e1 : w6.cell? ⟨t, 1, none⟩ = some (.int .i64 most) := by rw [hw6, World.cell?_setCell_other _ _ _ _ (by simp), World.cell?_setCell_other _ _ _ _ (by simp)]; exact d1
  have e2 : w6.cell? ⟨t, 2, none⟩ = some (.pointer ga) := by rw [hw6, World.cell?_setCell_other _ _ _ _ (by simp)]; exact World.cell?_setCell_same _ _ _ d2
  have e3 : w6.cell? ⟨t, 3, none⟩ = some (.int .i64 ((szK (dropK ps k) : Nat) : Int)) := by
    rw [hw6, World.cell?_setCell_same _ _ _ (by rw [World.cell?_setCell_other _ _ _ _ (by simp)]; exact d3)]
    have := Hsz.out
    exact congrArg (fun z => some (Value.int .i64 z)) (by omega)
  have h0 : w6.frozen? ⟨t, 0, none⟩ = false := by rw [hw6, World.frozen?_setCell, World.frozen?_setCell]; exact g0
  have h2 : w6.frozen? ⟨t, 2, none⟩ = false := by rw [hw6, World.frozen?_setCell, World.frozen?_setCell]; exact g2
  have h3 : w6.frozen? ⟨t, 3, none⟩ = false := by rw [hw6, World.frozen?_setCell, World.frozen?_setCell]; exact g3
  have e0' : (w4.setCell ⟨t, 2, none⟩ (.pointer ga)).cell? ⟨t, 3, none⟩ = some (.int .i64 ((szK ps : Nat) : Int)) := by rw [World.cell?_setCell_other _ _ _ _ (by simp)]; exact d3
  have e0'' : (w4.setCell ⟨t, 2, none⟩ (.pointer ga)).frozen? ⟨t, 3, none⟩ = false := by rw [World.frozen?_setCell]; exact g3
  have y4 : Touch Fr w w4 := Y2.out.ext_trans t4
  have y6 : Touch (fun b => Fr b ∨ b = t) w w6 := (y4.mono (fun i hi _ => Or.inl hi)).trans' (t46.mono (fun i hi _ => Or.inr hi))
  have hdm := ModF.drop_any w6 g _ ps k (H.out.mp.keep y6 (fun b hb e => e.elim (fun e => (H.out.hr b e).2.2 hb) (fun e => (H.out.hm b hb).2 e))) (Hk.out.keep y6 (fun b hb e => hb (e.elim (fun e => (H.out.hr b e).1) (fun e => e ▸ H.out.self)))) Kb.out hm
  unfold DropRet at hdm
  rw [hw6] at e0
  have Hdm := Lib.hid hdm
  clear hdm
  have Y6 := Lib.hid y6
  clear y6
  have T46 := Lib.hid t46
  clear t46
  have Y4 := Lib.hid y4
  clear y4
  have E3 := Lib.hid e3
  clear e3
  have E2 := Lib.hid e2
  clear e2
  have E1 := Lib.hid e1
  clear e1
  have H0 := Lib.hid h0
  clear h0
  have H2 := Lib.hid h2
  clear h2
  have H3 := Lib.hid h3
  clear h3
  have Hrn4 := Lib.hid hrn4
  clear hrn4
  have T4 := Lib.hid t4
  clear t4
  have HF4 := Lib.hid hF4
  clear hF4
  go_wp2_with (fail)
  rw [← hw6] at e0 ⊢
  clear hw6 e0' e0''
  (with_reducible refine Hdm.out.mono ?_)
  rintro e w7 ⟨rfl, Fm', hmp', hu⟩
  have Hmp' := Lib.hid hmp'
  clear hmp'
  have Hu := Lib.hid hu
  clear hu
  go_wp2_with (fail)
  go_ret2
  refine ⟨rfl, ?_⟩
  have hs2 := Y2.out.size
  have hs4 := T4.out.size
  refine tp_mk H.out Y2.out T4.out T46.out Hu.out Hrn4.out Hdok.out Hprs.out (fun b hb => ⟨(HF4.out b hb).1.imp id (fun h => by omega), (HF4.out b hb).2⟩) (fun b hb => ?_) e0 E1.out E2.out E3.out H0.out H2.out H3.out Hmp'.out (by have := Hsz.out; omega) Hpl.out
  have h1 := H.out.lt b (H.out.hk b hb).1
  refine ⟨Or.inl hb, by omega, fun hf => ?_⟩
  rcases (HF4.out b hf).1 with h2 | h2
  · exact (H.out.hk b hb).2.2.2 h2
  · omega
theorem drop_any (w : World) (t : Nat) (kw : Value) (ps : Prs) (most : Int) (k : List Int) (h : Tp w t F ps most) (htb : KidA.Tl w) (hlf : ¬ F 0) (hk : RB w (fun b => ¬ F b) kw k) (kb : KB k) (hl : k.length ≤ 65535) :
    Calls Tryd.prog 32 #[.pointer (some ⟨t, 0, none⟩), kw] w (TDrop w t F ps most k) := by
  cases hh : hasK ps k with
  | true => exact drop_has w t kw ps most k h htb hlf hk kb hl hh
  | false =>
    refine (drop_not w t kw ps most k h hk kb hh).mono ?_
    rintro e w' ⟨rfl, ht⟩
    refine ⟨by rw [hh, valK_none hh], F, ?_, ht.none_to, fun b hb => Or.inl hb⟩
    rw [dropK_not hh]
    exact h.ext ht
end TreeB
end Go.Proofs.YtclnnkacfanaiaaDoor
