/- What every program answers that is one: a tree's awake. -/
import Derived.Test.YtclnnkacfanaiaaDoorTreeB
import Derived.Test.YtclnnkacfanaiaaDoorModL
namespace Go.Proofs.YtclnnkacfanaiaaDoor
open Go.RowKit
set_option linter.unusedVariables false
set_option linter.unusedSimpArgs false
namespace TreeW
open TreeA TreeB
open ModL (conv_lit rb_new kb_lit pair_some)
variable {F G : Nat → Prop}

def oneP : Prs := [([97], 1)]
def oneQ : Prs := [([97], 2)]
def twoQ : Prs := [([97], 2), ([97, 98], 3)]

theorem rb_at (w : World) (k : List Int) (t : TypeId) (fr : Nat × Nat) (hk : k.length ≤ maxLen) : RB (w.alloc (.cells (ivs .u8 k).toArray t fr)) (fun b => b = w.heap.size) (.slice (some ⟨w.heap.size, 0, none⟩) k.length k.length) k := by
  refine ⟨_, _, rfl, Nat.le_refl _, hk, (fun h => by cases h), fun i hi => ⟨_, _, rfl, rfl, ?_⟩⟩
  rw [World.cell?_alloc_mark]
  simp [ivs, hi]
set_option maxRecDepth 100000 in
set_option maxHeartbeats 3200000 in
theorem awake_any (w : World) (htr : KidA.Tr w) : Calls Tryd.prog 13 #[] w fun e w' => e = .returned (.bool true) ∧ Ext w w' := by
  have kc := conv_lit
  have hnew := new_yes w htr 40 (by decide) (by decide)
  unfold TNew at hnew
  have Hnew := Lib.hid hnew
  clear hnew
  have Htr := Lib.hid htr
  clear htr
  go_enter Tryd.func13, Tryd.ntmps13
  go_wp2_with (fail)
  (with_reducible refine Hnew.out.mono ?_)
  rintro e w1 ⟨t, F, rfl, htp, hF, ht⟩
  have Htp := Lib.hid htp
  clear htp
  have HF := Lib.hid hF
  clear hF
  have Ht := Lib.hid ht
  clear ht
  go_wp2_with (fail)
  have x1 : Ext w1 (w1.alloc (.cells #[.int .u8 97] 5 (1, 2))) := (Touch.refl _ _).alloc _
  have hp := put_any _ t _ [] 40 [97] 1 (Htp.out.ext x1) (by decide) ((rb_at w1 [97] 5 (1, 2) (by decide)).mono (fun b hb => aw (Htp.out) (fun h => by subst hb; have := Htp.out.lt _ h; omega))) (kb_lit _ (by decide)) (by decide) (Or.inr (by decide +kernel))
  unfold TPut at hp
  rw [show putK [] [97] 1 = oneP by decide +kernel, show valK [] [97] = 0 by decide +kernel, show hasK [] [97] = false by decide +kernel] at hp
  have Hp := Lib.hid hp
  clear hp
  refine Hp.out.mono ?_
  rintro e w2 ⟨rfl, F2, htp2, hu⟩
  have y2 : Ext w w2 := (Ht.out.trans' x1).ext_new hu.1 (fun i hi => HF.out i hi)
  have hF2 : ∀ b, F2 b → w.heap.size ≤ b := fun b hb => (hu.2 b hb).elim (HF.out b) (fun h => by have := Ht.out.size; have := x1.size; omega)
  clear x1 Hp hu
  have Htp2 := Lib.hid htp2
  clear htp2
  have HF2 := Lib.hid hF2
  clear hF2
  go_wp2_with (fail)
  have x2 : Ext w2 (w2.alloc (.cells #[.int .u8 97] 5 (1, 2))) := (Touch.refl _ _).alloc _
  have hp := put_any _ t _ oneP 40 [97] 2 (Htp2.out.ext x2) (by decide) ((rb_at w2 [97] 5 (1, 2) (by decide)).mono (fun b hb => aw (Htp2.out) (fun h => by subst hb; have := Htp2.out.lt _ h; omega))) (kb_lit _ (by decide)) (by decide) (Or.inl (by decide +kernel))
  unfold TPut at hp
  rw [show putK oneP [97] 2 = oneQ by decide +kernel, show valK oneP [97] = 1 by decide +kernel, show hasK oneP [97] = true by decide +kernel] at hp
  have Hp := Lib.hid hp
  clear hp
  refine Hp.out.mono ?_
  rintro e w3 ⟨rfl, F3, htp3, hu⟩
  have y3 : Ext w w3 := (y2.trans' x2).ext_new hu.1 (fun i hi => HF2.out i hi)
  have hF3 : ∀ b, F3 b → w.heap.size ≤ b := fun b hb => (hu.2 b hb).elim (HF2.out b) (fun h => by have := y2.size; have := x2.size; omega)
  clear x2 Hp hu
  have Htp3 := Lib.hid htp3
  clear htp3
  have HF3 := Lib.hid hF3
  clear hF3
  go_wp2_with (fail)
  have x3 : Ext w3 (w3.alloc (.cells #[.int .u8 97, .int .u8 98] 5 (2, 3))) := (Touch.refl _ _).alloc _
  have hp := put_any _ t _ oneQ 40 [97, 98] 3 (Htp3.out.ext x3) (by decide) ((rb_at w3 [97, 98] 5 (2, 3) (by decide)).mono (fun b hb => aw (Htp3.out) (fun h => by subst hb; have := Htp3.out.lt _ h; omega))) (kb_lit _ (by decide)) (by decide) (Or.inr (by decide +kernel))
  unfold TPut at hp
  rw [show putK oneQ [97, 98] 3 = twoQ by decide +kernel, show valK oneQ [97, 98] = 0 by decide +kernel, show hasK oneQ [97, 98] = false by decide +kernel] at hp
  have Hp := Lib.hid hp
  clear hp
  refine Hp.out.mono ?_
  rintro e w4 ⟨rfl, F4, htp4, hu⟩
  have y4 : Ext w w4 := (y3.trans' x3).ext_new hu.1 (fun i hi => HF3.out i hi)
  clear x3 Hp hu
  have Htp4 := Lib.hid htp4
  clear htp4
  go_wp2_with (fail)
  refine (SameP.long_any _ 65536 1 (by decide) (by decide)).mono ?_
  rintro e w5 ⟨⟨v5, rfl, ho5⟩, t5⟩
  have hl5 : 65535 < (SameP.longK 65536 1).length := by rw [SameP.longK_length]; decide
  have hp := put_long w5 t v5 _ 1 ho5.rb hl5
  have htp5 := Htp4.out.ext t5
  have y5 := y4.trans' t5
  clear hl5 ho5
  have Hp := Lib.hid hp
  clear hp
  have Htp5 := Lib.hid htp5
  clear htp5
  go_wp2_with (fail)
  refine Hp.out.mono ?_
  rintro e w5' ⟨rfl, rfl⟩
  clear Hp
  go_wp2_with (fail)
  have x5 : Ext w5 (w5.alloc (.cells #[.int .u8 97, .int .u8 98, .int .u8 99] 5 (3, 4))) := (Touch.refl _ _).alloc _
  have hlo := longest_any _ _ _ twoQ [97, 98, 99] (Htp5.out.ext x5).tq (rb_new w5 [97, 98, 99] 5 (3, 4) _ rfl (by decide)) (kb_lit _ (by decide)) (by decide)
  rw [show longestK twoQ [97, 98, 99] = some ([97, 98], 3) by decide +kernel] at hlo
  have Hlo := Lib.hid hlo
  clear hlo
  refine Hlo.out.mono ?_
  intro e w6 hp
  obtain ⟨pa, pc, rfl, hp, t6⟩ := pair_some hp
  have hk : ∀ W, Ext (w6.alloc (.cells #[.slice pa 2 pc, .int .u64 3] 33)) W → (convert 23 9 (.slice pa 2 pc)).run Tryd.prog W = .ok (.string ⟨#[97, 98]⟩) W := fun W x => conv_any _ _ _ _ _ _ ((hp.rb.ext ((Touch.refl _ _).alloc _)).ext x)
  have x6 := (x5.trans' t6).alloc (.cells #[.slice pa 2 pc, .int .u64 3] 33)
  have y6 := y5.trans' x6
  have hlen := TreeA.len_any _ _ twoQ (Htp5.out.ext x6).tq
  have hmo := most_any _ t twoQ 40 (Htp5.out.ext x6)
  have kk := hk _ (Touch.refl _ _)
  clear t6 hk hp
  have Hlen := Lib.hid hlen
  clear hlen
  have Hmo := Lib.hid hmo
  clear hmo
  go_wp2_with (fail)
  (with_reducible refine Hlen.out.mono ?_)
  rintro e w7 ⟨rfl, rfl⟩
  go_wp2_with (fail)
  (with_reducible refine Hmo.out.mono ?_)
  rintro e w7 ⟨rfl, rfl⟩
  go_wp2_with (fail)
  refine (new_no _ (-1) (Or.inl (by decide))).mono ?_
  rintro e w7 ⟨rfl, rfl⟩
  go_wp2_with (fail)
  go_ret
  exact ⟨rfl, y6⟩
end TreeW
end Go.Proofs.YtclnnkacfanaiaaDoor
