/- The package of the laws on model: what every law calls; from a law's arguments to rows of pairs. -/
import Derived.Test.YthannllagabclaaModH
import Derived.Test.YthannllagabclaaModI
import Derived.Test.YthannllagabclaaLaw
import Derived.Lib.SlBytesConst
import Derived.Lib.SmallJoins
namespace Go.Proofs.Ythannllagabclaa
open Go.RowKit
set_option linter.unusedVariables false
set_option linter.unusedSimpArgs false

namespace ModL
open ModA ModB ModF ModI
variable {F G : Nat → Prop}

abbrev Any : Nat → Prop := fun _ => True
theorem rb_any {w : World} {F : Nat → Prop} {v : Value} {k : List Int} (h : RB w F v k) : RB w Any v k := h.mono fun _ _ => trivial
theorem rb_new (w : World) (k : List Int) (t : TypeId) (fr : Nat × Nat) (g : Nat) (hg : g = w.heap.size) (hk : k.length ≤ maxLen) : RB (w.alloc (.cells (ivs .u8 k).toArray t fr)) Any (.slice (some ⟨g, 0, none⟩) k.length k.length) k := by
  subst hg
  refine ⟨_, _, rfl, Nat.le_refl _, hk, (fun h => by cases h), fun i hi => ⟨_, _, rfl, trivial, ?_⟩⟩
  rw [World.cell?_alloc_mark]
  simp [ivs, hi]

theorem rp_new (w : World) (es : List El) (t : TypeId) (g : Nat) (hg : g = w.heap.size) (hk : es.length ≤ maxLen) (hes : ∀ e ∈ es, RB w Any e.1 e.2.1) :
    RP (w.alloc (.cells (flat es).toArray t)) Any (.slice (some ⟨g, 0, none⟩) es.length es.length) (es.map (·.2)) := by
  subst hg
  refine ⟨es, rfl, ⟨_, _, rfl, Nat.le_refl _, hk, (fun h => by cases h), fun i e hi => ⟨_, _, rfl, trivial, ?_, ?_⟩⟩, fun e he => (hes e he).ext ((Touch.refl _ _).alloc _)⟩
  · rw [World.cell?_alloc_new, Nat.zero_add, List.getElem?_toArray]; exact flat_get0 es i e hi
  · rw [World.cell?_alloc_new, Nat.zero_add, List.getElem?_toArray]; exact flat_get1 es i e hi

theorem conv_lit (w : World) (C : Array Value) (n c g : Nat) (hg : g = w.heap.size) : (convert 23 23 (.slice (some ⟨g, 0, none⟩) n c)).run Try.prog (w.alloc (.cells C 5)) = .ok (.slice (some ⟨g, 0, none⟩) n c) (w.alloc (.cells C 5 (C.size, C.size + 1))) :=
  Joins.run_convert_bytes_const_at w _ _ C n c g hg Try.underlying23 Try.underlying5

abbrev twoP : Prs := [([97], 1), ([97, 98], 2)]
theorem mk_two : mkK [([97, 98], 2), ([97], 1)] = twoP := by decide +kernel
theorem kb_two : ∀ p ∈ [(([97, 98] : List Int), (2 : Int)), ([97], 1)], KB p.1 ∧ p.1.length ≤ 65535 := by unfold KB; decide +kernel
theorem kb_lit (k : List Int) (h : k.all (fun x => decide (0 ≤ x ∧ x < 256)) = true) : KB k := fun x hx => by have := List.all_eq_true.1 h x hx; simpa using this

theorem pair_some {w w' : World} {e : Ending} {k : List Int} {x : Int} (h : PairRet w (some (k, x)) e w') : ∃ a c, e = .returned (.tuple #[.agg #[.slice a k.length c, .int .u64 x], .bool true]) ∧ OB w' (Ge w.heap.size) (.slice a k.length c) k ∧ Ext w w' := by
  obtain ⟨⟨kv, rfl, ho⟩, ht⟩ := h
  obtain ⟨a, c, rfl⟩ := ho.shape
  exact ⟨a, c, rfl, ho, ht⟩

set_option maxRecDepth 100000 in
set_option maxHeartbeats 1600000 in
theorem awake_any (w : World) : Calls Try.prog 8 #[] w fun e w' => e = .returned (.bool true) ∧ Ext w w' := by
  have kc := conv_lit
  go_enter Try.func8, Try.ntmps8
  go_wp2_with (fail)
  have a1 := rb_new w [97, 98] 5 (2, 3) _ rfl (by decide)
  have a2 := rb_new (w.alloc (.cells #[.int .u8 97, .int .u8 98] 5 (2, 3))) [97] 5 (1, 2) (w.heap.size + 1) (by simp) (by decide)
  have a3 := rp_new ((w.alloc (.cells #[.int .u8 97, .int .u8 98] 5 (2, 3))).alloc (.cells #[.int .u8 97] 5 (1, 2))) [(.slice (some ⟨w.heap.size, 0, none⟩) 2 2, ([97, 98], 2)), (.slice (some ⟨w.heap.size + 1, 0, none⟩) 1 1, ([97], 1))] 32 (w.heap.size + 1 + 1) (by simp) (by simp [maxLen])
    (fun e he => by
      simp only [List.mem_cons, List.not_mem_nil, or_false] at he
      rcases he with rfl | rfl
      · exact a1.ext ((Touch.refl _ _).alloc _)
      · exact a2)
  refine (new_any _ _ [([97, 98], 2), ([97], 1)] a3 (by decide) kb_two).mono ?_
  rw [mk_two]
  clear a1 a2 a3
  rintro e w1 ⟨g, F, rfl, hmp, hF, ht1⟩
  have ht : Ext w w1 := (((((Touch.refl _ _).alloc _).alloc _).alloc _).trans' ht1)
  clear ht1
  have Hmp := Lib.hid hmp
  clear hmp
  have HF := Lib.hid hF
  clear hF
  have Ht := Lib.hid ht
  clear ht
  go_wp2_with (fail)
  have k1 := rb_new w1 [97, 98, 99] 5 (3, 4) _ rfl (by decide)
  have t1 : Ext w1 (w1.alloc (.cells #[.int .u8 97, .int .u8 98, .int .u8 99] 5 (3, 4))) := (Touch.refl _ _).alloc _
  refine (longest_any _ _ _ twoP [97, 98, 99] (Mq.of (Hmp.out.ext t1)) k1 (kb_lit _ (by decide)) (by decide)).mono ?_
  rw [show longestK twoP [97, 98, 99] = some ([97, 98], 2) by decide +kernel]
  intro e w2 hp
  obtain ⟨pa, pc, rfl, hp, ht2⟩ := pair_some hp
  have ht2 := t1.trans' ht2
  clear t1 k1
  have Hp := Lib.hid hp
  clear hp
  have Ht2 := Lib.hid ht2
  clear ht2
  go_wp2_with (fail)
  have t2 : Ext w1 (w2.alloc (.cells #[.slice pa 2 pc, .int .u64 2] 32)) := Ht2.out.alloc _
  refine (select_any _ _ twoP 0 (Mq.of (Hmp.out.ext t2)) (by decide)).mono ?_
  rw [show selK twoP 0 = some ([97], 1) by decide +kernel]
  intro e w3 hq
  obtain ⟨qa, qc, rfl, hq, ht3⟩ := pair_some hq
  have hp3 := Lib.hid (rb_any ((Hp.out.rb.ext ((Touch.refl _ _).alloc _)).ext ht3))
  have c20 := keepc (p := ⟨w2.heap.size, 0, none⟩) (v := .slice pa 2 pc) ht3 id (by simp)
  have ht3 := t2.trans' ht3
  clear t2
  have Hq := Lib.hid hq
  clear hq
  have Ht3 := Lib.hid ht3
  clear ht3
  go_wp2_with (fail)
  refine (SameP.long_any _ 65536 1 (by decide) (by decide)).mono ?_
  rintro e w4 ⟨⟨v4, rfl, ho4⟩, ht4⟩
  have hl4 : 65535 < (SameP.longK 65536 1).length := by rw [SameP.longK_length]; decide
  have tq : Ext w3 (w3.alloc (.cells #[.slice qa 1 qc, .int .u64 1] 32)) := (Touch.refl _ _).alloc _
  have c4 := keepc ht4 id (keepc (p := ⟨w2.heap.size, 0, none⟩) tq id c20)
  have c5 := keepc (p := ⟨w3.heap.size, 0, none⟩) (v := .slice qa 1 qc) ht4 id (by simp)
  have c6 := keepc (p := ⟨w3.heap.size, 1, none⟩) (v := .int .u64 1) ht4 id (by simp)
  have tw : Ext w1 w4 := Ht3.out.trans' (tq.trans' ht4)
  have hp4 := Lib.hid ((hp3.out.ext tq).ext ht4)
  have hq4 := Lib.hid (rb_any ((Hq.out.rb.ext tq).ext ht4))
  have hmq := Mq.of (Hmp.out.ext tw)
  have kp : (convert 23 9 (.slice pa 2 pc)).run Try.prog w4 = .ok (.string ⟨#[97, 98]⟩) w4 := conv_any _ _ _ _ _ _ hp4.out
  have kq : (convert 23 9 (.slice qa 1 qc)).run Try.prog w4 = .ok (.string ⟨#[97]⟩) w4 := conv_any _ _ _ _ _ _ hq4.out
  clear c20 tq
  have Ho4 := Lib.hid ho4
  clear ho4
  have Hl4 := Lib.hid hl4
  clear hl4
  have Ht4 := Lib.hid ht4
  clear ht4
  have Tw := Lib.hid tw
  clear tw
  have Hmq := Lib.hid hmq
  clear hmq
  go_wp2_with (fail)
  refine (put_long _ g _ _ 1 Ho4.out.rb Hl4.out).mono ?_
  rintro e w5 ⟨rfl, rfl⟩
  go_wp2_with (fail)
  refine (len_any _ _ twoP Hmq.out).mono ?_
  rintro e w5 ⟨rfl, rfl⟩
  go_wp2_with (fail)
  have t5 : Ext w4 (w4.alloc (.cells #[.int .u8 98] 5 (1, 2))) := (Touch.refl _ _).alloc _
  have kb := rb_new w4 [98] 5 (1, 2) _ rfl (by decide)
  refine (rank_any _ _ _ twoP [98] (Hmq.out.ext t5) kb (kb_lit _ (by decide)) (by decide)).mono ?_
  rw [show rk twoP [98] = 2 by decide +kernel]
  rintro e w6 ⟨rfl, ht6⟩
  have t6 := t5.trans' ht6
  clear t5 ht6 kb
  have c5 := keepc t6 id c5
  have c6 := keepc t6 id c6
  have hq6 := hq4.out.ext t6
  have T6 := Lib.hid t6
  clear t6
  have Hq6 := Lib.hid hq6
  clear hq6
  go_wp2_with (fail)
  refine (rises_any (G := Any) _ _ [] (RP.nil _ _) (by decide) (by simp)).mono ?_
  rw [show risesB [] = true by decide]
  rintro e w7 ⟨rfl, ht7⟩
  have c5 := keepc ht7 id c5
  have c6 := keepc ht7 id c6
  have t7 := T6.out.trans' ht7
  have hq7 := Hq6.out.ext ht7
  clear ht7
  have T7 := Lib.hid t7
  clear t7
  have Hq7 := Lib.hid hq7
  clear hq7
  go_wp2_with (fail)
  have hr := rp_new w7 [(.slice qa 1 qc, ([97], 1)), (.slice qa 1 qc, ([97], 1))] 32 _ rfl (by simp [maxLen]) (fun e he => by
      simp only [List.mem_cons, List.not_mem_nil, or_false] at he
      rcases he with rfl | rfl <;> exact Hq7.out)
  refine (rises_any _ _ [([97], 1), ([97], 1)] hr (by decide) (fun p hp => by
      simp only [List.mem_cons, List.not_mem_nil, or_false] at hp
      rcases hp with rfl | rfl <;> exact kb_lit _ (by decide))).mono ?_
  rw [show risesB [([97], 1), ([97], 1)] = false by decide +kernel]
  rintro e w8 ⟨rfl, ht8⟩
  have t8 : Ext w w8 := Ht.out.trans' (Tw.out.trans' (T7.out.trans' (((Touch.refl _ _).alloc _).trans' ht8)))
  clear ht8 hr
  have T8 := Lib.hid t8
  clear t8
  go_wp2_with (fail)
  go_ret
  exact ⟨rfl, T8.out⟩
end ModL
end Go.Proofs.Ythannllagabclaa
