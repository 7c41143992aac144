/- A ternary tree: how many cells a key takes alone. -/
import Derived.Test.YthfnacadabhpdaaTreeA
import Derived.Test.YthfnacadabhpdaaTernP
import Derived.Test.YthfnacadabhpdaaKeyC
import Derived.Test.YthfnacadabhpdaaModS
namespace Go.Proofs.Ythfnacadabhpdaa
open Go.RowKit
set_option linter.unusedVariables false
set_option linter.unusedSimpArgs false
namespace TreeC
open ModA (Mq)
open ModS (pair_none)
variable {F G : Nat → Prop}

def comO (o : Option (List Int × Int)) (k : List Int) : Nat := match o with | none => 0 | some q => comK q.1 k
theorem alone_eq (ps : Prs) (k : List Int) (hk : k ≠ []) : aloneK ps k = k.length - max (comO (selK ps ((rk ps k : Int) - 1)) k) (comO (selK ps ((rk ps k : Int) + if hasK ps k then 1 else 0)) k) := by
  have h1 : ∀ i, aloneK.selKK ps i = (selK ps i).map (·.1) := fun i => rfl
  unfold aloneK aloneT
  rw [if_neg hk, h1, h1]
  cases selK ps ((rk ps k : Int) - 1) <;> cases selK ps ((rk ps k : Int) + if hasK ps k then 1 else 0) <;> rfl


theorem pair_some2 {w w' : World} {e : Ending} {p : List Int × Int} (h : PairRet w (some p) e w') : ∃ a c, e = .returned (.tuple #[.agg #[.slice a p.1.length c, .int .u64 p.2], .bool true]) ∧ OB w' (Ge w.heap.size) (.slice a p.1.length c) p.1 ∧ Ext w w' := by
  obtain ⟨⟨kv, rfl, ho⟩, ht⟩ := h
  obtain ⟨a, c, rfl⟩ := ho.shape
  exact ⟨a, c, rfl, ho, ht⟩

set_option maxRecDepth 100000 in
set_option maxHeartbeats 3200000 in
theorem alone_any (w : World) (m kw : Value) (ps : Prs) (k : List Int) (h : Mq w m F ps) (hk : RB w G kw k) (kb : KB k) (hm : ps.length ≤ 1000000) (hl : ∀ p ∈ ps, p.1.length ≤ 65535) (hkl : k.length ≤ 65535) :
    Calls Try.prog 51 #[m, kw] w fun e w' => e = .returned (.int .i64 (aloneK ps k)) ∧ Ext w w' := by
  obtain ⟨ka, kc, rfl, _⟩ := hk.shape
  by_cases hk0 : k = []
  · subst hk0
    have ha : aloneK ps [] = 1 := rfl
    have H := Lib.hid h
    clear h
    have Hk := Lib.hid hk
    clear hk
    have Ha := Lib.hid ha
    clear ha
    go_enter Try.func51, Try.ntmps51
    go_wp2_with (fail)
    go_ret
    rw [Ha.out]
    exact ⟨rfl, Touch.refl _ _⟩
  · have hpos : 0 < k.length := List.length_pos_iff.2 hk0
    have hal := alone_eq ps k hk0
    have d0 : ((k.length : Int) == 0) = false := by simp; omega
    have hrk := fun W (t : Ext w W) => ModA.rank_any W m _ ps k (h.ext t) (hk.ext t) kb hm
    have hget := fun W (t : Ext w W) => ModA.get_any W m _ ps k (h.ext t) (hk.ext t) kb hm
    have hs1 := fun W (t : Ext w W) => ModB.select_any W m ps ((rk ps k : Int) - 1) (h.ext t) hm
    have hs2 := fun W (t : Ext w W) => ModB.select_any W m ps ((rk ps k : Int) + if hasK ps k then 1 else 0) (h.ext t) hm
    have hcm := fun W (t : Ext w W) (va : Value) (G : Nat → Prop) (p : List Int) (hv : RB W G va p) (hp : p.length ≤ 1000000) => KeyC.common_any W va _ p k hv (hk.ext t) hp (by omega)
    have hmem : ∀ i q, selK ps i = some q → q.1.length ≤ 1000000 := fun i q hq => by
      unfold selK at hq
      split at hq
      · have := hl q (List.mem_of_getElem? hq); omega
      · cases hq
    have hl1 := hmem ((rk ps k : Int) - 1)
    have hl2 := hmem ((rk ps k : Int) + if hasK ps k then 1 else 0)
    have hrl := rk_le ps k
    generalize selK ps ((rk ps k : Int) - 1) = o1 at *
    generalize selK ps ((rk ps k : Int) + if hasK ps k then 1 else 0) = o2 at *
    generalize aloneK ps k = al at *
    generalize rk ps k = r at *
    generalize valK ps k = vv at *
    have x := (Touch.refl (fun _ => False) w)
    clear hmem hk0
    cases hb : hasK ps k with
    | false =>
      rw [hb] at hget hs2
      have i3 : (r : Int) + (if false = true then 1 else 0) = r := by simp
      rw [i3] at hs2
      have H := Lib.hid h
      clear h
      have Hk := Lib.hid hk
      clear hk
      have Hal := Lib.hid hal
      clear hal
      have Hrk := Lib.hid hrk
      clear hrk
      have Hget := Lib.hid hget
      clear hget
      have Hs1 := Lib.hid hs1
      clear hs1
      have Hs2 := Lib.hid hs2
      clear hs2
      have Hcm := Lib.hid hcm
      clear hcm
      have Hl1 := Lib.hid hl1
      clear hl1
      have Hl2 := Lib.hid hl2
      clear hl2
      have Hb := Lib.hid hb
      clear hb
      clear i3
      go_enter Try.func51, Try.ntmps51
      go_wp2_with (fail)
      (with_reducible refine (Hrk.out _ x).mono ?_)
      rintro e u1 ⟨rfl, t⟩
      have x := x.trans' t
      clear t
      go_wp2_with (fail)
      (with_reducible refine (Hs1.out _ x).mono ?_)
      intro e u2 hp
      cases o1 with
      | none =>
        obtain ⟨pa, pc, rfl, hq, t⟩ := pair_none hp
        have x := (x.trans' t).alloc (.cells #[.slice pa 0 pc, .int .u64 0] 33)
        clear hp hq t
        go_wp2_with (fail)
        (with_reducible refine (Hget.out _ x).mono ?_)
        rintro e u4 ⟨rfl, t⟩
        have x := x.trans' t
        clear t
        go_wp2_with (fail)
        (with_reducible refine (Hs2.out _ x).mono ?_)
        intro e u5 hp
        cases o2 with
        | none =>
          obtain ⟨qa, qc, rfl, hq, t⟩ := pair_none hp
          have x := (x.trans' t).alloc (.cells #[.slice qa 0 qc, .int .u64 0] 33)
          clear hp hq t
          go_wp2_with (fail)
          all_goals
            go_ret
            exact ⟨congrArg (fun z => Ending.returned (.int .i64 z)) (by have := Hal.out; simp only [comO] at this; omega), x⟩
        | some p2 =>
          obtain ⟨qa, qc, rfl, hq, t⟩ := pair_some2 hp
          have hcm := Hcm.out _ ((x.trans' t).alloc (.cells #[.slice qa p2.1.length qc, .int .u64 p2.2] 33)) _ _ _ (hq.rb.ext ((Touch.refl _ _).alloc (.cells #[.slice qa p2.1.length qc, .int .u64 p2.2] 33))) (Hl2.out _ rfl)
          have x := (x.trans' t).alloc (.cells #[.slice qa p2.1.length qc, .int .u64 p2.2] 33)
          have hle2 := comK_le p2.1 k
          clear hp hq t
          have Hcm := Lib.hid hcm
          clear hcm
          go_wp2_with (fail)
          (with_reducible refine Hcm.out.mono ?_)
          rintro e u6 ⟨rfl, t⟩
          have x := x.trans' t
          clear t
          go_wp2_with (fail)
          all_goals
            go_ret
            exact ⟨congrArg (fun z => Ending.returned (.int .i64 z)) (by have := Hal.out; simp only [comO] at this; omega), x⟩
      | some p1 =>
        obtain ⟨pa, pc, rfl, hq, t⟩ := pair_some2 hp
        have hcm1 := Hcm.out _ ((x.trans' t).alloc (.cells #[.slice pa p1.1.length pc, .int .u64 p1.2] 33)) _ _ _ (hq.rb.ext ((Touch.refl _ _).alloc (.cells #[.slice pa p1.1.length pc, .int .u64 p1.2] 33))) (Hl1.out _ rfl)
        have x := (x.trans' t).alloc (.cells #[.slice pa p1.1.length pc, .int .u64 p1.2] 33)
        have hle1 := comK_le p1.1 k
        clear hp hq t
        have Hcm1 := Lib.hid hcm1
        clear hcm1
        go_wp2_with (fail)
        (with_reducible refine Hcm1.out.mono ?_)
        rintro e u3 ⟨rfl, t⟩
        have x := x.trans' t
        clear t
        go_wp2_with (fail)
        (with_reducible refine (Hget.out _ x).mono ?_)
        rintro e u4 ⟨rfl, t⟩
        have x := x.trans' t
        clear t
        go_wp2_with (fail)
        (with_reducible refine (Hs2.out _ x).mono ?_)
        intro e u5 hp
        cases o2 with
        | none =>
          obtain ⟨qa, qc, rfl, hq, t⟩ := pair_none hp
          have x := (x.trans' t).alloc (.cells #[.slice qa 0 qc, .int .u64 0] 33)
          clear hp hq t
          go_wp2_with (fail)
          all_goals
            go_ret
            exact ⟨congrArg (fun z => Ending.returned (.int .i64 z)) (by have := Hal.out; simp only [comO] at this; omega), x⟩
        | some p2 =>
          obtain ⟨qa, qc, rfl, hq, t⟩ := pair_some2 hp
          have hcm := Hcm.out _ ((x.trans' t).alloc (.cells #[.slice qa p2.1.length qc, .int .u64 p2.2] 33)) _ _ _ (hq.rb.ext ((Touch.refl _ _).alloc (.cells #[.slice qa p2.1.length qc, .int .u64 p2.2] 33))) (Hl2.out _ rfl)
          have x := (x.trans' t).alloc (.cells #[.slice qa p2.1.length qc, .int .u64 p2.2] 33)
          have hle2 := comK_le p2.1 k
          clear hp hq t
          have Hcm := Lib.hid hcm
          clear hcm
          go_wp2_with (fail)
          (with_reducible refine Hcm.out.mono ?_)
          rintro e u6 ⟨rfl, t⟩
          have x := x.trans' t
          clear t
          go_wp2_with (fail)
          all_goals
            go_ret
            exact ⟨congrArg (fun z => Ending.returned (.int .i64 z)) (by have := Hal.out; simp only [comO] at this; omega), x⟩
    | true =>
      rw [hb] at hget hs2
      have i3 : (r : Int) + (if true = true then 1 else 0) = r + 1 := by simp
      rw [i3] at hs2
      have H := Lib.hid h
      clear h
      have Hk := Lib.hid hk
      clear hk
      have Hal := Lib.hid hal
      clear hal
      have Hrk := Lib.hid hrk
      clear hrk
      have Hget := Lib.hid hget
      clear hget
      have Hs1 := Lib.hid hs1
      clear hs1
      have Hs2 := Lib.hid hs2
      clear hs2
      have Hcm := Lib.hid hcm
      clear hcm
      have Hl1 := Lib.hid hl1
      clear hl1
      have Hl2 := Lib.hid hl2
      clear hl2
      have Hb := Lib.hid hb
      clear hb
      clear i3
      go_enter Try.func51, Try.ntmps51
      go_wp2_with (fail)
      (with_reducible refine (Hrk.out _ x).mono ?_)
      rintro e u1 ⟨rfl, t⟩
      have x := x.trans' t
      clear t
      go_wp2_with (fail)
      (with_reducible refine (Hs1.out _ x).mono ?_)
      intro e u2 hp
      cases o1 with
      | none =>
        obtain ⟨pa, pc, rfl, hq, t⟩ := pair_none hp
        have x := (x.trans' t).alloc (.cells #[.slice pa 0 pc, .int .u64 0] 33)
        clear hp hq t
        go_wp2_with (fail)
        (with_reducible refine (Hget.out _ x).mono ?_)
        rintro e u4 ⟨rfl, t⟩
        have x := x.trans' t
        clear t
        go_wp2_with (fail)
        (with_reducible refine (Hs2.out _ x).mono ?_)
        intro e u5 hp
        cases o2 with
        | none =>
          obtain ⟨qa, qc, rfl, hq, t⟩ := pair_none hp
          have x := (x.trans' t).alloc (.cells #[.slice qa 0 qc, .int .u64 0] 33)
          clear hp hq t
          go_wp2_with (fail)
          all_goals
            go_ret
            exact ⟨congrArg (fun z => Ending.returned (.int .i64 z)) (by have := Hal.out; simp only [comO] at this; omega), x⟩
        | some p2 =>
          obtain ⟨qa, qc, rfl, hq, t⟩ := pair_some2 hp
          have hcm := Hcm.out _ ((x.trans' t).alloc (.cells #[.slice qa p2.1.length qc, .int .u64 p2.2] 33)) _ _ _ (hq.rb.ext ((Touch.refl _ _).alloc (.cells #[.slice qa p2.1.length qc, .int .u64 p2.2] 33))) (Hl2.out _ rfl)
          have x := (x.trans' t).alloc (.cells #[.slice qa p2.1.length qc, .int .u64 p2.2] 33)
          have hle2 := comK_le p2.1 k
          clear hp hq t
          have Hcm := Lib.hid hcm
          clear hcm
          go_wp2_with (fail)
          (with_reducible refine Hcm.out.mono ?_)
          rintro e u6 ⟨rfl, t⟩
          have x := x.trans' t
          clear t
          go_wp2_with (fail)
          all_goals
            go_ret
            exact ⟨congrArg (fun z => Ending.returned (.int .i64 z)) (by have := Hal.out; simp only [comO] at this; omega), x⟩
      | some p1 =>
        obtain ⟨pa, pc, rfl, hq, t⟩ := pair_some2 hp
        have hcm1 := Hcm.out _ ((x.trans' t).alloc (.cells #[.slice pa p1.1.length pc, .int .u64 p1.2] 33)) _ _ _ (hq.rb.ext ((Touch.refl _ _).alloc (.cells #[.slice pa p1.1.length pc, .int .u64 p1.2] 33))) (Hl1.out _ rfl)
        have x := (x.trans' t).alloc (.cells #[.slice pa p1.1.length pc, .int .u64 p1.2] 33)
        have hle1 := comK_le p1.1 k
        clear hp hq t
        have Hcm1 := Lib.hid hcm1
        clear hcm1
        go_wp2_with (fail)
        (with_reducible refine Hcm1.out.mono ?_)
        rintro e u3 ⟨rfl, t⟩
        have x := x.trans' t
        clear t
        go_wp2_with (fail)
        (with_reducible refine (Hget.out _ x).mono ?_)
        rintro e u4 ⟨rfl, t⟩
        have x := x.trans' t
        clear t
        go_wp2_with (fail)
        (with_reducible refine (Hs2.out _ x).mono ?_)
        intro e u5 hp
        cases o2 with
        | none =>
          obtain ⟨qa, qc, rfl, hq, t⟩ := pair_none hp
          have x := (x.trans' t).alloc (.cells #[.slice qa 0 qc, .int .u64 0] 33)
          clear hp hq t
          go_wp2_with (fail)
          all_goals
            go_ret
            exact ⟨congrArg (fun z => Ending.returned (.int .i64 z)) (by have := Hal.out; simp only [comO] at this; omega), x⟩
        | some p2 =>
          obtain ⟨qa, qc, rfl, hq, t⟩ := pair_some2 hp
          have hcm := Hcm.out _ ((x.trans' t).alloc (.cells #[.slice qa p2.1.length qc, .int .u64 p2.2] 33)) _ _ _ (hq.rb.ext ((Touch.refl _ _).alloc (.cells #[.slice qa p2.1.length qc, .int .u64 p2.2] 33))) (Hl2.out _ rfl)
          have x := (x.trans' t).alloc (.cells #[.slice qa p2.1.length qc, .int .u64 p2.2] 33)
          have hle2 := comK_le p2.1 k
          clear hp hq t
          have Hcm := Lib.hid hcm
          clear hcm
          go_wp2_with (fail)
          (with_reducible refine Hcm.out.mono ?_)
          rintro e u6 ⟨rfl, t⟩
          have x := x.trans' t
          clear t
          go_wp2_with (fail)
          all_goals
            go_ret
            exact ⟨congrArg (fun z => Ending.returned (.int .i64 z)) (by have := Hal.out; simp only [comO] at this; omega), x⟩
end TreeC
end Go.Proofs.Ythfnacadabhpdaa
