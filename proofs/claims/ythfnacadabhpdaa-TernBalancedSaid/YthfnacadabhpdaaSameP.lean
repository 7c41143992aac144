/- bramblelaw0's functions over bytes and pairs. -/
import Derived.Test.YthfnacadabhpdaaKeyW
import Derived.Test.YthfnacadabhpdaaSameA
import Derived.Test.YthfnacadabhpdaaSameBytes
import Derived.Test.YthfnacadabhpdaaPlan
namespace Go.Proofs.Ythfnacadabhpdaa
open Go.RowKit
set_option linter.unusedVariables false
set_option linter.unusedSimpArgs false

namespace SameP
open SameA
variable {F G : Nat → Prop}
theorem same_bytes (w : World) (va vb : Value) (k l : List Int) (ha : RB w F va k) (hb : RB w G vb l) (hm : k.length ≤ 1000000) (hn : l.length ≤ 1000000) :
    Calls Try.prog 19 #[va, vb] w fun e w' => e = .returned (.bool (decide (k = l))) ∧ Ext w w' := sameBytes_any va vb k l w ha.reads hb.reads hm hn
theorem same_bytes_yes (w : World) (va vb : Value) (k : List Int) (ha : RB w F va k) (hb : RB w G vb k) (hm : k.length ≤ 1000000) :
    Calls Try.prog 19 #[va, vb] w fun e w' => e = .returned (.bool true) ∧ Ext w w' := sameBytes_same va vb k w ha.reads hb.reads hm
theorem over_bytes (w : World) (v : Value) (k : List Int) (h : OB w F v k) (hm : k.length ≤ 1000000) :
    Calls Try.prog 73 #[v] w fun e w' => e = .returned (.tuple #[]) ∧ Touch (fun b => v.ownBlock = some b) w w' := overBytes_any v _ _ w 0 h.1 hm (Nat.zero_le _)

set_option maxRecDepth 100000 in
set_option maxHeartbeats 800000 in
theorem same_pairs (w : World) (va vb : Value) (ps : Prs) (ha : RP w F va ps) (hb : RP w G vb ps) (hm : ps.length ≤ 1000000) (hk : ∀ p ∈ ps, p.1.length ≤ 1000000) :
    Calls Try.prog 28 #[va, vb] w fun e w' => e = .returned (.bool true) ∧ Ext w w' := by
  obtain ⟨aa, ca, rfl, _, _, _⟩ := ha.shape
  obtain ⟨ab, cb, rfl, _, _, _⟩ := hb.shape
  have Hk := Lib.hid hk
  clear hk
  go_enter Try.func28, Try.ntmps28
  go_wp2
  go_loopw [5] (fun i5 wr => ∃ k : Nat, k ≤ ps.length ∧ i5 = .int .i64 k ∧ Ext w wr) (fun i5 _ => ps.length - (intOf i5).toNat)
  case atStart => exact ⟨0, by omega, rfl, Touch.refl _ _⟩
  case round =>
    obtain ⟨k, hk, rfl, ht⟩ := hrel
    by_cases hlt : k < ps.length
    · obtain ⟨ba, oa, rfl, _⟩ := ha.addr (by omega)
      obtain ⟨bb, ob, rfl, _⟩ := hb.addr (by omega)
      have hg := List.getElem?_eq_getElem hlt
      obtain ⟨ka, a0, a1, a2⟩ := (ha.ext ht).get k _ hg
      obtain ⟨kb, b0, b1, b2⟩ := (hb.ext ht).get k _ hg
      have hkl := Hk.out _ (List.mem_of_getElem? hg)
      generalize ps[k] = p at *
      have hva : (p.2 != p.2) = false := by simp
      have Hg := Lib.hid hg
      clear hg
      have A2 := Lib.hid a2
      clear a2
      have B2 := Lib.hid b2
      clear b2
      have Hkl := Lib.hid hkl
      clear hkl
      have i0 : (0 : Int) ≤ (k : Int) := by omega
      have i1 : (k : Int) < (ps.length : Int) := by omega
      go_wp2
      refine wp_region_plan (.take 0 (.take 1 (.take 2 (.take 3 (.take 4 (.take 5 (.take 6 (.take 7 (.take 8 (.take 9 (.take 10 (.take 11 (.take 12 (.take 13 (.take 14 (.take 15 (.take 16 (.take 17 (.take 18 (.take 19 (.take 20 (.take 21 (.must 22 (.take 23 (.take 24 .done))))))))))))))))))))))))) (fun wy => Touch (fun _ => False) wr wy ∧ wy.cell? ⟨ba, oa + k * 2, none⟩ = some ka ∧ wy.cell? ⟨ba, oa + k * 2 + 1, none⟩ = some (.int .u64 p.2) ∧ wy.cell? ⟨bb, ob + k * 2, none⟩ = some kb ∧ wy.cell? ⟨bb, ob + k * 2 + 1, none⟩ = some (.int .u64 p.2)) (by kernel_rfl) (by kernel_rfl) (by kernel_rfl) rfl ?_ (fun KK hKK => ?_)
      · exact ⟨(Touch.refl _ _).drew, a0, a1, b0, b1⟩
      repeat (first
        | (refine wpPlan_take (v := ?_) rfl (by rfl) (fun W hW => ?_) ?_; rotate_left; (focus ((try dsimp only at hW); go_split_ands; go_simp; (try with_reducible rfl); done)); (try simp only [Act.put, List.setIfInBounds_toArray, List.set_cons_zero, List.set_cons_succ]))
        | (refine wpPlan_skip rfl (by rfl) ?_; (try simp only [Act.put, List.setIfInBounds_toArray, List.set_cons_zero, List.set_cons_succ])))
      refine wpPlan_must rfl (by rfl) (fun K hK => ?_)
      go_simp
      (with_reducible refine (same_bytes_yes _ _ _ p.1 (A2.out.ext (Touch.refl _ _).drew) (B2.out.ext (Touch.refl _ _).drew) Hkl.out).mono ?_)
      rintro e w1 ⟨rfl, ht1⟩
      refine hK.out _ _ ?_ ?_
      · exact ⟨(Touch.refl _ _).drew.trans' ht1, keepc ht1 id a0, keepc ht1 id a1, keepc ht1 id b0, keepc ht1 id b1⟩
      clear hK K
      (try simp only [Act.put, List.setIfInBounds_toArray, List.set_cons_zero, List.set_cons_succ])
      repeat (first
        | (refine wpPlan_take (v := ?_) rfl (by rfl) (fun W hW => ?_) ?_; rotate_left; (focus ((try dsimp only at hW); go_split_ands; go_simp; (try with_reducible rfl); done)); (try simp only [Act.put, List.setIfInBounds_toArray, List.set_cons_zero, List.set_cons_succ]))
        | (refine wpPlan_skip rfl (by rfl) ?_; (try simp only [Act.put, List.setIfInBounds_toArray, List.set_cons_zero, List.set_cons_succ])))
      refine wpPlan_done (hKK.out _ _ ?_)
      clear hKK KK
      go_wp2
      go_roundw
      case rel => exact ⟨k + 1, by omega, by go_num, ht.trans' ((Touch.refl _ _).drew.trans' ht1)⟩
      case measure => simp [intOf]; omega
    · go_wp2
      go_ret
      exact ⟨rfl, ht⟩

/-! ### what was answered is written over -/
theorem get_drop_set {es : List El} {k : Nat} {e : El} {x : El} (j : Nat) (hj : k < j) : (es.set k x)[j]? = es[j]? := by
  rw [List.getElem?_set]; simp; omega
theorem flat_set (es : List El) (k : Nat) (x : El) (hk : k < es.length) : flat (es.set k x) = ((flat es).set (k * 2) x.1).set (k * 2 + 1) (.int .u64 x.2.2) := by
  induction es generalizing k with
  | nil => simp at hk
  | cons e es ih =>
    cases k with
    | zero => rfl
    | succ k =>
      rw [List.set_cons_succ, flat_cons, flat_cons, ih k (by simpa using hk), show (k + 1) * 2 = k * 2 + 1 + 1 by omega]
      rfl

set_option maxRecDepth 100000 in
set_option maxHeartbeats 800000 in
theorem over_pairs (w : World) (v : Value) (ps : Prs) (h : OP w F v ps) (hm : ps.length ≤ 1000000) (hk : ∀ p ∈ ps, p.1.length ≤ 1000000) :
    Calls Try.prog 45 #[v] w fun e w' => e = .returned (.tuple #[]) ∧ Touch F w w' := by
  obtain ⟨es, rfl, ho, hF, hkeys, hdis⟩ := h
  obtain ⟨a, cap, rfl⟩ := own_len ho
  have hm' : es.length ≤ 1000000 := by simpa using hm
  have Hk := Lib.hid hk
  have Hkeys := Lib.hid hkeys
  have Hdis := Lib.hid hdis
  have HF := Lib.hid hF
  clear hm hk hkeys hdis hF
  go_enter Try.func45, Try.ntmps45
  go_wp2
  go_loopw [2] (fun i2 wr => ∃ (k : Nat) (es' : List El), k ≤ es.length ∧ i2 = .int .i64 k ∧ es'.length = es.length ∧ (∀ j, k ≤ j → es'[j]? = es[j]?) ∧ wr.ownsRow 0 33 2 (.slice a es.length cap) es.length (flat es') ∧
    (∀ j e, k ≤ j → es[j]? = some e → OB wr (fun b => F b ∧ (Value.slice a es.length cap).ownBlock ≠ some b) e.1 e.2.1) ∧ Touch F w wr) (fun i2 _ => es.length - (intOf i2).toNat)
  case atStart => exact ⟨0, es, by omega, rfl, rfl, fun _ _ => rfl, ho, fun j e _ hj => Hkeys.out e (List.mem_of_getElem? hj), Touch.refl _ _⟩
  case round =>
    obtain ⟨k, es', hk, rfl, hl', hsame, ho', hob, ht⟩ := hrel
    clear ho
    have Hl' := Lib.hid hl'
    have Hsame := Lib.hid hsame
    have Hob := Lib.hid hob
    have Ho' := Lib.hid ho'
    clear hl' hsame hob ho'
    by_cases hlt : k < es.length
    · have hrow := Ho'.out
      obtain ⟨g, rfl⟩ := own_addr hrow (by omega)
      have hge : es[k]? = some es[k] := List.getElem?_eq_getElem hlt
      have hge' : es'[k]? = some es[k] := (Hsame.out k (Nat.le_refl _)).trans hge
      generalize es[k] = e0 at hge hge'
      have c0 := (hrow.cellAt (k * 2) (by omega)).trans (flat_get0 _ _ _ hge')
      have c1 := (hrow.cellAt (k * 2 + 1) (by omega)).trans (flat_get1 _ _ _ hge')
      have f0 := hrow.frozenAt (k * 2)
      have f1 := hrow.frozenAt (k * 2 + 1)
      have hob0 := Hob.out k e0 (Nat.le_refl _) hge
      have hkl := Hk.out _ (List.mem_map_of_mem (List.mem_of_getElem? hge))
      have hgF := HF.out g rfl
      have Hge := Lib.hid hge
      clear hge
      have Hge' := Lib.hid hge'
      clear hge'
      have Hob0 := Lib.hid hob0
      clear hob0
      have Hkl := Lib.hid hkl
      clear hkl
      have HgF := Lib.hid hgF
      clear hgF
      clear hrow
      have i0 : (0 : Int) ≤ (k : Int) := by omega
      have i1 : (k : Int) < (es.length : Int) := by omega
      go_wp2_with (fail)
      (with_reducible refine (over_bytes _ _ e0.2.1 Hob0.out Hkl.out).mono ?_)
      rintro e w1 ⟨rfl, ht1⟩
      have hne : e0.1.ownBlock ≠ some g := fun h => (Hob0.out.2 g h).2 rfl
      have d0 := keepc ht1 hne c0
      have d1 := keepc ht1 hne c1
      have hglt := World.block_lt_of_cell? _ _ c0
      have g0 := keepf (p := ⟨g, k * 2, none⟩) ht1 hglt hne f0
      have g1 := keepf (p := ⟨g, k * 2 + 1, none⟩) ht1 hglt hne f1
      have hrow1 := own_keep Ho'.out ht1 (fun b hb => by cases hb; exact hne)
      have Hrow1 := Lib.hid hrow1
      clear hrow1
      have Hne := Lib.hid hne
      clear hne
      have Hglt := Lib.hid hglt
      clear hglt
      clear c0 c1 f0 f1
      go_wp2_with (fail)
      go_roundw
      case rel =>
        have hs1 := (Hrow1.out.stored (k * 2) (.slice none 0 0)).1
        have hs2 := hs1.stored (k * 2 + 1) (.int .u64 777)
        have ht2 := Touch.grown (Hrow1.out.stored (k * 2) (.slice none 0 0)).2
        have ht3 := Touch.grown hs2.2
        have hkl' : k < es'.length := by rw [Hl'.out]; exact hlt
        have htt : Touch (fun b => b = g) w1 _ := (ht2.mono (T := fun b => b = g) (fun i hi _ => by simpa [eq_comm] using hi)).trans' (ht3.mono (fun i hi _ => by simpa [eq_comm] using hi))
        refine ⟨k + 1, es'.set k (.slice none 0 0, e0.2.1, 777), by omega, by go_num, by rw [List.length_set]; exact Hl'.out, ?_, ?_, ?_, ?_⟩
        · intro j hj
          rw [get_drop_set (e := e0) j (by omega)]
          exact Hsame.out j (by omega)
        · rw [flat_set _ _ _ hkl']
          exact hs2.1
        · intro j e hj he
          refine ((Hob.out j e (by omega) he).keep' ht1 (fun b hb hb' => ?_)).keep htt (fun b hb hb' => ?_)
          · obtain ⟨l1, e1⟩ := List.getElem?_eq_some_iff.1 Hge.out
            obtain ⟨l2, e2⟩ := List.getElem?_eq_some_iff.1 he
            have := List.pairwise_iff_getElem.1 Hdis.out k j l1 l2 (by omega) b
            rw [e1, e2] at this
            exact this hb' hb
          · subst hb'; exact hb.2 rfl
        · refine (ht.trans ht1 ?_).trans htt ?_
          · intro i hi hlt'
            exact (Hob0.out.2 i hi).1
          · intro i hi hlt'
            subst hi; exact HgF.out
      case measure => simp [intOf]; omega
    · go_wp2
      go_end0
      exact ⟨rfl, ht⟩
end SameP
end Go.Proofs.Ythfnacadabhpdaa
