/- Contracts: a pair put into a row of pairs that is full. -/
import Derived.Test.YtclnnkacfanaiaaDoorModC
namespace Go.Proofs.YtclnnkacfanaiaaDoor
open Go.RowKit
set_option linter.unusedVariables false
set_option linter.unusedSimpArgs false
namespace ModC
open ModA ModB
set_option maxRecDepth 100000 in
set_option maxHeartbeats 1600000 in
theorem insert_grow (w : World) (g c : Nat) (es : List El) (h i : Nat) (e : El) (ho : w.ownsRow 0 33 2 (.slice (some ⟨g, 0, none⟩) es.length c) es.length (flat es)) (hb : w.heap[h]? = some (.cells (flat [e]).toArray 33 (0, 0))) (h1 : ∀ x ∈ es, x.1.oneCell' = true) (h1e : e.1.oneCell' = true) (hm : es.length ≤ 1000000)
    (hi : i < es.length) (hroom : c < es.length + 1) :
    Calls Tryd.prog 77 #[.slice (some ⟨g, 0, none⟩) es.length c, .int .i64 i, .slice (some ⟨h, 0, none⟩) 1 1] w (InsRet w (.slice (some ⟨g, 0, none⟩) es.length c) (es.take i ++ e :: es.drop i)) := by
  obtain ⟨i0, hi0, hz0, hzs, hzb⟩ := info_parts info_pair
  rcases ho.2 with ⟨hh, _⟩ | ⟨g', c', cur, hh, _, hg, hnc, hcm, hcs, htake⟩
  · simp at hh
  simp only [Value.slice.injEq, Option.some.injEq, Addr.mk.injEq, and_true, true_and] at hh
  obtain ⟨rfl, rfl⟩ := hh
  have hcn : c = es.length := by omega
  have hfl : (flat (es.drop i)).length = (es.length - i) * 2 := by rw [flat_length, List.length_drop]
  have hel : (flat [e]).length = 2 := rfl
  have hti : (flat (es.take i)).length = i * 2 := by rw [flat_length, List.length_take]; omega
  have hone : ∀ u ∈ flat (es.drop i), u.oneCell' = true := flat_one_cell _ (fun x hx => h1 x (List.mem_of_mem_drop hx))
  have hone2 : ∀ u ∈ flat [e], u.oneCell' = true := flat_one_cell _ (fun x hx => by simp at hx; subst hx; exact h1e)
  have hglt := (Array.getElem?_eq_some_iff.1 hg).1
  have hhlt := (Array.getElem?_eq_some_iff.1 hb).1
  have hold : (Builtin.firstCells i0.size i (.slice (some ⟨g, 0, none⟩) i c)).run Tryd.prog w.drew = .ok (flat (es.take i)).toArray w.drew := by
    rw [hzs]
    refine run_firstCells_some w.drew 2 i ⟨g, 0, none⟩ i c (flat (es.take i)) hti (fun j v hj => ?_)
    rw [add_at]
    rw [flat_take, List.getElem?_take] at hj
    split at hj
    · have := ho.cellAt j (by omega)
      rw [Nat.zero_add]
      exact (show w.drew.cell? ⟨g, j, none⟩ = w.cell? ⟨g, j, none⟩ from rfl).trans (this.trans hj)
    · cases hj
  have hik : i + (es.length + 1 - i) = es.length + 1 := by omega
  obtain ⟨G, hG⟩ : ∃ G, G = grownCap w (es.length + 1) c 33 := ⟨_, rfl⟩
  have hGn : es.length + 1 ≤ G := by rw [hG]; exact grownCap_ge w _ _ _
  have hGm : G ≤ maxLen := by rw [hG]; exact grownCap_le_maxLen w _ _ _ (by unfold maxLen; omega)
  obtain ⟨cur0, hcur0⟩ : ∃ cur0 : Array Value, cur0 = (flat (es.take i)).toArray ++ Builtin.zeroCells (Value.agg #[.slice none 0 0, .int .u64 0]).cells (es.length + 1 - i) ++ Builtin.zeroCells (Value.agg #[.slice none 0 0, .int .u64 0]).cells (G - (es.length + 1)) := ⟨_, rfl⟩
  have hs0 : cur0.size = G * 2 := by
    rw [hcur0]; simp only [Array.size_append, size_zeroCells, List.size_toArray, hti]
    show i * 2 + (es.length + 1 - i) * 2 + (G - (es.length + 1)) * 2 = G * 2
    omega
  have ht0 : cur0.toList.take (i * 2) = flat (es.take i) := by
    rw [hcur0]; simp only [Array.toList_append, List.append_assoc]
    rw [← hti]; exact List.take_left
  have hrz : ∀ ty, (Builtin.append_ #[22, 3] ty #[.slice (some ⟨g, 0, none⟩) i c, .int .i64 ((es.length : Int) + 1 - (i : Int))]).run Tryd.prog w =
      .ok (.slice (some ⟨w.heap.size, 0, none⟩) (es.length + 1) G) (w.drew.alloc (.cells cur0 33)) := fun ty => by
    have h := Lib.run_append_grow_zeros w 22 3 ty 33 i0 _ .i64 .i64 Tryd.underlying22 Tryd.underlying3 hi0 hz0 (some ⟨g, 0, none⟩) i c (flat (es.take i)) hold (es.length + 1 - i) (by omega) (by omega) (by omega) (by omega) (by rw [hzb]; omega) (by rw [hzb, hik]; exact growslice_fits hroom (by omega))
    rw [hik, ← hG] at h
    rw [show (es.length : Int) + 1 - (i : Int) = ((es.length + 1 - i : Nat) : Int) by omega, hcur0]
    exact h
  obtain ⟨cur1, hcur1⟩ : ∃ cur1 : Array Value, cur1 = (over cur0.toList (i * 2) (flat [e])).toArray := ⟨_, rfl⟩
  have hc0 : cur0.toList.length = G * 2 := by rw [Array.length_toList, hs0]
  have hf1 : i * 2 + (flat [e]).length ≤ cur0.toList.length := by omega
  have hs1 : cur1.size = G * 2 := by rw [hcur1, List.size_toArray, over_length _ _ _ hf1, hc0]
  have hc1 : cur1.toList.length = G * 2 := by rw [Array.length_toList, hs1]
  obtain ⟨cur2, hcur2⟩ : ∃ cur2 : Array Value, cur2 = (over cur1.toList ((i + 1) * 2) (flat (es.drop i))).toArray := ⟨_, rfl⟩
  have hf2 : (i + 1) * 2 + (flat (es.drop i)).length ≤ cur1.toList.length := by omega
  have hs2 : cur2.size = G * 2 := by rw [hcur2, List.size_toArray, over_length _ _ _ hf2, hc1]
  have hrow := insert_row_new cur0.toList es e i (by omega) ht0 (by omega)
  have hcp1 : ∀ (W : World), W.heap[w.heap.size]? = some (.cells cur0 33 (0, 0)) → W.heap[h]? = some (.cells (flat [e]).toArray 33 (0, 0)) → ∀ ty dl dc, Nat.min 1 dl = 1 → (Builtin.copy_ #[22, 22] ty #[.slice (some ⟨w.heap.size, i * 2, none⟩) dl dc, .slice (some ⟨h, 0, none⟩) 1 1]).run Tryd.prog W = .ok (goInt (1 : Nat)) (W.setRow w.heap.size cur1) := by
    intro W hW hWh ty dl dc hmin
    have := run_copy_row_k (P := Tryd.prog) W 22 22 ty 33 w.heap.size (i * 2) dl dc ⟨h, 0, none⟩ 1 1 2 cur0 33 (flat [e]) Tryd.underlying22 sizePair hW
      (by rw [hel, hmin])
      (fun j u hj => by obtain ⟨b', o', e1, e2⟩ := src_block hWh j u hj; cases e1; rw [add_at]; exact e2) (by rw [← Array.length_toList]; exact hf1) hone2
    rw [this, hcur1, hmin]; rfl
  have hcp2 : ∀ (W : World), W.heap[w.heap.size]? = some (.cells cur1 33 (0, 0)) → W.heap[g]? = w.heap[g]? → ∀ ty dl dc sl sc, Nat.min sl dl = es.length - i → (Builtin.copy_ #[22, 22] ty #[.slice (some ⟨w.heap.size, (i + 1) * 2, none⟩) dl dc, .slice (some ⟨g, i * 2, none⟩) sl sc]).run Tryd.prog W = .ok (goInt (es.length - i : Nat)) (W.setRow w.heap.size cur2) := by
    intro W hW hWg ty dl dc sl sc hmin
    have := run_copy_row_k (P := Tryd.prog) W 22 22 ty 33 w.heap.size ((i + 1) * 2) dl dc ⟨g, i * 2, none⟩ sl sc 2 cur1 33 (flat (es.drop i)) Tryd.underlying22 sizePair hW
      (by rw [hfl, hmin])
      (fun j u hj => by
        rw [add_at]
        rw [flat_drop, List.getElem?_drop] at hj
        have hlt := (List.getElem?_eq_some_iff.1 hj).1
        rw [flat_length] at hlt
        have h2 := ho.cellAt (i * 2 + j) (by omega)
        rw [← hj, ← h2]
        simp only [World.cell?, hWg]) (by rw [← Array.length_toList]; exact hf2) hone
    rw [this, hcur2, hmin]; rfl
  have hA0 : ∀ W : World, W.heap = (w.alloc (.cells cur0 33)).heap → W.heap[w.heap.size]? = some (.cells cur0 33 (0, 0)) ∧ W.heap[h]? = some (.cells (flat [e]).toArray 33 (0, 0)) ∧ W.heap[g]? = w.heap[g]? := by
    intro W hW
    rw [hW]
    exact ⟨heap_alloc_new w _, (heap_alloc_old w _ hhlt).trans hb, heap_alloc_old w _ hglt⟩
  have hA1 : ∀ W : World, W.heap = (w.alloc (.cells cur0 33)).heap → (W.setRow w.heap.size cur1).heap[w.heap.size]? = some (.cells cur1 33 (0, 0)) ∧ (W.setRow w.heap.size cur1).heap[g]? = w.heap[g]? := by
    intro W hW
    exact ⟨setRow_heap W _ cur0 _ _ _ (hA0 W hW).1, by rw [setRow_other W _ g _ (by omega)]; exact (hA0 W hW).2.2⟩
  have hfin : ∀ W : World, Ext w W → W.heap[w.heap.size]? = some (.cells cur1 33 (0, 0)) → InsRet w (.slice (some ⟨g, 0, none⟩) es.length c) (es.take i ++ e :: es.drop i) (.returned (.slice (some ⟨w.heap.size, 0, none⟩) (es.length + 1) G)) (W.setRow w.heap.size cur2) := by
    intro W ht hW
    have hlen : (es.take i ++ e :: es.drop i).length = es.length + 1 := by simp; omega
    refine ⟨_, rfl, ?_, (ht.ext_new (touch_setRow W w.heap.size cur2) (fun j hj => by omega)).none_to, Or.inr ⟨_, rfl, Nat.le_refl _⟩⟩
    rw [hlen]
    refine ⟨by rw [flat_length, hlen], Or.inr ⟨w.heap.size, G, cur2, rfl, Nat.zero_le _, setRow_heap W _ cur1 _ _ _ hW, hGn, hGm, hs2, ?_⟩⟩
    rw [hcur2, hcur1]
    exact hrow
  have b0 : ((i : Int) == (es.length : Int)) = false := by simp; omega
  have b1 : decide ((c : Int) < (es.length : Int) + 1) = true := by simp; omega
  have e1 : ¬ G = i := by omega
  have e2 : ¬ G = i + 1 := by omega
  have e3 : ¬ c = i := by omega
  have i0 : (0 : Int) ≤ (i : Int) := by omega
  have i1 : (i : Int) ≤ (es.length : Int) + 1 := by omega
  have i2 : (i : Int) + 1 ≤ (es.length : Int) + 1 := by omega
  have i3 : (es.length : Int) + 1 ≤ (G : Int) := by omega
  have i4 : (G : Int) ≤ 9223372036854775807 := by unfold maxLen at hGm; omega
  have i5 : (es.length : Int) ≤ (c : Int) := by omega
  have i6 : (c : Int) ≤ 9223372036854775807 := by omega
  have hle : (i : Int) ≤ (es.length : Int) := by omega
  have hm1 : ∀ a : Nat, i < a → Nat.min 1 (a + 1 - i) = 1 := fun a h => by simp only [Nat.min_def]; split <;> omega
  have Hrz := Lib.hid hrz
  have Hcn := Lib.hid hcn
  clear hcn hrz hi0 hz0 hzs hzb hold hik
  have Ho := Lib.hid ho
  clear ho
  have Hb := Lib.hid hb
  clear hb
  have Hg := Lib.hid hg
  clear hg
  have Hcs := Lib.hid hcs
  clear hcs
  have Htake := Lib.hid htake
  clear htake
  have Hfl := Lib.hid hfl
  clear hfl
  have Hel := Lib.hid hel
  clear hel
  have Hti := Lib.hid hti
  clear hti
  have Hone := Lib.hid hone
  clear hone
  have Hone2 := Lib.hid hone2
  clear hone2
  have Hcur0 := Lib.hid hcur0
  clear hcur0
  have Hs0 := Lib.hid hs0
  clear hs0
  have Ht0 := Lib.hid ht0
  clear ht0
  have Hcur1 := Lib.hid hcur1
  clear hcur1
  have Hc0 := Lib.hid hc0
  clear hc0
  have Hf1 := Lib.hid hf1
  clear hf1
  have Hs1 := Lib.hid hs1
  clear hs1
  have Hc1 := Lib.hid hc1
  clear hc1
  have Hcur2 := Lib.hid hcur2
  clear hcur2
  have Hf2 := Lib.hid hf2
  clear hf2
  have Hs2 := Lib.hid hs2
  clear hs2
  have Hrow := Lib.hid hrow
  clear hrow
  have Hcp1 := Lib.hid hcp1
  clear hcp1
  have Hcp2 := Lib.hid hcp2
  clear hcp2
  have HA0 := Lib.hid hA0
  clear hA0
  have HA1 := Lib.hid hA1
  clear hA1
  have Hfin := Lib.hid hfin
  clear hfin
  have H1 := Lib.hid h1
  clear h1
  have H1e := Lib.hid h1e
  clear h1e
  have HG := Lib.hid hG
  clear hG
  go_enter Tryd.func77, Tryd.ntmps77
  go_upto_region 10 with (at_builtin; refine Lib.wpList_append_run _ rfl _ _ _ _ rfl _ _ rfl rfl _ _ (Hrz.out _) ?_)
  go_upto_region 11 with (refine wpList_copy_known (o := ⟨some 45, _, _, _, _, _⟩) _ rfl (.tmp 43) (.tmp 44) 22 22 rfl _ _ rfl rfl (fun ty => Hcp1.out _ (HA0.out (w.drew.alloc (.cells cur0 33)) rfl).1 (HA0.out (w.drew.alloc (.cells cur0 33)) rfl).2.1 ty _ _ (hm1 _ hi)) ?_)
  simp only [Act.put, List.setIfInBounds_toArray, List.set_cons_zero, List.set_cons_succ]
  have hA2 := HA1.out (w.drew.alloc (.cells cur0 33)) rfl
  obtain ⟨W, hW⟩ : ∃ W, W = (w.drew.alloc (.cells cur0 33)).setRow w.heap.size cur1 := ⟨_, rfl⟩
  have tW : Ext w W := by rw [hW]; exact ((Touch.refl _ _).drew.alloc _).ext_new (touch_setRow _ w.heap.size cur1) (fun j hj => by omega)
  rw [← hW] at hA2 ⊢
  obtain ⟨hA3, hA4⟩ := hA2
  have HA3 := Lib.hid hA3
  clear hA3
  have HA4 := Lib.hid hA4
  clear hA4
  have HW := Lib.hid hW
  clear hW
  have hw1 : IntKind.i64.wrap ((i : Int) + 1) = (i : Int) + 1 := by rw [IntKind.wrap_i64]; omega
  have hb1 : (0 : Int) ≤ (i : Int) + 1 := by omega
  have htn : ((i : Int) + 1).toNat = i + 1 := by omega
  have hlt1 : (i : Int) < (es.length : Int) + 1 := by omega
  have hln : i < es.length + 1 := by omega
  refine wp_region_plan (.take 0 (.take 1 (.take 2 (.take 3 (.take 4 (.take 5 (.take 6 (.take 7 (.must 8 .done))))))))) (fun _ => True) (by kernel_rfl) (by kernel_rfl) (by kernel_rfl) rfl ?_ (fun KK hKK => ?_)
  · trivial
  repeat (first
    | (refine wpPlan_take (v := ?_) rfl (by rfl) (fun W hW => ?_) ?_; rotate_left; (focus ((try dsimp only at hW); go_split_ands; go_simp; (try with_reducible rfl); done)); (try simp only [Act.put, List.setIfInBounds_toArray, List.set_cons_zero, List.set_cons_succ]))
    | (refine wpPlan_skip rfl (by rfl) ?_; (try simp only [Act.put, List.setIfInBounds_toArray, List.set_cons_zero, List.set_cons_succ])))
  refine wpPlan_must rfl (by rfl) (fun K hK => ?_)
  refine wp_copy_known _ _ _ 22 22 rfl _ _ rfl rfl (fun ty => Hcp2.out W.drew HA3.out HA4.out ty _ _ _ _ ?_) ?_
  · simp only [Nat.min_def]; split <;> omega
  refine hK.out _ _ ?_ ?_
  · trivial
  clear hK K
  (try simp only [Act.put, List.setIfInBounds_toArray, List.set_cons_zero, List.set_cons_succ])
  refine wpPlan_done (hKK.out _ _ ?_)
  clear hKK KK
  clear hw1 hb1 htn
  go_wp2_with (fail)
  go_ret
  exact Hfin.out _ tW.drew HA3.out

theorem insert_any (w : World) (v : Value) (es : List El) (h i : Nat) (e : El) (ho : w.ownsRow 0 33 2 v es.length (flat es)) (hb : w.heap[h]? = some (.cells (flat [e]).toArray 33 (0, 0))) (h1 : ∀ x ∈ es, x.1.oneCell' = true) (h1e : e.1.oneCell' = true) (hm : es.length ≤ 1000000)
    (hi : i ≤ es.length) (hgh : v.ownBlock ≠ some h) :
    Calls Tryd.prog 77 #[v, .int .i64 i, .slice (some ⟨h, 0, none⟩) 1 1] w (InsRet w v (es.take i ++ e :: es.drop i)) := by
  rcases Nat.eq_or_lt_of_le hi with rfl | hlt
  · have := insert_end w v es h e ho hb h1e hm
    rwa [List.take_length, List.drop_length]
  · rcases own_form ho with ⟨rfl, h0⟩ | ⟨g, c, rfl, hnc, hcm⟩
    · omega
    · by_cases hroom : es.length + 1 ≤ c
      · exact insert_room w g c es h i e ho hb h1 h1e hm hlt hroom (fun hh => hgh (by rw [hh]; rfl))
      · exact insert_grow w g c es h i e ho hb h1 h1e hm hlt (by omega)
end ModC
end Go.Proofs.YtclnnkacfanaiaaDoor
