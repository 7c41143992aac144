/- Contracts: a pair taken out of a row of pairs. -/
import Derived.Test.YtclnnkacfanaiaaDoorModD
namespace Go.Proofs.YtclnnkacfanaiaaDoor
open Go.RowKit
set_option linter.unusedVariables false
set_option linter.unusedSimpArgs false

section
variable {P : Program}
theorem wp_clear_known (w : World) {o : Oper} {a : Act} {K : Act → World → Prop} {Q : Exit → Act → World → Prop} (x : Operand) (t : TypeId)
    (ho : o.op = .call { callee := .builtin .clear, args := #[x], argTypes := #[t] }) (v : Value) (hx : a.eval x = v) {v' : Value} {w' : World}
    (hr : ∀ ty, (Builtin.clear_ #[t] ty #[v]).run P w = .ok v' w') (h : K (a.put o.dst v') w') : o.wp P a w K Q := by
  unfold Oper.wp execOp
  simp only [ho, resolve, invoke, builtin, Sem.run_bind, Sem.run_pure, Result.andThen_ok, List.map_toArray, List.map_cons, List.map_nil, hx, hr]
  exact h
theorem wpList_clear_known (w : World) {ops : Array Oper} {rest : List Oper} {o : Oper} {a : Act} {Q : Exit → Act → World → Prop} (hgd : o.guard = none) (x : Operand) (t : TypeId)
    (ho : o.op = .call { callee := .builtin .clear, args := #[x], argTypes := #[t] }) (v : Value) (hx : a.eval x = v) {v' : Value} {w' : World}
    (hr : ∀ ty, (Builtin.clear_ #[t] ty #[v]).run P w = .ok v' w') (h : wpList P ops Q rest (a.put o.dst v') w') : wpList P ops Q (o :: rest) a w :=
  wpList_plain hgd fun _ hK => wp_clear_known w x t ho v hx hr (hK _ _ h)
/-- clear of one element of a row that is known whole -/
theorem run_clear_row_one (w : World) (t ty e : TypeId) (z : Value) (ht : P.underlying t = some (.slice e)) (hv : ∀ w, (zeroValue e).run P w = .ok z w) (g o c : Nat) (cur : Array Value) (et : TypeId)
    (hg : w.heap[g]? = some (.cells cur et (0, 0))) (hfit : o + z.cells.size ≤ cur.size) (h1 : ∀ v ∈ z.cells.toList, v.oneCell' = true) :
    (Builtin.clear_ #[t] ty #[.slice (some ⟨g, o, none⟩) 1 c]).run P w = .ok (.tuple #[]) (w.setRow g (over cur.toList o z.cells.toList).toArray) := by
  have hzc : (Builtin.zeroCells z.cells 1).toList = z.cells.toList := by
    refine List.ext_getElem (by simp [Builtin.zeroCells]) (fun i h2 h3 => ?_)
    simp [Builtin.zeroCells, Nat.mod_eq_of_lt (show i < z.cells.size by simpa using h3)]
    rw [getElem!_pos]
  have hst := run_storeCells_at P g o et z.cells.toList 0 cur w hg (by simpa using hfit) h1
  simp [Builtin.clear_, run_underlying ht, hv, hzc, hst]
  unfold over
  simp
end

namespace ModC
open ModA ModB
/-- a row's first elements are a row -/
theorem own_take {w : World} {g c : Nat} {es : List El} (ho : w.ownsRow 0 33 2 (.slice (some ⟨g, 0, none⟩) es.length c) es.length (flat es)) (i : Nat) (hi : i ≤ es.length) :
    w.ownsRow 0 33 2 (.slice (some ⟨g, 0, none⟩) i c) i (flat (es.take i)) := by
  rcases ho.2 with ⟨hh, _⟩ | ⟨g', c', cur, hh, _, hg, hnc, hcm, hcs, htake⟩
  · simp at hh
  simp only [Value.slice.injEq, Option.some.injEq, Addr.mk.injEq, and_true, true_and] at hh
  obtain ⟨rfl, rfl⟩ := hh
  refine ⟨by rw [flat_length, List.length_take]; omega, Or.inr ⟨g, c, cur, rfl, Nat.zero_le _, hg, by omega, hcm, hcs, ?_⟩⟩
  rw [flat_take, ← htake, List.take_take]
  congr 1; omega
theorem zeroPair : ∀ w, (zeroValue 33).run Tryd.prog w = .ok (.agg #[.slice none 0 0, .int .u64 0]) w := fun w => by kernel_rfl
/-- a row of which spare places are cleared is the row -/
theorem own_over {w : World} {g c n o : Nat} {xs zs : List Value} (ho : w.ownsRow 0 33 2 (.slice (some ⟨g, 0, none⟩) n c) n xs) {cur : Array Value} (hg : w.heap[g]? = some (.cells cur 33 (0, 0))) (hno : n * 2 ≤ o) (hfit : o + zs.length ≤ cur.size) :
    (w.setRow g (over cur.toList o zs).toArray).ownsRow 0 33 2 (.slice (some ⟨g, 0, none⟩) n c) n xs := by
  have hlen := ho.1
  rcases ho.2 with ⟨hh, _⟩ | ⟨g', c', cur', hh, _, hg', hnc, hcm, hcs, htake⟩
  · simp at hh
  simp only [Value.slice.injEq, Option.some.injEq, Addr.mk.injEq, and_true, true_and] at hh
  obtain ⟨rfl, rfl⟩ := hh
  rw [hg] at hg'
  simp only [Option.some.injEq, Obj.cells.injEq, and_true] at hg'
  subst hg'
  refine ⟨hlen, Or.inr ⟨g, c, _, rfl, Nat.zero_le _, setRow_heap w g cur _ _ _ hg, hnc, hcm, ?_, ?_⟩⟩
  · rw [List.size_toArray, over_length _ _ _ (by simpa using hfit), Array.length_toList, hcs]
  · rw [← htake]
    refine list_ext fun j => ?_
    show (List.take (n * 2) (over cur.toList o zs))[j]? = _
    rw [List.getElem?_take, List.getElem?_take, over_get _ _ _ (by simpa using hfit)]
    split
    · rw [if_neg (by omega)]
    · rfl

theorem clear_last (W : World) (g c n : Nat) (xs : List Value) (hn : n + 1 ≤ c) (hW : W.ownsRow 0 33 2 (.slice (some ⟨g, 0, none⟩) n c) n xs) :
    ∃ W', (∀ ty cc, (Builtin.clear_ #[22] ty #[.slice (some ⟨g, n * 2, none⟩) 1 cc]).run Tryd.prog W = .ok (.tuple #[]) W') ∧ W'.ownsRow 0 33 2 (.slice (some ⟨g, 0, none⟩) n c) n xs ∧ Touch (fun b => b = g) W W' := by
  have hW0 := hW
  rcases hW.2 with ⟨hh, _⟩ | ⟨g', c', cur, hh, _, hg, hnc', hcm', hcs, htake⟩
  · simp at hh
  simp only [Value.slice.injEq, Option.some.injEq, Addr.mk.injEq, and_true, true_and] at hh
  obtain ⟨rfl, rfl⟩ := hh
  refine ⟨_, fun ty cc => run_clear_row_one W 22 ty 33 _ Tryd.underlying22 zeroPair g (n * 2) cc cur 33 hg ?_ ?_, ?_, touch_setRow _ _ _⟩
  · show n * 2 + 2 ≤ cur.size; omega
  · intro v hv; simp [Value.cells] at hv; rcases hv with rfl | rfl <;> rfl
  · exact own_over hW0 hg (by omega) (by show n * 2 + 2 ≤ cur.size; omega)

set_option maxRecDepth 100000 in
set_option maxHeartbeats 1600000 in
theorem delete_last (w : World) (g i : Nat) (es : List El) (hlen : es.length = i + 1) (ho : w.ownsRow 0 33 2 (.slice (some ⟨g, 0, none⟩) (i + 1) (i + 1)) (i + 1) (flat es)) (hm : i ≤ 1000000) :
    Calls Tryd.prog 85 #[.slice (some ⟨g, 0, none⟩) (i + 1) (i + 1), .int .i64 i, .int .i64 ((i : Int) + 1)] w fun e w' =>
      e = .returned (.slice (some ⟨g, 0, none⟩) i (i + 1)) ∧ w'.ownsRow 0 33 2 (.slice (some ⟨g, 0, none⟩) i (i + 1)) i (flat (es.take i)) ∧ Touch (fun b => b = g) w w' := by
  have hot := own_take (es := es) (c := i + 1) (by rw [hlen]; exact ho) i (by omega)
  have i0 : (0 : Int) ≤ (i : Int) := by omega
  have b0 : ((i : Int) == (i : Int) + 1) = false := by simp; omega
  have htn : ((i : Int) + 1).toNat = i + 1 := by omega
  have hb1 : (0 : Int) ≤ (i : Int) + 1 := by omega
  have hl1 : i + 1 - i = 1 := by omega
  have hx : (i : Int) ≤ (i : Int) + 1 := by omega
  have Ho := Lib.hid ho
  clear ho
  have Hot := Lib.hid hot
  clear hot
  have Hlen := Lib.hid hlen
  clear hlen
  go_enter Tryd.func85, Tryd.ntmps85
  go_wp2_with (fail)
  refine wp_region_plan (.take 0 (.take 1 (.take 2 (.take 3 (.take 4 (.take 5 (.must 6 (.take 7 .done)))))))) (fun _ => True) (by kernel_rfl) (by kernel_rfl) (by kernel_rfl) rfl ?_ (fun KK hKK => ?_)
  · trivial
  repeat (first
    | (refine wpPlan_take (v := ?_) rfl (by rfl) (fun W hW => ?_) ?_; rotate_left; (focus ((try dsimp only at hW); go_split_ands; go_simp; (try with_reducible rfl); done)); (try simp only [Act.put, List.setIfInBounds_toArray, List.set_cons_zero, List.set_cons_succ]))
    | (refine wpPlan_skip rfl (by rfl) ?_; (try simp only [Act.put, List.setIfInBounds_toArray, List.set_cons_zero, List.set_cons_succ])))
  refine wpPlan_must rfl (by rfl) (fun K hK => ?_)
  refine wp_push_room _ _ _ 22 rfl 33 _ 2 32 Tryd.underlying22 info_pair (by decide) g i (i + 1) (flat (es.take i)) rfl Hot.out _ 0 _ rfl (fun h => by cases h) [] (by omega) rfl (fun j u hj => by simp at hj) (fun u hu => by simp at hu) (by omega) ?_
  intro w1 hown1 ht1
  simp only [Nat.add_zero, List.append_nil] at hown1
  refine hK.out _ _ ?_ ?_
  · trivial
  clear hK K
  (try simp only [Act.put, List.setIfInBounds_toArray, List.set_cons_zero, List.set_cons_succ])
  repeat (first
    | (refine wpPlan_take (v := ?_) rfl (by rfl) (fun W hW => ?_) ?_; rotate_left; (focus ((try dsimp only at hW); go_split_ands; go_simp; (try with_reducible rfl); done)); (try simp only [Act.put, List.setIfInBounds_toArray, List.set_cons_zero, List.set_cons_succ]))
    | (refine wpPlan_skip rfl (by rfl) ?_; (try simp only [Act.put, List.setIfInBounds_toArray, List.set_cons_zero, List.set_cons_succ])))
  refine wpPlan_done (hKK.out _ _ ?_)
  clear hKK KK
  obtain ⟨w2, hcr, hown2, ht2⟩ := clear_last w1 g (i + 1) i _ (by omega) hown1
  have Hcr := Lib.hid hcr
  clear hcr
  have Hown1 := Lib.hid hown1
  clear hown1
  have Hown2 := Lib.hid hown2
  clear hown2
  go_wp2_with (refine wpList_clear_known _ rfl (.tmp 31) 22 rfl _ rfl (fun ty => Hcr.out ty _) ?_)
  go_ret
  exact ⟨rfl, Hown2.out, ht1.undrew.trans' ht2⟩

set_option maxRecDepth 100000 in
set_option maxHeartbeats 1600000 in
theorem delete_mid (w : World) (g c : Nat) (es : List El) (i : Nat) (ho : w.ownsRow 0 33 2 (.slice (some ⟨g, 0, none⟩) es.length c) es.length (flat es)) (h1 : ∀ x ∈ es, x.1.oneCell' = true) (hm : es.length ≤ 1000000) (hi : i < es.length) (hnc : es.length ≤ c) (hcm : c ≤ maxLen) (hci : ¬ c = i + 1) :
    Calls Tryd.prog 85 #[.slice (some ⟨g, 0, none⟩) es.length c, .int .i64 i, .int .i64 ((i : Int) + 1)] w fun e w' =>
      e = .returned (.slice (some ⟨g, 0, none⟩) (es.length - 1) c) ∧ w'.ownsRow 0 33 2 (.slice (some ⟨g, 0, none⟩) (es.length - 1) c) (es.length - 1) (flat (es.take i ++ es.drop (i + 1))) ∧ Touch (fun b => b = g) w w' := by
  unfold maxLen at hcm
  have hot := own_take ho i (by omega)
  have hone : ∀ u ∈ flat (es.drop (i + 1)), u.oneCell' = true := flat_one_cell _ (fun x hx => h1 x (List.mem_of_mem_drop hx))
  have hfl : (flat (es.drop (i + 1))).length = (es.length - (i + 1)) * 2 := by rw [flat_length, List.length_drop]
  have hsrc : Src w (some ⟨g, (i + 1) * 2, none⟩) (flat (es.drop (i + 1))) := by
    intro j u hj
    have hlt := (List.getElem?_eq_some_iff.1 hj).1
    rw [hfl] at hlt
    refine ⟨g, (i + 1) * 2, rfl, ?_⟩
    rw [flat_drop, List.getElem?_drop] at hj
    rw [ho.cellAt ((i + 1) * 2 + j) (by omega)]
    exact hj
  have hmn : i + (es.length - (i + 1)) = es.length - 1 := by omega
  have hl1 : es.length - (es.length - 1) = 1 := by omega
  have Hmn := Lib.hid hmn
  clear hmn
  have Hl1 := Lib.hid hl1
  clear hl1
  have hc2 : ¬ c = i := by omega
  have i0 : (0 : Int) ≤ (i : Int) := by omega
  have i1 : (i : Int) < (es.length : Int) := by omega
  have i2 : (i : Int) + 1 ≤ (es.length : Int) := by omega
  have i3 : (es.length : Int) ≤ (c : Int) := by omega
  have i5 : (i : Int) ≤ (es.length : Int) := by omega
  have i6 : (i : Int) ≤ (c : Int) := by omega
  have i4 : (c : Int) ≤ 9223372036854775807 := by omega
  have b0 : ((i : Int) == (i : Int) + 1) = false := by simp; omega
  have htn : ((i : Int) + 1).toNat = i + 1 := by omega
  have hb1 : (0 : Int) ≤ (i : Int) + 1 := by omega
  have Ho := Lib.hid ho
  clear ho
  have Hot := Lib.hid hot
  clear hot
  have Hone := Lib.hid hone
  clear hone
  have Hfl := Lib.hid hfl
  clear hfl
  have Hsrc := Lib.hid hsrc
  clear hsrc
  have H1 := Lib.hid h1
  clear h1
  go_enter Tryd.func85, Tryd.ntmps85
  go_wp2_with (fail)
  refine wp_region_plan (.take 0 (.take 1 (.take 2 (.take 3 (.take 4 (.take 5 (.must 6 (.take 7 .done)))))))) (fun _ => True) (by kernel_rfl) (by kernel_rfl) (by kernel_rfl) rfl ?_ (fun KK hKK => ?_)
  · trivial
  repeat (first
    | (refine wpPlan_take (v := ?_) rfl (by rfl) (fun W hW => ?_) ?_; rotate_left; (focus ((try dsimp only at hW); go_split_ands; go_simp; (try with_reducible rfl); done)); (try simp only [Act.put, List.setIfInBounds_toArray, List.set_cons_zero, List.set_cons_succ]))
    | (refine wpPlan_skip rfl (by rfl) ?_; (try simp only [Act.put, List.setIfInBounds_toArray, List.set_cons_zero, List.set_cons_succ])))
  refine wpPlan_must rfl (by rfl) (fun K hK => ?_)
  refine wp_push_room _ _ _ 22 rfl 33 _ 2 32 Tryd.underlying22 info_pair (by decide) g i c (flat (es.take i)) rfl Hot.out _ (es.length - (i + 1)) _ rfl (fun h => by cases h) (flat (es.drop (i + 1))) (by omega) Hfl.out Hsrc.out Hone.out (by omega) ?_
  intro w1 hown1 ht1
  rw [Hmn.out, ← flat_append] at hown1
  rw [Hmn.out]
  refine hK.out _ _ ?_ ?_
  · trivial
  clear hK K
  (try simp only [Act.put, List.setIfInBounds_toArray, List.set_cons_zero, List.set_cons_succ])
  repeat (first
    | (refine wpPlan_take (v := ?_) rfl (by rfl) (fun W hW => ?_) ?_; rotate_left; (focus ((try dsimp only at hW); go_split_ands; go_simp; (try with_reducible rfl); done)); (try simp only [Act.put, List.setIfInBounds_toArray, List.set_cons_zero, List.set_cons_succ]))
    | (refine wpPlan_skip rfl (by rfl) ?_; (try simp only [Act.put, List.setIfInBounds_toArray, List.set_cons_zero, List.set_cons_succ])))
  refine wpPlan_done (hKK.out _ _ ?_)
  clear hKK KK
  obtain ⟨n, hn⟩ : ∃ n, n = es.length - 1 := ⟨_, rfl⟩
  rw [← hn] at hown1 ⊢
  have hn2 : es.length = n + 1 := by omega
  have Hn2 := Lib.hid hn2
  clear hn2
  obtain ⟨w2, hcr, hown2, ht2⟩ := clear_last w1 g c n _ (by omega) hown1
  have j0 : (0 : Int) ≤ (n : Int) := by omega
  have j1 : (n : Int) ≤ (es.length : Int) := by omega
  have j2 : (n : Int) < (c : Int) := by omega
  have hl1 : es.length - n = 1 := by omega
  have hc3 : ¬ c = n := by omega
  have Hnn := Lib.hid hn
  clear hn
  clear i1 i2 i3 i5 i6 hnc
  have Hcr := Lib.hid hcr
  clear hcr
  have Hown1 := Lib.hid hown1
  clear hown1
  have Hown2 := Lib.hid hown2
  clear hown2
  go_wp2_with (refine wpList_clear_known _ rfl (.tmp 31) 22 rfl _ rfl (fun ty => Hcr.out ty _) ?_)
  go_ret
  rw [← Hnn.out]
  exact ⟨rfl, Hown2.out, ht1.undrew.trans' ht2⟩

theorem delete_any (w : World) (g c : Nat) (es : List El) (i : Nat) (ho : w.ownsRow 0 33 2 (.slice (some ⟨g, 0, none⟩) es.length c) es.length (flat es)) (h1 : ∀ x ∈ es, x.1.oneCell' = true) (hm : es.length ≤ 1000000) (hi : i < es.length) :
    Calls Tryd.prog 85 #[.slice (some ⟨g, 0, none⟩) es.length c, .int .i64 i, .int .i64 ((i : Int) + 1)] w fun e w' =>
      e = .returned (.slice (some ⟨g, 0, none⟩) (es.length - 1) c) ∧ w'.ownsRow 0 33 2 (.slice (some ⟨g, 0, none⟩) (es.length - 1) c) (es.length - 1) (flat (es.take i ++ es.drop (i + 1))) ∧ Touch (fun b => b = g) w w' := by
  have hcap : es.length ≤ c ∧ c ≤ maxLen := by
    rcases own_form ho with ⟨hh, _⟩ | ⟨g', c', hh, h2, h3⟩
    · simp at hh
    · simp only [Value.slice.injEq, Option.some.injEq, Addr.mk.injEq, and_true, true_and] at hh
      obtain ⟨_, rfl⟩ := hh
      exact ⟨h2, h3⟩
  obtain ⟨hnc, hcm⟩ := hcap
  by_cases hci : c = i + 1
  · have hlen : es.length = i + 1 := by omega
    subst hci
    have := delete_last w g i es hlen (by rw [← hlen] at *; rw [hlen] at *; exact ho) (by omega)
    rw [hlen, show i + 1 - 1 = i by omega, List.drop_eq_nil_of_le (by omega), List.append_nil]
    exact this
  · exact delete_mid w g c es i ho h1 hm hi hnc hcm hci
end ModC
end Go.Proofs.YtclnnkacfanaiaaDoor
