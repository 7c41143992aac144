/- Contracts: a pair put into a row of pairs, and taken out of it. -/
import Derived.Test.YtclnnkacfanaiaaDoorModY
import Derived.Laws.CopyRow
import Derived.Laws.IdiomCopy
import Derived.Lib.Overlaps
import Derived.Lib.AppendZerosOnto
import Derived.Deep.CutBlock
import Derived.Deep.DeepCutAuto
namespace Go.Proofs.YtclnnkacfanaiaaDoor
open Go.RowKit
set_option linter.unusedVariables false
set_option linter.unusedSimpArgs false

section
variable {P : Program}
theorem wp_copy_known (w : World) {o : Oper} {a : Act} {K : Act → World → Prop} {Q : Exit → Act → World → Prop} (d s : Operand) (t t' : TypeId)
    (ho : o.op = .call { callee := .builtin .copy, args := #[d, s], argTypes := #[t, t'] }) (v u : Value) (hd : a.eval d = v) (hs : a.eval s = u) {v' : Value} {w' : World}
    (hr : ∀ ty, (Builtin.copy_ #[t, t'] ty #[v, u]).run P w = .ok v' w') (h : K (a.put o.dst v') w') : o.wp P a w K Q := by
  unfold Oper.wp execOp
  simp only [ho, resolve, invoke, builtin, Sem.run_bind, Sem.run_pure, Result.andThen_ok, List.map_toArray, List.map_cons, List.map_nil, hd, hs, hr]
  exact h
theorem wpList_copy_known (w : World) {ops : Array Oper} {rest : List Oper} {o : Oper} {a : Act} {Q : Exit → Act → World → Prop} (hgd : o.guard = none) (d s : Operand) (t t' : TypeId)
    (ho : o.op = .call { callee := .builtin .copy, args := #[d, s], argTypes := #[t, t'] }) (v u : Value) (hd : a.eval d = v) (hs : a.eval s = u) {v' : Value} {w' : World}
    (hr : ∀ ty, (Builtin.copy_ #[t, t'] ty #[v, u]).run P w = .ok v' w') (h : wpList P ops Q rest (a.put o.dst v') w') : wpList P ops Q (o :: rest) a w :=
  wpList_plain hgd fun _ hK => wp_copy_known w d s t t' ho v u hd hs hr (hK _ _ h)
/-- copy into a row that is known whole, of elements of some size -/
theorem run_copy_row_k (w : World) (dT sT ty elem : TypeId) (g o dLen dCap : Nat) (a : Addr) (sLen sCap size : Nat) (cur : Array Value) (t : TypeId) (cs : List Value)
    (hu : P.underlying dT = some (.slice elem)) (hs : (P.info? elem).map (·.size) = some size) (hg : w.heap[g]? = some (.cells cur t (0, 0))) (hn : cs.length = Nat.min sLen dLen * size)
    (hsrc : ∀ j v, cs[j]? = some v → w.cell? (a.add j) = some v) (hfit : o + cs.length ≤ cur.size) (h1 : ∀ v ∈ cs, v.oneCell' = true) :
    (Builtin.copy_ #[dT, sT] ty #[.slice (some ⟨g, o, none⟩) dLen dCap, .slice (some a) sLen sCap]).run P w =
      .ok (goInt (Nat.min sLen dLen)) (w.setRow g (cur.toList.take o ++ cs ++ cur.toList.drop (o + cs.length)).toArray) := by
  have hl := run_loadCells_list (P := P) w a cs hsrc
  have hst := run_storeCells_at P g o t cs 0 cur w hg (by simpa using hfit) h1
  cases hq : P.info? elem with
  | none => simp [hq] at hs
  | some i =>
    have hi : i.size = size := by simpa [hq] using hs
    simp [Builtin.copy_, run_underlying hu, Builtin.lenOf, Builtin.firstCells, sizeOf, typeInfo, hq, hi, ← hn, hl, hst]
end
theorem touch_setRow (w : World) (g : Nat) (cs : Array Value) : Touch (fun b => b = g) w (w.setRow g cs) := ⟨rfl, rfl, rfl, by simp [World.setRow], fun k _ hk => setRow_other w g k cs hk⟩

/-- laid over from a place on -/
def over (L : List Value) (o : Nat) (zs : List Value) : List Value := L.take o ++ zs ++ L.drop (o + zs.length)
theorem over_length (L : List Value) (o : Nat) (zs : List Value) (h : o + zs.length ≤ L.length) : (over L o zs).length = L.length := by unfold over; simp; omega
theorem over_get (L : List Value) (o : Nat) (zs : List Value) (h : o + zs.length ≤ L.length) (i : Nat) : (over L o zs)[i]? = if o ≤ i ∧ i < o + zs.length then zs[i - o]? else L[i]? := by
  unfold over
  rw [List.append_assoc, List.getElem?_append, List.getElem?_append, List.length_take, List.getElem?_take, List.getElem?_drop]
  have : min o L.length = o := by omega
  rw [this]
  by_cases h1 : i < o
  · rw [if_pos h1, if_pos h1, if_neg (by omega)]
  · rw [if_neg h1]
    by_cases h2 : i - o < zs.length
    · rw [if_pos h2, if_pos (by omega)]
    · rw [if_neg h2, if_neg (by omega)]
      congr 1; omega

theorem list_ext {α : Type} {a b : List α} (h : ∀ i : Nat, a[i]? = b[i]?) : a = b := List.ext_getElem? h

/-- the row behind an insertion in place -/
theorem insert_row (L : List Value) (es : List El) (e : El) (i : Nat) (hi : i ≤ es.length) (hL : L.take (es.length * 2) = flat es) (hfit : (es.length + 1) * 2 ≤ L.length) :
    (over (over L ((i + 1) * 2) (flat (es.drop i))) (i * 2) (flat [e])).take ((es.length + 1) * 2) = flat (es.take i ++ e :: es.drop i) := by
  have hfl : (flat (es.drop i)).length = (es.length - i) * 2 := by rw [flat_length, List.length_drop]
  have h1 : (i + 1) * 2 + (flat (es.drop i)).length ≤ L.length := by omega
  have h2 : i * 2 + (flat [e]).length ≤ (over L ((i + 1) * 2) (flat (es.drop i))).length := by rw [over_length _ _ _ h1]; simp [flat_length]; omega
  refine list_ext fun j => ?_
  have hsp : flat (es.take i ++ e :: es.drop i) = flat (es.take i) ++ (flat [e] ++ flat (es.drop i)) := by
    rw [flat_append, show e :: es.drop i = [e] ++ es.drop i from rfl, flat_append]
  have htl : (flat (es.take i)).length = i * 2 := by rw [flat_length, List.length_take]; omega
  have hget : ∀ j, j < es.length * 2 → L[j]? = (flat es)[j]? := fun j hj => by rw [← hL, List.getElem?_take, if_pos hj]
  have hel : (flat [e]).length = 2 := rfl
  rw [hsp, List.getElem?_take, over_get _ _ _ h2, over_get _ _ _ h1, List.getElem?_append, List.getElem?_append, htl, hel, hfl]
  by_cases hj : j < (es.length + 1) * 2
  · rw [if_pos hj]
    by_cases ha : j < i * 2
    · rw [if_neg (by omega), if_neg (by omega), if_pos ha, hget j (by omega), flat_take, List.getElem?_take, if_pos ha]
    · rw [if_neg ha]
      by_cases hb : j < i * 2 + 2
      · rw [if_pos (by omega), if_pos (by omega)]
      · rw [if_neg (by omega), if_pos (by omega), if_neg (by omega)]
        congr 1; omega
  · rw [if_neg hj, if_neg (by omega), if_neg (by omega)]
    rw [List.getElem?_eq_none]
    rw [hfl]; omega

/-- the row behind an insertion into a new row -/
theorem insert_row_new (L : List Value) (es : List El) (e : El) (i : Nat) (hi : i ≤ es.length) (hL : L.take (i * 2) = flat (es.take i)) (hfit : (es.length + 1) * 2 ≤ L.length) :
    (over (over L (i * 2) (flat [e])) ((i + 1) * 2) (flat (es.drop i))).take ((es.length + 1) * 2) = flat (es.take i ++ e :: es.drop i) := by
  have hfl : (flat (es.drop i)).length = (es.length - i) * 2 := by rw [flat_length, List.length_drop]
  have hel : (flat [e]).length = 2 := rfl
  have h1 : i * 2 + (flat [e]).length ≤ L.length := by omega
  have h2 : (i + 1) * 2 + (flat (es.drop i)).length ≤ (over L (i * 2) (flat [e])).length := by rw [over_length _ _ _ h1]; omega
  refine list_ext fun j => ?_
  have hsp : flat (es.take i ++ e :: es.drop i) = flat (es.take i) ++ (flat [e] ++ flat (es.drop i)) := by
    rw [flat_append, show e :: es.drop i = [e] ++ es.drop i from rfl, flat_append]
  have htl : (flat (es.take i)).length = i * 2 := by rw [flat_length, List.length_take]; omega
  have hget : ∀ j, j < i * 2 → L[j]? = (flat (es.take i))[j]? := fun j hj => by rw [← hL, List.getElem?_take, if_pos hj]
  rw [hsp, List.getElem?_take, over_get _ _ _ h2, over_get _ _ _ h1, List.getElem?_append, List.getElem?_append, htl, hel, hfl]
  by_cases hj : j < (es.length + 1) * 2
  · rw [if_pos hj]
    by_cases ha : j < i * 2
    · rw [if_neg (by omega), if_neg (by omega), if_pos ha, hget j (by omega)]
    · rw [if_neg ha]
      by_cases hb : j < i * 2 + 2
      · rw [if_neg (by omega), if_pos (by omega), if_pos (by omega)]
      · rw [if_pos (by omega), if_neg (by omega)]
        congr 1; omega
  · rw [if_neg hj, if_neg (by omega), if_neg (by omega)]
    rw [List.getElem?_eq_none]
    rw [hfl]; omega

theorem own_form {w : World} {e size n : Nat} {v : Value} {xs : List Value} (h : w.ownsRow 0 e size v n xs) : (v = .slice none 0 0 ∧ n = 0) ∨ ∃ g c, v = .slice (some ⟨g, 0, none⟩) n c ∧ n ≤ c ∧ c ≤ maxLen := by
  rcases h.2 with h | ⟨g, cap, cur, h1, _, _, h2, h3, _⟩
  · exact Or.inl h
  · exact Or.inr ⟨g, cap, h1, h2, h3⟩

namespace ModC
open ModA ModB
theorem sizePair : (Tryd.prog.info? 33).map (·.size) = some 2 := by kernel_rfl
theorem sizeOfPair : ∀ w, (Go.sizeOf 33).run Tryd.prog w = .ok 2 w := fun w => by kernel_rfl

/-- what slices.Insert comes to -/
def InsRet (w : World) (v : Value) (es' : List El) (e : Ending) (w' : World) : Prop :=
  ∃ v', e = .returned v' ∧ w'.ownsRow 0 33 2 v' es'.length (flat es') ∧ Touch (fun b => v.ownBlock = some b) w w' ∧ (v'.ownBlock = v.ownBlock ∨ ∃ n, v'.ownBlock = some n ∧ w.heap.size ≤ n)

theorem src_block {w : World} {h : Nat} {es : List Value} {t : TypeId} {fr : Nat × Nat} (hb : w.heap[h]? = some (.cells es.toArray t fr)) : Src w (some ⟨h, 0, none⟩) es := by
  intro j u hj
  refine ⟨h, 0, rfl, ?_⟩
  rw [Nat.zero_add, cell_of_row w h j _ t fr hb]
  simpa using hj

set_option maxRecDepth 100000 in
set_option maxHeartbeats 800000 in
theorem insert_end (w : World) (v : Value) (es : List El) (h : Nat) (e : El) (ho : w.ownsRow 0 33 2 v es.length (flat es)) (hb : w.heap[h]? = some (.cells (flat [e]).toArray 33 (0, 0))) (h1 : e.1.oneCell' = true) (hm : es.length ≤ 1000000) :
    Calls Tryd.prog 77 #[v, .int .i64 es.length, .slice (some ⟨h, 0, none⟩) 1 1] w (InsRet w v (es ++ [e])) := by
  have hfin : ∀ v' w', w'.ownsRow 0 33 2 v' (es.length + 1) (flat es ++ flat [e]) → Touch (fun b => v.ownBlock = some b) w w' → (v'.ownBlock = v.ownBlock ∨ v'.ownBlock = some w.heap.size) → InsRet w v (es ++ [e]) (.returned v') w' := by
    intro v' w' h1 h2 h3
    refine ⟨v', rfl, ?_, h2, ?_⟩
    · rw [flat_append, List.length_append]; exact h1
    · rcases h3 with h | h
      · exact Or.inl h
      · exact Or.inr ⟨_, h, Nat.le_refl _⟩
  have hsrc : Src w (some ⟨h, 0, none⟩) (flat [e]) := src_block hb
  have hone : ∀ u ∈ flat [e], u.oneCell' = true := flat_one_cell _ (fun x hx => by simp at hx; subst hx; exact h1)
  rcases own_form ho with ⟨rfl, h0⟩ | ⟨g, c, rfl, hnc, hcm⟩
  · obtain rfl := List.eq_nil_of_length_eq_zero h0
    have Ho := Lib.hid ho
    have Hb := Lib.hid hb
    clear hb
    have Hfin := Lib.hid hfin
    clear hfin
    have Hsrc := Lib.hid hsrc
    clear hsrc
    have Hone := Lib.hid hone
    clear hone
    clear ho h0
    simp only [List.length_nil]
    go_enter Tryd.func77, Tryd.ntmps77
    go_wp2_with (at_builtin; refine wpList_push_any _ rfl _ _ 22 rfl 33 _ 2 32 Tryd.underlying22 info_pair rfl (by decide) (.slice none 0 0) 0 [] rfl (World.ownsRow_nil _ _ _ _) (some ⟨h, 0, none⟩) 1 1 rfl (fun h => by cases h) (flat [e]) (by omega) rfl Hsrc.out Hone.out (by simp [maxLen]) (by omega) ?_; intro v6 w3 hown3 ht3 hb3)
    go_ret
    exact Hfin.out _ _ hown3 ht3 hb3
  · unfold maxLen at hcm
    have Ho := Lib.hid ho
    clear ho
    have Hb := Lib.hid hb
    clear hb
    have Hfin := Lib.hid hfin
    clear hfin
    have Hsrc := Lib.hid hsrc
    clear hsrc
    have Hone := Lib.hid hone
    clear hone
    have b0 : ((es.length : Int) == (es.length : Int)) = true := by simp
    go_enter Tryd.func77, Tryd.ntmps77
    go_wp2_with (at_builtin; refine wpList_push_any _ rfl _ _ 22 rfl 33 _ 2 32 Tryd.underlying22 info_pair rfl (by decide) (.slice (some ⟨g, 0, none⟩) es.length c) es.length (flat es) rfl Ho.out (some ⟨h, 0, none⟩) 1 1 rfl (fun h => by cases h) (flat [e]) (by omega) rfl Hsrc.out Hone.out (by simp [maxLen]; omega) (by omega) ?_; intro v6 w3 hown3 ht3 hb3)
    all_goals (go_ret; exact Hfin.out _ _ ‹_› ‹_› ‹_›)

set_option maxRecDepth 100000 in
set_option maxHeartbeats 1600000 in
theorem insert_room (w : World) (g c : Nat) (es : List El) (h i : Nat) (e : El) (ho : w.ownsRow 0 33 2 (.slice (some ⟨g, 0, none⟩) es.length c) es.length (flat es)) (hb : w.heap[h]? = some (.cells (flat [e]).toArray 33 (0, 0))) (h1 : ∀ x ∈ es, x.1.oneCell' = true) (h1e : e.1.oneCell' = true) (hm : es.length ≤ 1000000)
    (hi : i < es.length) (hroom : es.length + 1 ≤ c) (hgh : h ≠ g) :
    Calls Tryd.prog 77 #[.slice (some ⟨g, 0, none⟩) es.length c, .int .i64 i, .slice (some ⟨h, 0, none⟩) 1 1] w (InsRet w (.slice (some ⟨g, 0, none⟩) es.length c) (es.take i ++ e :: es.drop i)) := by
  rcases ho.2 with ⟨hh, _⟩ | ⟨g', c', cur, hh, _, hg, hnc, hcm, hcs, htake⟩
  · simp at hh
  simp only [Value.slice.injEq, Option.some.injEq, Addr.mk.injEq, and_true, true_and] at hh
  obtain ⟨rfl, rfl⟩ := hh
  have hfl : (flat (es.drop i)).length = (es.length - i) * 2 := by rw [flat_length, List.length_drop]
  have hel : (flat [e]).length = 2 := rfl
  have hcl : cur.toList.length = c * 2 := by rw [Array.length_toList, hcs]
  have hf1 : (i + 1) * 2 + (flat (es.drop i)).length ≤ cur.toList.length := by omega
  obtain ⟨cur1, hcur1⟩ : ∃ cur1 : Array Value, cur1 = (over cur.toList ((i + 1) * 2) (flat (es.drop i))).toArray := ⟨_, rfl⟩
  obtain ⟨cur2, hcur2⟩ : ∃ cur2 : Array Value, cur2 = (over cur1.toList (i * 2) (flat [e])).toArray := ⟨_, rfl⟩
  have hs1 : cur1.size = c * 2 := by rw [hcur1, List.size_toArray, over_length _ _ _ hf1, hcl]
  have hc1 : cur1.toList.length = c * 2 := by rw [Array.length_toList, hs1]
  have hf2 : i * 2 + (flat [e]).length ≤ cur1.toList.length := by omega
  have hs2 : cur2.size = c * 2 := by rw [hcur2, List.size_toArray, over_length _ _ _ hf2, Array.length_toList, hs1]
  have hone : ∀ u ∈ flat (es.drop i), u.oneCell' = true := flat_one_cell _ (fun x hx => h1 x (List.mem_of_mem_drop hx))
  have hone2 : ∀ u ∈ flat [e], u.oneCell' = true := flat_one_cell _ (fun x hx => by simp at hx; subst hx; exact h1e)
  have hcells : ∀ j u, (flat (es.drop i))[j]? = some u → w.cell? ⟨g, i * 2 + j, none⟩ = some u := by
    intro j u hj
    rw [flat_drop, List.getElem?_drop] at hj
    have hlt := (List.getElem?_eq_some_iff.1 hj).1
    rw [flat_length] at hlt
    rw [ho.cellAt (i * 2 + j) (by omega)]
    exact hj
  have hov : ∀ lb cb, (callFunc 97 #[.slice (some ⟨h, 0, none⟩) 1 1, .slice (some ⟨g, (i + 1) * 2, none⟩) lb cb]).run Tryd.prog w = .ok (.value (.bool false)) w := fun lb cb => by
    rw [run_callFunc_extern Tryd.func97 (by kernel_rfl) (by kernel_rfl) (by kernel_rfl) (e := Extern.SlicesOverlaps.overlaps #[22, 22] #[4]) (by kernel_rfl),
      Lib.run_overlaps_apart w 22 4 33 Tryd.underlying22 2 sizeOfPair ⟨h, 0, none⟩ ⟨g, (i + 1) * 2, none⟩ 1 1 lb cb hgh 33 33 2 (c * 2) (by simp [World.shape?, hb, flat]) (by simp [World.shape?, hg, hcs]) (by omega) (by simp [World.frozen?, hb]) (by simp [World.frozen?, hb])]
    rfl
  have hcp1 : ∀ (W : World), W.heap = w.heap → ∀ ty dl dc sl sc, Nat.min sl dl = es.length - i → (Builtin.copy_ #[22, 22] ty #[.slice (some ⟨g, (i + 1) * 2, none⟩) dl dc, .slice (some ⟨g, i * 2, none⟩) sl sc]).run Tryd.prog W = .ok (goInt (es.length - i : Nat)) (W.setRow g cur1) := by
    intro W hW ty dl dc sl sc hmin
    have := run_copy_row_k (P := Tryd.prog) W 22 22 ty 33 g ((i + 1) * 2) dl dc ⟨g, i * 2, none⟩ sl sc 2 cur 33 (flat (es.drop i)) Tryd.underlying22 sizePair (by rw [hW]; exact hg)
      (by rw [hfl, hmin])
      (fun j u hj => by rw [add_at]; have := hcells j u hj; rw [← this]; simp only [World.cell?, hW]) (by rw [← Array.length_toList]; exact hf1) hone
    rw [this, hcur1, hmin]; rfl
  have hcp2 : ∀ (W : World), W.heap[g]? = some (.cells cur1 33 (0, 0)) → W.heap[h]? = some (.cells (flat [e]).toArray 33 (0, 0)) → ∀ ty dl dc, Nat.min 1 dl = 1 → (Builtin.copy_ #[22, 22] ty #[.slice (some ⟨g, i * 2, none⟩) dl dc, .slice (some ⟨h, 0, none⟩) 1 1]).run Tryd.prog W = .ok (goInt (1 : Nat)) (W.setRow g cur2) := by
    intro W hW hWh ty dl dc hmin
    have := run_copy_row_k (P := Tryd.prog) W 22 22 ty 33 g (i * 2) dl dc ⟨h, 0, none⟩ 1 1 2 cur1 33 (flat [e]) Tryd.underlying22 sizePair hW
      (by rw [hel, hmin])
      (fun j u hj => by obtain ⟨b', o', e1, e2⟩ := src_block hWh j u hj; cases e1; rw [add_at]; exact e2) (by rw [← Array.length_toList]; exact hf2) hone2
    rw [this, hcur2, hmin]; rfl
  have hrow := insert_row cur.toList es e i (by omega) htake (by omega)
  have hfin : ∀ W : World, Touch (fun b => b = g) w W → W.heap[g]? = some (.cells cur1 33 (0, 0)) → InsRet w (.slice (some ⟨g, 0, none⟩) es.length c) (es.take i ++ e :: es.drop i) (.returned (.slice (some ⟨g, 0, none⟩) (es.length + 1) c)) (W.setRow g cur2) := by
    intro W ht hW
    have hlen : (es.take i ++ e :: es.drop i).length = es.length + 1 := by simp; omega
    refine ⟨_, rfl, ?_, ?_, Or.inl rfl⟩
    · rw [hlen]
      refine ⟨by rw [flat_length, hlen], Or.inr ⟨g, c, cur2, rfl, Nat.zero_le _, setRow_heap W g cur1 _ _ _ hW, hroom, hcm, hs2, ?_⟩⟩
      rw [hcur2, hcur1]
      exact hrow
    · exact (ht.trans' (touch_setRow _ _ _)).mono (fun b hb _ => by subst hb; rfl)
  have hh1 : ∀ W : World, W.heap = w.heap → (W.setRow g cur1).heap[g]? = some (.cells cur1 33 (0, 0)) := fun W hW => setRow_heap W g cur _ _ _ (by rw [hW]; exact hg)
  have hh2 : ∀ W : World, W.heap = w.heap → (W.setRow g cur1).heap[h]? = some (.cells (flat [e]).toArray 33 (0, 0)) := fun W hW => by rw [setRow_other W g h _ hgh, hW]; exact hb
  have b0 : ((i : Int) == (es.length : Int)) = false := by simp; omega
  have b1 : decide ((c : Int) < (es.length : Int) + 1) = false := by simp; omega
  have e1 : ¬ c = i := by omega
  have e2 : ¬ c = i + 1 := by omega
  have i0 : (0 : Int) ≤ (i : Int) := by omega
  have i1 : (i : Int) ≤ (es.length : Int) + 1 := by omega
  have i2 : (i : Int) + 1 ≤ (es.length : Int) + 1 := by omega
  have i3 : (es.length : Int) + 1 ≤ (c : Int) := by omega
  have i4 : (c : Int) ≤ 9223372036854775807 := by unfold maxLen at hcm; omega
  have Ho := Lib.hid ho
  clear ho
  have Hb := Lib.hid hb
  clear hb
  have Hg := Lib.hid hg
  clear hg
  have Hcs := Lib.hid hcs
  clear hcs
  have Htake := Lib.hid htake
  clear htake
  have Hfl := Lib.hid hfl
  clear hfl
  have Hel := Lib.hid hel
  clear hel
  have Hcl := Lib.hid hcl
  clear hcl
  have Hf1 := Lib.hid hf1
  clear hf1
  have Hcur1 := Lib.hid hcur1
  clear hcur1
  have Hcur2 := Lib.hid hcur2
  clear hcur2
  have Hs1 := Lib.hid hs1
  clear hs1
  have Hf2 := Lib.hid hf2
  clear hf2
  have Hs2 := Lib.hid hs2
  clear hs2
  have Hone := Lib.hid hone
  clear hone
  have Hone2 := Lib.hid hone2
  clear hone2
  have Hcells := Lib.hid hcells
  clear hcells
  have Hcp1 := Lib.hid hcp1
  clear hcp1
  have Hcp2 := Lib.hid hcp2
  clear hcp2
  have Hrow := Lib.hid hrow
  clear hrow
  have Hfin := Lib.hid hfin
  clear hfin
  have Hh1 := Lib.hid hh1
  clear hh1
  have Hh2 := Lib.hid hh2
  clear hh2
  have H1 := Lib.hid h1
  clear h1
  have H1e := Lib.hid h1e
  clear h1e
  go_enter Tryd.func77, Tryd.ntmps77
  go_wp2_with (simp only [hov])
  clear hov
  have hw1 : IntKind.i64.wrap ((i : Int) + 1) = (i : Int) + 1 := by rw [IntKind.wrap_i64]; omega
  have hb1 : (0 : Int) ≤ (i : Int) + 1 := by omega
  have htn : ((i : Int) + 1).toNat = i + 1 := by omega
  have hle : (i : Int) ≤ (es.length : Int) := by omega
  have hlt1 : (i : Int) < (es.length : Int) + 1 := by omega
  refine wp_region_plan (.take 0 (.take 1 (.take 2 (.take 3 (.take 4 (.take 5 (.take 6 (.take 7 (.must 8 .done))))))))) (fun _ => True) (by kernel_rfl) (by kernel_rfl) (by kernel_rfl) rfl ?_ (fun KK hKK => ?_)
  · trivial
  repeat (first
    | (refine wpPlan_take (v := ?_) rfl (by rfl) (fun W hW => ?_) ?_; rotate_left; (focus ((try dsimp only at hW); go_split_ands; go_simp; (try with_reducible rfl); done)); (try simp only [Act.put, List.setIfInBounds_toArray, List.set_cons_zero, List.set_cons_succ]))
    | (refine wpPlan_skip rfl (by rfl) ?_; (try simp only [Act.put, List.setIfInBounds_toArray, List.set_cons_zero, List.set_cons_succ])))
  refine wpPlan_must rfl (by rfl) (fun K hK => ?_)
  refine wp_copy_known _ _ _ 22 22 rfl _ _ rfl rfl (fun ty => Hcp1.out w.drew rfl ty _ _ _ _ ?_) ?_
  · simp only [Nat.min_def]; split <;> omega
  refine hK.out _ _ ?_ ?_
  · trivial
  clear hK K
  (try simp only [Act.put, List.setIfInBounds_toArray, List.set_cons_zero, List.set_cons_succ])
  refine wpPlan_done (hKK.out _ _ ?_)
  clear hKK KK
  clear hw1 hb1 htn
  have hm1 : ∀ a b : Nat, i < a → Nat.min 1 (a + 1 - i) = 1 := fun a b h => by simp only [Nat.min_def]; split <;> omega
  go_wp2_with (refine wpList_copy_known (o := ⟨some 82, _, _, _, _, _⟩) _ rfl (.tmp 80) (.tmp 81) 22 22 rfl _ _ rfl rfl (fun ty => Hcp2.out _ (Hh1.out w.drew rfl) (Hh2.out w.drew rfl) ty _ _ (hm1 _ 0 hi)) ?_)
  go_ret
  exact Hfin.out _ ((Touch.refl _ _).drew.trans' (touch_setRow _ _ _)) (Hh1.out w.drew rfl)

end ModC
end Go.Proofs.YtclnnkacfanaiaaDoor
