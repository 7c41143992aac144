/- Contracts of package model: New, Rises. -/
import Derived.Test.YtclnnkacfanaiaaDoorModG
namespace Go.Proofs.YtclnnkacfanaiaaDoor
open Go.RowKit
set_option linter.unusedVariables false
set_option linter.unusedSimpArgs false

/-- a map of some pairs -/
def mkK (ps : Prs) : Prs := ps.foldl (fun m p => putK m p.1 p.2) []
theorem mkK_snoc (ps : Prs) (p : List Int × Int) : mkK (ps ++ [p]) = putK (mkK ps) p.1 p.2 := by simp [mkK, List.foldl_append]
theorem mkK_take (ps : Prs) (j : Nat) (p : List Int × Int) (h : ps[j]? = some p) : mkK (ps.take (j + 1)) = putK (mkK (ps.take j)) p.1 p.2 := by
  rw [List.take_add_one, h]; exact mkK_snoc _ _
theorem putK_length_le (ps : Prs) (k : List Int) (v : Int) : (putK ps k v).length ≤ ps.length + 1 := by
  rw [putK_length]; split <;> omega
theorem foldl_put_length (l : Prs) : ∀ m : Prs, (l.foldl (fun m p => putK m p.1 p.2) m).length ≤ m.length + l.length := by
  induction l with
  | nil => intro m; simp
  | cons p l ih =>
    intro m
    rw [List.foldl_cons]
    have := ih (putK m p.1 p.2)
    have := putK_length_le m p.1 p.2
    simp only [List.length_cons]; omega
theorem mkK_length (ps : Prs) : (mkK ps).length ≤ ps.length := by have := foldl_put_length ps []; simpa [mkK] using this
/-- pairs that may be put -/
def PK (ps : Prs) : Prop := ∀ p ∈ ps, KB p.1 ∧ p.1.length ≤ 65535
theorem PK.take {ps : Prs} (h : PK ps) (n : Nat) : PK (ps.take n) := fun p hp => h p (List.mem_of_mem_take hp)
theorem foldl_put_mem (l : Prs) : ∀ m : Prs, ∀ p ∈ l.foldl (fun m p => putK m p.1 p.2) m, p ∈ m ∨ p ∈ l := by
  induction l with
  | nil => intro m p hp; exact Or.inl hp
  | cons q l ih =>
    intro m p hp
    rw [List.foldl_cons] at hp
    rcases ih _ p hp with h | h
    · rcases putK_mem h with rfl | h
      · exact Or.inr (List.mem_cons_self)
      · exact Or.inl h
    · exact Or.inr (List.mem_cons_of_mem _ h)
theorem mkK_mem {ps : Prs} {p} (h : p ∈ mkK ps) : p ∈ ps := by
  rcases foldl_put_mem ps [] p h with h | h
  · simp at h
  · exact h
theorem foldl_put_rises (l : Prs) : ∀ m : Prs, Rises m → Rises (l.foldl (fun m p => putK m p.1 p.2) m) := by
  induction l with
  | nil => intro m h; exact h
  | cons q l ih => intro m h; rw [List.foldl_cons]; exact ih _ (putK_rises h _ _)
theorem mkK_rises (ps : Prs) : Rises (mkK ps) := foldl_put_rises ps [] List.Pairwise.nil

namespace ModF
open ModA ModB ModC
variable {F G : Nat → Prop}
def NewRet (w : World) (ps : Prs) (e : Ending) (w' : World) : Prop := ∃ g F, e = .returned (.pointer (some ⟨g, 0, none⟩)) ∧ Mp w' g F ps ∧ (∀ b, F b → w.heap.size ≤ b) ∧ Ext w w'

set_option maxRecDepth 100000 in
set_option maxHeartbeats 1600000 in
theorem new_any (w : World) (v : Value) (ps : Prs) (h : RP w G v ps) (hm : ps.length ≤ 1000000) (hpk : PK ps) :
    Calls Tryd.prog 44 #[v] w (NewRet w (mkK ps)) := by
  obtain ⟨a, c, rfl, l1, m1, hn⟩ := h.shape
  unfold maxLen at m1
  have H := Lib.hid h
  clear h
  have Hpk := Lib.hid hpk
  clear hpk
  unfold NewRet
  go_enter Tryd.func44, Tryd.ntmps44
  go_wp2_with (fail)
  go_loopw [10] (fun s10 wr => ∃ (j : Nat) (F : Nat → Prop), j ≤ ps.length ∧ s10 = .int .i64 j ∧ Mp wr w.heap.size F (mkK (ps.take j)) ∧ (∀ b, F b → w.heap.size ≤ b) ∧ Ext w wr) (fun s10 _ => ps.length - (intOf s10).toNat)
  case atStart => exact ⟨0, _, by omega, rfl, mp_new w, fun b hb => by subst hb; omega, (Touch.refl _ _).alloc _⟩
  case round =>
    obtain ⟨j, F, hj, rfl, hmp, hF, ht⟩ := hrel
    by_cases hlt : j < ps.length
    · obtain ⟨b, off, rfl, _⟩ := H.out.addr (by omega)
      have hg := List.getElem?_eq_getElem hlt
      obtain ⟨kv, c0, c1, hkb⟩ := (H.out.ext ht).get j _ hg
      have hpp := Hpk.out _ (List.mem_of_getElem? hg)
      have hmk := mkK_take ps j _ hg
      generalize ps[j] = p at *
      obtain ⟨ka, kc, rfl, l2, m2, n2⟩ := hkb.shape
      have hml : (mkK (ps.take j)).length ≤ 1000000 := by have := mkK_length (ps.take j); simp at this; omega
      have i0 : (0 : Int) ≤ (j : Int) := by omega
      have i1 : (j : Int) < (ps.length : Int) := by omega
      have Hg := Lib.hid hg
      clear hg
      have Hkb := Lib.hid hkb
      clear hkb
      have Hpp := Lib.hid hpp
      clear hpp
      have Hmk := Lib.hid hmk
      clear hmk
      have Hmp := Lib.hid hmp
      clear hmp
      have HF := Lib.hid hF
      clear hF
      have Hml := Lib.hid hml
      clear hml
      go_wp2_with (fail)
      have ta : Ext wr (wr.alloc (.cells #[.slice ka p.1.length kc, .int .u64 p.2] 33)) := (Touch.refl _ _).alloc _
      (with_reducible refine (put_any _ w.heap.size _ (mkK (ps.take j)) p.1 p.2 (Hmp.out.ext ta) (Hkb.out.ext ta) Hpp.out.1 Hpp.out.2 Hml.out).mono ?_)
      rintro e w2 ⟨rfl, F', hmp2, ht2, hF2⟩
      have Hmp2 := Lib.hid hmp2
      clear hmp2
      have HF2 := Lib.hid hF2
      clear hF2
      go_wp2_with (fail)
      go_roundw
      case rel =>
        refine ⟨j + 1, F', by omega, by go_num, by rw [Hmk.out]; exact Hmp2.out, fun b hb => ?_, (ht.trans' ta).ext_new ht2 (fun i hi => HF.out i hi)⟩
        rcases HF2.out b hb with h | h
        · exact HF.out b h
        · have := ht.size; simp at h; omega
      case measure => simp [intOf]; omega
    · have hjl : j = ps.length := by omega
      subst hjl
      rw [List.take_length] at hmp
      have Hmp := Lib.hid hmp
      clear hmp
      have HF := Lib.hid hF
      clear hF
      go_wp2_with (fail)
      go_ret
      exact ⟨w.heap.size, F, rfl, Hmp.out, HF.out, ht⟩

/-- is each key behind the one before it? -/
def risesB (ps : Prs) : Bool := (List.range (ps.length - 1)).all fun i => match ps[i]?, ps[i + 1]? with | some p, some q => ltK p.1 q.1 | _, _ => true
theorem risesB_iff {ps : Prs} : risesB ps = true ↔ ∀ i p q, ps[i]? = some p → ps[i + 1]? = some q → cmpK p.1 q.1 < 0 := by
  unfold risesB
  rw [List.all_eq_true]
  constructor
  · intro h i p q hp hq
    have := (List.getElem?_eq_some_iff.1 hq).1
    have := h i (List.mem_range.2 (by omega))
    rw [hp, hq] at this
    exact ltK_iff.1 this
  · intro h i hi
    rw [List.mem_range] at hi
    have h1 : ps[i]? = some (ps[i]'(by omega)) := List.getElem?_eq_getElem (by omega)
    have h2 : ps[i + 1]? = some (ps[i + 1]'(by omega)) := List.getElem?_eq_getElem (by omega)
    rw [h1, h2]
    exact ltK_iff.2 (h i _ _ h1 h2)
theorem risesB_step {ps : Prs} : risesB ps = true ↔ Rises ps := by
  rw [risesB_iff]
  constructor
  · intro h
    refine List.pairwise_iff_getElem.2 fun i j hi hj hij => ?_
    have key : ∀ d i, (hi : i < ps.length) → (hj : i + d + 1 < ps.length) → cmpK ps[i].1 ps[i + d + 1].1 < 0 := by
      intro d
      induction d with
      | zero => intro i hi hj; exact h i _ _ (List.getElem?_eq_getElem hi) (List.getElem?_eq_getElem hj)
      | succ d ih =>
        intro i hi hj
        exact cmpK_trans (ih i hi (by omega)) (h (i + d + 1) _ _ (List.getElem?_eq_getElem (by omega)) (List.getElem?_eq_getElem hj))
    obtain ⟨d, rfl⟩ : ∃ d, j = i + d + 1 := ⟨j - i - 1, by omega⟩
    exact key d i hi hj
  · intro h i p q hp hq
    exact h.get hp hq (by omega)

set_option maxRecDepth 100000 in
set_option maxHeartbeats 1600000 in
theorem rises_any (w : World) (v : Value) (ps : Prs) (h : RP w G v ps) (hm : ps.length ≤ 1000000) (hpk : ∀ p ∈ ps, KB p.1) :
    Calls Tryd.prog 90 #[v] w fun e w' => e = .returned (.bool (risesB ps)) ∧ Ext w w' := by
  obtain ⟨a, c, rfl, l1, m1, hn⟩ := h.shape
  unfold maxLen at m1
  have H := Lib.hid h
  clear h
  have Hpk := Lib.hid hpk
  clear hpk
  go_enter Tryd.func90, Tryd.ntmps90
  go_wp2_with (fail)
  go_loopw [3] (fun s3 wr => ∃ j : Nat, 1 ≤ j ∧ (j ≤ ps.length ∨ j = 1) ∧ s3 = .int .i64 j ∧ (∀ i p q, i + 1 < j → ps[i]? = some p → ps[i + 1]? = some q → cmpK p.1 q.1 < 0) ∧ Ext w wr) (fun s3 _ => ps.length + 1 - (intOf s3).toNat)
  case atStart => exact ⟨1, by omega, Or.inr rfl, rfl, fun i p q hi => by omega, Touch.refl _ _⟩
  case round =>
    obtain ⟨j, hj1, hj, rfl, hall, ht⟩ := hrel
    have Hall := Lib.hid hall
    clear hall
    by_cases hlt : j < ps.length
    · obtain ⟨b, off, rfl, _⟩ := H.out.addr (by omega)
      have hlt' : j - 1 < ps.length := by omega
      have hg := List.getElem?_eq_getElem hlt
      have hg' := List.getElem?_eq_getElem hlt'
      obtain ⟨kv, c0, c1, hkb⟩ := (H.out.ext ht).get j _ hg
      obtain ⟨kw, d0, d1, hkb'⟩ := (H.out.ext ht).get (j - 1) _ hg'
      have hpp := Hpk.out _ (List.mem_of_getElem? hg)
      have hpp' := Hpk.out _ (List.mem_of_getElem? hg')
      generalize ps[j] = p at *
      generalize ps[j - 1] = q at *
      obtain ⟨ka, kc, rfl, _⟩ := hkb.shape
      obtain ⟨qa, qc, rfl, _⟩ := hkb'.shape
      have i0 : (0 : Int) ≤ (j : Int) := by omega
      have i1 : (j : Int) < (ps.length : Int) := by omega
      have i2 : (0 : Int) ≤ (j : Int) - 1 := by omega
      have i3 : (j : Int) - 1 < (ps.length : Int) := by omega
      have i4 : IntKind.i64.wrap ((j : Int) - 1) = (j : Int) - 1 := by rw [IntKind.wrap_i64]; omega
      have i5 : ((j : Int) - 1).toNat = j - 1 := by omega
      have i6 : (1 : Int) ≤ (j : Int) := by omega
      have hcmp := keyCompare_any
      have Hg := Lib.hid hg
      clear hg
      have Hg' := Lib.hid hg'
      clear hg'
      have Hkb := Lib.hid hkb
      clear hkb
      have Hkb' := Lib.hid hkb'
      clear hkb'
      have Hpp := Lib.hid hpp
      clear hpp
      have Hpp' := Lib.hid hpp'
      clear hpp'
      have Hcmp := Lib.hid hcmp
      clear hcmp
      by_cases hc : cmpK q.1 p.1 < 0
      · have b0 : decide (0 ≤ cmpK q.1 p.1) = false := by simp; omega
        go_wp2_with (fail)
        refine wp_region_plan (.take 0 (.take 1 (.take 2 (.take 3 (.take 4 (.take 5 (.take 6 (.take 7 (.take 8 (.take 9 (.take 10 (.must 11 (.take 12 .done))))))))))))) (fun wy => Ext wr wy ∧ wy.cell? ⟨b, off + j * 2, none⟩ = some (.slice ka p.1.length kc) ∧ wy.cell? ⟨b, off + (j - 1) * 2, none⟩ = some (.slice qa q.1.length qc)) (by kernel_rfl) (by kernel_rfl) (by kernel_rfl) rfl ?_ (fun KK hKK => ?_)
        · exact ⟨(Touch.refl _ _).drew, c0, d0⟩
        repeat (first
          | (refine wpPlan_take (v := ?_) rfl (by rfl) (fun W hW => ?_) ?_; rotate_left; (focus ((try dsimp only at hW); go_split_ands; go_simp; (try with_reducible rfl); done)); (try simp only [Act.put, List.setIfInBounds_toArray, List.set_cons_zero, List.set_cons_succ]))
          | (refine wpPlan_skip rfl (by rfl) ?_; (try simp only [Act.put, List.setIfInBounds_toArray, List.set_cons_zero, List.set_cons_succ])))
        refine wpPlan_must rfl (by rfl) (fun K hK => ?_)
        go_simp
        (with_reducible refine (Hcmp.out _ G G _ _ q.1 p.1 (Hkb'.out.ext (Touch.refl _ _).drew) (Hkb.out.ext (Touch.refl _ _).drew) Hpp'.out Hpp.out).mono ?_)
        rintro e w2 ⟨rfl, rfl⟩
        refine hK.out _ _ ?_ ?_
        · exact ⟨(Touch.refl _ _).drew, c0, d0⟩
        clear hK K
        (try simp only [Act.put, List.setIfInBounds_toArray, List.set_cons_zero, List.set_cons_succ])
        repeat (first
          | (refine wpPlan_take (v := ?_) rfl (by rfl) (fun W hW => ?_) ?_; rotate_left; (focus ((try dsimp only at hW); go_split_ands; go_simp; (try with_reducible rfl); done)); (try simp only [Act.put, List.setIfInBounds_toArray, List.set_cons_zero, List.set_cons_succ]))
          | (refine wpPlan_skip rfl (by rfl) ?_; (try simp only [Act.put, List.setIfInBounds_toArray, List.set_cons_zero, List.set_cons_succ])))
        refine wpPlan_done (hKK.out _ _ ?_)
        clear hKK KK
        clear i4
        go_wp2_with (fail)
        go_roundw
        case rel =>
          refine ⟨j + 1, by omega, Or.inl (by omega), by go_num, fun i p' q' hi hp' hq' => ?_, ht.drew⟩
          rcases Nat.eq_or_lt_of_le (Nat.le_of_lt_succ hi) with he | hl
          · have e1 : i = j - 1 := by omega
            have e2 : i + 1 = j := he
            rw [e2, Hg.out] at hq'
            rw [e1, Hg'.out] at hp'
            cases hp'; cases hq'; exact hc
          · exact Hall.out i p' q' hl hp' hq'
        case measure => simp [intOf]; omega
      · have b0 : decide (0 ≤ cmpK q.1 p.1) = true := by simp; omega
        have hfin : risesB ps = false := by
          cases hh : risesB ps with
          | false => rfl
          | true =>
            have := risesB_iff.1 hh (j - 1) q p Hg'.out (by rw [show j - 1 + 1 = j by omega]; exact Hg.out)
            omega
        have Hfin := Lib.hid hfin
        clear hfin
        go_wp2_with (fail)
        refine wp_region_plan (.take 0 (.take 1 (.take 2 (.take 3 (.take 4 (.take 5 (.take 6 (.take 7 (.take 8 (.take 9 (.take 10 (.must 11 (.take 12 .done))))))))))))) (fun wy => Ext wr wy ∧ wy.cell? ⟨b, off + j * 2, none⟩ = some (.slice ka p.1.length kc) ∧ wy.cell? ⟨b, off + (j - 1) * 2, none⟩ = some (.slice qa q.1.length qc)) (by kernel_rfl) (by kernel_rfl) (by kernel_rfl) rfl ?_ (fun KK hKK => ?_)
        · exact ⟨(Touch.refl _ _).drew, c0, d0⟩
        repeat (first
          | (refine wpPlan_take (v := ?_) rfl (by rfl) (fun W hW => ?_) ?_; rotate_left; (focus ((try dsimp only at hW); go_split_ands; go_simp; (try with_reducible rfl); done)); (try simp only [Act.put, List.setIfInBounds_toArray, List.set_cons_zero, List.set_cons_succ]))
          | (refine wpPlan_skip rfl (by rfl) ?_; (try simp only [Act.put, List.setIfInBounds_toArray, List.set_cons_zero, List.set_cons_succ])))
        refine wpPlan_must rfl (by rfl) (fun K hK => ?_)
        go_simp
        (with_reducible refine (Hcmp.out _ G G _ _ q.1 p.1 (Hkb'.out.ext (Touch.refl _ _).drew) (Hkb.out.ext (Touch.refl _ _).drew) Hpp'.out Hpp.out).mono ?_)
        rintro e w2 ⟨rfl, rfl⟩
        refine hK.out _ _ ?_ ?_
        · exact ⟨(Touch.refl _ _).drew, c0, d0⟩
        clear hK K
        (try simp only [Act.put, List.setIfInBounds_toArray, List.set_cons_zero, List.set_cons_succ])
        repeat (first
          | (refine wpPlan_take (v := ?_) rfl (by rfl) (fun W hW => ?_) ?_; rotate_left; (focus ((try dsimp only at hW); go_split_ands; go_simp; (try with_reducible rfl); done)); (try simp only [Act.put, List.setIfInBounds_toArray, List.set_cons_zero, List.set_cons_succ]))
          | (refine wpPlan_skip rfl (by rfl) ?_; (try simp only [Act.put, List.setIfInBounds_toArray, List.set_cons_zero, List.set_cons_succ])))
        refine wpPlan_done (hKK.out _ _ ?_)
        clear hKK KK
        clear i4
        go_wp2_with (fail)
        go_ret
        rw [Hfin.out]
        exact ⟨rfl, ht.drew⟩
    · have hfin : risesB ps = true := by
        refine risesB_iff.2 fun i p q hp hq => ?_
        have := (List.getElem?_eq_some_iff.1 hq).1
        exact Hall.out i p q (by omega) hp hq
      have Hfin := Lib.hid hfin
      clear hfin
      go_wp2_with (fail)
      go_ret
      rw [Hfin.out]
      exact ⟨rfl, ht⟩
end ModF
end Go.Proofs.YtclnnkacfanaiaaDoor
