/- The document's own map: Put, Drop and New, whatever is there. -/
import Derived.Test.YthfnacadabhpdaaRefH
import Derived.Test.YthfnacadabhpdaaRefI
namespace Go.Proofs.Ythfnacadabhpdaa
open Go.RowKit
set_option linter.unusedVariables false
set_option linter.unusedSimpArgs false
namespace RefJ
open ModA ModB ModF RefF
variable {F G : Nat → Prop}

/-- what the document's Put comes to -/
def RPut (w : World) (r0 : Nat) (F : Nat → Prop) (ps : Prs) (k : List Int) (v : Int) (e : Ending) (w' : World) : Prop :=
  e = .returned (.tuple #[.int .u64 (valK ps k), .bool (hasK ps k), .int .i64 0]) ∧ ∃ F', Rf w' r0 F' (putK ps k v) ∧ Touch (fun b => b = r0) w w' ∧ ∀ b, F' b → F b ∨ w.heap.size ≤ b
theorem put_any (w : World) (r0 : Nat) (kw : Value) (ps : Prs) (k : List Int) (v : Int) (h : Rf w r0 F ps) (hk : RB w G kw k) (kb : KB k) (hl : k.length ≤ 65535) (hm : ps.length ≤ 1000000) :
    Calls Try.prog 34 #[.pointer (some ⟨r0, 0, none⟩), kw, .int .u64 v] w (RPut w r0 F ps k v) := by
  unfold RPut
  cases hh : hasK ps k with
  | true => exact RefG.put_has w r0 kw ps k v h hk kb hl hm hh
  | false =>
    rw [valK_none hh]
    exact RefG.put_new w r0 kw ps k v h hk kb hl hm hh

/-- what the document's Drop comes to -/
def RDrop (w : World) (r0 : Nat) (F : Nat → Prop) (ps : Prs) (k : List Int) (e : Ending) (w' : World) : Prop :=
  e = .returned (.tuple #[.int .u64 (valK ps k), .bool (hasK ps k)]) ∧ ∃ F', Rf w' r0 F' (dropK ps k) ∧ Touch (fun b => b = r0) w w' ∧ ∀ b, F' b → F b ∨ w.heap.size ≤ b
theorem drop_any (w : World) (r0 : Nat) (kw : Value) (ps : Prs) (k : List Int) (h : Rf w r0 F ps) (hk : RB w G kw k) (kb : KB k) (hm : ps.length ≤ 1000000) :
    Calls Try.prog 37 #[.pointer (some ⟨r0, 0, none⟩), kw] w (RDrop w r0 F ps k) := by
  unfold RDrop
  cases hh : hasK ps k with
  | true => exact RefF.drop_has w r0 kw ps k h hk kb hm hh
  | false =>
    refine (RefF.drop_not w r0 kw ps k h hk kb hm hh).mono ?_
    rintro e w' ⟨rfl, ht⟩
    refine ⟨by rw [valK_none hh], F, ?_, ht.none_to, fun b hb => Or.inl hb⟩
    rw [dropK_not hh]
    exact h.ext ht

def RNew (w : World) (ps : Prs) (e : Ending) (w' : World) : Prop := ∃ g F, e = .returned (.pointer (some ⟨g, 0, none⟩)) ∧ Rf w' g F ps ∧ (∀ b, F b → w.heap.size ≤ b) ∧ Ext w w'
theorem rf_new (w : World) : Rf (w.alloc (.cells #[.slice none 0 0] 55)) w.heap.size (fun b => b = w.heap.size) [] :=
  ⟨.slice none 0 0, by simp, by simp, RP.nil _ _, rfl, (fun b hb => by subst hb; simp), List.Pairwise.nil, fun p hp => by simp at hp⟩

set_option maxRecDepth 100000 in
set_option maxHeartbeats 1600000 in
theorem new_any (w : World) (v : Value) (ps : Prs) (h : RP w G v ps) (hm : ps.length ≤ 1000000) (hpk : PK ps) :
    Calls Try.prog 30 #[v] w (RNew w (mkK ps)) := by
  obtain ⟨a, c, rfl, l1, m1, hn⟩ := h.shape
  unfold maxLen at m1
  have H := Lib.hid h
  clear h
  have Hpk := Lib.hid hpk
  clear hpk
  unfold RNew
  go_enter Try.func30, Try.ntmps30
  go_wp2_with (fail)
  go_loopw [4] (fun s10 wr => ∃ (j : Nat) (F : Nat → Prop), j ≤ ps.length ∧ s10 = .int .i64 j ∧ Rf wr w.heap.size F (mkK (ps.take j)) ∧ (∀ b, F b → w.heap.size ≤ b) ∧ Ext w wr) (fun s10 _ => ps.length - (intOf s10).toNat)
  case atStart => exact ⟨0, _, by omega, rfl, rf_new w, fun b hb => by subst hb; omega, (Touch.refl _ _).alloc _⟩
  case round =>
    obtain ⟨j, F, hj, rfl, hmp, hF, ht⟩ := hrel
    by_cases hlt : j < ps.length
    · obtain ⟨b, off, rfl, _⟩ := H.out.addr (by omega)
      have hg := List.getElem?_eq_getElem hlt
      obtain ⟨kv, c0, c1, hkb⟩ := (H.out.ext ht).get j _ hg
      obtain ⟨kv0, z0, _⟩ := H.out.get j _ hg
      have hbw : b ≠ w.heap.size := fun h => by have := World.block_lt_of_cell? _ _ z0; simp only at this; omega
      have hpp := Hpk.out _ (List.mem_of_getElem? hg)
      clear z0
      have hmk := mkK_take ps j _ hg
      generalize ps[j] = p at *
      obtain ⟨ka, kc, rfl, l2, m2, n2⟩ := hkb.shape
      have hml : (mkK (ps.take j)).length ≤ 1000000 := by have := mkK_length (ps.take j); simp at this; omega
      have i0 : (0 : Int) ≤ (j : Int) := by omega
      have i1 : (j : Int) < (ps.length : Int) := by omega
      have hput := fun W (t : Ext wr W) => put_any W w.heap.size (.slice ka p.1.length kc) (mkK (ps.take j)) p.1 p.2 (hmp.ext t) (hkb.ext t) hpp.1 hpp.2 hml
      unfold RPut at hput
      have Hg := Lib.hid hg
      clear hg
      have Hkb := Lib.hid hkb
      clear hkb
      have Hpp := Lib.hid hpp
      clear hpp
      have Hmk := Lib.hid hmk
      clear hmk
      have Hmp := Lib.hid hmp
      clear hmp
      have HF := Lib.hid hF
      clear hF
      have Hml := Lib.hid hml
      clear hml
      have Hput := Lib.hid hput
      clear hput
      have Hbw := Lib.hid hbw
      clear hbw
      go_wp2_with (fail)
      refine wp_region_plan (.take 0 (.take 1 (.take 2 (.take 3 (.take 4 (.take 5 (.take 6 (.take 7 (.take 8 (.take 9 (.take 10 (.must 11 .done)))))))))))) (fun wy => wy.cell? ⟨b, off + j * 2, none⟩ = some (.slice ka p.1.length kc) ∧ wy.cell? ⟨b, off + j * 2 + 1, none⟩ = some (.int .u64 p.2)) (by kernel_rfl) (by kernel_rfl) (by kernel_rfl) rfl ?_ (fun KK hKK => ?_)
      · exact ⟨c0, c1⟩
      repeat (first
        | (refine wpPlan_take (v := ?_) rfl (by rfl) (fun W hW => ?_) ?_; rotate_left; (focus ((try dsimp only at hW); go_split_ands; go_simp; (try with_reducible rfl); done)); (try simp only [Act.put, List.setIfInBounds_toArray, List.set_cons_zero, List.set_cons_succ]))
        | (refine wpPlan_skip rfl (by rfl) ?_; (try simp only [Act.put, List.setIfInBounds_toArray, List.set_cons_zero, List.set_cons_succ])))
      refine wpPlan_must rfl (by rfl) (fun K hK => ?_)
      go_simp
      (with_reducible refine (Hput.out _ (Touch.refl _ _).drew).mono ?_)
      rintro e w2 ⟨rfl, F', hmp2, ht2, hF2⟩
      refine hK.out _ _ ?_ ?_
      · exact ⟨keepc ht2 Hbw.out c0, keepc ht2 Hbw.out c1⟩
      clear hK K
      (try simp only [Act.put, List.setIfInBounds_toArray, List.set_cons_zero, List.set_cons_succ])
      have Hmp2 := Lib.hid hmp2
      clear hmp2
      have HF2 := Lib.hid hF2
      clear hF2
      refine wpPlan_done (hKK.out _ _ ?_)
      clear hKK KK
      go_wp2_with (fail)
      go_roundw
      case rel =>
        refine ⟨j + 1, F', by omega, by go_num, by rw [Hmk.out]; exact Hmp2.out, fun b hb => ?_, ht.drew.ext_new ht2 (fun i hi => by omega)⟩
        rcases HF2.out b hb with h | h
        · exact HF.out b h
        · exact Nat.le_trans ht.drew.size h
      case measure => simp [intOf]; omega
    · have hjl : j = ps.length := by omega
      subst hjl
      rw [List.take_length] at hmp
      have Hmp := Lib.hid hmp
      clear hmp
      have HF := Lib.hid hF
      clear hF
      go_wp2_with (fail)
      go_ret
      exact ⟨w.heap.size, F, rfl, Hmp.out, HF.out, ht⟩
end RefJ
end Go.Proofs.Ythfnacadabhpdaa
