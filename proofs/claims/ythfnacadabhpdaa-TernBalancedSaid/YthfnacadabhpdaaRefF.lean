/- The document's own map: Drop. -/
import Derived.Test.YthfnacadabhpdaaRefA
import Derived.Test.YthfnacadabhpdaaModF
namespace Go.Proofs.Ythfnacadabhpdaa
open Go.RowKit
set_option linter.unusedVariables false
set_option linter.unusedSimpArgs false
namespace RefF
open ModA ModB ModF
variable {F G : Nat → Prop}

/-- the footprint behind a change that began at a heap of n blocks -/
def Fnew (F : Nat → Prop) (n m : Nat) : Nat → Prop := fun b => F b ∨ n ≤ b ∧ b < m

theorem rf_mk {w' : World} {r n : Nat} {v' : Value} {es' : List El} {ps' : Prs} (hes : es'.map (·.2) = ps') (hc : w'.cell? ⟨r, 0, none⟩ = some v') (hf : w'.frozen? ⟨r, 0, none⟩ = false) (hr0 : F r) (hrn : r < n)
    (ho : w'.ownsRow 0 33 2 v' es'.length (flat es')) (hb : ∀ b, v'.ownBlock = some b → n ≤ b) (hk : ∀ e ∈ es', RB w' (fun b => (F b ∧ b ≠ r) ∨ n ≤ b ∧ b < w'.heap.size) e.1 e.2.1)
    (hlt : ∀ b, F b → b < w'.heap.size) (hr : Rises ps') (hp : ∀ p ∈ ps', KB p.1 ∧ p.1.length ≤ 65535) : Rf w' r (Fnew F n w'.heap.size) ps' := by
  refine ⟨v', hc, hf, ⟨es', hes, Cells2.of_own ho (fun b hb' => ⟨Or.inr ⟨hb b hb', (ho.lt b hb').2⟩, fun e => by have := hb b hb'; omega⟩), fun e he => (hk e he).mono (fun b hb' => ?_)⟩, Or.inl hr0, fun b hb' => ?_, hr, hp⟩
  · rcases hb' with ⟨h1, h2⟩ | ⟨h1, h2⟩
    · exact ⟨Or.inl h1, h2⟩
    · exact ⟨Or.inr ⟨h1, h2⟩, fun e => by omega⟩
  · rcases hb' with h | h
    · exact hlt b h
    · exact h.2

theorem drop_not (w : World) (r0 : Nat) (kw : Value) (ps : Prs) (k : List Int) (h : Rf w r0 F ps) (hk : RB w G kw k) (kb : KB k) (hm : ps.length ≤ 1000000) (hh : hasK ps k = false) :
    Calls Try.prog 37 #[.pointer (some ⟨r0, 0, none⟩), kw] w fun e w' => e = .returned (.tuple #[.int .u64 0, .bool false]) ∧ Ext w w' := by
  have hf := RefA.find_any (F := F) (G := G) w r0 kw ps k h hk kb hm
  rw [hh] at hf
  clear h hk
  have Hf := Lib.hid hf
  clear hf
  have Hh := Lib.hid hh
  clear hh
  go_enter Try.func37, Try.ntmps37
  go_wp2_with (fail)
  (with_reducible refine Hf.out.mono ?_)
  rintro e w1 ⟨rfl, ht⟩
  go_wp2_with (fail)
  go_ret2
  exact ⟨rfl, ht⟩

set_option maxRecDepth 100000 in
set_option maxHeartbeats 1600000 in
theorem drop_has (w : World) (r0 : Nat) (kw : Value) (ps : Prs) (k : List Int) (h : Rf w r0 F ps) (hk : RB w G kw k) (kb : KB k) (hm : ps.length ≤ 1000000) (hh : hasK ps k = true) :
    Calls Try.prog 37 #[.pointer (some ⟨r0, 0, none⟩), kw] w fun e w' => e = .returned (.tuple #[.int .u64 (valK ps k), .bool true]) ∧ ∃ F', Rf w' r0 F' (dropK ps k) ∧ Touch (fun b => b = r0) w w' ∧ ∀ b, F' b → F b ∨ w.heap.size ≤ b := by
  have hf := RefA.find_any (F := F) (G := G) w r0 kw ps k h hk kb hm
  rw [hh] at hf
  obtain ⟨x, hx, hv⟩ := hasK_some hh
  have hjl := hasK_lt hh
  have hdk : dropK ps k = ps.take (rk ps k) ++ ps.drop (rk ps k + 1) := by unfold dropK; rw [if_pos hh]
  have hdr := dropK_rises h.rises k
  have hdp : ∀ p ∈ dropK ps k, KB p.1 ∧ p.1.length ≤ 65535 := fun p hp => ⟨h.kb p (dropK_mem hp), h.long p (dropK_mem hp)⟩
  obtain ⟨v, c0, f0, hrp, hF0, hFlt, _, _⟩ := h
  obtain ⟨es, hes, hc2, hks⟩ := hrp
  have hel : es.length = ps.length := by rw [← hes]; simp
  obtain ⟨a, c, rfl, l1, m1, _⟩ := hc2.shape
  unfold maxLen at m1
  rw [hv]
  generalize rk ps k = n at *
  obtain ⟨b, off, rfl, _⟩ := hc2.addr (by omega)
  obtain ⟨kv, hkv⟩ := es_get hes hx
  obtain ⟨_, d1⟩ := hc2.cell _ _ hkv
  have hs1 := (hc2.take n (by omega)).src
  have hs2 := (hc2.drop (n + 1) (by omega)).src
  have hone1 : ∀ u ∈ flat (es.take n), u.oneCell' = true := flat_one_cell _ (fun e he => by obtain ⟨a, c, h1, _⟩ := (hks e (List.mem_of_mem_take he)).shape; rw [h1]; rfl)
  have hone2 : ∀ u ∈ flat (es.drop (n + 1)), u.oneCell' = true := flat_one_cell _ (fun e he => by obtain ⟨a, c, h1, _⟩ := (hks e (List.mem_of_mem_drop he)).shape; rw [h1]; rfl)
  have hrlt := World.block_lt_of_cell? _ _ c0
  simp only at d1 hrlt
  have i0 : (0 : Int) ≤ (n : Int) := by omega
  have i1 : (n : Int) < (es.length : Int) := by omega
  have i2 : (n : Int) ≤ (c : Int) := by omega
  have i3 : IntKind.i64.wrap ((n : Int) + 1) = (n : Int) + 1 := by rw [IntKind.wrap_i64]; omega
  have i4 : (0 : Int) ≤ (n : Int) + 1 := by omega
  have i5 : (n : Int) + 1 ≤ (es.length : Int) := by omega
  have i6 : ((n : Int) + 1).toNat = n + 1 := by omega
  have i7 : ((es.length : Int) ≤ (c : Int)) := by omega
  have hel6 : es.length ≤ 1000000 := by omega
  have Hf := Lib.hid hf
  clear hf
  have Hx := Lib.hid hx
  clear hx
  have Hv := Lib.hid hv
  clear hv
  have Hdk := Lib.hid hdk
  clear hdk
  have Hdr := Lib.hid hdr
  clear hdr
  have Hdp := Lib.hid hdp
  clear hdp
  have HF0 := Lib.hid hF0
  clear hF0
  have HFlt := Lib.hid hFlt
  clear hFlt
  have Hes := Lib.hid hes
  clear hes
  have Hc2 := Lib.hid hc2
  clear hc2
  have Hks := Lib.hid hks
  clear hks
  have Hel := Lib.hid hel
  clear hel
  have Hkv := Lib.hid hkv
  clear hkv
  have Hs1 := Lib.hid hs1
  clear hs1
  have Hs2 := Lib.hid hs2
  clear hs2
  have Hone1 := Lib.hid hone1
  clear hone1
  have Hone2 := Lib.hid hone2
  clear hone2
  have Hk := Lib.hid hk
  clear hk
  have Hh := Lib.hid hh
  clear hh
  go_enter Try.func37, Try.ntmps37
  go_wp2_with (fail)
  (with_reducible refine Hf.out.mono ?_)
  rintro e w1 ⟨rfl, ht⟩
  have y0 := keepc ht id c0
  have y1 := keepc ht id d1
  go_wp2_with (fail)
  refine wp_region_plan (.take 0 (.take 1 (.take 2 (.take 3 (.take 4 (.take 5 (.take 6 (.take 8 (.take 9 (.take 10 (.take 11 (.take 12 (.take 13 (.take 14 (.must 7 (.must 15 (.take 16 (.take 17 (.last 18 .done))))))))))))))))))) (fun wy => wy.cell? ⟨r0, 0, none⟩ = some (.slice (some ⟨b, off, none⟩) es.length c)) (by kernel_rfl) (by kernel_rfl) (by kernel_rfl) rfl ?_ (fun KK hKK => ?_)
  · exact y0
  repeat (first
    | (refine wpPlan_take (v := ?_) rfl (by rfl) (fun W hW => ?_) ?_; rotate_left; (focus ((try dsimp only at hW); go_split_ands; go_simp; (try with_reducible rfl); done)); (try simp only [Act.put, List.setIfInBounds_toArray, List.set_cons_zero, List.set_cons_succ]))
    | (refine wpPlan_skip rfl (by rfl) ?_; (try simp only [Act.put, List.setIfInBounds_toArray, List.set_cons_zero, List.set_cons_succ])))
  have hs2' : Src w (if c = n + 1 then some ⟨b, off, none⟩ else some ⟨b, off + (n + 1) * 2, none⟩) (flat (es.drop (n + 1))) := by
    split
    · rw [List.drop_of_length_le (by omega)]
      intro j u hu
      simp [flat] at hu
    · exact Hs2.out
  have hAn : (if c = n + 1 then some (⟨b, off, none⟩ : Addr) else some ⟨b, off + (n + 1) * 2, none⟩) = none → c - (n + 1) = 0 := by split <;> simp
  generalize (if c = n + 1 then some (⟨b, off, none⟩ : Addr) else some ⟨b, off + (n + 1) * 2, none⟩) = ad at *
  have Hs2' := Lib.hid hs2'
  clear hs2'
  have HAn := Lib.hid hAn
  clear hAn
  refine wpPlan_must rfl (by rfl) (fun K hK => ?_)
  refine wp_push_any _ _ _ 22 rfl 33 _ 2 32 Try.underlying22 info_pair rfl (by decide) (.slice none 0 0) 0 [] rfl (World.ownsRow_nil _ _ _ _) (some ⟨b, off, none⟩) n c rfl (fun h => by cases h) (flat (es.take n)) (by omega) (by rw [flat_length, List.length_take]; omega) ((Hs1.out.ext ht).ext (Touch.refl _ _).drew) Hone1.out (by simp [maxLen]; omega) (by omega) ?_
  intro v1 w2 hown1 ht2 hb1
  rw [Nat.zero_add, List.nil_append] at hown1
  obtain ⟨va, vc, rfl⟩ := own_len hown1
  have e2 : Ext w w2 := (ht.trans' (Touch.refl _ _).drew).ext_new ht2 (fun i hi => by simp [Value.ownBlock] at hi)
  have z0 := keepc e2 id c0
  refine hK.out _ _ ?_ ?_
  · exact z0
  clear hK K
  (try simp only [Act.put, List.setIfInBounds_toArray, List.set_cons_zero, List.set_cons_succ])
  refine wpPlan_must rfl (by rfl) (fun K hK => ?_)
  refine wp_push_any _ _ _ 22 rfl 33 _ 2 32 Try.underlying22 info_pair rfl (by decide) (.slice va n vc) n (flat (es.take n)) rfl hown1 ad (es.length - (n + 1)) (c - (n + 1)) rfl HAn.out (flat (es.drop (n + 1))) (by omega) (by rw [flat_length, List.length_drop]) (Hs2'.out.ext e2) Hone2.out (by simp [maxLen]; omega) (by omega) ?_
  intro v2 w3 hown2 ht3 hb2
  have hown1b : ∀ b', (Value.slice va n vc).ownBlock = some b' → w.heap.size ≤ b' := fun b' hb' => by
    rcases hb1 with h1 | h1
    · rw [h1] at hb'; simp [Value.ownBlock] at hb'
    · rw [h1] at hb'; cases hb'; exact ht.size
  have e3 : Ext w w3 := e2.ext_new ht3 (fun i hi => hown1b i hi)
  have hown2b : ∀ b', v2.ownBlock = some b' → w.heap.size ≤ b' := fun b' hb' => by
    rcases hb2 with h1 | h1
    · exact hown1b b' (h1 ▸ hb')
    · rw [h1] at hb'; cases hb'; exact e2.size
  obtain ⟨v2a, v2c, rfl⟩ := own_len hown2
  have z3 := keepc e3 id c0
  have zf := keepf (p := ⟨r0, 0, none⟩) e3 hrlt id f0
  refine hK.out _ _ ?_ ?_
  · exact z3
  clear hK K
  (try simp only [Act.put, List.setIfInBounds_toArray, List.set_cons_zero, List.set_cons_succ])
  clear ht2 ht3 hb1 hb2 hown1 hown1b
  have Hown2 := Lib.hid hown2
  clear hown2
  have Hown2b := Lib.hid hown2b
  clear hown2b
  repeat (first
    | (refine wpPlan_take (v := ?_) rfl (by rfl) (fun W hW => ?_) ?_; rotate_left; (focus ((try dsimp only at hW); go_split_ands; go_simp; (try with_reducible rfl); done)); (try simp only [Act.put, List.setIfInBounds_toArray, List.set_cons_zero, List.set_cons_succ]))
    | (refine wpPlan_skip rfl (by rfl) ?_; (try simp only [Act.put, List.setIfInBounds_toArray, List.set_cons_zero, List.set_cons_succ])))
  refine wpPlan_last rfl (by rfl) (fun K hK => ?_)
  go_simp
  refine hK.out _ _ ?_
  clear hK K
  (try simp only [Act.put, List.setIfInBounds_toArray, List.set_cons_zero, List.set_cons_succ])
  refine wpPlan_done (hKK.out _ _ ?_)
  clear hKK KK
  go_wp2_with (fail)
  go_ret2
  have tt : Touch (fun b' => b' = r0) w3 (w3.setCell ⟨r0, 0, none⟩ (.slice v2a (n + (es.length - (n + 1))) v2c)) := Touch.setCell (S := fun b' => b' = r0) (Touch.refl _ _) (p := ⟨r0, 0, none⟩) (Or.inl rfl) _
  have tw : Touch (fun b' => b' = r0) w (w3.setCell ⟨r0, 0, none⟩ (.slice v2a (n + (es.length - (n + 1))) v2c)) := Touch.ext_trans e3 tt
  have hes' : (es.take n ++ es.drop (n + 1)).map (·.2) = dropK ps k := by rw [Hdk.out, List.map_append, List.map_take, List.map_drop, Hes.out]
  have hlen' : (es.take n ++ es.drop (n + 1)).length = n + (es.length - (n + 1)) := by simp; omega
  refine ⟨rfl, Fnew F w.heap.size (w3.setCell ⟨r0, 0, none⟩ (.slice v2a (n + (es.length - (n + 1))) v2c)).heap.size, rf_mk hes' (World.cell?_setCell_same _ _ _ z3) (by rw [World.frozen?_setCell]; exact zf) HF0.out hrlt (by rw [hlen', flat_append]; exact own_keep Hown2.out tt (fun b' hb' h => by have := Hown2b.out b' hb'; omega)) Hown2b.out
    (fun e he => ?_) (fun b' hb' => Nat.lt_of_lt_of_le (HFlt.out b' hb') tw.size) Hdr.out Hdp.out, tw, fun b' hb' => ?_⟩
  · have hem : e ∈ es := by
      rcases List.mem_append.1 he with h | h
      · exact List.mem_of_mem_take h
      · exact List.mem_of_mem_drop h
    exact ((Hks.out e hem).keep tw (fun b' hb' h => hb'.2 h)).mono (fun b' hb' => Or.inl hb')
  · rcases hb' with h | h
    · exact Or.inl h
    · exact Or.inr h.1
end RefF
end Go.Proofs.Ythfnacadabhpdaa
