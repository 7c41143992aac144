/- Texts of one chain, in one file. -/
import Derived.Test.YtclnnkacfanaiaaDoorRefA
import Derived.Test.YtclnnkacfanaiaaDoorModF
import Derived.Test.YtclnnkacfanaiaaDoorModH
/- The document's own map: Drop. -/
namespace Go.Proofs.YtclnnkacfanaiaaDoor
open Go.RowKit
set_option linter.unusedVariables false
set_option linter.unusedSimpArgs false
namespace RefF
open ModA ModB ModF
variable {F G : Nat → Prop}

/-- the footprint behind a change that began at a heap of n blocks -/
def Fnew (F : Nat → Prop) (n m : Nat) : Nat → Prop := fun b => F b ∨ n ≤ b ∧ b < m

theorem rf_mk {w' : World} {r n : Nat} {v' : Value} {es' : List El} {ps' : Prs} (hes : es'.map (·.2) = ps') (hc : w'.cell? ⟨r, 0, none⟩ = some v') (hf : w'.frozen? ⟨r, 0, none⟩ = false) (hr0 : F r) (hrn : r < n)
    (ho : w'.ownsRow 0 33 2 v' es'.length (flat es')) (hb : ∀ b, v'.ownBlock = some b → n ≤ b) (hk : ∀ e ∈ es', RB w' (fun b => (F b ∧ b ≠ r) ∨ n ≤ b ∧ b < w'.heap.size) e.1 e.2.1)
    (hlt : ∀ b, F b → b < w'.heap.size) (hr : Rises ps') (hp : ∀ p ∈ ps', KB p.1 ∧ p.1.length ≤ 65535) : Rf w' r (Fnew F n w'.heap.size) ps' := by
  refine ⟨v', hc, hf, ⟨es', hes, Cells2.of_own ho (fun b hb' => ⟨Or.inr ⟨hb b hb', (ho.lt b hb').2⟩, fun e => by have := hb b hb'; omega⟩), fun e he => (hk e he).mono (fun b hb' => ?_)⟩, Or.inl hr0, fun b hb' => ?_, hr, hp⟩
  · rcases hb' with ⟨h1, h2⟩ | ⟨h1, h2⟩
    · exact ⟨Or.inl h1, h2⟩
    · exact ⟨Or.inr ⟨h1, h2⟩, fun e => by omega⟩
  · rcases hb' with h | h
    · exact hlt b h
    · exact h.2

theorem drop_not (w : World) (r0 : Nat) (kw : Value) (ps : Prs) (k : List Int) (h : Rf w r0 F ps) (hk : RB w G kw k) (kb : KB k) (hm : ps.length ≤ 1000000) (hh : hasK ps k = false) :
    Calls Tryd.prog 36 #[.pointer (some ⟨r0, 0, none⟩), kw] w fun e w' => e = .returned (.tuple #[.int .u64 0, .bool false]) ∧ Ext w w' := by
  have hf := RefA.find_any (F := F) (G := G) w r0 kw ps k h hk kb hm
  rw [hh] at hf
  clear h hk
  have Hf := Lib.hid hf
  clear hf
  have Hh := Lib.hid hh
  clear hh
  go_enter Tryd.func36, Tryd.ntmps36
  go_wp2_with (fail)
  (with_reducible refine Hf.out.mono ?_)
  rintro e w1 ⟨rfl, ht⟩
  go_wp2_with (fail)
  go_ret2
  exact ⟨rfl, ht⟩

set_option maxRecDepth 100000 in
set_option maxHeartbeats 1600000 in
theorem drop_has (w : World) (r0 : Nat) (kw : Value) (ps : Prs) (k : List Int) (h : Rf w r0 F ps) (hk : RB w G kw k) (kb : KB k) (hm : ps.length ≤ 1000000) (hh : hasK ps k = true) :
    Calls Tryd.prog 36 #[.pointer (some ⟨r0, 0, none⟩), kw] w fun e w' => e = .returned (.tuple #[.int .u64 (valK ps k), .bool true]) ∧ ∃ F', Rf w' r0 F' (dropK ps k) ∧ Touch (fun b => b = r0) w w' ∧ ∀ b, F' b → F b ∨ w.heap.size ≤ b := by
  have hf := RefA.find_any (F := F) (G := G) w r0 kw ps k h hk kb hm
  rw [hh] at hf
  obtain ⟨x, hx, hv⟩ := hasK_some hh
  have hjl := hasK_lt hh
  have hdk : dropK ps k = ps.take (rk ps k) ++ ps.drop (rk ps k + 1) := by unfold dropK; rw [if_pos hh]
  have hdr := dropK_rises h.rises k
  have hdp : ∀ p ∈ dropK ps k, KB p.1 ∧ p.1.length ≤ 65535 := fun p hp => ⟨h.kb p (dropK_mem hp), h.long p (dropK_mem hp)⟩
  obtain ⟨v, c0, f0, hrp, hF0, hFlt, _, _⟩ := h
  obtain ⟨es, hes, hc2, hks⟩ := hrp
  have hel : es.length = ps.length := by rw [← hes]; simp
  obtain ⟨a, c, rfl, l1, m1, _⟩ := hc2.shape
  unfold maxLen at m1
  rw [hv]
  generalize rk ps k = n at *
  obtain ⟨b, off, rfl, _⟩ := hc2.addr (by omega)
  obtain ⟨kv, hkv⟩ := es_get hes hx
  obtain ⟨_, d1⟩ := hc2.cell _ _ hkv
  have hs1 := (hc2.take n (by omega)).src
  have hs2 := (hc2.drop (n + 1) (by omega)).src
  have hone1 : ∀ u ∈ flat (es.take n), u.oneCell' = true := flat_one_cell _ (fun e he => by obtain ⟨a, c, h1, _⟩ := (hks e (List.mem_of_mem_take he)).shape; rw [h1]; rfl)
  have hone2 : ∀ u ∈ flat (es.drop (n + 1)), u.oneCell' = true := flat_one_cell _ (fun e he => by obtain ⟨a, c, h1, _⟩ := (hks e (List.mem_of_mem_drop he)).shape; rw [h1]; rfl)
  have hrlt := World.block_lt_of_cell? _ _ c0
  simp only at d1 hrlt
  have i0 : (0 : Int) ≤ (n : Int) := by omega
  have i1 : (n : Int) < (es.length : Int) := by omega
  have i2 : (n : Int) ≤ (c : Int) := by omega
  have i3 : IntKind.i64.wrap ((n : Int) + 1) = (n : Int) + 1 := by rw [IntKind.wrap_i64]; omega
  have i4 : (0 : Int) ≤ (n : Int) + 1 := by omega
  have i5 : (n : Int) + 1 ≤ (es.length : Int) := by omega
  have i6 : ((n : Int) + 1).toNat = n + 1 := by omega
  have i7 : ((es.length : Int) ≤ (c : Int)) := by omega
  have hel6 : es.length ≤ 1000000 := by omega
  have Hf := Lib.hid hf
  clear hf
  have Hx := Lib.hid hx
  clear hx
  have Hv := Lib.hid hv
  clear hv
  have Hdk := Lib.hid hdk
  clear hdk
  have Hdr := Lib.hid hdr
  clear hdr
  have Hdp := Lib.hid hdp
  clear hdp
  have HF0 := Lib.hid hF0
  clear hF0
  have HFlt := Lib.hid hFlt
  clear hFlt
  have Hes := Lib.hid hes
  clear hes
  have Hc2 := Lib.hid hc2
  clear hc2
  have Hks := Lib.hid hks
  clear hks
  have Hel := Lib.hid hel
  clear hel
  have Hkv := Lib.hid hkv
  clear hkv
  have Hs1 := Lib.hid hs1
  clear hs1
  have Hs2 := Lib.hid hs2
  clear hs2
  have Hone1 := Lib.hid hone1
  clear hone1
  have Hone2 := Lib.hid hone2
  clear hone2
  have Hk := Lib.hid hk
  clear hk
  have Hh := Lib.hid hh
  clear hh
  go_enter Tryd.func36, Tryd.ntmps36
  go_wp2_with (fail)
  (with_reducible refine Hf.out.mono ?_)
  rintro e w1 ⟨rfl, ht⟩
  have y0 := keepc ht id c0
  have y1 := keepc ht id d1
  go_wp2_with (fail)
  refine wp_region_plan (.take 0 (.take 1 (.take 2 (.take 3 (.take 4 (.take 5 (.take 6 (.take 8 (.take 9 (.take 10 (.take 11 (.take 12 (.take 13 (.take 14 (.must 7 (.must 15 (.take 16 (.take 17 (.last 18 .done))))))))))))))))))) (fun wy => wy.cell? ⟨r0, 0, none⟩ = some (.slice (some ⟨b, off, none⟩) es.length c)) (by kernel_rfl) (by kernel_rfl) (by kernel_rfl) rfl ?_ (fun KK hKK => ?_)
  · exact y0
  repeat (first
    | (refine wpPlan_take (v := ?_) rfl (by rfl) (fun W hW => ?_) ?_; rotate_left; (focus ((try dsimp only at hW); go_split_ands; go_simp; (try with_reducible rfl); done)); (try simp only [Act.put, List.setIfInBounds_toArray, List.set_cons_zero, List.set_cons_succ]))
    | (refine wpPlan_skip rfl (by rfl) ?_; (try simp only [Act.put, List.setIfInBounds_toArray, List.set_cons_zero, List.set_cons_succ])))
  have hs2' : Src w (if c = n + 1 then some ⟨b, off, none⟩ else some ⟨b, off + (n + 1) * 2, none⟩) (flat (es.drop (n + 1))) := by
    split
    · rw [List.drop_of_length_le (by omega)]
      intro j u hu
      simp [flat] at hu
    · exact Hs2.out
  have hAn : (if c = n + 1 then some (⟨b, off, none⟩ : Addr) else some ⟨b, off + (n + 1) * 2, none⟩) = none → c - (n + 1) = 0 := by split <;> simp
  generalize (if c = n + 1 then some (⟨b, off, none⟩ : Addr) else some ⟨b, off + (n + 1) * 2, none⟩) = ad at *
  have Hs2' := Lib.hid hs2'
  clear hs2'
  have HAn := Lib.hid hAn
  clear hAn
  refine wpPlan_must rfl (by rfl) (fun K hK => ?_)
  refine wp_push_any _ _ _ 22 rfl 33 _ 2 32 Tryd.underlying22 info_pair rfl (by decide) (.slice none 0 0) 0 [] rfl (World.ownsRow_nil _ _ _ _) (some ⟨b, off, none⟩) n c rfl (fun h => by cases h) (flat (es.take n)) (by omega) (by rw [flat_length, List.length_take]; omega) ((Hs1.out.ext ht).ext (Touch.refl _ _).drew) Hone1.out (by simp [maxLen]; omega) (by omega) ?_
  intro v1 w2 hown1 ht2 hb1
  rw [Nat.zero_add, List.nil_append] at hown1
  obtain ⟨va, vc, rfl⟩ := own_len hown1
  have e2 : Ext w w2 := (ht.trans' (Touch.refl _ _).drew).ext_new ht2 (fun i hi => by simp [Value.ownBlock] at hi)
  have z0 := keepc e2 id c0
  refine hK.out _ _ ?_ ?_
  · exact z0
  clear hK K
  (try simp only [Act.put, List.setIfInBounds_toArray, List.set_cons_zero, List.set_cons_succ])
  refine wpPlan_must rfl (by rfl) (fun K hK => ?_)
  refine wp_push_any _ _ _ 22 rfl 33 _ 2 32 Tryd.underlying22 info_pair rfl (by decide) (.slice va n vc) n (flat (es.take n)) rfl hown1 ad (es.length - (n + 1)) (c - (n + 1)) rfl HAn.out (flat (es.drop (n + 1))) (by omega) (by rw [flat_length, List.length_drop]) (Hs2'.out.ext e2) Hone2.out (by simp [maxLen]; omega) (by omega) ?_
  intro v2 w3 hown2 ht3 hb2
  have hown1b : ∀ b', (Value.slice va n vc).ownBlock = some b' → w.heap.size ≤ b' := fun b' hb' => by
    rcases hb1 with h1 | h1
    · rw [h1] at hb'; simp [Value.ownBlock] at hb'
    · rw [h1] at hb'; cases hb'; exact ht.size
  have e3 : Ext w w3 := e2.ext_new ht3 (fun i hi => hown1b i hi)
  have hown2b : ∀ b', v2.ownBlock = some b' → w.heap.size ≤ b' := fun b' hb' => by
    rcases hb2 with h1 | h1
    · exact hown1b b' (h1 ▸ hb')
    · rw [h1] at hb'; cases hb'; exact e2.size
  obtain ⟨v2a, v2c, rfl⟩ := own_len hown2
  have z3 := keepc e3 id c0
  have zf := keepf (p := ⟨r0, 0, none⟩) e3 hrlt id f0
  refine hK.out _ _ ?_ ?_
  · exact z3
  clear hK K
  (try simp only [Act.put, List.setIfInBounds_toArray, List.set_cons_zero, List.set_cons_succ])
  clear ht2 ht3 hb1 hb2 hown1 hown1b
  have Hown2 := Lib.hid hown2
  clear hown2
  have Hown2b := Lib.hid hown2b
  clear hown2b
  repeat (first
    | (refine wpPlan_take (v := ?_) rfl (by rfl) (fun W hW => ?_) ?_; rotate_left; (focus ((try dsimp only at hW); go_split_ands; go_simp; (try with_reducible rfl); done)); (try simp only [Act.put, List.setIfInBounds_toArray, List.set_cons_zero, List.set_cons_succ]))
    | (refine wpPlan_skip rfl (by rfl) ?_; (try simp only [Act.put, List.setIfInBounds_toArray, List.set_cons_zero, List.set_cons_succ])))
  refine wpPlan_last rfl (by rfl) (fun K hK => ?_)
  go_simp
  refine hK.out _ _ ?_
  clear hK K
  (try simp only [Act.put, List.setIfInBounds_toArray, List.set_cons_zero, List.set_cons_succ])
  refine wpPlan_done (hKK.out _ _ ?_)
  clear hKK KK
  go_wp2_with (fail)
  go_ret2
  have tt : Touch (fun b' => b' = r0) w3 (w3.setCell ⟨r0, 0, none⟩ (.slice v2a (n + (es.length - (n + 1))) v2c)) := Touch.setCell (S := fun b' => b' = r0) (Touch.refl _ _) (p := ⟨r0, 0, none⟩) (Or.inl rfl) _
  have tw : Touch (fun b' => b' = r0) w (w3.setCell ⟨r0, 0, none⟩ (.slice v2a (n + (es.length - (n + 1))) v2c)) := Touch.ext_trans e3 tt
  have hes' : (es.take n ++ es.drop (n + 1)).map (·.2) = dropK ps k := by rw [Hdk.out, List.map_append, List.map_take, List.map_drop, Hes.out]
  have hlen' : (es.take n ++ es.drop (n + 1)).length = n + (es.length - (n + 1)) := by simp; omega
  refine ⟨rfl, Fnew F w.heap.size (w3.setCell ⟨r0, 0, none⟩ (.slice v2a (n + (es.length - (n + 1))) v2c)).heap.size, rf_mk hes' (World.cell?_setCell_same _ _ _ z3) (by rw [World.frozen?_setCell]; exact zf) HF0.out hrlt (by rw [hlen', flat_append]; exact own_keep Hown2.out tt (fun b' hb' h => by have := Hown2b.out b' hb'; omega)) Hown2b.out
    (fun e he => ?_) (fun b' hb' => Nat.lt_of_lt_of_le (HFlt.out b' hb') tw.size) Hdr.out Hdp.out, tw, fun b' hb' => ?_⟩
  · have hem : e ∈ es := by
      rcases List.mem_append.1 he with h | h
      · exact List.mem_of_mem_take h
      · exact List.mem_of_mem_drop h
    exact ((Hks.out e hem).keep tw (fun b' hb' h => hb'.2 h)).mono (fun b' hb' => Or.inl hb')
  · rcases hb' with h | h
    · exact Or.inl h
    · exact Or.inr h.1
end RefF
end Go.Proofs.YtclnnkacfanaiaaDoor

/- The document's own map: Put. -/
namespace Go.Proofs.YtclnnkacfanaiaaDoor
open Go.RowKit
set_option linter.unusedVariables false
set_option linter.unusedSimpArgs false
namespace RefG
open ModA ModB ModF RefF
variable {F G : Nat → Prop}

theorem put_long (w : World) (r0 : Nat) (kw : Value) (k : List Int) (v : Int) (hk : RB w G kw k) (hl : 65535 < k.length) :
    Calls Tryd.prog 34 #[.pointer (some ⟨r0, 0, none⟩), kw, .int .u64 v] w fun e w' => e = .returned (.tuple #[.int .u64 0, .bool false, .int .i64 3]) ∧ w = w' := by
  have hm := rmay_any w G kw k hk
  rw [decide_eq_false (by omega)] at hm
  have Hm := Lib.hid hm
  clear hm
  go_enter Tryd.func34, Tryd.ntmps34
  go_wp2_with (fail)
  (with_reducible refine Hm.out.mono ?_)
  rintro e w1 ⟨rfl, rfl⟩
  go_wp2_with (fail)
  go_ret3
  exact ⟨rfl, rfl⟩


set_option maxRecDepth 100000 in
set_option maxHeartbeats 3200000 in
theorem put_has (w : World) (r0 : Nat) (kw : Value) (ps : Prs) (k : List Int) (v : Int) (h : Rf w r0 F ps) (hk : RB w G kw k) (kb : KB k) (hl : k.length ≤ 65535) (hm : ps.length ≤ 1000000) (hh : hasK ps k = true) :
    Calls Tryd.prog 34 #[.pointer (some ⟨r0, 0, none⟩), kw, .int .u64 v] w fun e w' => e = .returned (.tuple #[.int .u64 (valK ps k), .bool true, .int .i64 0]) ∧ ∃ F', Rf w' r0 F' (putK ps k v) ∧ Touch (fun b => b = r0) w w' ∧ ∀ b, F' b → F b ∨ w.heap.size ≤ b := by
  have hmay := rmay_any w G kw k hk
  rw [decide_eq_true hl] at hmay
  obtain ⟨ka, kc, rfl, k1, k2, k3⟩ := hk.shape
  have hf := fun W (t : Ext w W) => RefA.find_any (F := F) (G := G) W r0 (.slice ka k.length kc) ps k (h.ext t) (hk.ext t) kb hm
  rw [hh] at hf
  obtain ⟨x, hx, hv⟩ := hasK_some hh
  have hjl := hasK_lt hh
  have hpk : putK ps k v = ps.take (rk ps k) ++ (k, v) :: ps.drop (rk ps k + 1) := by unfold putK; rw [if_pos hh]
  have hpr := putK_rises h.rises k v
  have hpp : ∀ p ∈ putK ps k v, KB p.1 ∧ p.1.length ≤ 65535 := fun p hp => by
    rcases putK_mem hp with rfl | h1
    · exact ⟨kb, hl⟩
    · exact ⟨h.kb p h1, h.long p h1⟩
  obtain ⟨rv, c0, f0, hrp, hF0, hFlt, _, _⟩ := h
  obtain ⟨es, hes, hc2, hks⟩ := hrp
  have hel : es.length = ps.length := by rw [← hes]; simp
  obtain ⟨a, c, rfl, l1, m1, _⟩ := hc2.shape
  unfold maxLen at m1 k2
  rw [hv]
  generalize rk ps k = n at *
  obtain ⟨b, off, rfl, _⟩ := hc2.addr (by omega)
  obtain ⟨kv, hkv⟩ := es_get hes hx
  obtain ⟨_, d1⟩ := hc2.cell _ _ hkv
  have hs1 := (hc2.take n (by omega)).src
  have hs2 := (hc2.drop (n + 1) (by omega)).src
  have hone1 : ∀ u ∈ flat (es.take n), u.oneCell' = true := flat_one_cell _ (fun e he => by obtain ⟨a, c, h1, _⟩ := (hks e (List.mem_of_mem_take he)).shape; rw [h1]; rfl)
  have hone2 : ∀ u ∈ flat (es.drop (n + 1)), u.oneCell' = true := flat_one_cell _ (fun e he => by obtain ⟨a, c, h1, _⟩ := (hks e (List.mem_of_mem_drop he)).shape; rw [h1]; rfl)
  have hrlt := World.block_lt_of_cell? _ _ c0
  simp only at d1 hrlt
  have i0 : (0 : Int) ≤ (n : Int) := by omega
  have i1 : (n : Int) < (es.length : Int) := by omega
  have i2 : (n : Int) ≤ (c : Int) := by omega
  have i3 : IntKind.i64.wrap ((n : Int) + 1) = (n : Int) + 1 := by rw [IntKind.wrap_i64]; omega
  have i4 : (0 : Int) ≤ (n : Int) + 1 := by omega
  have i5 : (n : Int) + 1 ≤ (es.length : Int) := by omega
  have i6 : ((n : Int) + 1).toNat = n + 1 := by omega
  have i7 : ((es.length : Int) ≤ (c : Int)) := by omega
  have hel6 : es.length ≤ 1000000 := by omega
  have Hmay := Lib.hid hmay
  clear hmay
  have Hf := Lib.hid hf
  clear hf
  have Hx := Lib.hid hx
  clear hx
  have Hv := Lib.hid hv
  clear hv
  have Hpk := Lib.hid hpk
  clear hpk
  have Hpr := Lib.hid hpr
  clear hpr
  have Hpp := Lib.hid hpp
  clear hpp
  have HF0 := Lib.hid hF0
  clear hF0
  have HFlt := Lib.hid hFlt
  clear hFlt
  have Hes := Lib.hid hes
  clear hes
  have Hc2 := Lib.hid hc2
  clear hc2
  have Hks := Lib.hid hks
  clear hks
  have Hel := Lib.hid hel
  clear hel
  have Hkv := Lib.hid hkv
  clear hkv
  have Hs1 := Lib.hid hs1
  clear hs1
  have Hs2 := Lib.hid hs2
  clear hs2
  have Hone1 := Lib.hid hone1
  clear hone1
  have Hone2 := Lib.hid hone2
  clear hone2
  have Hk := Lib.hid hk
  clear hk
  have Hh := Lib.hid hh
  clear hh
  go_enter Tryd.func34, Tryd.ntmps34
  go_wp2_with (fail)
  (with_reducible refine Hmay.out.mono ?_)
  rintro e w0 ⟨rfl, rfl⟩
  go_wp2_with (at_builtin; refine wpList_push_any _ rfl _ _ 23 rfl 5 (.int .u8 0) 1 1 Tryd.underlying23 info_u8 rfl (by decide) (.slice none 0 0) 0 [] rfl (World.ownsRow_nil _ _ _ _) ka k.length kc rfl k3 (ivs .u8 k) k1 (by simp [ivs]) Hk.out.src (ivs_one _ _) (by simp [maxLen]; omega) (by omega) ?_; intro v1 w1 hown1 ht1 hb1; rw [Nat.zero_add, List.nil_append] at hown1; obtain ⟨qa, qc, rfl⟩ := own_len hown1)
  have e1 : Ext w w1 := ht1.new (fun i hi => by simp [Value.ownBlock] at hi)
  have hob1 : OB w1 (Ge w.heap.size) (.slice qa k.length qc) k := ⟨hown1, fun b hb => by
    rcases hb1 with h1 | h1
    · rw [h1] at hb; simp [Value.ownBlock] at hb
    · rw [h1] at hb; cases hb; exact Nat.le_refl _⟩
  have x1 : Ext w1 (w1.alloc (.cells #[.slice qa k.length qc, .int .u64 v] 33)) := (Touch.refl _ _).alloc _
  have hob := hob1.ext x1
  have e1' := e1.trans' x1
  have pc0 : (w1.alloc (.cells #[.slice qa k.length qc, .int .u64 v] 33)).cell? ⟨w1.heap.size, 0, none⟩ = some (.slice qa k.length qc) := by simp
  have pc1 : (w1.alloc (.cells #[.slice qa k.length qc, .int .u64 v] 33)).cell? ⟨w1.heap.size, 1, none⟩ = some (.int .u64 v) := by simp
  have hb9 : w1.heap.size < (w1.alloc (.cells #[.slice qa k.length qc, .int .u64 v] 33)).heap.size := by simp
  have hb9' := e1.size
  generalize w1.alloc (.cells #[.slice qa k.length qc, .int .u64 v] 33) = w2 at *
  generalize w1.heap.size = b9 at *
  clear hown1 ht1 hb1 hob1 e1 x1
  have Hob := Lib.hid hob
  clear hob
  (with_reducible refine (Hf.out _ e1').mono ?_)
  rintro e w3 ⟨rfl, ht3⟩
  have e3 := e1'.trans' ht3
  have y0 := keepc e3 id c0
  have y1 := keepc e3 id d1
  have pc0 := keepc ht3 id pc0
  have pc1 := keepc ht3 id pc1
  have hob3 := Hob.out.ext ht3
  have hsz3 := ht3.size
  clear Hob
  have Hob3 := Lib.hid hob3
  clear hob3
  go_wp2_with (fail)
  refine wp_region_plan (.take 0 (.take 1 (.take 2 (.take 3 (.take 4 (.take 5 (.take 6 (.take 8 (.take 11 (.take 12 (.take 13 (.take 14 (.take 15 (.take 16 (.take 17 (.two 7 9 (.must 9 (.must 10 (.must 18 (.take 19 (.take 20 (.last 21 .done)))))) (.must 7 (.must 10 (.must 18 (.take 19 (.take 20 (.last 21 .done)))))))))))))))))))))) (fun wy => wy.cell? ⟨r0, 0, none⟩ = some (.slice (some ⟨b, off, none⟩) es.length c) ∧ wy.cell? ⟨b9, 0, none⟩ = some (.slice qa k.length qc) ∧ wy.cell? ⟨b9, 1, none⟩ = some (.int .u64 v)) (by kernel_rfl) (by kernel_rfl) (by kernel_rfl) rfl ?_ (fun KK hKK => ?_)
  · exact ⟨y0, pc0, pc1⟩
  repeat (first
    | (refine wpPlan_take (v := ?_) rfl (by rfl) (fun W hW => ?_) ?_; rotate_left; (focus ((try dsimp only at hW); go_split_ands; go_simp; (try with_reducible rfl); done)); (try simp only [Act.put, List.setIfInBounds_toArray, List.set_cons_zero, List.set_cons_succ]))
    | (refine wpPlan_skip rfl (by rfl) ?_; (try simp only [Act.put, List.setIfInBounds_toArray, List.set_cons_zero, List.set_cons_succ])))
  have hs2' : Src w (if c = n + 1 then some ⟨b, off, none⟩ else some ⟨b, off + (n + 1) * 2, none⟩) (flat (es.drop (n + 1))) := by
    split
    · rw [List.drop_of_length_le (by omega)]
      intro j u hu
      simp [flat] at hu
    · exact Hs2.out
  have hAn : (if c = n + 1 then some (⟨b, off, none⟩ : Addr) else some ⟨b, off + (n + 1) * 2, none⟩) = none → c - (n + 1) = 0 := by split <;> simp
  generalize (if c = n + 1 then some (⟨b, off, none⟩ : Addr) else some ⟨b, off + (n + 1) * 2, none⟩) = ad at *
  have Hs2' := Lib.hid hs2'
  clear hs2'
  have HAn := Lib.hid hAn
  clear hAn
  have e4 := e3.drew
  refine wpPlan_two ?_ ?_
  · refine wpPlan_must rfl (by rfl) (fun K hK => ?_)
    refine wp_push_any _ _ _ 22 rfl 33 _ 2 32 Tryd.underlying22 info_pair rfl (by decide) (.slice none 0 0) 0 [] rfl (World.ownsRow_nil _ _ _ _) (some ⟨b, off, none⟩) n c rfl (fun h => by cases h) (flat (es.take n)) (by omega) (by rw [flat_length, List.length_take]; omega) (Hs1.out.ext e4) Hone1.out (by simp [maxLen]; omega) (by omega) ?_
    intro v4 w4 hown4 ht4 hb4
    rw [Nat.zero_add, List.nil_append] at hown4
    obtain ⟨va, vc, rfl⟩ := own_len hown4
    have x4 : Ext w3 w4 := (Touch.refl _ _).drew.ext_new ht4 (fun i hi => by simp [Value.ownBlock] at hi)
    refine hK.out _ _ ?_ ?_
    · exact ⟨keepc x4 id y0, keepc x4 id pc0, keepc x4 id pc1⟩
    clear hK K
    (try simp only [Act.put, List.setIfInBounds_toArray, List.set_cons_zero, List.set_cons_succ])
    refine wpPlan_must rfl (by rfl) (fun K hK => ?_)
    go_simp
    refine hK.out _ _ ?_ ?_
    · exact ⟨keepc (x4.alloc _) id y0, keepc (x4.alloc _) id pc0, keepc (x4.alloc _) id pc1⟩
    clear hK K
    (try simp only [Act.put, List.setIfInBounds_toArray, List.set_cons_zero, List.set_cons_succ])
    have x5 := x4.alloc (.cells #[.slice qa k.length qc, .int .u64 v] 33)
    have hown1b : ∀ b', (Value.slice va n vc).ownBlock = some b' → w3.heap.size ≤ b' := fun b' hb' => by
      rcases hb4 with h1 | h1
      · rw [h1] at hb'; simp [Value.ownBlock] at hb'
      · rw [h1] at hb'; cases hb'; exact Nat.le_refl _
    have hown5 := own_keep hown4 ((Touch.refl (fun _ => False) w4).alloc (.cells #[.slice qa k.length qc, .int .u64 v] 33)) (fun _ _ h => h)
    have hsrc := src_pair w4 (.slice qa k.length qc) v 33
    refine wpPlan_must rfl (by rfl) (fun K hK => ?_)
    refine wp_push_any _ _ _ 22 rfl 33 _ 2 32 Tryd.underlying22 info_pair rfl (by decide) (.slice va n vc) n (flat (es.take n)) rfl hown5 (some ⟨w4.heap.size, 0, none⟩) 1 1 rfl (fun h => by cases h) [.slice qa k.length qc, .int .u64 v] (by omega) rfl hsrc (pair_one Hob3.out _) (by simp [maxLen]; omega) (by omega) ?_
    intro v6 w6 hown6 ht6 hb6
    have x6 : Ext w3 w6 := x5.ext_new ht6 (fun i hi => hown1b i hi)
    have hown6b : ∀ b', v6.ownBlock = some b' → w3.heap.size ≤ b' := fun b' hb' => by
      rcases hb6 with h1 | h1
      · exact hown1b b' (h1 ▸ hb')
      · rw [h1] at hb'; cases hb'; exact x5.size
    obtain ⟨v6a, v6c, rfl⟩ := own_len hown6
    refine hK.out _ _ ?_ ?_
    · exact ⟨keepc x6 id y0, keepc x6 id pc0, keepc x6 id pc1⟩
    clear hK K
    (try simp only [Act.put, List.setIfInBounds_toArray, List.set_cons_zero, List.set_cons_succ])
    refine wpPlan_must rfl (by rfl) (fun K hK => ?_)
    refine wp_push_any _ _ _ 22 rfl 33 _ 2 32 Tryd.underlying22 info_pair rfl (by decide) (.slice v6a (n + 1) v6c) (n + 1) (flat (es.take n) ++ [.slice qa k.length qc, .int .u64 v]) rfl hown6 ad (es.length - (n + 1)) (c - (n + 1)) rfl HAn.out (flat (es.drop (n + 1))) (by omega) (by rw [flat_length, List.length_drop]) (Hs2'.out.ext (e3.trans' x6)) Hone2.out (by simp [maxLen]; omega) (by omega) ?_
    intro v7 w7 hown7 ht7 hb7
    have x7 : Ext w3 w7 := x6.ext_new ht7 (fun i hi => hown6b i hi)
    have hown7b : ∀ b', v7.ownBlock = some b' → w3.heap.size ≤ b' := fun b' hb' => by
      rcases hb7 with h1 | h1
      · exact hown6b b' (h1 ▸ hb')
      · rw [h1] at hb'; cases hb'; exact x6.size
    obtain ⟨v7a, v7c, rfl⟩ := own_len hown7
    have e7 := e3.trans' x7
    have z7 := keepc e7 id c0
    have zf := keepf (p := ⟨r0, 0, none⟩) e7 hrlt id f0
    refine hK.out _ _ ?_ ?_
    · exact ⟨z7, keepc x7 id pc0, keepc x7 id pc1⟩
    clear hK K
    (try simp only [Act.put, List.setIfInBounds_toArray, List.set_cons_zero, List.set_cons_succ])
    clear ht6 ht7 hb6 hb7 hown6 hown6b hown1b hown5
    have Hown7 := Lib.hid hown7
    clear hown7
    have Hown7b := Lib.hid hown7b
    clear hown7b
    repeat (first
      | (refine wpPlan_take (v := ?_) rfl (by rfl) (fun W hW => ?_) ?_; rotate_left; (focus ((try dsimp only at hW); go_split_ands; go_simp; (try with_reducible rfl); done)); (try simp only [Act.put, List.setIfInBounds_toArray, List.set_cons_zero, List.set_cons_succ]))
      | (refine wpPlan_skip rfl (by rfl) ?_; (try simp only [Act.put, List.setIfInBounds_toArray, List.set_cons_zero, List.set_cons_succ])))
    refine wpPlan_last rfl (by rfl) (fun K hK => ?_)
    go_simp
    refine hK.out _ _ ?_
    clear hK K
    (try simp only [Act.put, List.setIfInBounds_toArray, List.set_cons_zero, List.set_cons_succ])
    refine wpPlan_done (hKK.out _ _ ?_)
    clear hKK KK
    go_wp2_with (fail)
    go_ret3
    have tt : Touch (fun b' => b' = r0) w7 (w7.setCell ⟨r0, 0, none⟩ (.slice v7a (n + 1 + (es.length - (n + 1))) v7c)) := Touch.setCell (S := fun b' => b' = r0) (Touch.refl _ _) (p := ⟨r0, 0, none⟩) (Or.inl rfl) _
    have tw : Touch (fun b' => b' = r0) w (w7.setCell ⟨r0, 0, none⟩ (.slice v7a (n + 1 + (es.length - (n + 1))) v7c)) := Touch.ext_trans e7 tt
    have hes' : (es.take n ++ (.slice qa k.length qc, k, v) :: es.drop (n + 1)).map (·.2) = putK ps k v := by rw [Hpk.out, List.map_append, List.map_cons, List.map_take, List.map_drop, Hes.out]
    have hlen' : (es.take n ++ (.slice qa k.length qc, k, v) :: es.drop (n + 1)).length = n + 1 + (es.length - (n + 1)) := by simp; omega
    have hwr : w.heap.size ≤ w3.heap.size := e3.size
    have hflat : flat (es.take n ++ (.slice qa k.length qc, k, v) :: es.drop (n + 1)) = flat (es.take n) ++ [.slice qa k.length qc, .int .u64 v] ++ flat (es.drop (n + 1)) := by rw [flat_append, flat_cons]; simp
    refine ⟨rfl, Fnew F w.heap.size (w7.setCell ⟨r0, 0, none⟩ (.slice v7a (n + 1 + (es.length - (n + 1))) v7c)).heap.size, rf_mk hes' (World.cell?_setCell_same _ _ _ z7) (by rw [World.frozen?_setCell]; exact zf) HF0.out hrlt (by rw [hlen', hflat]; exact own_keep Hown7.out tt (fun b' hb' h => by have := Hown7b.out b' hb'; omega)) (fun b' hb' => Nat.le_trans hwr (Hown7b.out b' hb'))
      (fun e he => ?_) (fun b' hb' => Nat.lt_of_lt_of_le (HFlt.out b' hb') tw.size) Hpr.out Hpp.out, tw, fun b' hb' => ?_⟩
    · have hem : e ∈ es ∨ e = (.slice qa k.length qc, k, v) := by
        rcases List.mem_append.1 he with h | h
        · exact Or.inl (List.mem_of_mem_take h)
        · rcases List.mem_cons.1 h with h | h
          · exact Or.inr h
          · exact Or.inl (List.mem_of_mem_drop h)
      rcases hem with h | rfl
      · exact ((Hks.out e h).keep tw (fun b' hb' h => hb'.2 h)).mono (fun b' hb' => Or.inl hb')
      · have ho := Hob3.out
        have hr3 : RB w3 (fun b' => w.heap.size ≤ b' ∧ b' < w3.heap.size) (.slice qa k.length qc) k := OB.rb ⟨ho.1, fun b' hb' => ⟨ho.2 b' hb', ho.lt b' hb'⟩⟩
        exact ((hr3.ext x7).keep tt (fun b' hb' h => by have := hb'.1; omega)).mono (fun b' hb' => Or.inr ⟨hb'.1, Nat.lt_of_lt_of_le hb'.2 (Nat.le_trans x7.size tt.size)⟩)
    · rcases hb' with h | h
      · exact Or.inl h
      · exact Or.inr h.1
  · refine wpPlan_must rfl (by rfl) (fun K hK => ?_)
    go_simp
    have x4 : Ext w3 (w3.drew.alloc (.cells #[.slice qa k.length qc, .int .u64 v] 33)) := (Touch.refl _ _).drew.alloc _
    refine hK.out _ _ ?_ ?_
    · exact ⟨keepc x4 id y0, keepc x4 id pc0, keepc x4 id pc1⟩
    clear hK K
    (try simp only [Act.put, List.setIfInBounds_toArray, List.set_cons_zero, List.set_cons_succ])
    refine wpPlan_must rfl (by rfl) (fun K hK => ?_)
    refine wp_push_any _ _ _ 22 rfl 33 _ 2 32 Tryd.underlying22 info_pair rfl (by decide) (.slice none 0 0) 0 [] rfl (World.ownsRow_nil _ _ _ _) (some ⟨b, off, none⟩) n c rfl (fun h => by cases h) (flat (es.take n)) (by omega) (by rw [flat_length, List.length_take]; omega) (Hs1.out.ext (e3.trans' x4)) Hone1.out (by simp [maxLen]; omega) (by omega) ?_
    intro v4 w5 hown5 ht4 hb4
    rw [Nat.zero_add, List.nil_append] at hown5
    obtain ⟨va, vc, rfl⟩ := own_len hown5
    have x45 : Ext (w3.drew.alloc (.cells #[.slice qa k.length qc, .int .u64 v] 33)) w5 := ht4.new (fun i hi => by simp [Value.ownBlock] at hi)
    have x5 := x4.trans' x45
    refine hK.out _ _ ?_ ?_
    · exact ⟨keepc x5 id y0, keepc x5 id pc0, keepc x5 id pc1⟩
    clear hK K
    (try simp only [Act.put, List.setIfInBounds_toArray, List.set_cons_zero, List.set_cons_succ])
    have hown1b : ∀ b', (Value.slice va n vc).ownBlock = some b' → w3.heap.size ≤ b' := fun b' hb' => by
      rcases hb4 with h1 | h1
      · rw [h1] at hb'; simp [Value.ownBlock] at hb'
      · rw [h1] at hb'; cases hb'; exact x4.size
    have hsrc := (src_pair w3.drew (.slice qa k.length qc) v 33).ext x45
    refine wpPlan_must rfl (by rfl) (fun K hK => ?_)
    refine wp_push_any _ _ _ 22 rfl 33 _ 2 32 Tryd.underlying22 info_pair rfl (by decide) (.slice va n vc) n (flat (es.take n)) rfl hown5 (some ⟨w3.drew.heap.size, 0, none⟩) 1 1 rfl (fun h => by cases h) [.slice qa k.length qc, .int .u64 v] (by omega) rfl hsrc (pair_one Hob3.out _) (by simp [maxLen]; omega) (by omega) ?_
    intro v6 w6 hown6 ht6 hb6
    have x6 : Ext w3 w6 := x5.ext_new ht6 (fun i hi => hown1b i hi)
    have hown6b : ∀ b', v6.ownBlock = some b' → w3.heap.size ≤ b' := fun b' hb' => by
      rcases hb6 with h1 | h1
      · exact hown1b b' (h1 ▸ hb')
      · rw [h1] at hb'; cases hb'; exact x5.size
    obtain ⟨v6a, v6c, rfl⟩ := own_len hown6
    refine hK.out _ _ ?_ ?_
    · exact ⟨keepc x6 id y0, keepc x6 id pc0, keepc x6 id pc1⟩
    clear hK K
    (try simp only [Act.put, List.setIfInBounds_toArray, List.set_cons_zero, List.set_cons_succ])
    refine wpPlan_must rfl (by rfl) (fun K hK => ?_)
    refine wp_push_any _ _ _ 22 rfl 33 _ 2 32 Tryd.underlying22 info_pair rfl (by decide) (.slice v6a (n + 1) v6c) (n + 1) (flat (es.take n) ++ [.slice qa k.length qc, .int .u64 v]) rfl hown6 ad (es.length - (n + 1)) (c - (n + 1)) rfl HAn.out (flat (es.drop (n + 1))) (by omega) (by rw [flat_length, List.length_drop]) (Hs2'.out.ext (e3.trans' x6)) Hone2.out (by simp [maxLen]; omega) (by omega) ?_
    intro v7 w7 hown7 ht7 hb7
    have x7 : Ext w3 w7 := x6.ext_new ht7 (fun i hi => hown6b i hi)
    have hown7b : ∀ b', v7.ownBlock = some b' → w3.heap.size ≤ b' := fun b' hb' => by
      rcases hb7 with h1 | h1
      · exact hown6b b' (h1 ▸ hb')
      · rw [h1] at hb'; cases hb'; exact x6.size
    obtain ⟨v7a, v7c, rfl⟩ := own_len hown7
    have e7 := e3.trans' x7
    have z7 := keepc e7 id c0
    have zf := keepf (p := ⟨r0, 0, none⟩) e7 hrlt id f0
    refine hK.out _ _ ?_ ?_
    · exact ⟨z7, keepc x7 id pc0, keepc x7 id pc1⟩
    clear hK K
    (try simp only [Act.put, List.setIfInBounds_toArray, List.set_cons_zero, List.set_cons_succ])
    clear ht6 ht7 hb6 hb7 hown6 hown6b hown1b hown5
    have Hown7 := Lib.hid hown7
    clear hown7
    have Hown7b := Lib.hid hown7b
    clear hown7b
    repeat (first
      | (refine wpPlan_take (v := ?_) rfl (by rfl) (fun W hW => ?_) ?_; rotate_left; (focus ((try dsimp only at hW); go_split_ands; go_simp; (try with_reducible rfl); done)); (try simp only [Act.put, List.setIfInBounds_toArray, List.set_cons_zero, List.set_cons_succ]))
      | (refine wpPlan_skip rfl (by rfl) ?_; (try simp only [Act.put, List.setIfInBounds_toArray, List.set_cons_zero, List.set_cons_succ])))
    refine wpPlan_last rfl (by rfl) (fun K hK => ?_)
    go_simp
    refine hK.out _ _ ?_
    clear hK K
    (try simp only [Act.put, List.setIfInBounds_toArray, List.set_cons_zero, List.set_cons_succ])
    refine wpPlan_done (hKK.out _ _ ?_)
    clear hKK KK
    go_wp2_with (fail)
    go_ret3
    have tt : Touch (fun b' => b' = r0) w7 (w7.setCell ⟨r0, 0, none⟩ (.slice v7a (n + 1 + (es.length - (n + 1))) v7c)) := Touch.setCell (S := fun b' => b' = r0) (Touch.refl _ _) (p := ⟨r0, 0, none⟩) (Or.inl rfl) _
    have tw : Touch (fun b' => b' = r0) w (w7.setCell ⟨r0, 0, none⟩ (.slice v7a (n + 1 + (es.length - (n + 1))) v7c)) := Touch.ext_trans e7 tt
    have hes' : (es.take n ++ (.slice qa k.length qc, k, v) :: es.drop (n + 1)).map (·.2) = putK ps k v := by rw [Hpk.out, List.map_append, List.map_cons, List.map_take, List.map_drop, Hes.out]
    have hlen' : (es.take n ++ (.slice qa k.length qc, k, v) :: es.drop (n + 1)).length = n + 1 + (es.length - (n + 1)) := by simp; omega
    have hwr : w.heap.size ≤ w3.heap.size := e3.size
    have hflat : flat (es.take n ++ (.slice qa k.length qc, k, v) :: es.drop (n + 1)) = flat (es.take n) ++ [.slice qa k.length qc, .int .u64 v] ++ flat (es.drop (n + 1)) := by rw [flat_append, flat_cons]; simp
    refine ⟨rfl, Fnew F w.heap.size (w7.setCell ⟨r0, 0, none⟩ (.slice v7a (n + 1 + (es.length - (n + 1))) v7c)).heap.size, rf_mk hes' (World.cell?_setCell_same _ _ _ z7) (by rw [World.frozen?_setCell]; exact zf) HF0.out hrlt (by rw [hlen', hflat]; exact own_keep Hown7.out tt (fun b' hb' h => by have := Hown7b.out b' hb'; omega)) (fun b' hb' => Nat.le_trans hwr (Hown7b.out b' hb'))
      (fun e he => ?_) (fun b' hb' => Nat.lt_of_lt_of_le (HFlt.out b' hb') tw.size) Hpr.out Hpp.out, tw, fun b' hb' => ?_⟩
    · have hem : e ∈ es ∨ e = (.slice qa k.length qc, k, v) := by
        rcases List.mem_append.1 he with h | h
        · exact Or.inl (List.mem_of_mem_take h)
        · rcases List.mem_cons.1 h with h | h
          · exact Or.inr h
          · exact Or.inl (List.mem_of_mem_drop h)
      rcases hem with h | rfl
      · exact ((Hks.out e h).keep tw (fun b' hb' h => hb'.2 h)).mono (fun b' hb' => Or.inl hb')
      · have ho := Hob3.out
        have hr3 : RB w3 (fun b' => w.heap.size ≤ b' ∧ b' < w3.heap.size) (.slice qa k.length qc) k := OB.rb ⟨ho.1, fun b' hb' => ⟨ho.2 b' hb', ho.lt b' hb'⟩⟩
        exact ((hr3.ext x7).keep tt (fun b' hb' h => by have := hb'.1; omega)).mono (fun b' hb' => Or.inr ⟨hb'.1, Nat.lt_of_lt_of_le hb'.2 (Nat.le_trans x7.size tt.size)⟩)
    · rcases hb' with h | h
      · exact Or.inl h
      · exact Or.inr h.1
end RefG
end Go.Proofs.YtclnnkacfanaiaaDoor

/- The document's own map: Put of a key that is not there. -/
namespace Go.Proofs.YtclnnkacfanaiaaDoor
open Go.RowKit
set_option linter.unusedVariables false
set_option linter.unusedSimpArgs false
namespace RefG
open ModA ModB ModF RefF
variable {F G : Nat → Prop}


set_option maxRecDepth 100000 in
set_option maxHeartbeats 3200000 in
theorem put_nil (w : World) (r0 : Nat) (kw : Value) (k : List Int) (v : Int) (h : Rf w r0 F []) (hnil : w.cell? ⟨r0, 0, none⟩ = some (.slice none 0 0)) (hk : RB w G kw k) (kb : KB k) (hl : k.length ≤ 65535) :
    Calls Tryd.prog 34 #[.pointer (some ⟨r0, 0, none⟩), kw, .int .u64 v] w fun e w' => e = .returned (.tuple #[.int .u64 0, .bool false, .int .i64 0]) ∧ ∃ F', Rf w' r0 F' [(k, v)] ∧ Touch (fun b => b = r0) w w' ∧ ∀ b, F' b → F b ∨ w.heap.size ≤ b := by
  have hmay := rmay_any w G kw k hk
  rw [decide_eq_true hl] at hmay
  obtain ⟨ka, kc, rfl, k1, k2, k3⟩ := hk.shape
  have hf := fun W (t : Ext w W) => RefA.find_any (F := F) (G := G) W r0 (.slice ka k.length kc) [] k (h.ext t) (hk.ext t) kb (by simp)
  rw [show rk [] k = 0 from rfl, show hasK [] k = false from rfl] at hf
  have hpr : Rises [(k, v)] := List.pairwise_singleton _ _
  have hpp : ∀ p ∈ [(k, v)], KB p.1 ∧ p.1.length ≤ 65535 := fun p hp => by
    obtain rfl : p = (k, v) := by simpa using hp
    exact ⟨kb, hl⟩
  obtain ⟨rv, _, f0, _, hF0, hFlt, _, _⟩ := h
  have c0 := hnil
  unfold maxLen at k2
  have hrlt := World.block_lt_of_cell? _ _ c0
  simp only at hrlt
  have Hmay := Lib.hid hmay
  clear hmay
  have Hf := Lib.hid hf
  clear hf
  have Hpr := Lib.hid hpr
  clear hpr
  have Hpp := Lib.hid hpp
  clear hpp
  have HF0 := Lib.hid hF0
  clear hF0
  have HFlt := Lib.hid hFlt
  clear hFlt
  have Hk := Lib.hid hk
  clear hk
  have Hnil := Lib.hid hnil
  clear hnil
  go_enter Tryd.func34, Tryd.ntmps34
  go_wp2_with (fail)
  (with_reducible refine Hmay.out.mono ?_)
  rintro e w0 ⟨rfl, rfl⟩
  go_wp2_with (at_builtin; refine wpList_push_any _ rfl _ _ 23 rfl 5 (.int .u8 0) 1 1 Tryd.underlying23 info_u8 rfl (by decide) (.slice none 0 0) 0 [] rfl (World.ownsRow_nil _ _ _ _) ka k.length kc rfl k3 (ivs .u8 k) k1 (by simp [ivs]) Hk.out.src (ivs_one _ _) (by simp [maxLen]; omega) (by omega) ?_; intro v1 w1 hown1 ht1 hb1; rw [Nat.zero_add, List.nil_append] at hown1; obtain ⟨qa, qc, rfl⟩ := own_len hown1)
  have e1 : Ext w w1 := ht1.new (fun i hi => by simp [Value.ownBlock] at hi)
  have hob1 : OB w1 (Ge w.heap.size) (.slice qa k.length qc) k := ⟨hown1, fun b hb => by
    rcases hb1 with h1 | h1
    · rw [h1] at hb; simp [Value.ownBlock] at hb
    · rw [h1] at hb; cases hb; exact Nat.le_refl _⟩
  have x1 : Ext w1 (w1.alloc (.cells #[.slice qa k.length qc, .int .u64 v] 33)) := (Touch.refl _ _).alloc _
  have hob := hob1.ext x1
  have e1' := e1.trans' x1
  have pc0 : (w1.alloc (.cells #[.slice qa k.length qc, .int .u64 v] 33)).cell? ⟨w1.heap.size, 0, none⟩ = some (.slice qa k.length qc) := by simp
  have pc1 : (w1.alloc (.cells #[.slice qa k.length qc, .int .u64 v] 33)).cell? ⟨w1.heap.size, 1, none⟩ = some (.int .u64 v) := by simp
  have hb9 : w1.heap.size < (w1.alloc (.cells #[.slice qa k.length qc, .int .u64 v] 33)).heap.size := by simp
  have hb9' := e1.size
  generalize w1.alloc (.cells #[.slice qa k.length qc, .int .u64 v] 33) = w2 at *
  generalize w1.heap.size = b9 at *
  clear hown1 ht1 hb1 hob1 e1 x1
  have Hob := Lib.hid hob
  clear hob
  (with_reducible refine (Hf.out _ e1').mono ?_)
  rintro e w3 ⟨rfl, ht3⟩
  have e3 := e1'.trans' ht3
  have y0 := keepc e3 id c0
  have pc0 := keepc ht3 id pc0
  have pc1 := keepc ht3 id pc1
  have hob3 := Hob.out.ext ht3
  have hsz3 := ht3.size
  clear Hob
  have Hob3 := Lib.hid hob3
  clear hob3
  go_wp2_with (fail)
  refine wp_region_plan (.take 0 (.take 1 (.take 2 (.take 3 (.take 4 (.take 5 (.take 6 (.take 8 (.take 11 (.take 12 (.take 13 (.take 14 (.take 15 (.take 16 (.two 7 9 (.must 9 (.must 10 (.must 17 (.take 18 (.take 19 (.last 20 .done)))))) (.must 7 (.must 10 (.must 17 (.take 18 (.take 19 (.last 20 .done))))))))))))))))))))) (fun wy => wy.cell? ⟨r0, 0, none⟩ = some (.slice none 0 0) ∧ wy.cell? ⟨b9, 0, none⟩ = some (.slice qa k.length qc) ∧ wy.cell? ⟨b9, 1, none⟩ = some (.int .u64 v)) (by kernel_rfl) (by kernel_rfl) (by kernel_rfl) rfl ?_ (fun KK hKK => ?_)
  · exact ⟨y0, pc0, pc1⟩
  repeat (first
    | (refine wpPlan_take (v := ?_) rfl (by rfl) (fun W hW => ?_) ?_; rotate_left; (focus ((try dsimp only at hW); go_split_ands; go_simp; (try with_reducible rfl); done)); (try simp only [Act.put, List.setIfInBounds_toArray, List.set_cons_zero, List.set_cons_succ]))
    | (refine wpPlan_skip rfl (by rfl) ?_; (try simp only [Act.put, List.setIfInBounds_toArray, List.set_cons_zero, List.set_cons_succ])))
  have e4 := e3.drew
  refine wpPlan_two ?_ ?_
  · refine wpPlan_must rfl (by rfl) (fun K hK => ?_)
    refine wp_push_any _ _ _ 22 rfl 33 _ 2 32 Tryd.underlying22 info_pair rfl (by decide) (.slice none 0 0) 0 [] rfl (World.ownsRow_nil _ _ _ _) none 0 0 rfl (fun _ => rfl) [] (by omega) rfl (fun j u hu => by simp at hu) (fun u hu => by simp at hu) (by simp [maxLen]) (by omega) ?_
    intro v4 w4 hown4 ht4 hb4
    rw [Nat.zero_add, List.nil_append] at hown4
    obtain ⟨va, vc, rfl⟩ := own_len hown4
    have x4 : Ext w3 w4 := (Touch.refl _ _).drew.ext_new ht4 (fun i hi => by simp [Value.ownBlock] at hi)
    refine hK.out _ _ ?_ ?_
    · exact ⟨keepc x4 id y0, keepc x4 id pc0, keepc x4 id pc1⟩
    clear hK K
    (try simp only [Act.put, List.setIfInBounds_toArray, List.set_cons_zero, List.set_cons_succ])
    refine wpPlan_must rfl (by rfl) (fun K hK => ?_)
    go_simp
    refine hK.out _ _ ?_ ?_
    · exact ⟨keepc (x4.alloc _) id y0, keepc (x4.alloc _) id pc0, keepc (x4.alloc _) id pc1⟩
    clear hK K
    (try simp only [Act.put, List.setIfInBounds_toArray, List.set_cons_zero, List.set_cons_succ])
    have x5 := x4.alloc (.cells #[.slice qa k.length qc, .int .u64 v] 33)
    have hown1b : ∀ b', (Value.slice va 0 vc).ownBlock = some b' → w3.heap.size ≤ b' := fun b' hb' => by
      rcases hb4 with h1 | h1
      · rw [h1] at hb'; simp [Value.ownBlock] at hb'
      · rw [h1] at hb'; cases hb'; exact Nat.le_refl _
    have hown5 := own_keep hown4 ((Touch.refl (fun _ => False) w4).alloc (.cells #[.slice qa k.length qc, .int .u64 v] 33)) (fun _ _ h => h)
    have hsrc := src_pair w4 (.slice qa k.length qc) v 33
    refine wpPlan_must rfl (by rfl) (fun K hK => ?_)
    refine wp_push_any _ _ _ 22 rfl 33 _ 2 32 Tryd.underlying22 info_pair rfl (by decide) (.slice va 0 vc) 0 [] rfl hown5 (some ⟨w4.heap.size, 0, none⟩) 1 1 rfl (fun h => by cases h) [.slice qa k.length qc, .int .u64 v] (by omega) rfl hsrc (pair_one Hob3.out _) (by simp [maxLen]) (by omega) ?_
    intro v6 w6 hown6 ht6 hb6
    have x6 : Ext w3 w6 := x5.ext_new ht6 (fun i hi => hown1b i hi)
    have hown6b : ∀ b', v6.ownBlock = some b' → w3.heap.size ≤ b' := fun b' hb' => by
      rcases hb6 with h1 | h1
      · exact hown1b b' (h1 ▸ hb')
      · rw [h1] at hb'; cases hb'; exact x5.size
    obtain ⟨v6a, v6c, rfl⟩ := own_len hown6
    refine hK.out _ _ ?_ ?_
    · exact ⟨keepc x6 id y0, keepc x6 id pc0, keepc x6 id pc1⟩
    clear hK K
    (try simp only [Act.put, List.setIfInBounds_toArray, List.set_cons_zero, List.set_cons_succ])
    refine wpPlan_must rfl (by rfl) (fun K hK => ?_)
    refine wp_push_any _ _ _ 22 rfl 33 _ 2 32 Tryd.underlying22 info_pair rfl (by decide) (.slice v6a (0 + 1) v6c) (0 + 1) ([] ++ [.slice qa k.length qc, .int .u64 v]) rfl hown6 none 0 0 rfl (fun _ => rfl) [] (by omega) rfl (fun j u hu => by simp at hu) (fun u hu => by simp at hu) (by simp [maxLen]) (by omega) ?_
    intro v7 w7 hown7 ht7 hb7
    have x7 : Ext w3 w7 := x6.ext_new ht7 (fun i hi => hown6b i hi)
    have hown7b : ∀ b', v7.ownBlock = some b' → w3.heap.size ≤ b' := fun b' hb' => by
      rcases hb7 with h1 | h1
      · exact hown6b b' (h1 ▸ hb')
      · rw [h1] at hb'; cases hb'; exact x6.size
    obtain ⟨v7a, v7c, rfl⟩ := own_len hown7
    have e7 := e3.trans' x7
    have z7 := keepc e7 id c0
    have zf := keepf (p := ⟨r0, 0, none⟩) e7 hrlt id f0
    refine hK.out _ _ ?_ ?_
    · exact ⟨z7, keepc x7 id pc0, keepc x7 id pc1⟩
    clear hK K
    (try simp only [Act.put, List.setIfInBounds_toArray, List.set_cons_zero, List.set_cons_succ])
    clear ht6 ht7 hb6 hb7 hown6 hown6b hown1b hown5
    have Hown7 := Lib.hid hown7
    clear hown7
    have Hown7b := Lib.hid hown7b
    clear hown7b
    repeat (first
      | (refine wpPlan_take (v := ?_) rfl (by rfl) (fun W hW => ?_) ?_; rotate_left; (focus ((try dsimp only at hW); go_split_ands; go_simp; (try with_reducible rfl); done)); (try simp only [Act.put, List.setIfInBounds_toArray, List.set_cons_zero, List.set_cons_succ]))
      | (refine wpPlan_skip rfl (by rfl) ?_; (try simp only [Act.put, List.setIfInBounds_toArray, List.set_cons_zero, List.set_cons_succ])))
    refine wpPlan_last rfl (by rfl) (fun K hK => ?_)
    go_simp
    refine hK.out _ _ ?_
    clear hK K
    (try simp only [Act.put, List.setIfInBounds_toArray, List.set_cons_zero, List.set_cons_succ])
    refine wpPlan_done (hKK.out _ _ ?_)
    clear hKK KK
    go_wp2_with (fail)
    go_ret3
    have tt : Touch (fun b' => b' = r0) w7 (w7.setCell ⟨r0, 0, none⟩ (.slice v7a (0 + 1 + 0) v7c)) := Touch.setCell (S := fun b' => b' = r0) (Touch.refl _ _) (p := ⟨r0, 0, none⟩) (Or.inl rfl) _
    have tw : Touch (fun b' => b' = r0) w (w7.setCell ⟨r0, 0, none⟩ (.slice v7a (0 + 1 + 0) v7c)) := Touch.ext_trans e7 tt
    have hlen' : ([(.slice qa k.length qc, k, v)] : List El).length = 0 + 1 + 0 := rfl
    have hwr : w.heap.size ≤ w3.heap.size := e3.size
    have hflat : flat ([(.slice qa k.length qc, k, v)] : List El) = [] ++ [.slice qa k.length qc, .int .u64 v] ++ [] := rfl
    refine ⟨rfl, Fnew F w.heap.size (w7.setCell ⟨r0, 0, none⟩ (.slice v7a (0 + 1 + 0) v7c)).heap.size, rf_mk (es' := [(.slice qa k.length qc, k, v)]) rfl (World.cell?_setCell_same _ _ _ z7) (by rw [World.frozen?_setCell]; exact zf) HF0.out hrlt (by rw [hlen', hflat]; exact own_keep Hown7.out tt (fun b' hb' h => by have := Hown7b.out b' hb'; omega)) (fun b' hb' => Nat.le_trans hwr (Hown7b.out b' hb'))
      (fun e he => ?_) (fun b' hb' => Nat.lt_of_lt_of_le (HFlt.out b' hb') tw.size) Hpr.out Hpp.out, tw, fun b' hb' => ?_⟩
    · obtain rfl : e = (.slice qa k.length qc, k, v) := by simpa using he
      have ho := Hob3.out
      have hr3 : RB w3 (fun b' => w.heap.size ≤ b' ∧ b' < w3.heap.size) (.slice qa k.length qc) k := OB.rb ⟨ho.1, fun b' hb' => ⟨ho.2 b' hb', ho.lt b' hb'⟩⟩
      exact ((hr3.ext x7).keep tt (fun b' hb' h => by have := hb'.1; omega)).mono (fun b' hb' => Or.inr ⟨hb'.1, Nat.lt_of_lt_of_le hb'.2 (Nat.le_trans x7.size tt.size)⟩)
    · rcases hb' with h | h
      · exact Or.inl h
      · exact Or.inr h.1
  · refine wpPlan_must rfl (by rfl) (fun K hK => ?_)
    go_simp
    have x4 : Ext w3 (w3.drew.alloc (.cells #[.slice qa k.length qc, .int .u64 v] 33)) := (Touch.refl _ _).drew.alloc _
    refine hK.out _ _ ?_ ?_
    · exact ⟨keepc x4 id y0, keepc x4 id pc0, keepc x4 id pc1⟩
    clear hK K
    (try simp only [Act.put, List.setIfInBounds_toArray, List.set_cons_zero, List.set_cons_succ])
    refine wpPlan_must rfl (by rfl) (fun K hK => ?_)
    refine wp_push_any _ _ _ 22 rfl 33 _ 2 32 Tryd.underlying22 info_pair rfl (by decide) (.slice none 0 0) 0 [] rfl (World.ownsRow_nil _ _ _ _) none 0 0 rfl (fun _ => rfl) [] (by omega) rfl (fun j u hu => by simp at hu) (fun u hu => by simp at hu) (by simp [maxLen]) (by omega) ?_
    intro v4 w5 hown5 ht4 hb4
    rw [Nat.zero_add, List.nil_append] at hown5
    obtain ⟨va, vc, rfl⟩ := own_len hown5
    have x45 : Ext (w3.drew.alloc (.cells #[.slice qa k.length qc, .int .u64 v] 33)) w5 := ht4.new (fun i hi => by simp [Value.ownBlock] at hi)
    have x5 := x4.trans' x45
    refine hK.out _ _ ?_ ?_
    · exact ⟨keepc x5 id y0, keepc x5 id pc0, keepc x5 id pc1⟩
    clear hK K
    (try simp only [Act.put, List.setIfInBounds_toArray, List.set_cons_zero, List.set_cons_succ])
    have hown1b : ∀ b', (Value.slice va 0 vc).ownBlock = some b' → w3.heap.size ≤ b' := fun b' hb' => by
      rcases hb4 with h1 | h1
      · rw [h1] at hb'; simp [Value.ownBlock] at hb'
      · rw [h1] at hb'; cases hb'; exact x4.size
    have hsrc := (src_pair w3.drew (.slice qa k.length qc) v 33).ext x45
    refine wpPlan_must rfl (by rfl) (fun K hK => ?_)
    refine wp_push_any _ _ _ 22 rfl 33 _ 2 32 Tryd.underlying22 info_pair rfl (by decide) (.slice va 0 vc) 0 [] rfl hown5 (some ⟨w3.drew.heap.size, 0, none⟩) 1 1 rfl (fun h => by cases h) [.slice qa k.length qc, .int .u64 v] (by omega) rfl hsrc (pair_one Hob3.out _) (by simp [maxLen]) (by omega) ?_
    intro v6 w6 hown6 ht6 hb6
    have x6 : Ext w3 w6 := x5.ext_new ht6 (fun i hi => hown1b i hi)
    have hown6b : ∀ b', v6.ownBlock = some b' → w3.heap.size ≤ b' := fun b' hb' => by
      rcases hb6 with h1 | h1
      · exact hown1b b' (h1 ▸ hb')
      · rw [h1] at hb'; cases hb'; exact x5.size
    obtain ⟨v6a, v6c, rfl⟩ := own_len hown6
    refine hK.out _ _ ?_ ?_
    · exact ⟨keepc x6 id y0, keepc x6 id pc0, keepc x6 id pc1⟩
    clear hK K
    (try simp only [Act.put, List.setIfInBounds_toArray, List.set_cons_zero, List.set_cons_succ])
    refine wpPlan_must rfl (by rfl) (fun K hK => ?_)
    refine wp_push_any _ _ _ 22 rfl 33 _ 2 32 Tryd.underlying22 info_pair rfl (by decide) (.slice v6a (0 + 1) v6c) (0 + 1) ([] ++ [.slice qa k.length qc, .int .u64 v]) rfl hown6 none 0 0 rfl (fun _ => rfl) [] (by omega) rfl (fun j u hu => by simp at hu) (fun u hu => by simp at hu) (by simp [maxLen]) (by omega) ?_
    intro v7 w7 hown7 ht7 hb7
    have x7 : Ext w3 w7 := x6.ext_new ht7 (fun i hi => hown6b i hi)
    have hown7b : ∀ b', v7.ownBlock = some b' → w3.heap.size ≤ b' := fun b' hb' => by
      rcases hb7 with h1 | h1
      · exact hown6b b' (h1 ▸ hb')
      · rw [h1] at hb'; cases hb'; exact x6.size
    obtain ⟨v7a, v7c, rfl⟩ := own_len hown7
    have e7 := e3.trans' x7
    have z7 := keepc e7 id c0
    have zf := keepf (p := ⟨r0, 0, none⟩) e7 hrlt id f0
    refine hK.out _ _ ?_ ?_
    · exact ⟨z7, keepc x7 id pc0, keepc x7 id pc1⟩
    clear hK K
    (try simp only [Act.put, List.setIfInBounds_toArray, List.set_cons_zero, List.set_cons_succ])
    clear ht6 ht7 hb6 hb7 hown6 hown6b hown1b hown5
    have Hown7 := Lib.hid hown7
    clear hown7
    have Hown7b := Lib.hid hown7b
    clear hown7b
    repeat (first
      | (refine wpPlan_take (v := ?_) rfl (by rfl) (fun W hW => ?_) ?_; rotate_left; (focus ((try dsimp only at hW); go_split_ands; go_simp; (try with_reducible rfl); done)); (try simp only [Act.put, List.setIfInBounds_toArray, List.set_cons_zero, List.set_cons_succ]))
      | (refine wpPlan_skip rfl (by rfl) ?_; (try simp only [Act.put, List.setIfInBounds_toArray, List.set_cons_zero, List.set_cons_succ])))
    refine wpPlan_last rfl (by rfl) (fun K hK => ?_)
    go_simp
    refine hK.out _ _ ?_
    clear hK K
    (try simp only [Act.put, List.setIfInBounds_toArray, List.set_cons_zero, List.set_cons_succ])
    refine wpPlan_done (hKK.out _ _ ?_)
    clear hKK KK
    go_wp2_with (fail)
    go_ret3
    have tt : Touch (fun b' => b' = r0) w7 (w7.setCell ⟨r0, 0, none⟩ (.slice v7a (0 + 1 + 0) v7c)) := Touch.setCell (S := fun b' => b' = r0) (Touch.refl _ _) (p := ⟨r0, 0, none⟩) (Or.inl rfl) _
    have tw : Touch (fun b' => b' = r0) w (w7.setCell ⟨r0, 0, none⟩ (.slice v7a (0 + 1 + 0) v7c)) := Touch.ext_trans e7 tt
    have hlen' : ([(.slice qa k.length qc, k, v)] : List El).length = 0 + 1 + 0 := rfl
    have hwr : w.heap.size ≤ w3.heap.size := e3.size
    have hflat : flat ([(.slice qa k.length qc, k, v)] : List El) = [] ++ [.slice qa k.length qc, .int .u64 v] ++ [] := rfl
    refine ⟨rfl, Fnew F w.heap.size (w7.setCell ⟨r0, 0, none⟩ (.slice v7a (0 + 1 + 0) v7c)).heap.size, rf_mk (es' := [(.slice qa k.length qc, k, v)]) rfl (World.cell?_setCell_same _ _ _ z7) (by rw [World.frozen?_setCell]; exact zf) HF0.out hrlt (by rw [hlen', hflat]; exact own_keep Hown7.out tt (fun b' hb' h => by have := Hown7b.out b' hb'; omega)) (fun b' hb' => Nat.le_trans hwr (Hown7b.out b' hb'))
      (fun e he => ?_) (fun b' hb' => Nat.lt_of_lt_of_le (HFlt.out b' hb') tw.size) Hpr.out Hpp.out, tw, fun b' hb' => ?_⟩
    · obtain rfl : e = (.slice qa k.length qc, k, v) := by simpa using he
      have ho := Hob3.out
      have hr3 : RB w3 (fun b' => w.heap.size ≤ b' ∧ b' < w3.heap.size) (.slice qa k.length qc) k := OB.rb ⟨ho.1, fun b' hb' => ⟨ho.2 b' hb', ho.lt b' hb'⟩⟩
      exact ((hr3.ext x7).keep tt (fun b' hb' h => by have := hb'.1; omega)).mono (fun b' hb' => Or.inr ⟨hb'.1, Nat.lt_of_lt_of_le hb'.2 (Nat.le_trans x7.size tt.size)⟩)
    · rcases hb' with h | h
      · exact Or.inl h
      · exact Or.inr h.1





set_option maxRecDepth 100000 in
set_option maxHeartbeats 3200000 in
theorem put_new (w : World) (r0 : Nat) (kw : Value) (ps : Prs) (k : List Int) (v : Int) (h : Rf w r0 F ps) (hk : RB w G kw k) (kb : KB k) (hl : k.length ≤ 65535) (hm : ps.length ≤ 1000000) (hh : hasK ps k = false) :
    Calls Tryd.prog 34 #[.pointer (some ⟨r0, 0, none⟩), kw, .int .u64 v] w fun e w' => e = .returned (.tuple #[.int .u64 0, .bool false, .int .i64 0]) ∧ ∃ F', Rf w' r0 F' (putK ps k v) ∧ Touch (fun b => b = r0) w w' ∧ ∀ b, F' b → F b ∨ w.heap.size ≤ b := by
  have hmay := rmay_any w G kw k hk
  rw [decide_eq_true hl] at hmay
  obtain ⟨ka, kc, rfl, k1, k2, k3⟩ := hk.shape
  have hf := fun W (t : Ext w W) => RefA.find_any (F := F) (G := G) W r0 (.slice ka k.length kc) ps k (h.ext t) (hk.ext t) kb hm
  rw [hh] at hf
  have hjl := rk_le ps k
  have hpk : putK ps k v = ps.take (rk ps k) ++ (k, v) :: ps.drop (rk ps k) := by unfold putK; rw [hh]; simp
  have hpr := putK_rises h.rises k v
  have hpp : ∀ p ∈ putK ps k v, KB p.1 ∧ p.1.length ≤ 65535 := fun p hp => by
    rcases putK_mem hp with rfl | h1
    · exact ⟨kb, hl⟩
    · exact ⟨h.kb p h1, h.long p h1⟩
  have h00 := h
  obtain ⟨rv, c0, f0, hrp, hF0, hFlt, _, _⟩ := h
  obtain ⟨es, hes, hc2, hks⟩ := hrp
  have hel : es.length = ps.length := by rw [← hes]; simp
  obtain ⟨a, c, rfl, l1, m1, _⟩ := hc2.shape
  by_cases ha : a = none
  · subst ha
    obtain rfl : c = 0 := hc2.len.2.2.2 rfl
    obtain rfl : es = [] := List.eq_nil_of_length_eq_zero (by omega)
    obtain rfl : ps = [] := hes.symm
    refine (put_nil w r0 _ k v h00 c0 hk kb hl).mono ?_
    rintro e w' h1
    rw [hpk]
    exact h1
  clear h00
  have hN : a ≠ none := ha
  clear ha
  unfold maxLen at m1 k2
  generalize rk ps k = n at *
  have hs1 := (hc2.take n (by omega)).src
  have hone1 : ∀ u ∈ flat (es.take n), u.oneCell' = true := flat_one_cell _ (fun e he => by obtain ⟨a, c, h1, _⟩ := (hks e (List.mem_of_mem_take he)).shape; rw [h1]; rfl)
  have hone2 : ∀ u ∈ flat (es.drop n), u.oneCell' = true := flat_one_cell _ (fun e he => by obtain ⟨a, c, h1, _⟩ := (hks e (List.mem_of_mem_drop he)).shape; rw [h1]; rfl)
  have hrlt := World.block_lt_of_cell? _ _ c0
  simp only at hrlt
  have i0 : (0 : Int) ≤ (n : Int) := by omega
  have i1 : (n : Int) ≤ (es.length : Int) := by omega
  have i2 : (n : Int) ≤ (c : Int) := by omega
  have i7 : ((es.length : Int) ≤ (c : Int)) := by omega
  have hel6 : es.length ≤ 1000000 := by omega
  have hnn : a = none → c = 0 := hc2.len.2.2.2
  have HN := Lib.hid hN
  clear hN
  have Hmay := Lib.hid hmay
  clear hmay
  have Hf := Lib.hid hf
  clear hf
  have Hpk := Lib.hid hpk
  clear hpk
  have Hpr := Lib.hid hpr
  clear hpr
  have Hpp := Lib.hid hpp
  clear hpp
  have HF0 := Lib.hid hF0
  clear hF0
  have HFlt := Lib.hid hFlt
  clear hFlt
  have Hes := Lib.hid hes
  clear hes
  have Hc2 := Lib.hid hc2
  clear hc2
  have Hks := Lib.hid hks
  clear hks
  have Hel := Lib.hid hel
  clear hel
  have Hs1 := Lib.hid hs1
  clear hs1
  have Hone1 := Lib.hid hone1
  clear hone1
  have Hone2 := Lib.hid hone2
  clear hone2
  have Hk := Lib.hid hk
  clear hk
  have Hh := Lib.hid hh
  clear hh
  go_enter Tryd.func34, Tryd.ntmps34
  go_wp2_with (fail)
  (with_reducible refine Hmay.out.mono ?_)
  rintro e w0 ⟨rfl, rfl⟩
  go_wp2_with (at_builtin; refine wpList_push_any _ rfl _ _ 23 rfl 5 (.int .u8 0) 1 1 Tryd.underlying23 info_u8 rfl (by decide) (.slice none 0 0) 0 [] rfl (World.ownsRow_nil _ _ _ _) ka k.length kc rfl k3 (ivs .u8 k) k1 (by simp [ivs]) Hk.out.src (ivs_one _ _) (by simp [maxLen]; omega) (by omega) ?_; intro v1 w1 hown1 ht1 hb1; rw [Nat.zero_add, List.nil_append] at hown1; obtain ⟨qa, qc, rfl⟩ := own_len hown1)
  have e1 : Ext w w1 := ht1.new (fun i hi => by simp [Value.ownBlock] at hi)
  have hob1 : OB w1 (Ge w.heap.size) (.slice qa k.length qc) k := ⟨hown1, fun b hb => by
    rcases hb1 with h1 | h1
    · rw [h1] at hb; simp [Value.ownBlock] at hb
    · rw [h1] at hb; cases hb; exact Nat.le_refl _⟩
  have x1 : Ext w1 (w1.alloc (.cells #[.slice qa k.length qc, .int .u64 v] 33)) := (Touch.refl _ _).alloc _
  have hob := hob1.ext x1
  have e1' := e1.trans' x1
  have pc0 : (w1.alloc (.cells #[.slice qa k.length qc, .int .u64 v] 33)).cell? ⟨w1.heap.size, 0, none⟩ = some (.slice qa k.length qc) := by simp
  have pc1 : (w1.alloc (.cells #[.slice qa k.length qc, .int .u64 v] 33)).cell? ⟨w1.heap.size, 1, none⟩ = some (.int .u64 v) := by simp
  have hb9 : w1.heap.size < (w1.alloc (.cells #[.slice qa k.length qc, .int .u64 v] 33)).heap.size := by simp
  have hb9' := e1.size
  generalize w1.alloc (.cells #[.slice qa k.length qc, .int .u64 v] 33) = w2 at *
  generalize w1.heap.size = b9 at *
  clear hown1 ht1 hb1 hob1 e1 x1
  have Hob := Lib.hid hob
  clear hob
  (with_reducible refine (Hf.out _ e1').mono ?_)
  rintro e w3 ⟨rfl, ht3⟩
  have e3 := e1'.trans' ht3
  have y0 := keepc e3 id c0
  have pc0 := keepc ht3 id pc0
  have pc1 := keepc ht3 id pc1
  have hob3 := Hob.out.ext ht3
  have hsz3 := ht3.size
  clear Hob
  have Hob3 := Lib.hid hob3
  clear hob3
  rcases Nat.eq_zero_or_pos es.length with hz | hz
  · have hdn : es.drop n = [] := List.drop_of_length_le (by omega)
    have Hz := Lib.hid hz
    clear hz
    have Hdn := Lib.hid hdn
    clear hdn
    have Hnn := Lib.hid hnn
    clear hnn
    cases a with
    | none => exact absurd rfl HN.out
    | some ad0 =>
      go_wp2_with (fail)
      refine wp_region_plan (.take 0 (.take 1 (.take 2 (.take 3 (.take 4 (.take 5 (.take 6 (.take 8 (.take 11 (.take 12 (.take 13 (.take 14 (.take 15 (.take 16 (.two 7 9 (.must 9 (.must 10 (.must 17 (.take 18 (.take 19 (.last 20 .done)))))) (.must 7 (.must 10 (.must 17 (.take 18 (.take 19 (.last 20 .done))))))))))))))))))))) (fun wy => wy.cell? ⟨r0, 0, none⟩ = some (.slice (some ad0) es.length c) ∧ wy.cell? ⟨b9, 0, none⟩ = some (.slice qa k.length qc) ∧ wy.cell? ⟨b9, 1, none⟩ = some (.int .u64 v)) (by kernel_rfl) (by kernel_rfl) (by kernel_rfl) rfl ?_ (fun KK hKK => ?_)
      · exact ⟨y0, pc0, pc1⟩
      repeat (first
        | (refine wpPlan_take (v := ?_) rfl (by rfl) (fun W hW => ?_) ?_; rotate_left; (focus ((try dsimp only at hW); go_split_ands; go_simp; (try with_reducible rfl); done)); (try simp only [Act.put, List.setIfInBounds_toArray, List.set_cons_zero, List.set_cons_succ]))
        | (refine wpPlan_skip rfl (by rfl) ?_; (try simp only [Act.put, List.setIfInBounds_toArray, List.set_cons_zero, List.set_cons_succ])))
      have hs2' : Src w (if c = n then some ad0 else some (ad0.add (n * 2))) (flat (es.drop n)) := by
        rw [Hdn.out]
        intro j u hu
        simp [flat] at hu
      have hAn : (if c = n then some ad0 else some (ad0.add (n * 2))) = none → c - n = 0 := by split <;> simp
      generalize (if c = n then some ad0 else some (ad0.add (n * 2))) = ad at *
      have Hs2' := Lib.hid hs2'
      clear hs2'
      have HAn := Lib.hid hAn
      clear hAn
      have e4 := e3.drew
      refine wpPlan_two ?_ ?_
      · refine wpPlan_must rfl (by rfl) (fun K hK => ?_)
        refine wp_push_any _ _ _ 22 rfl 33 _ 2 32 Tryd.underlying22 info_pair rfl (by decide) (.slice none 0 0) 0 [] rfl (World.ownsRow_nil _ _ _ _) (some ad0) n c rfl (fun h => by cases h) (flat (es.take n)) (by omega) (by rw [flat_length, List.length_take]; omega) (Hs1.out.ext e4) Hone1.out (by simp [maxLen]; omega) (by omega) ?_
        intro v4 w4 hown4 ht4 hb4
        rw [Nat.zero_add, List.nil_append] at hown4
        obtain ⟨va, vc, rfl⟩ := own_len hown4
        have x4 : Ext w3 w4 := (Touch.refl _ _).drew.ext_new ht4 (fun i hi => by simp [Value.ownBlock] at hi)
        refine hK.out _ _ ?_ ?_
        · exact ⟨keepc x4 id y0, keepc x4 id pc0, keepc x4 id pc1⟩
        clear hK K
        (try simp only [Act.put, List.setIfInBounds_toArray, List.set_cons_zero, List.set_cons_succ])
        refine wpPlan_must rfl (by rfl) (fun K hK => ?_)
        go_simp
        refine hK.out _ _ ?_ ?_
        · exact ⟨keepc (x4.alloc _) id y0, keepc (x4.alloc _) id pc0, keepc (x4.alloc _) id pc1⟩
        clear hK K
        (try simp only [Act.put, List.setIfInBounds_toArray, List.set_cons_zero, List.set_cons_succ])
        have x5 := x4.alloc (.cells #[.slice qa k.length qc, .int .u64 v] 33)
        have hown1b : ∀ b', (Value.slice va n vc).ownBlock = some b' → w3.heap.size ≤ b' := fun b' hb' => by
          rcases hb4 with h1 | h1
          · rw [h1] at hb'; simp [Value.ownBlock] at hb'
          · rw [h1] at hb'; cases hb'; exact Nat.le_refl _
        have hown5 := own_keep hown4 ((Touch.refl (fun _ => False) w4).alloc (.cells #[.slice qa k.length qc, .int .u64 v] 33)) (fun _ _ h => h)
        have hsrc := src_pair w4 (.slice qa k.length qc) v 33
        refine wpPlan_must rfl (by rfl) (fun K hK => ?_)
        refine wp_push_any _ _ _ 22 rfl 33 _ 2 32 Tryd.underlying22 info_pair rfl (by decide) (.slice va n vc) n (flat (es.take n)) rfl hown5 (some ⟨w4.heap.size, 0, none⟩) 1 1 rfl (fun h => by cases h) [.slice qa k.length qc, .int .u64 v] (by omega) rfl hsrc (pair_one Hob3.out _) (by simp [maxLen]; omega) (by omega) ?_
        intro v6 w6 hown6 ht6 hb6
        have x6 : Ext w3 w6 := x5.ext_new ht6 (fun i hi => hown1b i hi)
        have hown6b : ∀ b', v6.ownBlock = some b' → w3.heap.size ≤ b' := fun b' hb' => by
          rcases hb6 with h1 | h1
          · exact hown1b b' (h1 ▸ hb')
          · rw [h1] at hb'; cases hb'; exact x5.size
        obtain ⟨v6a, v6c, rfl⟩ := own_len hown6
        refine hK.out _ _ ?_ ?_
        · exact ⟨keepc x6 id y0, keepc x6 id pc0, keepc x6 id pc1⟩
        clear hK K
        (try simp only [Act.put, List.setIfInBounds_toArray, List.set_cons_zero, List.set_cons_succ])
        refine wpPlan_must rfl (by rfl) (fun K hK => ?_)
        refine wp_push_any _ _ _ 22 rfl 33 _ 2 32 Tryd.underlying22 info_pair rfl (by decide) (.slice v6a (n + 1) v6c) (n + 1) (flat (es.take n) ++ [.slice qa k.length qc, .int .u64 v]) rfl hown6 ad (es.length - n) (c - n) rfl HAn.out (flat (es.drop n)) (by omega) (by rw [flat_length, List.length_drop]) (Hs2'.out.ext (e3.trans' x6)) Hone2.out (by simp [maxLen]; omega) (by omega) ?_
        intro v7 w7 hown7 ht7 hb7
        have x7 : Ext w3 w7 := x6.ext_new ht7 (fun i hi => hown6b i hi)
        have hown7b : ∀ b', v7.ownBlock = some b' → w3.heap.size ≤ b' := fun b' hb' => by
          rcases hb7 with h1 | h1
          · exact hown6b b' (h1 ▸ hb')
          · rw [h1] at hb'; cases hb'; exact x6.size
        obtain ⟨v7a, v7c, rfl⟩ := own_len hown7
        have e7 := e3.trans' x7
        have z7 := keepc e7 id c0
        have zf := keepf (p := ⟨r0, 0, none⟩) e7 hrlt id f0
        refine hK.out _ _ ?_ ?_
        · exact ⟨z7, keepc x7 id pc0, keepc x7 id pc1⟩
        clear hK K
        (try simp only [Act.put, List.setIfInBounds_toArray, List.set_cons_zero, List.set_cons_succ])
        clear ht6 ht7 hb6 hb7 hown6 hown6b hown1b hown5
        have Hown7 := Lib.hid hown7
        clear hown7
        have Hown7b := Lib.hid hown7b
        clear hown7b
        repeat (first
          | (refine wpPlan_take (v := ?_) rfl (by rfl) (fun W hW => ?_) ?_; rotate_left; (focus ((try dsimp only at hW); go_split_ands; go_simp; (try with_reducible rfl); done)); (try simp only [Act.put, List.setIfInBounds_toArray, List.set_cons_zero, List.set_cons_succ]))
          | (refine wpPlan_skip rfl (by rfl) ?_; (try simp only [Act.put, List.setIfInBounds_toArray, List.set_cons_zero, List.set_cons_succ])))
        refine wpPlan_last rfl (by rfl) (fun K hK => ?_)
        go_simp
        refine hK.out _ _ ?_
        clear hK K
        (try simp only [Act.put, List.setIfInBounds_toArray, List.set_cons_zero, List.set_cons_succ])
        refine wpPlan_done (hKK.out _ _ ?_)
        clear hKK KK
        go_wp2_with (fail)
        go_ret3
        have tt : Touch (fun b' => b' = r0) w7 (w7.setCell ⟨r0, 0, none⟩ (.slice v7a (n + 1 + (es.length - n)) v7c)) := Touch.setCell (S := fun b' => b' = r0) (Touch.refl _ _) (p := ⟨r0, 0, none⟩) (Or.inl rfl) _
        have tw : Touch (fun b' => b' = r0) w (w7.setCell ⟨r0, 0, none⟩ (.slice v7a (n + 1 + (es.length - n)) v7c)) := Touch.ext_trans e7 tt
        have hes' : (es.take n ++ (.slice qa k.length qc, k, v) :: es.drop n).map (·.2) = putK ps k v := by rw [Hpk.out, List.map_append, List.map_cons, List.map_take, List.map_drop, Hes.out]
        have hlen' : (es.take n ++ (.slice qa k.length qc, k, v) :: es.drop n).length = n + 1 + (es.length - n) := by simp; omega
        have hwr : w.heap.size ≤ w3.heap.size := e3.size
        have hflat : flat (es.take n ++ (.slice qa k.length qc, k, v) :: es.drop n) = flat (es.take n) ++ [.slice qa k.length qc, .int .u64 v] ++ flat (es.drop n) := by rw [flat_append, flat_cons]; simp
        refine ⟨rfl, Fnew F w.heap.size (w7.setCell ⟨r0, 0, none⟩ (.slice v7a (n + 1 + (es.length - n)) v7c)).heap.size, rf_mk hes' (World.cell?_setCell_same _ _ _ z7) (by rw [World.frozen?_setCell]; exact zf) HF0.out hrlt (by rw [hlen', hflat]; exact own_keep Hown7.out tt (fun b' hb' h => by have := Hown7b.out b' hb'; omega)) (fun b' hb' => Nat.le_trans hwr (Hown7b.out b' hb'))
          (fun e he => ?_) (fun b' hb' => Nat.lt_of_lt_of_le (HFlt.out b' hb') tw.size) Hpr.out Hpp.out, tw, fun b' hb' => ?_⟩
        · have hem : e ∈ es ∨ e = (.slice qa k.length qc, k, v) := by
            rcases List.mem_append.1 he with h | h
            · exact Or.inl (List.mem_of_mem_take h)
            · rcases List.mem_cons.1 h with h | h
              · exact Or.inr h
              · exact Or.inl (List.mem_of_mem_drop h)
          rcases hem with h | rfl
          · exact ((Hks.out e h).keep tw (fun b' hb' h => hb'.2 h)).mono (fun b' hb' => Or.inl hb')
          · have ho := Hob3.out
            have hr3 : RB w3 (fun b' => w.heap.size ≤ b' ∧ b' < w3.heap.size) (.slice qa k.length qc) k := OB.rb ⟨ho.1, fun b' hb' => ⟨ho.2 b' hb', ho.lt b' hb'⟩⟩
            exact ((hr3.ext x7).keep tt (fun b' hb' h => by have := hb'.1; omega)).mono (fun b' hb' => Or.inr ⟨hb'.1, Nat.lt_of_lt_of_le hb'.2 (Nat.le_trans x7.size tt.size)⟩)
        · rcases hb' with h | h
          · exact Or.inl h
          · exact Or.inr h.1
      · refine wpPlan_must rfl (by rfl) (fun K hK => ?_)
        go_simp
        have x4 : Ext w3 (w3.drew.alloc (.cells #[.slice qa k.length qc, .int .u64 v] 33)) := (Touch.refl _ _).drew.alloc _
        refine hK.out _ _ ?_ ?_
        · exact ⟨keepc x4 id y0, keepc x4 id pc0, keepc x4 id pc1⟩
        clear hK K
        (try simp only [Act.put, List.setIfInBounds_toArray, List.set_cons_zero, List.set_cons_succ])
        refine wpPlan_must rfl (by rfl) (fun K hK => ?_)
        refine wp_push_any _ _ _ 22 rfl 33 _ 2 32 Tryd.underlying22 info_pair rfl (by decide) (.slice none 0 0) 0 [] rfl (World.ownsRow_nil _ _ _ _) (some ad0) n c rfl (fun h => by cases h) (flat (es.take n)) (by omega) (by rw [flat_length, List.length_take]; omega) (Hs1.out.ext (e3.trans' x4)) Hone1.out (by simp [maxLen]; omega) (by omega) ?_
        intro v4 w5 hown5 ht4 hb4
        rw [Nat.zero_add, List.nil_append] at hown5
        obtain ⟨va, vc, rfl⟩ := own_len hown5
        have x45 : Ext (w3.drew.alloc (.cells #[.slice qa k.length qc, .int .u64 v] 33)) w5 := ht4.new (fun i hi => by simp [Value.ownBlock] at hi)
        have x5 := x4.trans' x45
        refine hK.out _ _ ?_ ?_
        · exact ⟨keepc x5 id y0, keepc x5 id pc0, keepc x5 id pc1⟩
        clear hK K
        (try simp only [Act.put, List.setIfInBounds_toArray, List.set_cons_zero, List.set_cons_succ])
        have hown1b : ∀ b', (Value.slice va n vc).ownBlock = some b' → w3.heap.size ≤ b' := fun b' hb' => by
          rcases hb4 with h1 | h1
          · rw [h1] at hb'; simp [Value.ownBlock] at hb'
          · rw [h1] at hb'; cases hb'; exact x4.size
        have hsrc := (src_pair w3.drew (.slice qa k.length qc) v 33).ext x45
        refine wpPlan_must rfl (by rfl) (fun K hK => ?_)
        refine wp_push_any _ _ _ 22 rfl 33 _ 2 32 Tryd.underlying22 info_pair rfl (by decide) (.slice va n vc) n (flat (es.take n)) rfl hown5 (some ⟨w3.drew.heap.size, 0, none⟩) 1 1 rfl (fun h => by cases h) [.slice qa k.length qc, .int .u64 v] (by omega) rfl hsrc (pair_one Hob3.out _) (by simp [maxLen]; omega) (by omega) ?_
        intro v6 w6 hown6 ht6 hb6
        have x6 : Ext w3 w6 := x5.ext_new ht6 (fun i hi => hown1b i hi)
        have hown6b : ∀ b', v6.ownBlock = some b' → w3.heap.size ≤ b' := fun b' hb' => by
          rcases hb6 with h1 | h1
          · exact hown1b b' (h1 ▸ hb')
          · rw [h1] at hb'; cases hb'; exact x5.size
        obtain ⟨v6a, v6c, rfl⟩ := own_len hown6
        refine hK.out _ _ ?_ ?_
        · exact ⟨keepc x6 id y0, keepc x6 id pc0, keepc x6 id pc1⟩
        clear hK K
        (try simp only [Act.put, List.setIfInBounds_toArray, List.set_cons_zero, List.set_cons_succ])
        refine wpPlan_must rfl (by rfl) (fun K hK => ?_)
        refine wp_push_any _ _ _ 22 rfl 33 _ 2 32 Tryd.underlying22 info_pair rfl (by decide) (.slice v6a (n + 1) v6c) (n + 1) (flat (es.take n) ++ [.slice qa k.length qc, .int .u64 v]) rfl hown6 ad (es.length - n) (c - n) rfl HAn.out (flat (es.drop n)) (by omega) (by rw [flat_length, List.length_drop]) (Hs2'.out.ext (e3.trans' x6)) Hone2.out (by simp [maxLen]; omega) (by omega) ?_
        intro v7 w7 hown7 ht7 hb7
        have x7 : Ext w3 w7 := x6.ext_new ht7 (fun i hi => hown6b i hi)
        have hown7b : ∀ b', v7.ownBlock = some b' → w3.heap.size ≤ b' := fun b' hb' => by
          rcases hb7 with h1 | h1
          · exact hown6b b' (h1 ▸ hb')
          · rw [h1] at hb'; cases hb'; exact x6.size
        obtain ⟨v7a, v7c, rfl⟩ := own_len hown7
        have e7 := e3.trans' x7
        have z7 := keepc e7 id c0
        have zf := keepf (p := ⟨r0, 0, none⟩) e7 hrlt id f0
        refine hK.out _ _ ?_ ?_
        · exact ⟨z7, keepc x7 id pc0, keepc x7 id pc1⟩
        clear hK K
        (try simp only [Act.put, List.setIfInBounds_toArray, List.set_cons_zero, List.set_cons_succ])
        clear ht6 ht7 hb6 hb7 hown6 hown6b hown1b hown5
        have Hown7 := Lib.hid hown7
        clear hown7
        have Hown7b := Lib.hid hown7b
        clear hown7b
        repeat (first
          | (refine wpPlan_take (v := ?_) rfl (by rfl) (fun W hW => ?_) ?_; rotate_left; (focus ((try dsimp only at hW); go_split_ands; go_simp; (try with_reducible rfl); done)); (try simp only [Act.put, List.setIfInBounds_toArray, List.set_cons_zero, List.set_cons_succ]))
          | (refine wpPlan_skip rfl (by rfl) ?_; (try simp only [Act.put, List.setIfInBounds_toArray, List.set_cons_zero, List.set_cons_succ])))
        refine wpPlan_last rfl (by rfl) (fun K hK => ?_)
        go_simp
        refine hK.out _ _ ?_
        clear hK K
        (try simp only [Act.put, List.setIfInBounds_toArray, List.set_cons_zero, List.set_cons_succ])
        refine wpPlan_done (hKK.out _ _ ?_)
        clear hKK KK
        go_wp2_with (fail)
        go_ret3
        have tt : Touch (fun b' => b' = r0) w7 (w7.setCell ⟨r0, 0, none⟩ (.slice v7a (n + 1 + (es.length - n)) v7c)) := Touch.setCell (S := fun b' => b' = r0) (Touch.refl _ _) (p := ⟨r0, 0, none⟩) (Or.inl rfl) _
        have tw : Touch (fun b' => b' = r0) w (w7.setCell ⟨r0, 0, none⟩ (.slice v7a (n + 1 + (es.length - n)) v7c)) := Touch.ext_trans e7 tt
        have hes' : (es.take n ++ (.slice qa k.length qc, k, v) :: es.drop n).map (·.2) = putK ps k v := by rw [Hpk.out, List.map_append, List.map_cons, List.map_take, List.map_drop, Hes.out]
        have hlen' : (es.take n ++ (.slice qa k.length qc, k, v) :: es.drop n).length = n + 1 + (es.length - n) := by simp; omega
        have hwr : w.heap.size ≤ w3.heap.size := e3.size
        have hflat : flat (es.take n ++ (.slice qa k.length qc, k, v) :: es.drop n) = flat (es.take n) ++ [.slice qa k.length qc, .int .u64 v] ++ flat (es.drop n) := by rw [flat_append, flat_cons]; simp
        refine ⟨rfl, Fnew F w.heap.size (w7.setCell ⟨r0, 0, none⟩ (.slice v7a (n + 1 + (es.length - n)) v7c)).heap.size, rf_mk hes' (World.cell?_setCell_same _ _ _ z7) (by rw [World.frozen?_setCell]; exact zf) HF0.out hrlt (by rw [hlen', hflat]; exact own_keep Hown7.out tt (fun b' hb' h => by have := Hown7b.out b' hb'; omega)) (fun b' hb' => Nat.le_trans hwr (Hown7b.out b' hb'))
          (fun e he => ?_) (fun b' hb' => Nat.lt_of_lt_of_le (HFlt.out b' hb') tw.size) Hpr.out Hpp.out, tw, fun b' hb' => ?_⟩
        · have hem : e ∈ es ∨ e = (.slice qa k.length qc, k, v) := by
            rcases List.mem_append.1 he with h | h
            · exact Or.inl (List.mem_of_mem_take h)
            · rcases List.mem_cons.1 h with h | h
              · exact Or.inr h
              · exact Or.inl (List.mem_of_mem_drop h)
          rcases hem with h | rfl
          · exact ((Hks.out e h).keep tw (fun b' hb' h => hb'.2 h)).mono (fun b' hb' => Or.inl hb')
          · have ho := Hob3.out
            have hr3 : RB w3 (fun b' => w.heap.size ≤ b' ∧ b' < w3.heap.size) (.slice qa k.length qc) k := OB.rb ⟨ho.1, fun b' hb' => ⟨ho.2 b' hb', ho.lt b' hb'⟩⟩
            exact ((hr3.ext x7).keep tt (fun b' hb' h => by have := hb'.1; omega)).mono (fun b' hb' => Or.inr ⟨hb'.1, Nat.lt_of_lt_of_le hb'.2 (Nat.le_trans x7.size tt.size)⟩)
        · rcases hb' with h | h
          · exact Or.inl h
          · exact Or.inr h.1
  · obtain ⟨b, off, rfl, _⟩ := Hc2.out.addr (by omega)
    have hs2 := (Hc2.out.drop n (by omega)).src
    have Hs2 := Lib.hid hs2
    clear hs2
    have Hnn := Lib.hid hnn
    clear hnn
    go_wp2_with (fail)
    refine wp_region_plan (.take 0 (.take 1 (.take 2 (.take 3 (.take 4 (.take 5 (.take 6 (.take 8 (.take 11 (.take 12 (.take 13 (.take 14 (.take 15 (.take 16 (.two 7 9 (.must 9 (.must 10 (.must 17 (.take 18 (.take 19 (.last 20 .done)))))) (.must 7 (.must 10 (.must 17 (.take 18 (.take 19 (.last 20 .done))))))))))))))))))))) (fun wy => wy.cell? ⟨r0, 0, none⟩ = some (.slice (some ⟨b, off, none⟩) es.length c) ∧ wy.cell? ⟨b9, 0, none⟩ = some (.slice qa k.length qc) ∧ wy.cell? ⟨b9, 1, none⟩ = some (.int .u64 v)) (by kernel_rfl) (by kernel_rfl) (by kernel_rfl) rfl ?_ (fun KK hKK => ?_)
    · exact ⟨y0, pc0, pc1⟩
    repeat (first
      | (refine wpPlan_take (v := ?_) rfl (by rfl) (fun W hW => ?_) ?_; rotate_left; (focus ((try dsimp only at hW); go_split_ands; go_simp; (try with_reducible rfl); done)); (try simp only [Act.put, List.setIfInBounds_toArray, List.set_cons_zero, List.set_cons_succ]))
      | (refine wpPlan_skip rfl (by rfl) ?_; (try simp only [Act.put, List.setIfInBounds_toArray, List.set_cons_zero, List.set_cons_succ])))
    have hs2' : Src w (if c = n then some ⟨b, off, none⟩ else some ⟨b, off + n * 2, none⟩) (flat (es.drop n)) := by
      split
      · rw [List.drop_of_length_le (by omega)]
        intro j u hu
        simp [flat] at hu
      · exact Hs2.out
    have hAn : (if c = n then some (⟨b, off, none⟩ : Addr) else some ⟨b, off + n * 2, none⟩) = none → c - n = 0 := by split <;> simp
    generalize (if c = n then some (⟨b, off, none⟩ : Addr) else some ⟨b, off + n * 2, none⟩) = ad at *
    have Hs2' := Lib.hid hs2'
    clear hs2'
    have HAn := Lib.hid hAn
    clear hAn
    have e4 := e3.drew
    refine wpPlan_two ?_ ?_
    · refine wpPlan_must rfl (by rfl) (fun K hK => ?_)
      refine wp_push_any _ _ _ 22 rfl 33 _ 2 32 Tryd.underlying22 info_pair rfl (by decide) (.slice none 0 0) 0 [] rfl (World.ownsRow_nil _ _ _ _) (some ⟨b, off, none⟩) n c rfl (fun h => by cases h) (flat (es.take n)) (by omega) (by rw [flat_length, List.length_take]; omega) (Hs1.out.ext e4) Hone1.out (by simp [maxLen]; omega) (by omega) ?_
      intro v4 w4 hown4 ht4 hb4
      rw [Nat.zero_add, List.nil_append] at hown4
      obtain ⟨va, vc, rfl⟩ := own_len hown4
      have x4 : Ext w3 w4 := (Touch.refl _ _).drew.ext_new ht4 (fun i hi => by simp [Value.ownBlock] at hi)
      refine hK.out _ _ ?_ ?_
      · exact ⟨keepc x4 id y0, keepc x4 id pc0, keepc x4 id pc1⟩
      clear hK K
      (try simp only [Act.put, List.setIfInBounds_toArray, List.set_cons_zero, List.set_cons_succ])
      refine wpPlan_must rfl (by rfl) (fun K hK => ?_)
      go_simp
      refine hK.out _ _ ?_ ?_
      · exact ⟨keepc (x4.alloc _) id y0, keepc (x4.alloc _) id pc0, keepc (x4.alloc _) id pc1⟩
      clear hK K
      (try simp only [Act.put, List.setIfInBounds_toArray, List.set_cons_zero, List.set_cons_succ])
      have x5 := x4.alloc (.cells #[.slice qa k.length qc, .int .u64 v] 33)
      have hown1b : ∀ b', (Value.slice va n vc).ownBlock = some b' → w3.heap.size ≤ b' := fun b' hb' => by
        rcases hb4 with h1 | h1
        · rw [h1] at hb'; simp [Value.ownBlock] at hb'
        · rw [h1] at hb'; cases hb'; exact Nat.le_refl _
      have hown5 := own_keep hown4 ((Touch.refl (fun _ => False) w4).alloc (.cells #[.slice qa k.length qc, .int .u64 v] 33)) (fun _ _ h => h)
      have hsrc := src_pair w4 (.slice qa k.length qc) v 33
      refine wpPlan_must rfl (by rfl) (fun K hK => ?_)
      refine wp_push_any _ _ _ 22 rfl 33 _ 2 32 Tryd.underlying22 info_pair rfl (by decide) (.slice va n vc) n (flat (es.take n)) rfl hown5 (some ⟨w4.heap.size, 0, none⟩) 1 1 rfl (fun h => by cases h) [.slice qa k.length qc, .int .u64 v] (by omega) rfl hsrc (pair_one Hob3.out _) (by simp [maxLen]; omega) (by omega) ?_
      intro v6 w6 hown6 ht6 hb6
      have x6 : Ext w3 w6 := x5.ext_new ht6 (fun i hi => hown1b i hi)
      have hown6b : ∀ b', v6.ownBlock = some b' → w3.heap.size ≤ b' := fun b' hb' => by
        rcases hb6 with h1 | h1
        · exact hown1b b' (h1 ▸ hb')
        · rw [h1] at hb'; cases hb'; exact x5.size
      obtain ⟨v6a, v6c, rfl⟩ := own_len hown6
      refine hK.out _ _ ?_ ?_
      · exact ⟨keepc x6 id y0, keepc x6 id pc0, keepc x6 id pc1⟩
      clear hK K
      (try simp only [Act.put, List.setIfInBounds_toArray, List.set_cons_zero, List.set_cons_succ])
      refine wpPlan_must rfl (by rfl) (fun K hK => ?_)
      refine wp_push_any _ _ _ 22 rfl 33 _ 2 32 Tryd.underlying22 info_pair rfl (by decide) (.slice v6a (n + 1) v6c) (n + 1) (flat (es.take n) ++ [.slice qa k.length qc, .int .u64 v]) rfl hown6 ad (es.length - n) (c - n) rfl HAn.out (flat (es.drop n)) (by omega) (by rw [flat_length, List.length_drop]) (Hs2'.out.ext (e3.trans' x6)) Hone2.out (by simp [maxLen]; omega) (by omega) ?_
      intro v7 w7 hown7 ht7 hb7
      have x7 : Ext w3 w7 := x6.ext_new ht7 (fun i hi => hown6b i hi)
      have hown7b : ∀ b', v7.ownBlock = some b' → w3.heap.size ≤ b' := fun b' hb' => by
        rcases hb7 with h1 | h1
        · exact hown6b b' (h1 ▸ hb')
        · rw [h1] at hb'; cases hb'; exact x6.size
      obtain ⟨v7a, v7c, rfl⟩ := own_len hown7
      have e7 := e3.trans' x7
      have z7 := keepc e7 id c0
      have zf := keepf (p := ⟨r0, 0, none⟩) e7 hrlt id f0
      refine hK.out _ _ ?_ ?_
      · exact ⟨z7, keepc x7 id pc0, keepc x7 id pc1⟩
      clear hK K
      (try simp only [Act.put, List.setIfInBounds_toArray, List.set_cons_zero, List.set_cons_succ])
      clear ht6 ht7 hb6 hb7 hown6 hown6b hown1b hown5
      have Hown7 := Lib.hid hown7
      clear hown7
      have Hown7b := Lib.hid hown7b
      clear hown7b
      repeat (first
        | (refine wpPlan_take (v := ?_) rfl (by rfl) (fun W hW => ?_) ?_; rotate_left; (focus ((try dsimp only at hW); go_split_ands; go_simp; (try with_reducible rfl); done)); (try simp only [Act.put, List.setIfInBounds_toArray, List.set_cons_zero, List.set_cons_succ]))
        | (refine wpPlan_skip rfl (by rfl) ?_; (try simp only [Act.put, List.setIfInBounds_toArray, List.set_cons_zero, List.set_cons_succ])))
      refine wpPlan_last rfl (by rfl) (fun K hK => ?_)
      go_simp
      refine hK.out _ _ ?_
      clear hK K
      (try simp only [Act.put, List.setIfInBounds_toArray, List.set_cons_zero, List.set_cons_succ])
      refine wpPlan_done (hKK.out _ _ ?_)
      clear hKK KK
      go_wp2_with (fail)
      go_ret3
      have tt : Touch (fun b' => b' = r0) w7 (w7.setCell ⟨r0, 0, none⟩ (.slice v7a (n + 1 + (es.length - n)) v7c)) := Touch.setCell (S := fun b' => b' = r0) (Touch.refl _ _) (p := ⟨r0, 0, none⟩) (Or.inl rfl) _
      have tw : Touch (fun b' => b' = r0) w (w7.setCell ⟨r0, 0, none⟩ (.slice v7a (n + 1 + (es.length - n)) v7c)) := Touch.ext_trans e7 tt
      have hes' : (es.take n ++ (.slice qa k.length qc, k, v) :: es.drop n).map (·.2) = putK ps k v := by rw [Hpk.out, List.map_append, List.map_cons, List.map_take, List.map_drop, Hes.out]
      have hlen' : (es.take n ++ (.slice qa k.length qc, k, v) :: es.drop n).length = n + 1 + (es.length - n) := by simp; omega
      have hwr : w.heap.size ≤ w3.heap.size := e3.size
      have hflat : flat (es.take n ++ (.slice qa k.length qc, k, v) :: es.drop n) = flat (es.take n) ++ [.slice qa k.length qc, .int .u64 v] ++ flat (es.drop n) := by rw [flat_append, flat_cons]; simp
      refine ⟨rfl, Fnew F w.heap.size (w7.setCell ⟨r0, 0, none⟩ (.slice v7a (n + 1 + (es.length - n)) v7c)).heap.size, rf_mk hes' (World.cell?_setCell_same _ _ _ z7) (by rw [World.frozen?_setCell]; exact zf) HF0.out hrlt (by rw [hlen', hflat]; exact own_keep Hown7.out tt (fun b' hb' h => by have := Hown7b.out b' hb'; omega)) (fun b' hb' => Nat.le_trans hwr (Hown7b.out b' hb'))
        (fun e he => ?_) (fun b' hb' => Nat.lt_of_lt_of_le (HFlt.out b' hb') tw.size) Hpr.out Hpp.out, tw, fun b' hb' => ?_⟩
      · have hem : e ∈ es ∨ e = (.slice qa k.length qc, k, v) := by
          rcases List.mem_append.1 he with h | h
          · exact Or.inl (List.mem_of_mem_take h)
          · rcases List.mem_cons.1 h with h | h
            · exact Or.inr h
            · exact Or.inl (List.mem_of_mem_drop h)
        rcases hem with h | rfl
        · exact ((Hks.out e h).keep tw (fun b' hb' h => hb'.2 h)).mono (fun b' hb' => Or.inl hb')
        · have ho := Hob3.out
          have hr3 : RB w3 (fun b' => w.heap.size ≤ b' ∧ b' < w3.heap.size) (.slice qa k.length qc) k := OB.rb ⟨ho.1, fun b' hb' => ⟨ho.2 b' hb', ho.lt b' hb'⟩⟩
          exact ((hr3.ext x7).keep tt (fun b' hb' h => by have := hb'.1; omega)).mono (fun b' hb' => Or.inr ⟨hb'.1, Nat.lt_of_lt_of_le hb'.2 (Nat.le_trans x7.size tt.size)⟩)
      · rcases hb' with h | h
        · exact Or.inl h
        · exact Or.inr h.1
    · refine wpPlan_must rfl (by rfl) (fun K hK => ?_)
      go_simp
      have x4 : Ext w3 (w3.drew.alloc (.cells #[.slice qa k.length qc, .int .u64 v] 33)) := (Touch.refl _ _).drew.alloc _
      refine hK.out _ _ ?_ ?_
      · exact ⟨keepc x4 id y0, keepc x4 id pc0, keepc x4 id pc1⟩
      clear hK K
      (try simp only [Act.put, List.setIfInBounds_toArray, List.set_cons_zero, List.set_cons_succ])
      refine wpPlan_must rfl (by rfl) (fun K hK => ?_)
      refine wp_push_any _ _ _ 22 rfl 33 _ 2 32 Tryd.underlying22 info_pair rfl (by decide) (.slice none 0 0) 0 [] rfl (World.ownsRow_nil _ _ _ _) (some ⟨b, off, none⟩) n c rfl (fun h => by cases h) (flat (es.take n)) (by omega) (by rw [flat_length, List.length_take]; omega) (Hs1.out.ext (e3.trans' x4)) Hone1.out (by simp [maxLen]; omega) (by omega) ?_
      intro v4 w5 hown5 ht4 hb4
      rw [Nat.zero_add, List.nil_append] at hown5
      obtain ⟨va, vc, rfl⟩ := own_len hown5
      have x45 : Ext (w3.drew.alloc (.cells #[.slice qa k.length qc, .int .u64 v] 33)) w5 := ht4.new (fun i hi => by simp [Value.ownBlock] at hi)
      have x5 := x4.trans' x45
      refine hK.out _ _ ?_ ?_
      · exact ⟨keepc x5 id y0, keepc x5 id pc0, keepc x5 id pc1⟩
      clear hK K
      (try simp only [Act.put, List.setIfInBounds_toArray, List.set_cons_zero, List.set_cons_succ])
      have hown1b : ∀ b', (Value.slice va n vc).ownBlock = some b' → w3.heap.size ≤ b' := fun b' hb' => by
        rcases hb4 with h1 | h1
        · rw [h1] at hb'; simp [Value.ownBlock] at hb'
        · rw [h1] at hb'; cases hb'; exact x4.size
      have hsrc := (src_pair w3.drew (.slice qa k.length qc) v 33).ext x45
      refine wpPlan_must rfl (by rfl) (fun K hK => ?_)
      refine wp_push_any _ _ _ 22 rfl 33 _ 2 32 Tryd.underlying22 info_pair rfl (by decide) (.slice va n vc) n (flat (es.take n)) rfl hown5 (some ⟨w3.drew.heap.size, 0, none⟩) 1 1 rfl (fun h => by cases h) [.slice qa k.length qc, .int .u64 v] (by omega) rfl hsrc (pair_one Hob3.out _) (by simp [maxLen]; omega) (by omega) ?_
      intro v6 w6 hown6 ht6 hb6
      have x6 : Ext w3 w6 := x5.ext_new ht6 (fun i hi => hown1b i hi)
      have hown6b : ∀ b', v6.ownBlock = some b' → w3.heap.size ≤ b' := fun b' hb' => by
        rcases hb6 with h1 | h1
        · exact hown1b b' (h1 ▸ hb')
        · rw [h1] at hb'; cases hb'; exact x5.size
      obtain ⟨v6a, v6c, rfl⟩ := own_len hown6
      refine hK.out _ _ ?_ ?_
      · exact ⟨keepc x6 id y0, keepc x6 id pc0, keepc x6 id pc1⟩
      clear hK K
      (try simp only [Act.put, List.setIfInBounds_toArray, List.set_cons_zero, List.set_cons_succ])
      refine wpPlan_must rfl (by rfl) (fun K hK => ?_)
      refine wp_push_any _ _ _ 22 rfl 33 _ 2 32 Tryd.underlying22 info_pair rfl (by decide) (.slice v6a (n + 1) v6c) (n + 1) (flat (es.take n) ++ [.slice qa k.length qc, .int .u64 v]) rfl hown6 ad (es.length - n) (c - n) rfl HAn.out (flat (es.drop n)) (by omega) (by rw [flat_length, List.length_drop]) (Hs2'.out.ext (e3.trans' x6)) Hone2.out (by simp [maxLen]; omega) (by omega) ?_
      intro v7 w7 hown7 ht7 hb7
      have x7 : Ext w3 w7 := x6.ext_new ht7 (fun i hi => hown6b i hi)
      have hown7b : ∀ b', v7.ownBlock = some b' → w3.heap.size ≤ b' := fun b' hb' => by
        rcases hb7 with h1 | h1
        · exact hown6b b' (h1 ▸ hb')
        · rw [h1] at hb'; cases hb'; exact x6.size
      obtain ⟨v7a, v7c, rfl⟩ := own_len hown7
      have e7 := e3.trans' x7
      have z7 := keepc e7 id c0
      have zf := keepf (p := ⟨r0, 0, none⟩) e7 hrlt id f0
      refine hK.out _ _ ?_ ?_
      · exact ⟨z7, keepc x7 id pc0, keepc x7 id pc1⟩
      clear hK K
      (try simp only [Act.put, List.setIfInBounds_toArray, List.set_cons_zero, List.set_cons_succ])
      clear ht6 ht7 hb6 hb7 hown6 hown6b hown1b hown5
      have Hown7 := Lib.hid hown7
      clear hown7
      have Hown7b := Lib.hid hown7b
      clear hown7b
      repeat (first
        | (refine wpPlan_take (v := ?_) rfl (by rfl) (fun W hW => ?_) ?_; rotate_left; (focus ((try dsimp only at hW); go_split_ands; go_simp; (try with_reducible rfl); done)); (try simp only [Act.put, List.setIfInBounds_toArray, List.set_cons_zero, List.set_cons_succ]))
        | (refine wpPlan_skip rfl (by rfl) ?_; (try simp only [Act.put, List.setIfInBounds_toArray, List.set_cons_zero, List.set_cons_succ])))
      refine wpPlan_last rfl (by rfl) (fun K hK => ?_)
      go_simp
      refine hK.out _ _ ?_
      clear hK K
      (try simp only [Act.put, List.setIfInBounds_toArray, List.set_cons_zero, List.set_cons_succ])
      refine wpPlan_done (hKK.out _ _ ?_)
      clear hKK KK
      go_wp2_with (fail)
      go_ret3
      have tt : Touch (fun b' => b' = r0) w7 (w7.setCell ⟨r0, 0, none⟩ (.slice v7a (n + 1 + (es.length - n)) v7c)) := Touch.setCell (S := fun b' => b' = r0) (Touch.refl _ _) (p := ⟨r0, 0, none⟩) (Or.inl rfl) _
      have tw : Touch (fun b' => b' = r0) w (w7.setCell ⟨r0, 0, none⟩ (.slice v7a (n + 1 + (es.length - n)) v7c)) := Touch.ext_trans e7 tt
      have hes' : (es.take n ++ (.slice qa k.length qc, k, v) :: es.drop n).map (·.2) = putK ps k v := by rw [Hpk.out, List.map_append, List.map_cons, List.map_take, List.map_drop, Hes.out]
      have hlen' : (es.take n ++ (.slice qa k.length qc, k, v) :: es.drop n).length = n + 1 + (es.length - n) := by simp; omega
      have hwr : w.heap.size ≤ w3.heap.size := e3.size
      have hflat : flat (es.take n ++ (.slice qa k.length qc, k, v) :: es.drop n) = flat (es.take n) ++ [.slice qa k.length qc, .int .u64 v] ++ flat (es.drop n) := by rw [flat_append, flat_cons]; simp
      refine ⟨rfl, Fnew F w.heap.size (w7.setCell ⟨r0, 0, none⟩ (.slice v7a (n + 1 + (es.length - n)) v7c)).heap.size, rf_mk hes' (World.cell?_setCell_same _ _ _ z7) (by rw [World.frozen?_setCell]; exact zf) HF0.out hrlt (by rw [hlen', hflat]; exact own_keep Hown7.out tt (fun b' hb' h => by have := Hown7b.out b' hb'; omega)) (fun b' hb' => Nat.le_trans hwr (Hown7b.out b' hb'))
        (fun e he => ?_) (fun b' hb' => Nat.lt_of_lt_of_le (HFlt.out b' hb') tw.size) Hpr.out Hpp.out, tw, fun b' hb' => ?_⟩
      · have hem : e ∈ es ∨ e = (.slice qa k.length qc, k, v) := by
          rcases List.mem_append.1 he with h | h
          · exact Or.inl (List.mem_of_mem_take h)
          · rcases List.mem_cons.1 h with h | h
            · exact Or.inr h
            · exact Or.inl (List.mem_of_mem_drop h)
        rcases hem with h | rfl
        · exact ((Hks.out e h).keep tw (fun b' hb' h => hb'.2 h)).mono (fun b' hb' => Or.inl hb')
        · have ho := Hob3.out
          have hr3 : RB w3 (fun b' => w.heap.size ≤ b' ∧ b' < w3.heap.size) (.slice qa k.length qc) k := OB.rb ⟨ho.1, fun b' hb' => ⟨ho.2 b' hb', ho.lt b' hb'⟩⟩
          exact ((hr3.ext x7).keep tt (fun b' hb' h => by have := hb'.1; omega)).mono (fun b' hb' => Or.inr ⟨hb'.1, Nat.lt_of_lt_of_le hb'.2 (Nat.le_trans x7.size tt.size)⟩)
      · rcases hb' with h | h
        · exact Or.inl h
        · exact Or.inr h.1
end RefG
end Go.Proofs.YtclnnkacfanaiaaDoor

/- The document's Rises. -/
namespace Go.Proofs.YtclnnkacfanaiaaDoor
open Go.RowKit
set_option linter.unusedVariables false
set_option linter.unusedSimpArgs false
namespace RefI
open ModA ModF
variable {F G : Nat → Prop}
set_option maxRecDepth 100000 in
set_option maxHeartbeats 1600000 in
theorem rises_any (w : World) (v : Value) (ps : Prs) (h : RP w G v ps) (hm : ps.length ≤ 1000000) (hpk : ∀ p ∈ ps, KB p.1) :
    Calls Tryd.prog 21 #[v] w fun e w' => e = .returned (.bool (risesB ps)) ∧ Ext w w' := by
  obtain ⟨a, c, rfl, l1, m1, hn⟩ := h.shape
  unfold maxLen at m1
  have H := Lib.hid h
  clear h
  have Hpk := Lib.hid hpk
  clear hpk
  go_enter Tryd.func21, Tryd.ntmps21
  go_wp2_with (fail)
  go_loopw [3] (fun s3 wr => ∃ j : Nat, 1 ≤ j ∧ (j ≤ ps.length ∨ j = 1) ∧ s3 = .int .i64 j ∧ (∀ i p q, i + 1 < j → ps[i]? = some p → ps[i + 1]? = some q → cmpK p.1 q.1 < 0) ∧ Ext w wr) (fun s3 _ => ps.length + 1 - (intOf s3).toNat)
  case atStart => exact ⟨1, by omega, Or.inr rfl, rfl, fun i p q hi => by omega, Touch.refl _ _⟩
  case round =>
    obtain ⟨j, hj1, hj, rfl, hall, ht⟩ := hrel
    have Hall := Lib.hid hall
    clear hall
    by_cases hlt : j < ps.length
    · obtain ⟨b, off, rfl, _⟩ := H.out.addr (by omega)
      have hlt' : j - 1 < ps.length := by omega
      have hg := List.getElem?_eq_getElem hlt
      have hg' := List.getElem?_eq_getElem hlt'
      obtain ⟨kv, c0, c1, hkb⟩ := (H.out.ext ht).get j _ hg
      obtain ⟨kw, d0, d1, hkb'⟩ := (H.out.ext ht).get (j - 1) _ hg'
      have hpp := Hpk.out _ (List.mem_of_getElem? hg)
      have hpp' := Hpk.out _ (List.mem_of_getElem? hg')
      generalize ps[j] = p at *
      generalize ps[j - 1] = q at *
      obtain ⟨ka, kc, rfl, _⟩ := hkb.shape
      obtain ⟨qa, qc, rfl, _⟩ := hkb'.shape
      have i0 : (0 : Int) ≤ (j : Int) := by omega
      have i1 : (j : Int) < (ps.length : Int) := by omega
      have i2 : (0 : Int) ≤ (j : Int) - 1 := by omega
      have i3 : (j : Int) - 1 < (ps.length : Int) := by omega
      have i4 : IntKind.i64.wrap ((j : Int) - 1) = (j : Int) - 1 := by rw [IntKind.wrap_i64]; omega
      have i5 : ((j : Int) - 1).toNat = j - 1 := by omega
      have i6 : (1 : Int) ≤ (j : Int) := by omega
      have hc1 := conv_any wr.drew G ka p.1.length kc p.1 (hkb.ext (Touch.refl _ _).drew)
      have hc2 := conv_any wr.drew G qa q.1.length qc q.1 (hkb'.ext (Touch.refl _ _).drew)
      have hls := less_str hpp hpp'
      have heq := same_str hpp hpp'
      have Hg := Lib.hid hg
      clear hg
      have Hg' := Lib.hid hg'
      clear hg'
      have Hkb := Lib.hid hkb
      clear hkb
      have Hkb' := Lib.hid hkb'
      clear hkb'
      have Hpp := Lib.hid hpp
      clear hpp
      have Hpp' := Lib.hid hpp'
      clear hpp'
      by_cases hc : cmpK q.1 p.1 < 0
      · have hne : p.1 ≠ q.1 := fun h => by rw [h, cmpK_iff.2 rfl] at hc; omega
        rw [ltK_false.2 (fun h => by have := cmpK_trans h hc; rw [cmpK_iff.2 rfl] at this; omega)] at hls
        rw [beq_eq_false_iff_ne.2 hne] at heq
        have Hne := Lib.hid hne
        clear hne
        go_wp2_with (fail)
        refine wp_region_plan (.take 0 (.take 1 (.take 2 (.take 3 (.take 4 (.take 5 (.take 6 (.take 7 (.take 8 (.take 9 (.take 10 (.take 11 (.take 12 (.take 13 .done)))))))))))))) (fun wy => wy.cell? ⟨b, off + j * 2, none⟩ = some (.slice ka p.1.length kc) ∧ wy.cell? ⟨b, off + (j - 1) * 2, none⟩ = some (.slice qa q.1.length qc) ∧ (convert 23 9 (.slice ka p.1.length kc)).run Tryd.prog wy = .ok (.string (strOfNums p.1)) wy ∧ (convert 23 9 (.slice qa q.1.length qc)).run Tryd.prog wy = .ok (.string (strOfNums q.1)) wy) (by kernel_rfl) (by kernel_rfl) (by kernel_rfl) rfl ?_ (fun KK hKK => ?_)
        · exact ⟨c0, d0, hc1, hc2⟩
        repeat (first
          | (refine wpPlan_take (v := ?_) rfl (by rfl) (fun W hW => ?_) ?_; rotate_left; (focus ((try dsimp only at hW); go_split_ands; go_simp; (try with_reducible rfl); done)); (try simp only [Act.put, List.setIfInBounds_toArray, List.set_cons_zero, List.set_cons_succ]))
          | (refine wpPlan_skip rfl (by rfl) ?_; (try simp only [Act.put, List.setIfInBounds_toArray, List.set_cons_zero, List.set_cons_succ])))
        refine wpPlan_done (hKK.out _ _ ?_)
        clear hKK KK
        clear i4
        go_wp2_with (fail)
        go_roundw
        case rel =>
          refine ⟨j + 1, by omega, Or.inl (by omega), by go_num, fun i p' q' hi hp' hq' => ?_, ht.drew⟩
          rcases Nat.eq_or_lt_of_le (Nat.le_of_lt_succ hi) with he | hl
          · have e1 : i = j - 1 := by omega
            have e2 : i + 1 = j := he
            rw [e2, Hg.out] at hq'
            rw [e1, Hg'.out] at hp'
            cases hp'; cases hq'; exact hc
          · exact Hall.out i p' q' hl hp' hq'
        case measure => simp [intOf]; omega
      · have hfin : risesB ps = false := by
          cases hh : risesB ps with
          | false => rfl
          | true =>
            have := risesB_iff.1 hh (j - 1) q p Hg'.out (by rw [show j - 1 + 1 = j by omega]; exact Hg.out)
            omega
        have Hfin := Lib.hid hfin
        clear hfin
        rcases Bool.eq_false_or_eq_true (ltK p.1 q.1) with hlt2 | hlt2
        · rw [hlt2] at hls
          clear heq
          have Hlt2 := Lib.hid hlt2
          clear hlt2
          go_wp2_with (fail)
          refine wp_region_plan (.take 0 (.take 1 (.take 2 (.take 3 (.take 4 (.take 5 (.take 6 (.take 7 (.take 8 (.take 9 (.take 10 (.take 11 (.take 12 (.take 13 .done)))))))))))))) (fun wy => wy.cell? ⟨b, off + j * 2, none⟩ = some (.slice ka p.1.length kc) ∧ wy.cell? ⟨b, off + (j - 1) * 2, none⟩ = some (.slice qa q.1.length qc) ∧ (convert 23 9 (.slice ka p.1.length kc)).run Tryd.prog wy = .ok (.string (strOfNums p.1)) wy ∧ (convert 23 9 (.slice qa q.1.length qc)).run Tryd.prog wy = .ok (.string (strOfNums q.1)) wy) (by kernel_rfl) (by kernel_rfl) (by kernel_rfl) rfl ?_ (fun KK hKK => ?_)
          · exact ⟨c0, d0, hc1, hc2⟩
          repeat (first
            | (refine wpPlan_take (v := ?_) rfl (by rfl) (fun W hW => ?_) ?_; rotate_left; (focus ((try dsimp only at hW); go_split_ands; go_simp; (try with_reducible rfl); done)); (try simp only [Act.put, List.setIfInBounds_toArray, List.set_cons_zero, List.set_cons_succ]))
            | (refine wpPlan_skip rfl (by rfl) ?_; (try simp only [Act.put, List.setIfInBounds_toArray, List.set_cons_zero, List.set_cons_succ])))
          refine wpPlan_done (hKK.out _ _ ?_)
          clear hKK KK
          clear i4
          go_wp2_with (fail)
          go_ret
          rw [Hfin.out]
          exact ⟨rfl, ht.drew⟩
        · have hpq : p.1 = q.1 := cmpK_eq (by have h1 := ltK_false.1 hlt2; have h2 := cmpK_neg q.1 p.1; omega)
          rw [hlt2] at hls
          rw [beq_iff_eq.2 hpq] at heq
          have Hlt2 := Lib.hid hlt2
          clear hlt2
          have Hpq := Lib.hid hpq
          clear hpq
          go_wp2_with (fail)
          refine wp_region_plan (.take 0 (.take 1 (.take 2 (.take 3 (.take 4 (.take 5 (.take 6 (.take 7 (.take 8 (.take 9 (.take 10 (.take 11 (.take 12 (.take 13 .done)))))))))))))) (fun wy => wy.cell? ⟨b, off + j * 2, none⟩ = some (.slice ka p.1.length kc) ∧ wy.cell? ⟨b, off + (j - 1) * 2, none⟩ = some (.slice qa q.1.length qc) ∧ (convert 23 9 (.slice ka p.1.length kc)).run Tryd.prog wy = .ok (.string (strOfNums p.1)) wy ∧ (convert 23 9 (.slice qa q.1.length qc)).run Tryd.prog wy = .ok (.string (strOfNums q.1)) wy) (by kernel_rfl) (by kernel_rfl) (by kernel_rfl) rfl ?_ (fun KK hKK => ?_)
          · exact ⟨c0, d0, hc1, hc2⟩
          repeat (first
            | (refine wpPlan_take (v := ?_) rfl (by rfl) (fun W hW => ?_) ?_; rotate_left; (focus ((try dsimp only at hW); go_split_ands; go_simp; (try with_reducible rfl); done)); (try simp only [Act.put, List.setIfInBounds_toArray, List.set_cons_zero, List.set_cons_succ]))
            | (refine wpPlan_skip rfl (by rfl) ?_; (try simp only [Act.put, List.setIfInBounds_toArray, List.set_cons_zero, List.set_cons_succ])))
          refine wpPlan_done (hKK.out _ _ ?_)
          clear hKK KK
          clear i4
          go_wp2_with (fail)
          go_ret
          rw [Hfin.out]
          exact ⟨rfl, ht.drew⟩
    · have hfin : risesB ps = true := by
        refine risesB_iff.2 fun i p q hp hq => ?_
        have := (List.getElem?_eq_some_iff.1 hq).1
        exact Hall.out i p q (by omega) hp hq
      have Hfin := Lib.hid hfin
      clear hfin
      go_wp2_with (fail)
      go_ret
      rw [Hfin.out]
      exact ⟨rfl, ht⟩
end RefI
end Go.Proofs.YtclnnkacfanaiaaDoor

/- The document's own map: Put, Drop and New, whatever is there. -/
namespace Go.Proofs.YtclnnkacfanaiaaDoor
open Go.RowKit
set_option linter.unusedVariables false
set_option linter.unusedSimpArgs false
namespace RefJ
open ModA ModB ModF RefF
variable {F G : Nat → Prop}

/-- what the document's Put comes to -/
def RPut (w : World) (r0 : Nat) (F : Nat → Prop) (ps : Prs) (k : List Int) (v : Int) (e : Ending) (w' : World) : Prop :=
  e = .returned (.tuple #[.int .u64 (valK ps k), .bool (hasK ps k), .int .i64 0]) ∧ ∃ F', Rf w' r0 F' (putK ps k v) ∧ Touch (fun b => b = r0) w w' ∧ ∀ b, F' b → F b ∨ w.heap.size ≤ b
theorem put_any (w : World) (r0 : Nat) (kw : Value) (ps : Prs) (k : List Int) (v : Int) (h : Rf w r0 F ps) (hk : RB w G kw k) (kb : KB k) (hl : k.length ≤ 65535) (hm : ps.length ≤ 1000000) :
    Calls Tryd.prog 34 #[.pointer (some ⟨r0, 0, none⟩), kw, .int .u64 v] w (RPut w r0 F ps k v) := by
  unfold RPut
  cases hh : hasK ps k with
  | true => exact RefG.put_has w r0 kw ps k v h hk kb hl hm hh
  | false =>
    rw [valK_none hh]
    exact RefG.put_new w r0 kw ps k v h hk kb hl hm hh

/-- what the document's Drop comes to -/
def RDrop (w : World) (r0 : Nat) (F : Nat → Prop) (ps : Prs) (k : List Int) (e : Ending) (w' : World) : Prop :=
  e = .returned (.tuple #[.int .u64 (valK ps k), .bool (hasK ps k)]) ∧ ∃ F', Rf w' r0 F' (dropK ps k) ∧ Touch (fun b => b = r0) w w' ∧ ∀ b, F' b → F b ∨ w.heap.size ≤ b
theorem drop_any (w : World) (r0 : Nat) (kw : Value) (ps : Prs) (k : List Int) (h : Rf w r0 F ps) (hk : RB w G kw k) (kb : KB k) (hm : ps.length ≤ 1000000) :
    Calls Tryd.prog 36 #[.pointer (some ⟨r0, 0, none⟩), kw] w (RDrop w r0 F ps k) := by
  unfold RDrop
  cases hh : hasK ps k with
  | true => exact RefF.drop_has w r0 kw ps k h hk kb hm hh
  | false =>
    refine (RefF.drop_not w r0 kw ps k h hk kb hm hh).mono ?_
    rintro e w' ⟨rfl, ht⟩
    refine ⟨by rw [valK_none hh], F, ?_, ht.none_to, fun b hb => Or.inl hb⟩
    rw [dropK_not hh]
    exact h.ext ht

def RNew (w : World) (ps : Prs) (e : Ending) (w' : World) : Prop := ∃ g F, e = .returned (.pointer (some ⟨g, 0, none⟩)) ∧ Rf w' g F ps ∧ (∀ b, F b → w.heap.size ≤ b) ∧ Ext w w'
theorem rf_new (w : World) : Rf (w.alloc (.cells #[.slice none 0 0] 55)) w.heap.size (fun b => b = w.heap.size) [] :=
  ⟨.slice none 0 0, by simp, by simp, RP.nil _ _, rfl, (fun b hb => by subst hb; simp), List.Pairwise.nil, fun p hp => by simp at hp⟩

set_option maxRecDepth 100000 in
set_option maxHeartbeats 1600000 in
theorem new_any (w : World) (v : Value) (ps : Prs) (h : RP w G v ps) (hm : ps.length ≤ 1000000) (hpk : PK ps) :
    Calls Tryd.prog 28 #[v] w (RNew w (mkK ps)) := by
  obtain ⟨a, c, rfl, l1, m1, hn⟩ := h.shape
  unfold maxLen at m1
  have H := Lib.hid h
  clear h
  have Hpk := Lib.hid hpk
  clear hpk
  unfold RNew
  go_enter Tryd.func28, Tryd.ntmps28
  go_wp2_with (fail)
  go_loopw [4] (fun s10 wr => ∃ (j : Nat) (F : Nat → Prop), j ≤ ps.length ∧ s10 = .int .i64 j ∧ Rf wr w.heap.size F (mkK (ps.take j)) ∧ (∀ b, F b → w.heap.size ≤ b) ∧ Ext w wr) (fun s10 _ => ps.length - (intOf s10).toNat)
  case atStart => exact ⟨0, _, by omega, rfl, rf_new w, fun b hb => by subst hb; omega, (Touch.refl _ _).alloc _⟩
  case round =>
    obtain ⟨j, F, hj, rfl, hmp, hF, ht⟩ := hrel
    by_cases hlt : j < ps.length
    · obtain ⟨b, off, rfl, _⟩ := H.out.addr (by omega)
      have hg := List.getElem?_eq_getElem hlt
      obtain ⟨kv, c0, c1, hkb⟩ := (H.out.ext ht).get j _ hg
      obtain ⟨kv0, z0, _⟩ := H.out.get j _ hg
      have hbw : b ≠ w.heap.size := fun h => by have := World.block_lt_of_cell? _ _ z0; simp only at this; omega
      have hpp := Hpk.out _ (List.mem_of_getElem? hg)
      clear z0
      have hmk := mkK_take ps j _ hg
      generalize ps[j] = p at *
      obtain ⟨ka, kc, rfl, l2, m2, n2⟩ := hkb.shape
      have hml : (mkK (ps.take j)).length ≤ 1000000 := by have := mkK_length (ps.take j); simp at this; omega
      have i0 : (0 : Int) ≤ (j : Int) := by omega
      have i1 : (j : Int) < (ps.length : Int) := by omega
      have hput := fun W (t : Ext wr W) => put_any W w.heap.size (.slice ka p.1.length kc) (mkK (ps.take j)) p.1 p.2 (hmp.ext t) (hkb.ext t) hpp.1 hpp.2 hml
      unfold RPut at hput
      have Hg := Lib.hid hg
      clear hg
      have Hkb := Lib.hid hkb
      clear hkb
      have Hpp := Lib.hid hpp
      clear hpp
      have Hmk := Lib.hid hmk
      clear hmk
      have Hmp := Lib.hid hmp
      clear hmp
      have HF := Lib.hid hF
      clear hF
      have Hml := Lib.hid hml
      clear hml
      have Hput := Lib.hid hput
      clear hput
      have Hbw := Lib.hid hbw
      clear hbw
      go_wp2_with (fail)
      refine wp_region_plan (.take 0 (.take 1 (.take 2 (.take 3 (.take 4 (.take 5 (.take 6 (.take 7 (.take 8 (.take 9 (.take 10 (.must 11 .done)))))))))))) (fun wy => wy.cell? ⟨b, off + j * 2, none⟩ = some (.slice ka p.1.length kc) ∧ wy.cell? ⟨b, off + j * 2 + 1, none⟩ = some (.int .u64 p.2)) (by kernel_rfl) (by kernel_rfl) (by kernel_rfl) rfl ?_ (fun KK hKK => ?_)
      · exact ⟨c0, c1⟩
      repeat (first
        | (refine wpPlan_take (v := ?_) rfl (by rfl) (fun W hW => ?_) ?_; rotate_left; (focus ((try dsimp only at hW); go_split_ands; go_simp; (try with_reducible rfl); done)); (try simp only [Act.put, List.setIfInBounds_toArray, List.set_cons_zero, List.set_cons_succ]))
        | (refine wpPlan_skip rfl (by rfl) ?_; (try simp only [Act.put, List.setIfInBounds_toArray, List.set_cons_zero, List.set_cons_succ])))
      refine wpPlan_must rfl (by rfl) (fun K hK => ?_)
      go_simp
      (with_reducible refine (Hput.out _ (Touch.refl _ _).drew).mono ?_)
      rintro e w2 ⟨rfl, F', hmp2, ht2, hF2⟩
      refine hK.out _ _ ?_ ?_
      · exact ⟨keepc ht2 Hbw.out c0, keepc ht2 Hbw.out c1⟩
      clear hK K
      (try simp only [Act.put, List.setIfInBounds_toArray, List.set_cons_zero, List.set_cons_succ])
      have Hmp2 := Lib.hid hmp2
      clear hmp2
      have HF2 := Lib.hid hF2
      clear hF2
      refine wpPlan_done (hKK.out _ _ ?_)
      clear hKK KK
      go_wp2_with (fail)
      go_roundw
      case rel =>
        refine ⟨j + 1, F', by omega, by go_num, by rw [Hmk.out]; exact Hmp2.out, fun b hb => ?_, ht.drew.ext_new ht2 (fun i hi => by omega)⟩
        rcases HF2.out b hb with h | h
        · exact HF.out b h
        · exact Nat.le_trans ht.drew.size h
      case measure => simp [intOf]; omega
    · have hjl : j = ps.length := by omega
      subst hjl
      rw [List.take_length] at hmp
      have Hmp := Lib.hid hmp
      clear hmp
      have HF := Lib.hid hF
      clear hF
      go_wp2_with (fail)
      go_ret
      exact ⟨w.heap.size, F, rfl, Hmp.out, HF.out, ht⟩
end RefJ
end Go.Proofs.YtclnnkacfanaiaaDoor
