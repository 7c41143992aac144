/- Contracts of package model: what is put into a map, and dropped from it. -/
import Derived.Test.YtclnnkacfanaiaaDoorModE
namespace Go.Proofs.YtclnnkacfanaiaaDoor
open Go.RowKit
set_option linter.unusedVariables false
set_option linter.unusedSimpArgs false

/-- w' is w, but for what lies in F; F' is F, and new blocks -/
def Upd (w w' : World) (F F' : Nat → Prop) : Prop := Touch F w w' ∧ ∀ b, F' b → F b ∨ w.heap.size ≤ b

theorem el_one {w : World} {F : Nat → Prop} {es : List El} (h : ∀ e ∈ es, RB w F e.1 e.2.1) : ∀ e ∈ es, e.1.oneCell' = true := by
  intro e he
  obtain ⟨a, c, h1, _⟩ := (h e he).shape
  rw [h1]; rfl
theorem es_get {es : List El} {ps : Prs} (h : es.map (·.2) = ps) {i : Nat} {p : List Int × Int} (hp : ps[i]? = some p) : ∃ kv, es[i]? = some (kv, p) := by
  rw [← h, List.getElem?_map, Option.map_eq_some_iff] at hp
  obtain ⟨e, he, rfl⟩ := hp
  exact ⟨e.1, he⟩

namespace ModF
open ModA ModB ModC
variable {F G : Nat → Prop}

/-- what Put comes to -/
def PutRet (w : World) (g : Nat) (F : Nat → Prop) (ps : Prs) (k : List Int) (v : Int) (e : Ending) (w' : World) : Prop :=
  e = .returned (.tuple #[.int .u64 (valK ps k), .bool (hasK ps k), .int .i64 0]) ∧ ∃ F', Mp w' g F' (putK ps k v) ∧ Upd w w' F F'

/-- the map behind a change of its row -/
theorem mp_mk {w' : World} {g : Nat} {F' : Nat → Prop} {v' : Value} {es' : List El} {ps' : Prs} (hes : es'.map (·.2) = ps') (hc : w'.cell? ⟨g, 0, none⟩ = some v') (hf : w'.frozen? ⟨g, 0, none⟩ = false) (hg : F' g) (ho : w'.ownsRow 0 33 2 v' es'.length (flat es'))
    (hv : ∀ b, v'.ownBlock = some b → F' b ∧ b ≠ g) (hk : ∀ e ∈ es', RB w' (fun b => F' b ∧ b ≠ g ∧ v'.ownBlock ≠ some b) e.1 e.2.1) (hlt : ∀ b, F' b → b < w'.heap.size) (hr : Rises ps') (hp : ∀ p ∈ ps', KB p.1 ∧ p.1.length ≤ 65535) : Mp w' g F' ps' :=
  ⟨v', es', hes, hc, hf, hg, ho, hv, hk, hlt, hr, hp⟩

set_option maxRecDepth 100000 in
set_option maxHeartbeats 1600000 in
/-- the key is there -/
theorem put_has (w : World) (g : Nat) (kw : Value) (ps : Prs) (k : List Int) (v : Int) (h : Mp w g F ps) (hk : RB w G kw k) (kb : KB k) (hl : k.length ≤ 65535) (hm : ps.length ≤ 1000000) (hh : hasK ps k = true) :
    Calls Tryd.prog 49 #[.pointer (some ⟨g, 0, none⟩), kw, .int .u64 v] w (PutRet w g F ps k v) := by
  obtain ⟨x, hx, hv⟩ := hasK_some hh
  have hlt := hasK_lt hh
  have hf := find_any (F := F) (G := G) w _ kw ps k (Mq.of h) hk kb hm
  rw [hh] at hf
  have hmay := may_any w G kw k hk
  rw [decide_eq_true hl] at hmay
  have hput := putK_has (v := v) hh
  have hput2 := putK_rises h.rises k v
  have hput3 : ∀ p ∈ putK ps k v, KB p.1 ∧ p.1.length ≤ 65535 := fun p hp => by
    rcases putK_mem hp with rfl | hp
    · exact ⟨kb, hl⟩
    · exact ⟨h.kb p hp, h.long p hp⟩
  obtain ⟨rv, es, hes, c0, f0, hg, ho, hF, hks, hFlt, hr, hp⟩ := h
  obtain ⟨kv, hkv⟩ := es_get hes hx
  have hel : es.length = ps.length := by rw [← hes]; simp
  obtain ⟨a, c, rfl⟩ := own_len ho
  obtain ⟨b, rfl⟩ := own_addr ho (by omega)
  generalize hrk : rk ps k = r at *
  have c1 := (ho.cellAt (r * 2) (by omega)).trans (flat_get0 _ _ _ hkv)
  have c2 := (ho.cellAt (r * 2 + 1) (by omega)).trans (flat_get1 _ _ _ hkv)
  have f2 := ho.frozenAt (r * 2 + 1)
  have hbg := (hF b rfl).2
  have hbF := (hF b rfl).1
  have i1 : (r : Int) < (es.length : Int) := by omega
  have i0 : (0 : Int) ≤ (r : Int) := by omega
  have hrlt : r < es.length := by omega
  have Hf := Lib.hid hf
  clear hf
  have Hmay := Lib.hid hmay
  clear hmay
  have Hput := Lib.hid hput
  clear hput
  have Hput2 := Lib.hid hput2
  clear hput2
  have Hput3 := Lib.hid hput3
  clear hput3
  have Hes := Lib.hid hes
  clear hes
  have Ho := Lib.hid ho
  clear ho
  have HF := Lib.hid hF
  clear hF
  have Hks := Lib.hid hks
  clear hks
  have HFlt := Lib.hid hFlt
  clear hFlt
  have Hr := Lib.hid hr
  clear hr
  have Hp := Lib.hid hp
  clear hp
  have Hx := Lib.hid hx
  clear hx
  have Hv := Lib.hid hv
  clear hv
  have Hkv := Lib.hid hkv
  clear hkv
  have Hel := Lib.hid hel
  clear hel
  have Hg := Lib.hid hg
  clear hg
  have Hrk := Lib.hid hrk
  clear hrk
  have Hh := Lib.hid hh
  clear hh
  have Hlt := Lib.hid hlt
  clear hlt
  have HbF := Lib.hid hbF
  clear hbF
  unfold PutRet
  go_enter Tryd.func49, Tryd.ntmps49
  go_wp2_with (fail)
  refine Hmay.out.mono ?_
  rintro e w1 ⟨rfl, rfl⟩
  go_wp2_with (fail)
  refine Hf.out.mono ?_
  rintro e w1 ⟨rfl, ht1⟩
  have d0 := keepc ht1 id c0
  have d1 := keepc ht1 id c1
  have d2 := keepc ht1 id c2
  have e0 := keepf (p := ⟨g, 0, none⟩) ht1 (World.block_lt_of_cell? _ _ c0) id f0
  have e2 := keepf (p := ⟨b, r * 2 + 1, none⟩) ht1 (World.block_lt_of_cell? _ _ c2) id f2
  clear c0 c1 c2 f0 f2
  go_wp2_with (fail)
  go_ret3
  rw [Hh.out, Hv.out]
  refine ⟨rfl, F, ?_, ?_, fun b hb => Or.inl hb⟩
  · have ho1 := own_keep Ho.out ht1 (fun _ _ h => h)
    obtain ⟨s1, s2⟩ := ho1.stored (r * 2 + 1) (.int .u64 v)
    have ts : Touch (fun j => j = b) w1 (w1.setCell ⟨b, r * 2 + 1, none⟩ (.int .u64 v)) := (Touch.grown s2).mono (fun i hi _ => by simpa [eq_comm] using hi)
    have hset : es.set r (kv, k, v) = es.set r (kv, k, v) := rfl
    have hflat : flat (es.set r (kv, k, v)) = (flat es).set (r * 2 + 1) (.int .u64 v) := by
      rw [SameP.flat_set _ _ _ hrlt]
      congr 1
      have h0 := flat_get0 _ _ _ Hkv.out
      obtain ⟨h3, h4⟩ := List.getElem?_eq_some_iff.1 h0
      rw [← h4]
      exact List.set_getElem_self h3
    refine mp_mk (es' := es.set r (kv, k, v)) ?_ (keepc ts (fun h => hbg h.symm) d0) (keepf (p := ⟨g, 0, none⟩) ts (World.block_lt_of_cell? _ _ d0) (fun h => hbg h.symm) e0) Hg.out ?_ ?_ ?_ ?_ Hput2.out Hput3.out
    · rw [Hput.out, List.map_set, Hes.out]
    · rw [List.length_set, hflat]; exact s1
    · exact HF.out
    · intro e he
      have hrb : RB w (fun j => F j ∧ j ≠ g ∧ (Value.slice (some ⟨b, 0, none⟩) es.length c).ownBlock ≠ some j) e.1 e.2.1 := by
        rcases List.mem_or_eq_of_mem_set he with he | rfl
        · exact Hks.out e he
        · have := Hks.out _ (List.mem_of_getElem? Hkv.out)
          exact this
      exact (hrb.ext ht1).keep ts (fun j hj hj' => hj.2.2 (by rw [hj']; rfl))
    · intro j hj; have := HFlt.out j hj; have := ht1.size; simp; omega
  · obtain ⟨s1, s2⟩ := (own_keep Ho.out ht1 (fun _ _ h => h)).stored (r * 2 + 1) (.int .u64 v)
    have ts : Touch (fun j => j = b) w1 (w1.setCell ⟨b, r * 2 + 1, none⟩ (.int .u64 v)) := (Touch.grown s2).mono (fun i hi _ => by simpa [eq_comm] using hi)
    exact ht1.none_to.trans' (ts.mono (fun j hj _ => by subst hj; exact HbF.out))

set_option maxRecDepth 100000 in
set_option maxHeartbeats 1600000 in
/-- the key is not there -/
theorem put_new (w : World) (g : Nat) (kw : Value) (ps : Prs) (k : List Int) (v : Int) (h : Mp w g F ps) (hk : RB w G kw k) (kb : KB k) (hl : k.length ≤ 65535) (hm : ps.length ≤ 1000000) (hh : hasK ps k = false) :
    Calls Tryd.prog 49 #[.pointer (some ⟨g, 0, none⟩), kw, .int .u64 v] w (PutRet w g F ps k v) := by
  have hle := rk_le ps k
  have hf := find_any (F := F) (G := G) w _ kw ps k (Mq.of h) hk kb hm
  rw [hh] at hf
  have hv := valK_none hh
  have hmay := may_any w G kw k hk
  rw [decide_eq_true hl] at hmay
  have hput : putK ps k v = ps.take (rk ps k) ++ (k, v) :: ps.drop (rk ps k) := by unfold putK; simp [hh]
  have hput2 := putK_rises h.rises k v
  have hput3 : ∀ p ∈ putK ps k v, KB p.1 ∧ p.1.length ≤ 65535 := fun p hp => by
    rcases putK_mem hp with rfl | hp
    · exact ⟨kb, hl⟩
    · exact ⟨h.kb p hp, h.long p hp⟩
  obtain ⟨rv, es, hes, c0, f0, hg, ho, hF, hks, hFlt, hr, hp⟩ := h
  have hel : es.length = ps.length := by rw [← hes]; simp
  have hone := el_one hks
  obtain ⟨a, c, hrv⟩ := own_len ho
  generalize hrk : rk ps k = r at *
  have hrle : r ≤ es.length := by omega
  have hgl := World.block_lt_of_cell? _ _ c0
  subst hrv
  have Hf := Lib.hid hf
  clear hf
  have Hmay := Lib.hid hmay
  clear hmay
  have Hput := Lib.hid hput
  clear hput
  have Hput2 := Lib.hid hput2
  clear hput2
  have Hput3 := Lib.hid hput3
  clear hput3
  have Hes := Lib.hid hes
  clear hes
  have Ho := Lib.hid ho
  clear ho
  have HF := Lib.hid hF
  clear hF
  have Hks := Lib.hid hks
  clear hks
  have HFlt := Lib.hid hFlt
  clear hFlt
  have Hr := Lib.hid hr
  clear hr
  have Hp := Lib.hid hp
  clear hp
  have Hv := Lib.hid hv
  clear hv
  have Hel := Lib.hid hel
  clear hel
  have Hg := Lib.hid hg
  clear hg
  have Hrk := Lib.hid hrk
  clear hrk
  have Hh := Lib.hid hh
  clear hh
  have Hone := Lib.hid hone
  clear hone
  have Hk := Lib.hid hk
  clear hk
  unfold PutRet
  go_enter Tryd.func49, Tryd.ntmps49
  go_wp2_with (fail)
  refine Hmay.out.mono ?_
  rintro e w1 ⟨rfl, rfl⟩
  go_wp2_with (fail)
  refine Hf.out.mono ?_
  rintro e w1 ⟨rfl, ht1⟩
  have d0 := keepc ht1 id c0
  have e0 := keepf (p := ⟨g, 0, none⟩) ht1 hgl id f0
  clear c0 f0
  go_wp2_with (fail)
  refine wp_region_plan (.take 0 (.take 1 (.take 2 (.take 3 (.take 4 (.take 5 (.take 6 (.take 8 (.must 7 (.take 9 (.must 10 (.must 11 (.take 12 (.take 13 (.last 14 .done))))))))))))))) (fun wy => wy.cell? ⟨g, 0, none⟩ = some (.slice a es.length c)) (by kernel_rfl) (by kernel_rfl) (by kernel_rfl) rfl ?_ (fun KK hKK => ?_)
  · exact d0
  repeat (first
    | (refine wpPlan_take (v := ?_) rfl (by rfl) (fun W hW => ?_) ?_; rotate_left; (focus ((try dsimp only at hW); go_split_ands; go_simp; (try with_reducible rfl); done)); (try simp only [Act.put, List.setIfInBounds_toArray, List.set_cons_zero, List.set_cons_succ]))
    | (refine wpPlan_skip rfl (by rfl) ?_; (try simp only [Act.put, List.setIfInBounds_toArray, List.set_cons_zero, List.set_cons_succ])))
  refine wpPlan_must rfl (by rfl) (fun K hK => ?_)
  go_simp
  (with_reducible refine (clone_any _ G kw k (Hk.out.ext ht1.drew) (by omega)).mono ?_)
  rintro e w2 ⟨⟨kv, rfl, hob⟩, ht2⟩
  obtain ⟨ka, kc, rfl⟩ := hob.shape
  have hkge : ∀ b, (Value.slice ka k.length kc).ownBlock = some b → w1.heap.size ≤ b := hob.2
  refine hK.out _ _ ?_ ?_
  · exact keepc ht2 id d0
  clear hK K
  (try simp only [Act.put, List.setIfInBounds_toArray, List.set_cons_zero, List.set_cons_succ])
  repeat (first
    | (refine wpPlan_take (v := ?_) rfl (by rfl) (fun W hW => ?_) ?_; rotate_left; (focus ((try dsimp only at hW); go_split_ands; go_simp; (try with_reducible rfl); done)); (try simp only [Act.put, List.setIfInBounds_toArray, List.set_cons_zero, List.set_cons_succ]))
    | (refine wpPlan_skip rfl (by rfl) ?_; (try simp only [Act.put, List.setIfInBounds_toArray, List.set_cons_zero, List.set_cons_succ])))
  refine wpPlan_must rfl (by rfl) (fun K hK => ?_)
  go_simp
  refine hK.out _ _ ?_ ?_
  · exact keepc (ht2.alloc _) id d0
  clear hK K
  (try simp only [Act.put, List.setIfInBounds_toArray, List.set_cons_zero, List.set_cons_succ])
  repeat (first
    | (refine wpPlan_take (v := ?_) rfl (by rfl) (fun W hW => ?_) ?_; rotate_left; (focus ((try dsimp only at hW); go_split_ands; go_simp; (try with_reducible rfl); done)); (try simp only [Act.put, List.setIfInBounds_toArray, List.set_cons_zero, List.set_cons_succ]))
    | (refine wpPlan_skip rfl (by rfl) ?_; (try simp only [Act.put, List.setIfInBounds_toArray, List.set_cons_zero, List.set_cons_succ])))
  refine wpPlan_must rfl (by rfl) (fun K hK => ?_)
  go_simp
  have ho2 := own_keep (own_keep Ho.out (ht1.drew.trans' ht2) (fun _ _ h => h)) ((Touch.refl (fun _ => False) w2).alloc (.cells #[.slice ka k.length kc, .int .u64 v] 33)) (fun _ _ h => h)
  have hrowlt : ∀ b, (Value.slice a es.length c).ownBlock = some b → b < w.heap.size := fun b hb => (Ho.out.lt b hb).2
  have hsz12 := ht1.size
  have hsz2 := ht2.size
  simp only [show w1.drew.heap.size = w1.heap.size from rfl] at hsz2
  (with_reducible refine (insert_any _ (.slice a es.length c) es w2.heap.size r (.slice ka k.length kc, k, v) ?_ ?_ ?_ ?_ ?_ ?_ ?_).mono ?_)
  · exact ho2
  · exact heap_alloc_new w2 _
  · exact Hone.out
  · rfl
  · have := Hel.out; omega
  · exact hrle
  · intro hb; have := hrowlt _ hb; omega
  rintro e w3 ⟨v', rfl, hown3, ht3, hb3⟩
  have hlen : (es.take r ++ (Value.slice ka k.length kc, k, v) :: es.drop r).length = es.length + 1 := by simp; omega
  obtain ⟨va, vc, hv'⟩ := own_len hown3
  rw [hlen] at hv' hown3
  subst hv'
  have hng : (Value.slice a es.length c).ownBlock ≠ some g := fun h => (HF.out g h).2 rfl
  have t12 : Ext w w2 := ht1.drew.trans' ht2
  have t12a := t12.alloc (.cells #[.slice ka k.length kc, .int .u64 v] 33)
  have d3 := keepc ht3 hng (keepc (ht2.alloc (.cells #[.slice ka k.length kc, .int .u64 v] 33)) id d0)
  have e3 := keepf (p := ⟨g, 0, none⟩) ht3 (by simp; omega) hng (keepf (p := ⟨g, 0, none⟩) (ht2.alloc (.cells #[.slice ka k.length kc, .int .u64 v] 33)) (by show g < w1.heap.size; omega) id e0)
  refine hK.out _ _ ?_ ?_
  · exact d3
  clear hK K
  (try simp only [Act.put, List.setIfInBounds_toArray, List.set_cons_zero, List.set_cons_succ])
  repeat (first
    | (refine wpPlan_take (v := ?_) rfl (by rfl) (fun W hW => ?_) ?_; rotate_left; (focus ((try dsimp only at hW); go_split_ands; go_simp; (try with_reducible rfl); done)); (try simp only [Act.put, List.setIfInBounds_toArray, List.set_cons_zero, List.set_cons_succ]))
    | (refine wpPlan_skip rfl (by rfl) ?_; (try simp only [Act.put, List.setIfInBounds_toArray, List.set_cons_zero, List.set_cons_succ])))
  refine wpPlan_last rfl (by rfl) (fun K hK => ?_)
  go_simp
  refine hK.out _ _ ?_
  clear hK K
  (try simp only [Act.put, List.setIfInBounds_toArray, List.set_cons_zero, List.set_cons_succ])
  refine wpPlan_done (hKK.out _ _ ?_)
  clear hKK KK
  have hob := hob
  have hsz3 := ht3.size
  simp at hsz3
  have hvlt : ∀ b, (Value.slice va (es.length + 1) vc).ownBlock = some b → b < w3.heap.size := fun b hb => (hown3.lt b hb).2
  have hrow' : ∀ b, (Value.slice va (es.length + 1) vc).ownBlock = some b → (Value.slice a es.length c).ownBlock = some b ∨ w2.heap.size + 1 ≤ b := by
    intro b hb
    rcases hb3 with h | ⟨n, h, h'⟩
    · exact Or.inl (h ▸ hb)
    · rw [h] at hb; cases hb; right; simpa using h'
  have tg : Touch (fun j => j = g) w3 (w3.setCell ⟨g, 0, none⟩ (.slice va (es.length + 1) vc)) := Touch.setCell (S := fun j => j = g) (Touch.refl _ _) (p := ⟨g, 0, none⟩) (Or.inl rfl) _
  have hvg : (Value.slice va (es.length + 1) vc).ownBlock ≠ some g := fun h => by rcases hrow' g h with h | h; exact hng h; omega
  have hmp : Mp (w3.setCell ⟨g, 0, none⟩ (.slice va (es.length + 1) vc)) g (fun b => F b ∨ (w.heap.size ≤ b ∧ b < w3.heap.size)) (putK ps k v) := by
    refine mp_mk (es' := es.take r ++ (Value.slice ka k.length kc, k, v) :: es.drop r) ?_ (World.cell?_setCell_same _ _ _ d3) (by rw [World.frozen?_setCell]; exact e3) (Or.inl Hg.out) ?_ ?_ ?_ ?_ Hput2.out Hput3.out
    · rw [Hput.out, List.map_append, List.map_cons, List.map_take, List.map_drop, Hes.out]
    · rw [hlen]; exact own_keep hown3 tg (fun b hb hb' => hvg (hb' ▸ hb))
    · intro b hb
      refine ⟨?_, fun h => hvg (h ▸ hb)⟩
      rcases hrow' b hb with h | h
      · exact Or.inl (HF.out b h).1
      · exact Or.inr ⟨by omega, hvlt b hb⟩
    · intro e he
      have hold : ∀ e ∈ es, RB (w3.setCell ⟨g, 0, none⟩ (.slice va (es.length + 1) vc)) (fun b => (F b ∨ (w.heap.size ≤ b ∧ b < w3.heap.size)) ∧ b ≠ g ∧ (Value.slice va (es.length + 1) vc).ownBlock ≠ some b) e.1 e.2.1 := by
        intro e he
        have h0 := (((Hks.out e he).ext t12a).keep ht3 (fun b hb hb' => hb.2.2 hb')).keep tg (fun b hb hb' => hb.2.1 hb')
        refine h0.mono (fun b hb => ⟨Or.inl hb.1, hb.2.1, fun h => ?_⟩)
        rcases hrow' b h with h | h
        · exact hb.2.2 h
        · have := HFlt.out b hb.1; omega
      have hnew : RB (w3.setCell ⟨g, 0, none⟩ (.slice va (es.length + 1) vc)) (fun b => (F b ∨ (w.heap.size ≤ b ∧ b < w3.heap.size)) ∧ b ≠ g ∧ (Value.slice va (es.length + 1) vc).ownBlock ≠ some b) (.slice ka k.length kc) k := by
        have hkb : ∀ b, (Value.slice ka k.length kc).ownBlock = some b → w.heap.size ≤ b ∧ b < w2.heap.size := fun b hb => ⟨by have := hkge b hb; omega, hob.lt b hb⟩
        have h1 := ((hob.ext ((Touch.refl _ _).alloc (.cells #[.slice ka k.length kc, .int .u64 v] 33))).keep' ht3 (fun b hb hb' => by have := hkb b hb; have := hrowlt b hb'; omega)).keep' tg (fun b hb hb' => by have := hkb b hb; subst hb'; omega)
        have h2 : OB _ (fun b => (F b ∨ (w.heap.size ≤ b ∧ b < w3.heap.size)) ∧ b ≠ g ∧ (Value.slice va (es.length + 1) vc).ownBlock ≠ some b) (.slice ka k.length kc) k := ⟨h1.1, fun b hb => by
          have h3 := hkb b hb
          refine ⟨Or.inr ⟨h3.1, by omega⟩, by omega, fun h => ?_⟩
          rcases hrow' b h with h | h
          · have := hrowlt b h; omega
          · omega⟩
        exact h2.rb
      rw [List.mem_append, List.mem_cons] at he
      rcases he with he | rfl | he
      · exact hold e (List.mem_of_mem_take he)
      · exact hnew
      · exact hold e (List.mem_of_mem_drop he)
    · intro b hb
      simp only [World.setCell, Array.size_modify]
      rcases hb with hb | hb
      · have := HFlt.out b hb; omega
      · exact hb.2
  have hupd : Touch F w (w3.setCell ⟨g, 0, none⟩ (.slice va (es.length + 1) vc)) := by
    refine (t12a.none_to.trans ht3 (fun j hj _ => (HF.out j hj).1)).trans tg (fun j hj _ => by subst hj; exact Hg.out)
  have Hmp := Lib.hid hmp
  clear hmp
  have Hupd := Lib.hid hupd
  clear hupd
  go_wp2_with (fail)
  go_ret3
  rw [Hh.out, Hv.out]
  exact ⟨rfl, _, Hmp.out, Hupd.out, fun b hb => hb.imp id (fun h => h.1)⟩
end ModF
end Go.Proofs.YtclnnkacfanaiaaDoor
