/- Plain laws: how many cells a radix tree of some pairs has. -/
import Derived.Test.YtclnnkacfanaiaaDoorRadQ
namespace Go.Proofs.YtclnnkacfanaiaaDoor
set_option linter.unusedVariables false
set_option linter.unusedSimpArgs false
open ModP (cmpK_prefix)
open RadK MaskP MaskA KidB ModF
namespace RT
/-- the nodes' bytes -/
def NT : RT → Prs
  | nil => []
  | leaf _ _ => []
  | node k _ _ f => (k, 1) :: (List.range 256).flatMap fun i => (f i).NT
/-- the leaves -/
def LT : RT → Prs
  | nil => []
  | leaf k v => [(k, v)]
  | node _ _ _ f => (List.range 256).flatMap fun i => (f i).LT
theorem NT_node (k : List Int) (o : Option Int) (kd : Nat) (f : Nat → RT) : (node k o kd f).NT = (k, 1) :: (List.range 256).flatMap fun i => (f i).NT := by rw [NT]
theorem LT_node (k : List Int) (o : Option Int) (kd : Nat) (f : Nat → RT) : (node k o kd f).LT = (List.range 256).flatMap fun i => (f i).LT := by rw [LT]
theorem mem_NT {k : List Int} {o : Option Int} {kd : Nat} {f : Nat → RT} {p : List Int × Int} : p ∈ (node k o kd f).NT ↔ p = (k, 1) ∨ ∃ i, i < 256 ∧ p ∈ (f i).NT := by
  rw [NT_node, List.mem_cons, List.mem_flatMap]
  simp only [List.mem_range]
theorem mem_LT {k : List Int} {o : Option Int} {kd : Nat} {f : Nat → RT} {p : List Int × Int} : p ∈ (node k o kd f).LT ↔ ∃ i, i < 256 ∧ p ∈ (f i).LT := by
  rw [LT_node, List.mem_flatMap]
  simp only [List.mem_range]
theorem flat_rises {k : List Int} {g : Nat → Prs} (h1 : ∀ i, i < 256 → Rises (g i)) (h2 : ∀ i, i < 256 → ∀ p ∈ g i, k ++ [(i : Int)] <+: p.1) : Rises ((List.range 256).flatMap g) := by
  unfold Rises
  rw [List.pairwise_flatMap]
  refine ⟨fun i hi => h1 i (List.mem_range.1 hi), ?_⟩
  refine List.Pairwise.imp_of_mem ?_ (List.pairwise_lt_range)
  intro i j hi hj hij p hp r hr
  exact cmp_split (h2 i (List.mem_range.1 hi) p hp) (h2 j (List.mem_range.1 hj) r hr) hij
theorem NT_pre {T : RT} : ∀ {q : List Int}, Ok q T → ∀ p ∈ T.NT, q <+: p.1 ∧ p.2 = 1 := by
  induction T with
  | nil => intro q _ p hp; simp [NT] at hp
  | leaf k v => intro q _ p hp; simp [NT] at hp
  | node k o kd f ih =>
    intro q h p hp
    rcases mem_NT.1 hp with rfl | ⟨i, hi, hp⟩
    · exact ⟨h.1, rfl⟩
    · have := ih i (h.2.2.2.1 i hi) p hp
      exact ⟨(h.1.trans (List.prefix_append _ _)).trans this.1, this.2⟩
theorem LT_sub {T : RT} {p : List Int × Int} : p ∈ T.LT → p ∈ T.prs := by
  induction T with
  | nil => intro hp; simp [LT] at hp
  | leaf k v => intro hp; exact hp
  | node k o kd f ih =>
    intro hp
    obtain ⟨i, hi, hp⟩ := mem_LT.1 hp
    exact mem_node.2 (Or.inr ⟨i, hi, ih i hp⟩)
theorem NT_rises {T : RT} : ∀ {q : List Int}, Ok q T → Rises T.NT := by
  induction T with
  | nil => intro q _; exact List.Pairwise.nil
  | leaf k v => intro q _; exact List.Pairwise.nil
  | node k o kd f ih =>
    intro q h
    rw [NT_node]
    have hp : ∀ i, i < 256 → ∀ p ∈ (f i).NT, k ++ [(i : Int)] <+: p.1 := fun i hi p hp => (NT_pre (h.2.2.2.1 i hi) p hp).1
    refine List.Pairwise.cons (fun p hp2 => ?_) (flat_rises (fun i hi => ih i (h.2.2.2.1 i hi)) hp)
    obtain ⟨i, hi, h3⟩ := List.mem_flatMap.1 hp2
    have := hp i (List.mem_range.1 hi) p h3
    exact cmpK_prefix ((List.prefix_append _ _).trans this) (pre_len this)
theorem LT_rises {T : RT} : ∀ {q : List Int}, Ok q T → Rises T.LT := by
  induction T with
  | nil => intro q _; exact List.Pairwise.nil
  | leaf k v => intro q _; exact List.pairwise_singleton _ _
  | node k o kd f ih =>
    intro q h
    rw [LT_node]
    exact flat_rises (fun i hi => ih i (h.2.2.2.1 i hi)) (fun i hi p hp => child_pre h hi (LT_sub hp))
theorem sum_len (g : Nat → RT) : ∀ n, (∀ i, i < n → (g i).cells = (g i).NT.length + (g i).LT.length) →
    ((List.range n).map fun i => (g i).cells).sum = ((List.range n).flatMap fun i => (g i).NT).length + ((List.range n).flatMap fun i => (g i).LT).length
  | 0, _ => rfl
  | n + 1, h => by
    rw [List.range_succ, List.map_append, List.sum_append, List.flatMap_append, List.flatMap_append, List.length_append, List.length_append, sum_len g n (fun i hi => h i (by omega))]
    have := h n (by omega)
    simp only [List.map_cons, List.map_nil, List.sum_cons, List.sum_nil, List.flatMap_cons, List.flatMap_nil, List.append_nil]
    omega
theorem cells_len (T : RT) : T.cells = T.NT.length + T.LT.length := by
  induction T with
  | nil => rfl
  | leaf k v => rfl
  | node k o kd f ih =>
    rw [cells_node, NT_node, LT_node, List.length_cons, sum_len f 256 (fun i _ => ih i)]
    omega
/-- a node's bytes are what two keys share -/
theorem NT_iff {T : RT} {x : List Int} : ∀ {q : List Int}, Ok q T → ((x, 1) ∈ T.NT ↔ ∃ a ∈ T.prs, ∃ b ∈ T.prs, a.1 ≠ b.1 ∧ x = a.1.take (comK a.1 b.1)) := by
  induction T with
  | nil => intro q _; simp [NT, prs]
  | leaf k v =>
    intro q _
    simp only [NT, prs, List.not_mem_nil, List.mem_singleton, false_iff]
    rintro ⟨a, rfl, b, rfl, h, _⟩
    exact h rfl
  | node k o kd f ih =>
    intro q h
    have htk : ∀ {a b : List Int × Int} {i j : Nat}, i < 256 → j < 256 → a ∈ (f i).prs → b ∈ (f j).prs → i ≠ j → a.1.take (comK a.1 b.1) = k := fun hi hj ha hb hn => by
      have h1 := child_pre h hi ha
      have h2 := child_pre h hj hb
      rw [com_split h1 h2 hn]
      exact (List.prefix_iff_eq_take.1 ((List.prefix_append _ _).trans h1)).symm
    have htk2 : ∀ {b : List Int × Int} {i : Nat}, i < 256 → b ∈ (f i).prs → comK k b.1 = k.length := fun hi hb => comK_of_pre ((List.prefix_append _ _).trans (child_pre h hi hb))
    have hne : ∀ {b : List Int × Int} {i : Nat}, i < 256 → b ∈ (f i).prs → k ≠ b.1 := fun hi hb e => by have := pre_len (child_pre h hi hb); rw [← e] at this; omega
    rw [mem_NT]
    constructor
    · rintro (h1 | ⟨i, hi, h1⟩)
      · have hx : x = k := (Prod.mk.inj h1).1
        have h5 := h.2.2.2.2.1
        cases ho : o with
        | some v =>
          have hc : 0 < cnt (hsT f) 256 := by
            have : one o ≤ 1 := by unfold one; split <;> omega
            omega
          obtain ⟨i, hi, hf⟩ := cnt_pos hc
          obtain ⟨b, hb⟩ := (h.2.2.2.1 i hi).some hf
          exact ⟨(k, v), mem_node.2 (Or.inl ⟨v, rfl, rfl⟩), b, mem_node.2 (Or.inr ⟨i, hi, hb⟩), hne hi hb, by rw [hx]; show k = k.take (comK k b.1); rw [htk2 hi hb, List.take_length]⟩
        | none =>
          rw [ho] at h5
          obtain ⟨i, j, hij, hj, h1, h2⟩ := cnt_two (f := hsT f) (n := 256) (by simpa [one] using h5)
          obtain ⟨a, ha⟩ := (h.2.2.2.1 i (by omega)).some h1
          obtain ⟨b, hb⟩ := (h.2.2.2.1 j hj).some h2
          refine ⟨a, mem_node.2 (Or.inr ⟨i, by omega, ha⟩), b, mem_node.2 (Or.inr ⟨j, hj, hb⟩), fun e => ?_, hx.trans (htk (by omega) hj ha hb (by omega)).symm⟩
          have h3 := pre_byte_eq (child_pre h (by omega) ha)
          have h4 := pre_byte_eq (child_pre h hj hb)
          rw [e] at h3; omega
      · obtain ⟨a, ha, b, hb, h2⟩ := (ih i (h.2.2.2.1 i hi)).1 h1
        exact ⟨a, mem_node.2 (Or.inr ⟨i, hi, ha⟩), b, mem_node.2 (Or.inr ⟨i, hi, hb⟩), h2⟩
    · rintro ⟨a, ha, b, hb, hn, hx⟩
      rcases mem_node.1 ha with ⟨v, _, rfl⟩ | ⟨i, hi, ha⟩
      · rcases mem_node.1 hb with ⟨w, _, rfl⟩ | ⟨j, hj, hb⟩
        · exact absurd rfl hn
        · refine Or.inl ?_
          rw [hx]
          show (k.take (comK k b.1), (1 : Int)) = _
          rw [htk2 hj hb, List.take_length]
      · rcases mem_node.1 hb with ⟨w, _, rfl⟩ | ⟨j, hj, hb⟩
        · refine Or.inl ?_
          rw [hx]
          show (a.1.take (comK a.1 k), (1 : Int)) = _
          rw [comK_comm, htk2 hi ha]
          rw [← List.prefix_iff_eq_take.1 ((List.prefix_append _ _).trans (child_pre h hi ha))]
        · by_cases e : i = j
          · subst e; exact Or.inr ⟨i, hi, (ih i (h.2.2.2.1 i hi)).2 ⟨a, ha, b, hb, hn, hx⟩⟩
          · refine Or.inl ?_
            rw [hx, htk hi hj ha hb e]
/-- a leaf's key is none of a node's -/
theorem LT_iff {T : RT} {p : List Int × Int} : ∀ {q : List Int}, Ok q T → (p ∈ T.LT ↔ p ∈ T.prs ∧ (p.1, 1) ∉ T.NT) := by
  induction T with
  | nil => intro q _; simp [LT, prs]
  | leaf k v => intro q _; simp [LT, prs, NT]
  | node k o kd f ih =>
    intro q h
    rw [mem_LT, mem_node, mem_NT]
    constructor
    · rintro ⟨i, hi, hp⟩
      have h1 := (ih i (h.2.2.2.1 i hi)).1 hp
      refine ⟨Or.inr ⟨i, hi, h1.1⟩, ?_⟩
      have h2 := child_pre h hi h1.1
      rintro (e | ⟨j, hj, h3⟩)
      · have := pre_len h2; rw [(Prod.mk.inj e).1] at this; omega
      · have h4 := (NT_pre (h.2.2.2.1 j hj) _ h3).1
        have : i = j := (pre_byte_eq h2).symm.trans (pre_byte_eq h4)
        subst this; exact h1.2 h3
    · rintro ⟨⟨v, ho, rfl⟩ | ⟨i, hi, hp⟩, hn⟩
      · exact absurd (Or.inl rfl) hn
      · exact ⟨i, hi, (ih i (h.2.2.2.1 i hi)).2 ⟨hp, fun h3 => hn (Or.inr ⟨i, hi, h3⟩)⟩⟩
end RT

/-! ### as a function of the pairs -/
open RT
def sharedK (ps : Prs) : Prs := ps.flatMap fun p => (ps.filter fun q => !(q.1 == p.1)).map fun q => (p.1.take (comK p.1 q.1), 1)
def nodesK (ps : Prs) : Prs := mkK (sharedK ps)
def okP (ps : Prs) : Bool := risesB ps && ps.all fun p => p.1.all fun x => decide (0 ≤ x) && decide (x < 256)
def cellsK (ps : Prs) : Nat := (nodesK ps).length + (ps.filter fun p => !hasK (nodesK ps) p.1).length
/-- how many cells a radix tree of some pairs has -/
def szK (ps : Prs) : Nat := if okP ps then cellsK ps else 0
namespace RadS
theorem okP_iff {ps : Prs} : okP ps = true ↔ Rises ps ∧ ∀ p ∈ ps, KB p.1 := by
  unfold okP KB
  rw [Bool.and_eq_true, risesB_step]
  simp [List.all_eq_true]
theorem shared_mem {ps : Prs} {x : List Int} : (x, 1) ∈ sharedK ps ↔ ∃ a ∈ ps, ∃ b ∈ ps, a.1 ≠ b.1 ∧ x = a.1.take (comK a.1 b.1) := by
  unfold sharedK
  rw [List.mem_flatMap]
  constructor
  · rintro ⟨a, ha, h⟩
    obtain ⟨b, hb, e⟩ := List.mem_map.1 h
    have hb2 := List.mem_filter.1 hb
    exact ⟨a, ha, b, hb2.1, fun e => by simp [e] at hb2, ((Prod.mk.inj e).1).symm⟩
  · rintro ⟨a, ha, b, hb, hn, rfl⟩
    exact ⟨a, ha, List.mem_map.2 ⟨b, List.mem_filter.2 ⟨hb, by simp [Ne.symm hn]⟩, rfl⟩⟩
theorem shared_one {ps : Prs} {p : List Int × Int} (h : p ∈ sharedK ps) : p.2 = 1 := by
  unfold sharedK at h
  obtain ⟨a, _, h⟩ := List.mem_flatMap.1 h
  obtain ⟨b, _, rfl⟩ := List.mem_map.1 h
  rfl
theorem mk_has : ∀ (l : Prs) (p : List Int × Int), p ∈ l → hasK (mkK l) p.1 = true := by
  intro l
  have : ∀ n, n = l.length → ∀ p ∈ l, hasK (mkK l) p.1 = true := by
    intro n
    induction n generalizing l with
    | zero => intro h p hp; rw [List.eq_nil_of_length_eq_zero h.symm] at hp; simp at hp
    | succ n ih =>
      intro h p hp
      rcases List.eq_nil_or_concat l with rfl | ⟨l', a, rfl⟩
      · simp at h
      · rw [List.concat_eq_append] at h hp ⊢
        rw [mkK_snoc, ModR.has_put (mkK_rises l')]
        rcases List.mem_append.1 hp with h1 | h1
        · rw [ih l' (by simp at h; omega) p h1]; simp
        · simp at h1; rw [h1]; simp
  exact this l.length rfl
theorem mem_mk_one {l : Prs} (h1 : ∀ p ∈ l, p.2 = 1) {p : List Int × Int} : p ∈ mkK l ↔ p ∈ l := by
  refine ⟨mkK_mem, fun h => ?_⟩
  have h2 := ModP.of_has (mk_has l p h)
  have h3 := h1 _ (mkK_mem h2)
  have h4 := h1 _ h
  obtain ⟨a, b⟩ := p
  simp only at h2 h3 h4
  rw [h3] at h2
  rw [h4]; exact h2
theorem nodes_NT {T : RT} {q : List Int} (h : Ok q T) : nodesK T.prs = T.NT := by
  refine rises_ext (mkK_rises _) (NT_rises h) fun p => ?_
  unfold nodesK
  rw [mem_mk_one (fun p hp => shared_one hp)]
  constructor
  · intro hp
    have h1 := shared_one hp
    obtain ⟨a, b⟩ := p
    simp only at h1
    subst h1
    exact (NT_iff h).2 (shared_mem.1 hp)
  · intro hp
    have h1 := (NT_pre h p hp).2
    obtain ⟨a, b⟩ := p
    simp only at h1
    subst h1
    exact shared_mem.2 ((NT_iff h).1 hp)
theorem cells_sz {T : RT} {q : List Int} (h : Ok q T) : T.cells = szK T.prs := by
  have hok : okP T.prs = true := okP_iff.2 ⟨h.rises, fun p hp => (h.pre p hp).2⟩
  unfold szK
  rw [if_pos hok]
  unfold cellsK
  rw [nodes_NT h, cells_len]
  have hL : T.LT = T.prs.filter fun p => !hasK T.NT p.1 := by
    refine rises_ext (LT_rises h) (List.Pairwise.sublist List.filter_sublist h.rises) fun p => ?_
    rw [LT_iff h, List.mem_filter]
    refine and_congr_right fun _ => ?_
    have : hasK T.NT p.1 = true ↔ (p.1, 1) ∈ T.NT := by
      rw [ModR.has_iff (NT_rises h)]
      constructor
      · rintro ⟨r, hr, e⟩
        have h2 := (NT_pre h r hr).2
        obtain ⟨a, b⟩ := r
        simp only at e h2
        subst e; subst h2; exact hr
      · intro hr; exact ⟨_, hr, rfl⟩
    rw [← this]; simp
  rw [hL]
/-- the tree of some pairs -/
def mkT (ps : Prs) : RT := ps.foldl (fun T p => putT T p.1 p.2) nil
theorem mkT_snoc (ps : Prs) (p : List Int × Int) : mkT (ps ++ [p]) = putT (mkT ps) p.1 p.2 := by simp [mkT, List.foldl_append]
theorem mkT_spec : ∀ (n : Nat) (ps : Prs), ps.length = n → (∀ p ∈ ps, KB p.1) → Ok [] (mkT ps) ∧ (mkT ps).prs = mkK ps ∧ (mkT ps).cells ≤ 2 * ps.length
  | 0, ps, h, _ => by rw [List.eq_nil_of_length_eq_zero h]; exact ⟨trivial, rfl, Nat.le_refl _⟩
  | n + 1, ps, h, hk => by
    rcases List.eq_nil_or_concat ps with rfl | ⟨l, a, rfl⟩
    · simp at h
    · rw [List.concat_eq_append] at h hk ⊢
      obtain ⟨h1, h2, h3⟩ := mkT_spec n l (by simp at h; omega) (fun p hp => hk p (by simp [hp]))
      have hka := hk a (by simp)
      rw [mkT_snoc, mkK_snoc, ← h2]
      refine ⟨putT_ok a.2 hka h1 List.nil_prefix, putT_prs a.2 hka h1 List.nil_prefix, ?_⟩
      rw [putT_cells a.2 hka h1]
      have := manyT_le (mkT l) a.1
      simp; omega
theorem tree_of {M : Prs} (hr : Rises M) (hk : ∀ p ∈ M, KB p.1) : ∃ T, Ok [] T ∧ T.prs = M := by
  obtain ⟨h1, h2, _⟩ := mkT_spec _ M rfl hk
  exact ⟨mkT M, h1, by rw [h2, ModR.mk_self hr]⟩
theorem sz_not {ps : Prs} (h : ¬ (Rises ps ∧ ∀ p ∈ ps, KB p.1)) : szK ps = 0 := by
  unfold szK; rw [if_neg (fun h2 => h (okP_iff.1 h2))]
theorem sz_bound2 (ps : Prs) : szK ps ≤ 2 * ps.length := by
  by_cases h : Rises ps ∧ ∀ p ∈ ps, KB p.1
  · obtain ⟨h1, h2, h3⟩ := mkT_spec _ ps rfl h.2
    rw [cells_sz h1, h2, ModR.mk_self h.1] at h3
    exact h3
  · rw [sz_not h]; omega
theorem manyT_has {T : RT} {k : List Int} {x : Int} : ∀ {q : List Int}, Ok q T → (k, x) ∈ T.prs → manyT T k = 0 := by
  induction T with
  | nil => intro q _ h; simp [prs] at h
  | leaf k0 v0 => intro q _ h; simp [prs] at h; simp [manyT, h.1]
  | node k0 o kd f ih =>
    intro q h hp
    obtain ⟨w1, w2, w3⟩ := way_of h hp
    have hkb := (h.pre _ hp).2
    simp only at hkb
    unfold manyT
    rw [if_neg (by rw [comK_of_pre w1]; omega)]
    by_cases hl : k.length = k0.length
    · rw [if_pos hl]
    · rw [if_neg hl]
      obtain ⟨w4, w5, w6⟩ := w3 hl
      rw [if_neg (fun hc => by rw [is_false hc] at w6; simp [prs] at w6)]
      exact ih _ (h.2.2.2.1 _ (byteAt_lt hkb _)) w6
theorem sz_put_tree {T : RT} {k : List Int} (v : Int) (h : Ok [] T) (hk : KB k) : szK (putK T.prs k v) = szK T.prs + manyT T k := by
  rw [← putT_prs v hk h List.nil_prefix, ← cells_sz (putT_ok v hk h List.nil_prefix), ← cells_sz h, putT_cells v hk h]
theorem put_kb {M : Prs} {k : List Int} {v : Int} (hr : Rises M) (h : ∀ p ∈ putK M k v, KB p.1) : KB k ∧ (∀ p ∈ M, p.1 ≠ k → KB p.1) :=
  ⟨h _ (ModR.put_mem_self M k v), fun p hp hn => h _ (ModR.put_mem_other hp hn)⟩
theorem sz_put_le2 {M : Prs} (hr : Rises M) {k : List Int} (v : Int) (h : hasK M k = false) : szK (putK M k v) ≤ szK M + 2 := by
  by_cases hh : Rises (putK M k v) ∧ ∀ p ∈ putK M k v, KB p.1
  · have h1 := put_kb hr hh.2
    have hM : ∀ p ∈ M, KB p.1 := fun p hp => h1.2 p hp (fun e => by have := (ModR.has_iff hr k).2 ⟨p, hp, e⟩; rw [h] at this; cases this)
    obtain ⟨T, h2, rfl⟩ := tree_of hr hM
    rw [sz_put_tree v h2 h1.1]
    have := manyT_le T k; omega
  · rw [sz_not hh]; omega
theorem sz_put_has2 {M : Prs} (hr : Rises M) {k : List Int} (v : Int) (h : hasK M k = true) : szK (putK M k v) = szK M := by
  obtain ⟨x, hx, _⟩ := hasK_some h
  have hm := List.mem_of_getElem? hx
  by_cases hM : ∀ p ∈ M, KB p.1
  · obtain ⟨T, h2, rfl⟩ := tree_of hr hM
    rw [sz_put_tree v h2 (hM _ hm), manyT_has h2 hm]; rfl
  · rw [sz_not (fun h2 => hM h2.2), sz_not (fun h2 => hM (fun p hp => ?_))]
    have h1 := put_kb hr h2.2
    by_cases e : p.1 = k
    · rw [e]; exact h1.1
    · exact h1.2 p hp e
theorem sz_drop_le2 {M : Prs} (hr : Rises M) (hM : ∀ p ∈ M, KB p.1) (k : List Int) : szK (dropK M k) ≤ szK M := by
  cases h : hasK M k with
  | false => rw [dropK_not h]; exact Nat.le_refl _
  | true =>
    obtain ⟨x, hx, _⟩ := hasK_some h
    have hm := List.mem_of_getElem? hx
    obtain ⟨T, h2, rfl⟩ := tree_of hr hM
    rw [← dropT_prs h2 h, ← cells_sz (dropT_ok h2 hm), ← cells_sz h2]
    have := dropT_cells h2 hm
    omega
end RadS
end Go.Proofs.YtclnnkacfanaiaaDoor
