/- Texts of one chain, in one file. -/
import Derived.Test.YtclnnkacfanaiaaDoorModL
import Derived.Test.YtclnnkacfanaiaaDoorArg
import Derived.Test.YtclnnkacfanaiaaDoorSameX
/- Plain laws of rows of pairs: what the laws on model ask. -/
namespace Go.Proofs.YtclnnkacfanaiaaDoor
set_option linter.unusedVariables false
set_option linter.unusedSimpArgs false
namespace ModP
open ModA ModB ModF ModI ModL

theorem at_rk {ps : Prs} (hr : Rises ps) {i : Nat} {p : List Int × Int} (h : ps[i]? = some p) : rk ps p.1 = i ∧ hasK ps p.1 = true ∧ valK ps p.1 = p.2 := by
  have hi := (List.getElem?_eq_some_iff.1 h).1
  have h1 : rk ps p.1 = i := rk_eq (by omega) (fun j q hj hq => ltK_iff.2 (hr.get hq h hj)) (fun q hq => by rw [h] at hq; cases hq; exact ltK_irrefl _)
  refine ⟨h1, ?_, ?_⟩
  · unfold hasK; rw [h1, h]; simp
  · unfold valK; rw [h1, h]; simp
theorem of_has {ps : Prs} {k : List Int} (h : hasK ps k = true) : (k, valK ps k) ∈ ps := by
  obtain ⟨v, h1, h2⟩ := hasK_some h
  rw [h2]
  exact List.mem_of_getElem? h1
theorem has_of {ps : Prs} (hr : Rises ps) {p : List Int × Int} (h : p ∈ ps) : hasK ps p.1 = true ∧ valK ps p.1 = p.2 := by
  obtain ⟨i, hi⟩ := List.mem_iff_getElem?.1 h
  exact (at_rk hr hi).2

theorem rk_nil (ps : Prs) : rk ps [] = 0 := by
  refine rk_eq (Nat.zero_le _) (fun j p hj => by omega) (fun p hp => ?_)
  rw [ltK_false]
  cases p.1 <;> simp [cmpK]

/-- how long the longest beginning of k is that is there, of those shorter than j -/
def lastI (M : Prs) (k : List Int) : Nat → Int
  | 0 => -1
  | j + 1 => if hasK M (k.take j) then j else lastI M k j
theorem lastI_lt (M : Prs) (k : List Int) : ∀ j : Nat, -1 ≤ lastI M k j ∧ lastI M k j < j
  | 0 => by simp [lastI]
  | j + 1 => by
    have := lastI_lt M k j
    unfold lastI
    split <;> omega
theorem lastI_has (M : Prs) (k : List Int) : ∀ (j : Nat) (n : Nat), lastI M k j = n → hasK M (k.take n) = true
  | 0, n, h => by simp [lastI] at h
  | j + 1, n, h => by
    unfold lastI at h
    split at h
    · rename_i h1; obtain rfl : j = n := by omega
      exact h1
    · exact lastI_has M k j n h
theorem lastI_above (M : Prs) (k : List Int) : ∀ (j : Nat) (i : Nat), i < j → lastI M k j < i → hasK M (k.take i) = false
  | 0, i, h, _ => by omega
  | j + 1, i, h, h2 => by
    unfold lastI at h2
    split at h2
    · omega
    · rename_i h1
      rcases Nat.eq_or_lt_of_le (Nat.le_of_lt_succ h) with e | e
      · subst e; simpa using h1
      · exact lastI_above M k j i e h2

theorem cmpK_prefix : ∀ {a b : List Int}, a <+: b → a.length < b.length → cmpK a b < 0
  | [], [], _, h => by simp at h
  | [], _ :: _, _, _ => by simp [cmpK]
  | _ :: _, [], h, _ => by simp at h
  | x :: a, y :: b, h, hl => by
    obtain ⟨t, ht⟩ := h
    simp at ht
    obtain ⟨rfl, rfl⟩ := ht
    have := cmpK_prefix (a := a) (b := a ++ t) (List.prefix_append _ _) (by simpa using hl)
    unfold cmpK
    simp [this]

theorem find_last {ps : Prs} {f : List Int × Int → Bool} {p : List Int × Int} (h : ps.reverse.find? f = some p) : ∃ i : Nat, ps[i]? = some p ∧ f p = true ∧ ∀ (j : Nat) q, i < j → ps[j]? = some q → f q = false := by
  rw [List.find?_eq_some_iff_append] at h
  obtain ⟨h1, us, bs, h2, h3⟩ := h
  have h4 : ps = bs.reverse ++ p :: us.reverse := by
    have := congrArg List.reverse h2
    simpa using this
  refine ⟨bs.length, ?_, h1, fun j q hj hq => ?_⟩
  · rw [h4]; simp
  · rw [h4, List.getElem?_append_right (by simp; omega)] at hq
    obtain ⟨d, hd⟩ : ∃ d, j - bs.reverse.length = d + 1 := ⟨j - bs.length - 1, by simp; omega⟩
    rw [hd, List.getElem?_cons_succ] at hq
    have := List.mem_of_getElem? hq
    simpa using h3 q (by simpa using this)

theorem longest_law {M : Prs} (hr : Rises M) (k : List Int) :
    longestK M k = if 0 ≤ lastI M k (k.length + 1) then some (k.take (lastI M k (k.length + 1)).toNat, valK M (k.take (lastI M k (k.length + 1)).toNat)) else none := by
  have hn := lastI_lt M k (k.length + 1)
  cases hlo : longestK M k with
  | none =>
    rw [if_neg]
    intro h0
    obtain ⟨n, hn'⟩ := Int.eq_ofNat_of_zero_le h0
    have := of_has (lastI_has M k _ n hn')
    unfold longestK at hlo
    rw [List.find?_eq_none] at hlo
    have h2 := hlo _ (List.mem_reverse.2 this)
    rw [begK_iff] at h2
    exact h2 (by simp)
  | some p =>
    obtain ⟨i, h1, h2, h3⟩ := find_last hlo
    rw [begK_iff] at h2
    have hpl : p.1.length ≤ k.length := by rw [← h2]; simp; omega
    have hh := (at_rk hr h1).2
    have hge : (p.1.length : Int) ≤ lastI M k (k.length + 1) := by
      rcases Int.lt_or_le (lastI M k (k.length + 1)) (p.1.length : Int) with h | h
      · have := lastI_above M k (k.length + 1) p.1.length (by omega) h
        rw [h2, hh.1] at this; cases this
      · exact h
    obtain ⟨n, hn'⟩ := Int.eq_ofNat_of_zero_le (Int.le_trans (Int.natCast_nonneg _) hge)
    have hnk := lastI_has M k _ n hn'
    have heq : n = p.1.length := by
      rcases Nat.lt_or_ge p.1.length n with h | h
      · exfalso
        obtain ⟨v, hq, _⟩ := hasK_some hnk
        have hlt : cmpK p.1 (k.take n) < 0 := by
          refine cmpK_prefix ?_ (by simp; omega)
          rw [← h2]
          exact List.take_prefix_take_left (by omega)
        have hij : i < rk M (k.take n) := by
          rcases Nat.lt_or_ge i (rk M (k.take n)) with h' | h'
          · exact h'
          · have := ltK_false.1 (rk_ge_any hr h' h1)
            exact absurd hlt this
        have := h3 _ _ hij hq
        have h9 : begK k (k.take n) = true := begK_iff.2 (by simp)
        rw [h9] at this; cases this
      · omega
    rw [if_pos (by omega), hn']
    simp only [Int.toNat_natCast]
    rw [heq, h2, hh.2]

theorem from_nil {M : Prs} (n : Nat) : fromK M [] n = M.take n := by
  unfold fromK fromN
  rw [rk_nil]; simp
theorem from_rest {M : Prs} (k : List Int) (n : Nat) (h : M.length ≤ n) : fromK M k n = M.drop (rk M k) := by
  unfold fromK fromN
  exact List.take_of_length_le (by simp; omega)
end ModP
end Go.Proofs.YtclnnkacfanaiaaDoor

/- Plain laws of rows of pairs: put, drop, made again. -/
namespace Go.Proofs.YtclnnkacfanaiaaDoor
set_option linter.unusedVariables false
set_option linter.unusedSimpArgs false
namespace ModR
open ModA ModB ModF ModI ModL ModP

theorem has_iff {M : Prs} (hr : Rises M) (k : List Int) : hasK M k = true ↔ ∃ p ∈ M, p.1 = k :=
  ⟨fun h => ⟨_, of_has h, rfl⟩, fun ⟨p, h1, h2⟩ => h2 ▸ (has_of hr h1).1⟩
theorem put_mem_self (M : Prs) (k : List Int) (x : Int) : (k, x) ∈ putK M k x := by unfold putK; simp
theorem put_mem_other {M : Prs} {k : List Int} {x : Int} {p : List Int × Int} (h : p ∈ M) (hn : p.1 ≠ k) : p ∈ putK M k x := by
  unfold putK
  obtain ⟨i, hi⟩ := List.mem_iff_getElem?.1 h
  rcases Nat.lt_or_ge i (rk M k) with h1 | h1
  · refine List.mem_append.2 (Or.inl (List.mem_of_getElem? (i := i) ?_))
    rw [List.getElem?_take, if_pos h1]; exact hi
  · refine List.mem_append.2 (Or.inr (List.mem_cons.2 (Or.inr ?_)))
    cases hh : hasK M k with
    | false =>
      refine List.mem_of_getElem? (i := i - rk M k) ?_
      simp only [Bool.false_eq_true, if_false, Nat.add_zero]
      rw [List.getElem?_drop, show rk M k + (i - rk M k) = i by omega]; exact hi
    | true =>
      have hne : i ≠ rk M k := by
        rintro rfl
        obtain ⟨v, h2, _⟩ := hasK_some hh
        rw [h2] at hi; cases hi; exact hn rfl
      refine List.mem_of_getElem? (i := i - (rk M k + 1)) ?_
      simp only [if_true]
      rw [List.getElem?_drop, show rk M k + 1 + (i - (rk M k + 1)) = i by omega]; exact hi
theorem put_mem_only {M : Prs} (hr : Rises M) {k : List Int} {x : Int} {p : List Int × Int} (h : p ∈ putK M k x) : p = (k, x) ∨ p ∈ M ∧ p.1 ≠ k := by
  rcases putK_mem h with h1 | h1
  · exact Or.inl h1
  · by_cases hk : p.1 = k
    · left
      have h2 := (has_of (putK_rises hr k x) h).2
      have h3 := (has_of (putK_rises hr k x) (put_mem_self M k x)).2
      rw [hk] at h2
      obtain ⟨a, b⟩ := p
      simp only at hk h2
      subst hk
      rw [h2] at h3
      simp [h3]
    · exact Or.inr ⟨h1, hk⟩
theorem has_put {M : Prs} (hr : Rises M) (k' k : List Int) (x : Int) : hasK (putK M k' x) k = (decide (k' = k) || hasK M k) := by
  rw [Bool.eq_iff_iff, has_iff (putK_rises hr k' x)]
  simp only [Bool.or_eq_true, decide_eq_true_eq]
  rw [has_iff hr]
  constructor
  · rintro ⟨p, h1, rfl⟩
    rcases put_mem_only hr h1 with rfl | ⟨h2, _⟩
    · exact Or.inl rfl
    · exact Or.inr ⟨p, h2, rfl⟩
  · rintro (rfl | ⟨p, h1, rfl⟩)
    · exact ⟨_, put_mem_self _ _ _, rfl⟩
    · by_cases hk : p.1 = k'
      · exact ⟨_, put_mem_self _ _ _, hk.symm⟩
      · exact ⟨p, put_mem_other h1 hk, rfl⟩
theorem val_put {M : Prs} (hr : Rises M) (k' k : List Int) (x : Int) : valK (putK M k' x) k = if k' = k then x else valK M k := by
  by_cases hk : k' = k
  · subst hk
    rw [if_pos rfl]
    exact (has_of (putK_rises hr k' x) (put_mem_self M k' x)).2
  · rw [if_neg hk]
    cases hh : hasK M k with
    | false =>
      have h1 : hasK (putK M k' x) k = false := by rw [has_put hr, hh]; simp [hk]
      rw [valK_none h1, valK_none hh]
    | true => exact (has_of (putK_rises hr k' x) (put_mem_other (of_has hh) (fun h => hk h.symm))).2

/-- the last value of a key, and is there one? -/
def lastV (ps : Prs) (k : List Int) : Int × Bool := ps.foldl (fun a p => if p.1 = k then (p.2, true) else a) (0, false)
theorem lastV_take (ps : Prs) (k : List Int) (j : Nat) (p : List Int × Int) (h : ps[j]? = some p) : lastV (ps.take (j + 1)) k = if p.1 = k then (p.2, true) else lastV (ps.take j) k := by
  have : ps.take (j + 1) = ps.take j ++ [p] := by rw [List.take_add_one, h]; rfl
  unfold lastV
  rw [this, List.foldl_append]; rfl
theorem lastV_law (ps : Prs) (k : List Int) : ∀ j, lastV (ps.take j) k = (valK (mkK (ps.take j)) k, hasK (mkK (ps.take j)) k)
  | 0 => by simp [lastV, mkK, valK, hasK, rk]
  | j + 1 => by
    have ih := lastV_law ps k j
    cases hp : ps[j]? with
    | none =>
      have hl : ps.length ≤ j := by simpa using hp
      rw [List.take_of_length_le (by omega)]
      rw [List.take_of_length_le (by omega)] at ih
      exact ih
    | some p =>
      rw [lastV_take ps k j p hp, mkK_take ps j p hp, has_put (mkK_rises _), val_put (mkK_rises _), ih]
      by_cases hk : p.1 = k <;> simp [hk]
theorem lastV_all (ps : Prs) (k : List Int) : lastV ps k = (valK (mkK ps) k, hasK (mkK ps) k) := by
  have := lastV_law ps k ps.length
  simpa using this

theorem put_end {M : Prs} {p : List Int × Int} (h : ∀ q ∈ M, cmpK q.1 p.1 < 0) : putK M p.1 p.2 = M ++ [p] := by
  have hr : rk M p.1 = M.length := rk_eq (Nat.le_refl _) (fun j q _ hq => ltK_iff.2 (h q (List.mem_of_getElem? hq))) (fun q hq => by simp at hq)
  have hh : hasK M p.1 = false := by unfold hasK; rw [hr]; simp
  unfold putK
  rw [hr, hh]; simp
theorem mk_self_take {M : Prs} (hr : Rises M) : ∀ j, mkK (M.take j) = M.take j
  | 0 => rfl
  | j + 1 => by
    cases hp : M[j]? with
    | none =>
      have hl : M.length ≤ j := by simpa using hp
      have ih := mk_self_take hr j
      rw [List.take_of_length_le (by omega)] at ih ⊢
      exact ih
    | some p =>
      rw [mkK_take M j p hp, mk_self_take hr j, put_end, List.take_add_one, hp]
      · rfl
      · intro q hq
        obtain ⟨i, hi⟩ := List.mem_iff_getElem?.1 hq
        rw [List.getElem?_take] at hi
        split at hi
        · exact hr.get hi hp (by assumption)
        · cases hi
theorem mk_self {M : Prs} (hr : Rises M) : mkK M = M := by
  have := mk_self_take hr M.length
  simpa using this
end ModR
end Go.Proofs.YtclnnkacfanaiaaDoor

/- The laws on model: what they share. -/
namespace Go.Proofs.YtclnnkacfanaiaaDoor
open Go.ChangeShapes Go.WideShapes Go.ChangeAt Go.RowKit Go.Deep
set_option linter.unusedVariables false
set_option linter.unusedSimpArgs false
namespace ModS
open ModA ModB ModF ModI ModL ModP

theorem rp_push {w w' : World} {F : Nat → Prop} {v v' : Value} {es1 es2 : List El} (hk1 : ∀ e ∈ es1, OB w (fun b => F b ∧ v.ownBlock ≠ some b) e.1 e.2.1) (hk2 : ∀ e ∈ es2, RB w (fun b => v.ownBlock ≠ some b) e.1 e.2.1)
    (hown : w'.ownsRow 0 33 2 v' (es1.length + es2.length) (flat es1 ++ flat es2)) (ht : Touch (fun b => v.ownBlock = some b) w w') : RP w' Any v' (es1.map (·.2) ++ es2.map (·.2)) := by
  refine ⟨es1 ++ es2, by simp, Cells2.of_own (by rw [List.length_append, flat_append]; exact hown) (fun _ _ => trivial), fun e he => ?_⟩
  rcases List.mem_append.1 he with h | h
  · exact rb_any ((hk1 e h).rb.keep ht (fun b hb hb' => hb.2 hb'))
  · exact rb_any ((hk2 e h).keep ht (fun b hb hb' => hb hb'))

theorem wpList_push_if (w : World) {ops : Array Oper} {rest : List Oper} {o : Oper} {a : Act} {Q : Exit → Act → World → Prop} (hgd : Region.wanted o (yielded ops a.tmps) = true) (s x : Operand) (t : TypeId) (ho : o.op = .call { callee := .builtin .append, args := #[s, x], argTypes := #[t, t] })
    (e : TypeId) (z : Value) (size bytes : Nat) (ht : Tryd.prog.underlying t = some (.slice e)) (hi : (Tryd.prog.info? e).map (fun i => (i.zero, i.size, i.bytes)) = some (some z, size, bytes)) (hzs : z.cells.size = size) (hsz : 0 < size)
    (v : Value) (n : Nat) (xs : List Value) (hev : a.eval s = v) (hown : w.ownsRow 0 e size v n xs) (ad : Option Addr) (m c : Nat) (hex : a.eval x = .slice ad m c) (ha : ad = none → c = 0) (news : List Value) (hmc : m ≤ c) (hl : news.length = m * size) (hs : Src w ad news) (h1 : ∀ u ∈ news, u.oneCell' = true)
    (h63 : n + m ≤ maxLen) (hbytes : (n + m) * bytes ≤ 140737488355328)
    (h : ∀ v' w', w'.ownsRow 0 e size v' (n + m) (xs ++ news) → Touch (fun b => v.ownBlock = some b) w w' → (v'.ownBlock = v.ownBlock ∨ v'.ownBlock = some w.heap.size) → wpList Tryd.prog ops Q rest (a.put o.dst v') w') : wpList Tryd.prog ops Q (o :: rest) a w := by
  unfold wpList
  rw [if_pos hgd]
  exact Or.inl (wp_push_any w s x t ho e z size bytes ht hi hzs hsz v n xs hev hown ad m c hex ha news hmc hl hs h1 h63 hbytes h)

theorem pair_none {w w' : World} {e : Ending} (h : PairRet w none e w') : ∃ a c, e = .returned (.tuple #[.agg #[.slice a 0 c, .int .u64 0], .bool false]) ∧ OB w' (Ge w.heap.size) (.slice a 0 c) [] ∧ Ext w w' := by
  obtain ⟨⟨kv, rfl, ho⟩, ht⟩ := h
  obtain ⟨a, c, rfl⟩ := ho.shape
  exact ⟨a, c, rfl, ho, ht⟩

theorem great_not {ps : Prs} {most long : Nat} (h : SameP.great ps most long = false) : ps.length ≤ most ∧ ∀ p ∈ ps, p.1.length ≤ long := by
  unfold SameP.great at h
  simp only [Bool.or_eq_false_iff, decide_eq_false_iff_not, List.any_eq_false, decide_eq_true_eq] at h
  exact ⟨by omega, fun p hp => by have := h.2 p hp; omega⟩

end ModS
end Go.Proofs.YtclnnkacfanaiaaDoor

/- Plain laws for ModelOrder; a row of pairs that is put together of others. -/
namespace Go.Proofs.YtclnnkacfanaiaaDoor
open Go.ChangeShapes Go.WideShapes Go.ChangeAt Go.RowKit Go.Deep
set_option linter.unusedVariables false
set_option linter.unusedSimpArgs false
namespace ModT
open ModA ModB ModF ModI ModL ModP ModR ModS

theorem sel_at {M : Prs} {i : Nat} {p : List Int × Int} (h : M[i]? = some p) : selK M (i : Int) = some (p.1, p.2) := by
  unfold selK; rw [if_pos (by omega)]; simpa using h
theorem floor_at {M : Prs} (hr : Rises M) {i : Nat} {p : List Int × Int} (h : M[i]? = some p) : floorK M p.1 = some (p.1, p.2) := by
  obtain ⟨h1, h2, _⟩ := at_rk hr h
  unfold floorK; rw [h2, h1, if_pos rfl]; exact sel_at h
theorem ceil_at {M : Prs} (hr : Rises M) {i : Nat} {p : List Int × Int} (h : M[i]? = some p) : ceilK M p.1 = some (p.1, p.2) := by
  obtain ⟨h1, _, _⟩ := at_rk hr h
  unfold ceilK; rw [h1]; exact sel_at h

theorem next_ge : ∀ {a b : List Int}, cmpK a b < 0 → KB b → ¬ cmpK b (a ++ [0]) < 0
  | [], [], h, _ => by simp [cmpK] at h
  | [], y :: ys, _, hb => by
    have := hb.head
    show ¬ cmpK (y :: ys) [0] < 0
    unfold cmpK
    rw [if_neg (by omega)]
    split
    · omega
    · cases ys <;> simp [cmpK]
  | x :: a, [], h, _ => by simp [cmpK] at h
  | x :: a, y :: b, h, hb => by
    unfold cmpK at h
    show ¬ cmpK (y :: b) (x :: (a ++ [0])) < 0
    unfold cmpK
    split at h
    · rename_i hxy
      rw [if_neg (by omega), if_pos hxy]; omega
    · rename_i h1
      split at h
      · omega
      · rename_i h2
        rw [if_neg h2, if_neg h1]
        exact next_ge h hb.tail
theorem rk_next {M : Prs} (hr : Rises M) (hk : ∀ p ∈ M, KB p.1) {i : Nat} {p : List Int × Int} (h : M[i]? = some p) : rk M (p.1 ++ [0]) = i + 1 := by
  have hi := (List.getElem?_eq_some_iff.1 h).1
  have h0 : cmpK p.1 (p.1 ++ [0]) < 0 := cmpK_prefix (List.prefix_append _ _) (by simp)
  refine rk_eq (by omega) (fun j q hj hq => ltK_iff.2 ?_) (fun q hq => ltK_false.2 ?_)
  · rcases Nat.eq_or_lt_of_le (Nat.le_of_lt_succ hj) with e | e
    · subst e; rw [h] at hq; cases hq; exact h0
    · exact cmpK_trans (hr.get hq h e) h0
  · exact next_ge (hr.get h hq (by omega)) (hk q (List.mem_of_getElem? hq))

theorem drop_first {M : Prs} (hr : Rises M) {i : Nat} {p : List Int × Int} (h : M[i]? = some p) : hasK (M.drop i) p.1 = true ∧ valK (M.drop i) p.1 = p.2 ∧ dropK (M.drop i) p.1 = M.drop (i + 1) := by
  have h0 : (M.drop i)[0]? = some p := by rw [List.getElem?_drop]; exact h
  obtain ⟨h1, h2, h3⟩ := at_rk (rises_drop hr i) h0
  refine ⟨h2, h3, ?_⟩
  unfold dropK
  rw [h1, h2]
  simp [List.drop_drop]

/-- a row of pairs of its own; the keys lie elsewhere -/
def Pt (w : World) (N : Nat) (v : Value) (es : List El) : Prop :=
  w.ownsRow 0 33 2 v es.length (flat es) ∧ (∀ b, v.ownBlock = some b → N ≤ b) ∧ ∀ e ∈ es, RB w (fun b => b < w.heap.size ∧ v.ownBlock ≠ some b) e.1 e.2.1
theorem Pt.nil (w : World) (N : Nat) : Pt w N (.slice none 0 0) [] := ⟨World.ownsRow_nil _ _ _ _, (fun b h => by cases h), fun e h => by simp at h⟩
theorem Pt.ext {w w' : World} {N : Nat} {v : Value} {es : List El} (h : Pt w N v es) (t : Ext w w') : Pt w' N v es :=
  ⟨own_keep h.1 t (fun _ _ h => h), h.2.1, fun e he => ((h.2.2 e he).ext t).mono (fun b hb => ⟨Nat.lt_of_lt_of_le hb.1 t.size, hb.2⟩)⟩
theorem Pt.rp {w : World} {N : Nat} {v : Value} {es : List El} (h : Pt w N v es) : RP w Any v (es.map (·.2)) :=
  ⟨es, rfl, Cells2.of_own h.1 (fun _ _ => trivial), fun e he => rb_any (h.2.2 e he)⟩
theorem Pt.push {w w' : World} {N : Nat} {v v' : Value} {es1 es2 : List El} (h : Pt w N v es1) (hN : N ≤ w.heap.size) (hk2 : ∀ e ∈ es2, RB w (fun b => b < w.heap.size ∧ v.ownBlock ≠ some b) e.1 e.2.1)
    (hown : w'.ownsRow 0 33 2 v' (es1.length + es2.length) (flat es1 ++ flat es2)) (ht : Touch (fun b => v.ownBlock = some b) w w') (hb : v'.ownBlock = v.ownBlock ∨ v'.ownBlock = some w.heap.size) : Pt w' N v' (es1 ++ es2) := by
  have hne : ∀ b, b < w.heap.size ∧ v.ownBlock ≠ some b → b < w'.heap.size ∧ v'.ownBlock ≠ some b := by
    rintro b ⟨h1, h2⟩
    refine ⟨Nat.lt_of_lt_of_le h1 ht.size, ?_⟩
    rcases hb with h3 | h3
    · rw [h3]; exact h2
    · rw [h3]; intro h; cases h; omega
  refine ⟨by rw [List.length_append, flat_append]; exact hown, fun b hb' => ?_, fun e he => ?_⟩
  · rcases hb with h3 | h3
    · exact h.2.1 b (h3 ▸ hb')
    · rw [h3] at hb'; cases hb'; exact hN
  · rcases List.mem_append.1 he with h1 | h1
    · exact ((h.2.2 e h1).keep ht (fun b hb hb' => hb.2 hb')).mono hne
    · exact ((hk2 e h1).keep ht (fun b hb hb' => hb.2 hb')).mono hne
/-- the pairs of a row that another function made, behind world w0 -/
theorem op_keys {w : World} {F : Nat → Prop} {v : Value} {ps : Prs} (h : OP w F v ps) : ∃ es : List El, es.map (·.2) = ps ∧ Cells2 w F v es ∧ ∀ e ∈ es, RB w (fun b => F b ∧ b < w.heap.size) e.1 e.2.1 := by
  obtain ⟨es, h1, h2, h3, h4, _⟩ := h
  refine ⟨es, h1, Cells2.of_own h2 h3, fun e he => ?_⟩
  have ho := h4 e he
  exact OB.rb ⟨ho.1, fun b hb => ⟨(ho.2 b hb).1, ho.lt b hb⟩⟩
end ModT
end Go.Proofs.YtclnnkacfanaiaaDoor
