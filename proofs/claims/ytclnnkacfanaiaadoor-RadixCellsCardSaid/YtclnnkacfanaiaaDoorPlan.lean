/- A region that draws its order, walked by an order that is laid down beforehand. No program in sight. -/
import Derived.Test.YtclnnkacfanaiaaDoorBase
import Derived.OrdersHeld
import Derived.Deep.RegionHeld3
namespace Go.Proofs.YtclnnkacfanaiaaDoor
open Go.RowKit
set_option linter.unusedVariables false
set_option linter.unusedSimpArgs false

section
variable {P : Program} {ops : Array Oper} {Q : Exit → Act → World → Prop} {md : Region.Mode} {S : World → Prop}

/-- j waits for k, by so many steps -/
def waits (md : Region.Mode) (ops : Array Oper) : Nat → Nat → Nat → Bool
  | 0, _, _ => false
  | n + 1, j, k => match ops[j]? with
    | some o => o.after.any fun e => Region.binds md e && (e.on == k || waits md ops n e.on k)
    | none => false
/-- j waits for all others, but for those that wait for it -/
def isLast (md : Region.Mode) (ops : Array Oper) (j : Nat) : Bool := (List.range ops.size).all fun k => k == j || waits md ops 3 j k || waits md ops 3 k j
/-- what is listed waits for what is listed -/
def Closed (md : Region.Mode) (ops : Array Oper) (listed : Array Bool) : Prop := ∀ k o, ops[k]? = some o → listed.getD k true = true → ∀ e ∈ o.after, Region.binds md e = true → listed.getD e.on false = true

theorem waits_listed {listed : Array Bool} (hc : Closed md ops listed) : ∀ (n j k : Nat), waits md ops n j k = true → (∀ o, ops[j]? = some o → ∀ e ∈ o.after, Region.binds md e = true → listed.getD e.on false = true) → listed.getD k false = true := by
  intro n
  induction n with
  | zero => intro j k h; simp [waits] at h
  | succ n ih =>
    intro j k h ho
    unfold waits at h
    cases hj : ops[j]? with
    | none => simp [hj] at h
    | some o =>
      simp only [hj, Array.any_eq_true, Bool.and_eq_true, Bool.or_eq_true, beq_iff_eq] at h
      obtain ⟨x, hx, hb, h⟩ := h
      have hl := ho o hj _ (Array.getElem_mem hx) hb
      rcases h with h | h
      · rw [← h]; exact hl
      · refine ih _ k h fun o' ho' e he hbe => hc _ o' ho' ?_ e he hbe
        rw [Array.getD_eq_getD_getElem?] at hl ⊢
        cases hh : listed[(o.after[x]).on]? with
        | none => rfl
        | some b => rw [hh] at hl; exact hl
theorem closed_set {listed : Array Bool} (hc : Closed md ops listed) {j : Nat} (hj : j ∈ Region.ready md ops listed) : Closed md ops (listed.setIfInBounds j true) := by
  intro k o ho hk e he hb
  by_cases hkj : j = k
  · subst hkj
    obtain ⟨_, o', ho', hall⟩ := mem_ready.1 hj
    rw [ho] at ho'
    cases ho'
    exact getD_set_true (hall e he hb)
  · rw [getD_set_ne true hkj] at hk
    exact getD_set_true (hc k o ho hk e he hb)
theorem isLast_ready {listed : Array Bool} (hc : Closed md ops listed) {i j : Nat} (hi : i ∈ Region.ready md ops listed) (hj : j ∈ Region.ready md ops listed) (hne : j ≠ i) : isLast md ops j = false := by
  cases h : isLast md ops j with
  | false => rfl
  | true =>
    obtain ⟨h0, oi, hoi, hali⟩ := mem_ready.1 hi
    obtain ⟨h9, oj, hoj, hall⟩ := mem_ready.1 hj
    unfold isLast at h
    rw [List.all_eq_true] at h
    have := h i (List.mem_range.2 (Array.getElem?_eq_some_iff.1 hoi).1)
    rw [Bool.or_eq_true, Bool.or_eq_true] at this
    have no : ∀ k, listed.getD k true = false → listed.getD k false = true → False := fun k h0 this => by
      rw [Array.getD_eq_getD_getElem?] at this h0
      cases hh : listed[k]? with
      | none => rw [hh] at h0; simp at h0
      | some b => rw [hh] at h0 this; simp at h0 this; rw [h0] at this; cases this
    rcases this with (h1 | h1) | h1
    · simp at h1; exact absurd h1.symm hne
    · exact (no i h0 (waits_listed hc 3 j i h1 (fun o ho e he hb => by rw [hoj] at ho; cases ho; exact hall e he hb))).elim
    · exact (no j h9 (waits_listed hc 3 i j h1 (fun o ho e he hb => by rw [hoi] at ho; cases ho; exact hali e he hb))).elim

/-- whatever order is picked from here on; S holds behind every operation but one that waits for all others -/
def wpAnyC (P : Program) (md : Region.Mode) (ops : Array Oper) (Q : Exit → Act → World → Prop) (S : World → Prop) : Nat → Array Bool → Act → World → Prop
  | 0, listed, a, w => Region.ready md ops listed = [] ∧ Q .normal a w
  | fuel + 1, listed, a, w =>
    (Region.ready md ops listed = [] → Q .normal a w) ∧
    ∀ i ∈ Region.ready md ops listed, wpOp P ops Q i (fun a' w' => (isLast md ops i = true ∨ S w') ∧ wpAnyC P md ops Q S fuel (listed.setIfInBounds i true) a' w') a w

theorem wpAny_of_C : ∀ (fuel : Nat) (listed : Array Bool) (a : Act) (w : World), wpAnyC P md ops Q S fuel listed a w → wpAny P md ops Q fuel listed a w
  | 0, _, _, _, h => h
  | fuel + 1, _, _, _, h => ⟨h.1, fun i hi => wpOp_mono (fun a' w' h' => wpAny_of_C fuel _ a' w' h'.2) (h.2 i hi)⟩

theorem wpAnyC_first {i : Nat} {oi : Oper} {v : Value} (hi : ops[i]? = some oi) (hsel : ∀ (j : Nat) (o : Oper) cs b, ops[j]? = some o → o.op ≠ .select cs b)
    (hQ : ∀ c a w, Q (.panic c) (a.put oi.dst v) w → Q (.panic c) a w) :
    ∀ (fuel : Nat) (listed : Array Bool) (a : Act) (w : World), Closed md ops listed →
      (∀ j oj, ops[j]? = some oj → j ≠ i → listed.getD j true = false → (∀ e ∈ oj.after, Region.binds md e = true → e.on ≠ i) → oi.apart ops oj = true) →
      i ∈ Region.ready md ops listed → YieldsIf P ops S oi v a → S w →
      wpAnyC P md ops Q S fuel (listed.setIfInBounds i true) (a.put oi.dst v) w → wpAnyC P md ops Q S (fuel + 1) listed a w := by
  intro fuel
  induction fuel with
  | zero =>
    intro listed a w _ _ hr hy hS H
    refine ⟨fun h => (by rw [h] at hr; cases hr), fun j hj => ?_⟩
    by_cases hji : j = i
    · subst hji; exact hy.wpOp hi hS ⟨Or.inr hS, H⟩
    · have := ready_mono hj hji
      rw [H.1] at this
      cases this
  | succ fuel ih =>
    intro listed a w hcl hfree hr hy hS H
    refine ⟨fun h => (by rw [h] at hr; cases hr), fun j hj => ?_⟩
    by_cases hji : j = i
    · subst hji; exact hy.wpOp hi hS ⟨Or.inr hS, H⟩
    · have h1 := H.2 j (ready_mono hj hji)
      have hlast := isLast_ready hcl hr hj hji
      obtain ⟨hjun, oj, hoj, hall⟩ := mem_ready.1 hj
      have hnot : ∀ e ∈ oj.after, Region.binds md e = true → e.on ≠ i := fun e he hb heq => by
        have h1 := hall e he hb
        have h0 := (mem_ready.1 hr).1
        rw [heq] at h1
        rcases Nat.lt_or_ge i listed.size with h' | h'
        · simp [h'] at h0 h1; rw [h0] at h1; cases h1
        · simp [Array.getElem?_eq_none h'] at h1
      have h2 := wpOp_putIf hoj (hfree j oj hoj hji hjun hnot) (fun cs b => hsel i oi cs b hi) (fun cs b => hsel j oj cs b hoj) hQ hy h1
      have hfree' : ∀ k ok, ops[k]? = some ok → k ≠ i → (listed.setIfInBounds j true).getD k true = false →
          (∀ e ∈ ok.after, Region.binds md e = true → e.on ≠ i) → oi.apart ops ok = true := fun k ok hk hki hun hno => by
        refine hfree k ok hk hki ?_ hno
        by_cases hjk : j = k
        · subst hjk; exact hjun
        · rw [getD_set_ne true hjk] at hun; exact hun
      refine wpOp_mono (fun a' w' h3 => ?_) h2
      have hS' : S w' := h3.2.1.resolve_left (by rw [hlast]; simp)
      refine ⟨Or.inr hS', ih (listed.setIfInBounds j true) a' w' (closed_set hcl hj) hfree' (ready_mono hr (Ne.symm hji)) h3.1 hS' ?_⟩
      rw [Array.setIfInBounds_comm _ _ hji]
      exact h3.2.2

/-- the order: what is taken ahead of all others that could come, what must come, one of two that may come -/
inductive Pl where
  | done
  | take (i : Nat) (p : Pl)
  | must (i : Nat) (p : Pl)
  | last (i : Nat) (p : Pl)
  | two (i j : Nat) (p q : Pl)
  | three (i j k : Nat) (p q r : Pl)
def Pl.len : Pl → Nat
  | .done => 0
  | .take _ p => p.len + 1
  | .must _ p => p.len + 1
  | .last _ p => p.len + 1
  | .two _ _ p q => (if p.len = q.len then p.len else 0) + 1
  | .three _ _ _ p _ _ => p.len + 1
/-- only such as wait for all others -/
def Pl.ending : Pl → Bool
  | .done => true
  | .last _ p => p.ending
  | _ => false
def planOk (ops : Array Oper) : Array Bool → Pl → Bool
  | listed, .done => (Region.ready .any ops listed).isEmpty
  | listed, .take i p => (Region.ready .any ops listed).contains i && Region.free .any ops listed i && planOk ops (listed.setIfInBounds i true) p
  | listed, .must i p => (Region.ready .any ops listed) == [i] && planOk ops (listed.setIfInBounds i true) p
  | listed, .last i p => (Region.ready .any ops listed) == [i] && isLast .any ops i && p.ending && planOk ops (listed.setIfInBounds i true) p
  | listed, .two i j p q => (Region.ready .any ops listed) == [i, j] && p.len == q.len && planOk ops (listed.setIfInBounds i true) p && planOk ops (listed.setIfInBounds j true) q
  | listed, .three i j k p q r => (Region.ready .any ops listed) == [i, j, k] && (p.len == q.len && p.len == r.len) && (planOk ops (listed.setIfInBounds i true) p && planOk ops (listed.setIfInBounds j true) q && planOk ops (listed.setIfInBounds k true) r)

/-- the walk in that order: what is taken ahead yields its value in every world that meets S -/
def wpPlan (P : Program) (ops : Array Oper) (Q : Exit → Act → World → Prop) (S : World → Prop) : Pl → Act → World → Prop
  | .done, a, w => Q .normal a w
  | .take i p, a, w => ∃ o v, ops[i]? = some o ∧ YieldsIf P ops S o v a ∧ wpPlan P ops Q S p (a.put o.dst v) w
  | .must i p, a, w => wpOp P ops Q i (fun a' w' => S w' ∧ wpPlan P ops Q S p a' w') a w
  | .last i p, a, w => wpOp P ops Q i (fun a' w' => wpPlan P ops Q S p a' w') a w
  | .two i j p q, a, w => wpOp P ops Q i (fun a' w' => S w' ∧ wpPlan P ops Q S p a' w') a w ∧ wpOp P ops Q j (fun a' w' => S w' ∧ wpPlan P ops Q S q a' w') a w
  | .three i j k p q r, a, w => wpOp P ops Q i (fun a' w' => S w' ∧ wpPlan P ops Q S p a' w') a w ∧ wpOp P ops Q j (fun a' w' => S w' ∧ wpPlan P ops Q S q a' w') a w ∧ wpOp P ops Q k (fun a' w' => S w' ∧ wpPlan P ops Q S r a' w') a w

theorem wpPlan_sound (hs : Region.noSelect ops = true) (hQ : ∀ d v c a w, Q (.panic c) (Act.put a d v) w → Q (.panic c) a w) : ∀ (p : Pl) (k : Nat) (listed : Array Bool) (a : Act) (w : World),
    Closed .any ops listed → planOk ops listed p = true → (p.ending = true ∨ S w) → wpPlan P ops Q S p a w → wpAnyC P .any ops Q S (p.len + k) listed a w := by
  intro p
  have none : ∀ (k : Nat) (listed : Array Bool) (a : Act) (w : World), Region.ready .any ops listed = [] → Q .normal a w → wpAnyC P .any ops Q S k listed a w := by
    intro k listed a w hr h
    cases k with
    | zero => exact ⟨hr, h⟩
    | succ k => exact ⟨fun _ => h, by rw [hr]; simp⟩
  induction p with
  | done =>
    intro k listed a w _ hok _ h
    simp only [planOk] at hok
    exact none _ _ _ _ (List.isEmpty_iff.1 hok) h
  | take i p ih =>
    intro k listed a w hcl hok hS h
    rw [show (Pl.take i p).len + k = (p.len + k) + 1 by simp only [Pl.len]; omega]
    simp only [planOk, Bool.and_eq_true] at hok
    obtain ⟨o, v, ho, hy, h'⟩ := h
    have hr : i ∈ Region.ready .any ops listed := by simpa using hok.1.1
    have hS : S w := hS.resolve_left (by simp [Pl.ending])
    exact wpAnyC_first ho (Region.noSelect_spec hs) (fun c a w => hQ o.dst v c a w) _ listed a w hcl (Region.free_spec ho hok.1.2) hr hy hS (ih k _ _ _ (closed_set hcl hr) hok.2 (Or.inr hS) h')
  | must i p ih =>
    intro k listed a w hcl hok hS h
    rw [show (Pl.must i p).len + k = (p.len + k) + 1 by simp only [Pl.len]; omega]
    simp only [planOk, Bool.and_eq_true, beq_iff_eq] at hok
    refine ⟨fun h0 => by rw [h0] at hok; simp at hok, fun j hj => ?_⟩
    have hj' := hj
    rw [hok.1, List.mem_singleton] at hj'
    subst hj'
    exact wpOp_mono (fun a' w' h' => ⟨Or.inr h'.1, ih k _ _ _ (closed_set hcl hj) hok.2 (Or.inr h'.1) h'.2⟩) h
  | last i p ih =>
    intro k listed a w hcl hok hS h
    rw [show (Pl.last i p).len + k = (p.len + k) + 1 by simp only [Pl.len]; omega]
    simp only [planOk, Bool.and_eq_true, beq_iff_eq] at hok
    refine ⟨fun h0 => by rw [h0] at hok; simp at hok, fun j hj => ?_⟩
    have hj' := hj
    rw [hok.1.1.1, List.mem_singleton] at hj'
    subst hj'
    exact wpOp_mono (fun a' w' h' => ⟨Or.inl hok.1.1.2, ih k _ _ _ (closed_set hcl hj) hok.2 (Or.inl hok.1.2) h'⟩) h
  | two i j p q ihp ihq =>
    intro k listed a w hcl hok hS h
    simp only [planOk, Bool.and_eq_true, beq_iff_eq] at hok
    rw [show (Pl.two i j p q).len + k = (p.len + k) + 1 by simp only [Pl.len, hok.1.1.2, if_true]; omega]
    refine ⟨fun h0 => by rw [h0] at hok; simp at hok, fun m hm => ?_⟩
    have hm' := hm
    rw [hok.1.1.1] at hm'
    simp only [List.mem_cons, List.not_mem_nil, or_false] at hm'
    rcases hm' with rfl | rfl
    · exact wpOp_mono (fun a' w' h' => ⟨Or.inr h'.1, ihp k _ _ _ (closed_set hcl hm) hok.1.2 (Or.inr h'.1) h'.2⟩) h.1
    · refine wpOp_mono (fun a' w' h' => ⟨Or.inr h'.1, ?_⟩) h.2
      rw [hok.1.1.2]
      exact ihq k _ _ _ (closed_set hcl hm) hok.2 (Or.inr h'.1) h'.2
  | three i j m p q r ihp ihq ihr =>
    intro k listed a w hcl hok hS h
    simp only [planOk, Bool.and_eq_true, beq_iff_eq] at hok
    obtain ⟨⟨hok0, hl1, hl2⟩, ⟨hok1, hok2⟩, hok3⟩ := hok
    rw [show (Pl.three i j m p q r).len + k = (p.len + k) + 1 by simp only [Pl.len]; omega]
    refine ⟨fun h0 => by rw [h0] at hok0; simp at hok0, fun n hn => ?_⟩
    have hn' := hn
    rw [hok0] at hn'
    simp only [List.mem_cons, List.not_mem_nil, or_false] at hn'
    rcases hn' with rfl | rfl | rfl
    · exact wpOp_mono (fun a' w' h' => ⟨Or.inr h'.1, ihp k _ _ _ (closed_set hcl hn) hok1 (Or.inr h'.1) h'.2⟩) h.1
    · refine wpOp_mono (fun a' w' h' => ⟨Or.inr h'.1, ?_⟩) h.2.1
      rw [hl1]
      exact ihq k _ _ _ (closed_set hcl hn) hok2 (Or.inr h'.1) h'.2
    · refine wpOp_mono (fun a' w' h' => ⟨Or.inr h'.1, ?_⟩) h.2.2
      rw [hl2]
      exact ihr k _ _ _ (closed_set hcl hn) hok3 (Or.inr h'.1) h'.2
end

/-- K at the region's end, and no other way out -/
def AtEnd (K : Act → World → Prop) : Exit → Act → World → Prop
  | .normal, a, w => K a w
  | _, _, _ => False
/-- the walk, closed to unfolding -/
structure Planned (P : Program) (L : List Oper) (K : Act → World → Prop) (S : World → Prop) (p : Pl) (a : Act) (w : World) : Prop where
  out : wpPlan P L.toArray (AtEnd K) S p a w

section
variable {P : Program} {L : List Oper} {Q : Exit → Act → World → Prop} {K : Act → World → Prop} {S : World → Prop}
theorem closed_none (md : Region.Mode) (ops : Array Oper) : Closed md ops (Array.replicate ops.size false) := by
  intro k o ho hk
  have := (Array.getElem?_eq_some_iff.1 ho).1
  simp [this] at hk
/-- THE REGION, its operations written out; it is shown not to panic. What follows stands behind a variable. -/
theorem wp_region_plan {id : Nat} {a : Act} {w : World} (p : Pl) (S : World → Prop) (hm : P.follows .mixedOrders = true) (hs : Region.noSelect L.toArray = true)
    (hok : planOk L.toArray (Array.replicate L.toArray.size false) p = true) (hlen : p.len = L.length)
    (hS : S w.drew) (h : ∀ K : Act → World → Prop, Hid (∀ a w, Q .normal a w → K a w) → Planned P L K S p a w.drew) : (Code.region id L.toArray true).wp P Q a w := by
  refine Code.wp_mono (Q := AtEnd (Q .normal)) ?_ (wp_region_any hm (wpAny_of_C (S := S) _ _ _ _ ?_))
  · intro e a w h
    cases e <;> first | exact h | exact (h : False).elim
  have := wpPlan_sound (P := P) (S := S) (Q := AtEnd (Q .normal)) hs (fun _ _ _ _ _ h => h) p 0 (Array.replicate L.toArray.size false) a w.drew (closed_none _ _) hok (Or.inr hS) (h (Q .normal) (Lib.hid fun _ _ h => h)).out
  rw [hlen] at this
  exact this

theorem wpPlan_done {a : Act} {w : World} (h : K a w) : Planned P L K S .done a w := ⟨h⟩
theorem plan_at {i : Nat} {o : Oper} (ho : L[i]? = some o) : L.toArray[i]? = some o := by simpa using ho
/-- taken ahead: it runs -/
theorem wpPlan_take {i : Nat} {p : Pl} {a : Act} {w : World} {o : Oper} {v : Value} (ho : L[i]? = some o) (hw : Region.wanted o (yielded L.toArray a.tmps) = true)
    (hy : ∀ w, S w → (execOp a.eval o).run P w = .ok (.value v) w) (h : Planned P L K S p (a.put o.dst v) w) : Planned P L K S (.take i p) a w := ⟨o, v, plan_at ho, Or.inl ⟨hw, hy⟩, h.out⟩
/-- taken ahead: its guard says no -/
theorem wpPlan_skip {i : Nat} {p : Pl} {a : Act} {w : World} {o : Oper} (ho : L[i]? = some o) (hw : Region.wanted o (yielded L.toArray a.tmps) = false)
    (h : Planned P L K S p (a.put o.dst undef) w) : Planned P L K S (.take i p) a w := ⟨o, undef, plan_at ho, Or.inr ⟨hw, rfl⟩, h.out⟩
theorem wpOp_run {i : Nat} {a : Act} {w : World} {o : Oper} {K' : Act → World → Prop} (ho : L[i]? = some o) (hw : Region.wanted o (yielded L.toArray a.tmps) = true) (h : o.wp P a w K' (AtEnd K)) : wpOp P L.toArray (AtEnd K) i K' a w := by
  unfold wpOp
  simp only [plan_at ho, hw, if_true]
  exact Or.inl h
/-- the one that must come: it runs -/
theorem wpPlan_must {i : Nat} {p : Pl} {a : Act} {w : World} {o : Oper} (ho : L[i]? = some o) (hw : Region.wanted o (yielded L.toArray a.tmps) = true)
    (h : ∀ K' : Act → World → Prop, Hid (∀ a' w', S w' → Planned P L K S p a' w' → K' a' w') → o.wp P a w K' (AtEnd K)) : Planned P L K S (.must i p) a w :=
  ⟨wpOp_run ho hw (h _ (Lib.hid fun a' w' h1 h2 => ⟨h1, h2.out⟩))⟩
/-- the last one: it waits for all others -/
theorem wpPlan_last {i : Nat} {p : Pl} {a : Act} {w : World} {o : Oper} (ho : L[i]? = some o) (hw : Region.wanted o (yielded L.toArray a.tmps) = true)
    (h : ∀ K' : Act → World → Prop, Hid (∀ a' w', Planned P L K S p a' w' → K' a' w') → o.wp P a w K' (AtEnd K)) : Planned P L K S (.last i p) a w :=
  ⟨wpOp_run ho hw (h _ (Lib.hid fun a' w' h2 => h2.out))⟩
/-- one of two -/
theorem wpPlan_two {i j : Nat} {p q : Pl} {a : Act} {w : World} (h1 : Planned P L K S (.must i p) a w) (h2 : Planned P L K S (.must j q) a w) : Planned P L K S (.two i j p q) a w := ⟨h1.out, h2.out⟩
/-- one of three -/
theorem wpPlan_three {i j k : Nat} {p q r : Pl} {a : Act} {w : World} (h1 : Planned P L K S (.must i p) a w) (h2 : Planned P L K S (.must j q) a w) (h3 : Planned P L K S (.must k r) a w) : Planned P L K S (.three i j k p q r) a w := ⟨h1.out, h2.out, h3.out⟩
theorem wpPlan_pass {i : Nat} {p : Pl} {a : Act} {w : World} {o : Oper} (ho : L[i]? = some o) (hw : Region.wanted o (yielded L.toArray a.tmps) = false) (hS : S w)
    (h : Planned P L K S p (a.put o.dst undef) w) : Planned P L K S (.must i p) a w := by
  refine ⟨?_⟩
  show wpOp P L.toArray (AtEnd K) i _ a w
  unfold wpOp
  simp only [plan_at ho, hw, Bool.false_eq_true, if_false]
  exact ⟨hS, h.out⟩
end
end Go.Proofs.YtclnnkacfanaiaaDoor
