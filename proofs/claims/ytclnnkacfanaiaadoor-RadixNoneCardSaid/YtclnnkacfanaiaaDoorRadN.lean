/- Plain laws: the tree of a radix tree's nodes; a put, a drop. -/
import Derived.Test.YtclnnkacfanaiaaDoorKidW
import Derived.Test.YtclnnkacfanaiaaDoorRefC
import Derived.Test.YtclnnkacfanaiaaDoorModX
namespace Go.Proofs.YtclnnkacfanaiaaDoor
set_option linter.unusedVariables false
set_option linter.unusedSimpArgs false
open ModP (cmpK_prefix)

/-! ### keys -/
namespace RadK
theorem cmpK_way : ∀ (w a b : List Int), cmpK (w ++ a) (w ++ b) = cmpK a b
  | [], a, b => rfl
  | x :: w, a, b => by show cmpK (x :: (w ++ a)) (x :: (w ++ b)) = _; rw [cmpK_cons, cmpK_way w]
theorem comK_way : ∀ (w a b : List Int), comK (w ++ a) (w ++ b) = w.length + comK a b
  | [], a, b => by simp
  | x :: w, a, b => by show comK (x :: (w ++ a)) (x :: (w ++ b)) = _; rw [comK, if_pos rfl, comK_way w]; simp; omega
theorem comK_comm : ∀ a b : List Int, comK a b = comK b a
  | [], [] => rfl
  | [], _ :: _ => rfl
  | _ :: _, [] => rfl
  | x :: a, y :: b => by
    unfold comK
    by_cases h : x = y
    · subst h; rw [if_pos rfl, if_pos rfl, comK_comm a b]
    · rw [if_neg h, if_neg (Ne.symm h)]
theorem take_comK (a b : List Int) : a.take (comK a b) = b.take (comK a b) := by
  apply List.ext_getElem?
  intro i
  rw [List.getElem?_take, List.getElem?_take]
  split
  · rename_i h
    obtain ⟨x, h1, h2⟩ := comK_lt h
    rw [h1, h2]
  · rfl
theorem pre_of_comK {a b : List Int} (h : comK a b = a.length) : a <+: b := by
  have h1 := take_comK a b
  rw [h, List.take_length] at h1
  rw [h1]; exact List.take_prefix _ _
theorem comK_of_pre {a b : List Int} (h : a <+: b) : comK a b = a.length := by
  obtain ⟨r, rfl⟩ := h
  have := comK_way a [] r
  rw [List.append_nil] at this
  rw [this]; simp [comK]
theorem pre_split {a b : List Int} (h : a <+: b) (hn : a ≠ b) : ∃ x r, b = a ++ x :: r := by
  obtain ⟨r, rfl⟩ := h
  cases r with
  | nil => simp at hn
  | cons x r => exact ⟨x, r, rfl⟩
/-- the byte of a key at a place -/
def byteAt (k : List Int) (n : Nat) : Nat := (k.getD n 0).toNat
theorem byteAt_lt {k : List Int} (h : KB k) (n : Nat) : byteAt k n < 256 := by
  unfold byteAt
  rw [List.getD_eq_getElem?_getD]
  cases hx : k[n]? with
  | none => simp
  | some x => have := h x (List.mem_of_getElem? hx); simp; omega
theorem byteAt_int {k : List Int} (h : KB k) {n : Nat} (hn : n < k.length) : k[n]? = some ((byteAt k n : Nat) : Int) := by
  unfold byteAt
  rw [List.getD_eq_getElem?_getD, List.getElem?_eq_getElem hn]
  have := h k[n] (List.getElem_mem hn)
  simp; omega
theorem byteAt_way (w : List Int) (i : Nat) (r : List Int) : byteAt (w ++ (i : Int) :: r) w.length = i := by
  unfold byteAt
  rw [List.getD_eq_getElem?_getD, List.getElem?_append_right (Nat.le_refl _)]; simp
theorem pre_byte {a b : List Int} (hb : KB b) (h : a <+: b) (hl : a.length < b.length) : a ++ [((byteAt b a.length : Nat) : Int)] <+: b := by
  obtain ⟨x, r, rfl⟩ := pre_split h (fun e => by rw [e] at hl; omega)
  have hx := hb x (by simp)
  have e : byteAt (a ++ x :: r) a.length = x.toNat := by
    unfold byteAt
    rw [List.getD_eq_getElem?_getD, List.getElem?_append_right (Nat.le_refl _)]; simp
  rw [e, show ((x.toNat : Nat) : Int) = x by omega]
  exact ⟨r, by simp⟩
theorem pre_byte_eq {a b : List Int} {i : Nat} (h : a ++ [(i : Int)] <+: b) : byteAt b a.length = i := by
  obtain ⟨r, rfl⟩ := h
  rw [List.append_assoc]; exact byteAt_way a i r
theorem com_split {w a b : List Int} {i j : Nat} (ha : w ++ [(i : Int)] <+: a) (hb : w ++ [(j : Int)] <+: b) (hij : i ≠ j) : comK a b = w.length := by
  obtain ⟨r, rfl⟩ := ha
  obtain ⟨s, rfl⟩ := hb
  rw [List.append_assoc, List.append_assoc, comK_way]
  show w.length + comK ((i : Int) :: r) ((j : Int) :: s) = _
  rw [comK, if_neg (by omega)]; rfl
theorem cmp_split {w a b : List Int} {i j : Nat} (ha : w ++ [(i : Int)] <+: a) (hb : w ++ [(j : Int)] <+: b) (hij : i < j) : cmpK a b < 0 := by
  obtain ⟨r, rfl⟩ := ha
  obtain ⟨s, rfl⟩ := hb
  rw [List.append_assoc, List.append_assoc, cmpK_way]
  show cmpK ((i : Int) :: r) ((j : Int) :: s) < 0
  unfold cmpK
  rw [if_pos (by omega)]; omega
/-- two keys that part at a place below both ends -/
theorem com_bytes {a b : List Int} (ha : KB a) (hb : KB b) (h1 : comK a b < a.length) (h2 : comK a b < b.length) : byteAt a (comK a b) ≠ byteAt b (comK a b) := fun e => by
  have e1 := byteAt_int ha h1
  have e2 := byteAt_int hb h2
  exact comK_at e1 e2 (by rw [e])
theorem eq_of_com {a b : List Int} (h1 : comK a b = a.length) (h2 : comK a b = b.length) : a = b := by
  have h3 := take_comK a b
  rw [h1, List.take_length, ← h1, h2, List.take_length] at h3
  exact h3

/-- two rows that rise and have the same pairs -/
theorem rises_ext : ∀ {A B : Prs}, Rises A → Rises B → (∀ p, p ∈ A ↔ p ∈ B) → A = B
  | [], [], _, _, _ => rfl
  | [], b :: B, _, _, h => absurd ((h b).2 (by simp)) (by simp)
  | a :: A, [], _, _, h => absurd ((h a).1 (by simp)) (by simp)
  | a :: A, b :: B, hA, hB, h => by
    have hA' := List.pairwise_cons.1 hA
    have hB' := List.pairwise_cons.1 hB
    have hab : a = b := by
      have h1 := (h a).1 (by simp)
      have h2 := (h b).2 (by simp)
      rw [List.mem_cons] at h1 h2
      rcases h1 with h1 | h1
      · exact h1
      · rcases h2 with h2 | h2
        · exact h2.symm
        · have x1 := hB'.1 a h1
          have x2 := hA'.1 b h2
          have := cmpK_trans x1 x2
          rw [cmpK_self] at this; omega
    subst hab
    refine congrArg _ (rises_ext hA'.2 hB'.2 fun p => ?_)
    have := h p
    simp only [List.mem_cons] at this
    constructor
    · intro hp
      rcases this.1 (Or.inr hp) with h1 | h1
      · subst h1; have := hA'.1 p hp; rw [cmpK_self] at this; omega
      · exact h1
    · intro hp
      rcases this.2 (Or.inr hp) with h1 | h1
      · subst h1; have := hB'.1 p hp; rw [cmpK_self] at this; omega
      · exact h1
theorem mem_put {M : Prs} (hr : Rises M) {k : List Int} {x : Int} {p : List Int × Int} : p ∈ putK M k x ↔ p = (k, x) ∨ p ∈ M ∧ p.1 ≠ k :=
  ⟨ModR.put_mem_only hr, fun h => h.elim (fun h => by rw [h]; exact ModR.put_mem_self M k x) (fun h => ModR.put_mem_other h.1 h.2)⟩
theorem mem_drop {M : Prs} (hr : Rises M) {k : List Int} {p : List Int × Int} : p ∈ dropK M k ↔ p ∈ M ∧ p.1 ≠ k := by
  constructor
  · intro h
    refine ⟨dropK_mem h, fun e => ?_⟩
    unfold dropK at h
    rcases List.mem_append.1 h with h1 | h1
    · have := mem_take_rk h1; rw [e, cmpK_self] at this; omega
    · have := mem_drop_rk hr h1; rw [e, cmpK_self] at this; omega
  · rintro ⟨h, hn⟩
    cases hh : hasK M k with
    | false => rw [dropK_not hh]; exact h
    | true =>
      obtain ⟨v, hv, _⟩ := hasK_some hh
      have hl := hasK_lt hh
      have e : M = M.take (rk M k) ++ M.drop (rk M k) := (List.take_append_drop _ _).symm
      rw [e] at h
      unfold dropK
      rw [hh]
      simp only [if_true]
      rcases List.mem_append.1 h with h1 | h1
      · exact List.mem_append.2 (Or.inl h1)
      · rw [List.drop_eq_getElem_cons hl] at h1
        rcases List.mem_cons.1 h1 with h2 | h2
        · rw [List.getElem?_eq_getElem hl] at hv
          have := Option.some.inj hv
          rw [this] at h2
          rw [h2] at hn; exact absurd rfl hn
        · exact List.mem_append.2 (Or.inr h2)
open MaskP in
theorem cnt_pos {f : Nat → Bool} : ∀ {n : Nat}, 0 < cnt f n → ∃ i, i < n ∧ f i = true
  | 0, h => by simp [cnt] at h
  | n + 1, h => by
    cases hf : f n with
    | true => exact ⟨n, by omega, hf⟩
    | false =>
      simp only [cnt, hf] at h
      obtain ⟨i, h1, h2⟩ := cnt_pos (f := f) (n := n) (by simpa using h)
      exact ⟨i, by omega, h2⟩
open MaskP in
theorem cnt_two {f : Nat → Bool} : ∀ {n : Nat}, 2 ≤ cnt f n → ∃ i j, i < j ∧ j < n ∧ f i = true ∧ f j = true
  | 0, h => by simp [cnt] at h
  | n + 1, h => by
    cases hf : f n with
    | true =>
      simp only [cnt, hf] at h
      obtain ⟨i, h1, h2⟩ := cnt_pos (f := f) (n := n) (by simp at h; omega)
      exact ⟨i, n, h1, by omega, h2, hf⟩
    | false =>
      simp only [cnt, hf] at h
      obtain ⟨i, j, h1, h2, h3⟩ := cnt_two (f := f) (n := n) (by simpa using h)
      exact ⟨i, j, h1, by omega, h3⟩
end RadK

open RadK MaskP MaskA KidB
inductive RT
  | nil
  | leaf (k : List Int) (v : Int)
  | node (k : List Int) (o : Option Int) (kd : Nat) (f : Nat → RT)
namespace RT
def is : RT → Bool
  | nil => false
  | _ => true
def key : RT → List Int
  | nil => []
  | leaf k _ => k
  | node k _ _ _ => k
def ownP (k : List Int) (o : Option Int) : Prs := match o with
  | some v => [(k, v)]
  | none => []
def prs : RT → Prs
  | nil => []
  | leaf k v => [(k, v)]
  | node k o _ f => ownP k o ++ (List.range 256).flatMap fun i => (f i).prs
def cells : RT → Nat
  | nil => 0
  | leaf _ _ => 1
  | node _ _ _ f => 1 + ((List.range 256).map fun i => (f i).cells).sum
theorem cells_node (k : List Int) (o : Option Int) (kd : Nat) (f : Nat → RT) : (node k o kd f).cells = 1 + ((List.range 256).map fun i => (f i).cells).sum := by rw [cells]
theorem prs_node (k : List Int) (o : Option Int) (kd : Nat) (f : Nat → RT) : (node k o kd f).prs = ownP k o ++ (List.range 256).flatMap fun i => (f i).prs := by rw [prs]
/-- which bytes have a child -/
def hsT (f : Nat → RT) : Nat → Bool := fun i => (f i).is
def one (o : Option Int) : Nat := if o.isSome then 1 else 0
/-- well built, all keys behind some bytes -/
def Ok : List Int → RT → Prop
  | _, nil => True
  | q, leaf k _ => q <+: k ∧ KB k
  | q, node k o kd f => q <+: k ∧ KB k ∧ (∀ i : Nat, 256 ≤ i → f i = nil) ∧ (∀ i : Nat, i < 256 → Ok (k ++ [(i : Int)]) (f i)) ∧ 2 ≤ cnt (hsT f) 256 + one o ∧
      kd < 4 ∧ leftI kd < (cnt (hsT f) 256 : Nat) ∧ ((cnt (hsT f) 256 : Nat) : Int) ≤ roomI kd

theorem ownP_mem {k : List Int} {o : Option Int} {p : List Int × Int} : p ∈ ownP k o ↔ ∃ v, o = some v ∧ p = (k, v) := by
  cases o with
  | none => simp [ownP]
  | some v => simp [ownP]
theorem mem_node {k : List Int} {o : Option Int} {kd : Nat} {f : Nat → RT} {p : List Int × Int} : p ∈ (node k o kd f).prs ↔ (∃ v, o = some v ∧ p = (k, v)) ∨ ∃ i, i < 256 ∧ p ∈ (f i).prs := by
  show p ∈ ownP k o ++ (List.range 256).flatMap (fun i => (f i).prs) ↔ _
  rw [List.mem_append, ownP_mem, List.mem_flatMap]
  simp only [List.mem_range]
theorem is_false {T : RT} (h : T.is = false) : T = nil := by cases T <;> simp [is] at h; rfl
theorem is_ne {T : RT} (h : T.is = true) : T ≠ nil := fun e => by rw [e] at h; simp [is] at h

theorem Ok.pre {T : RT} : ∀ {q : List Int}, Ok q T → ∀ p ∈ T.prs, q <+: p.1 ∧ KB p.1 := by
  induction T with
  | nil => intro q _ p hp; simp [prs] at hp
  | leaf k v => intro q h p hp; simp [prs] at hp; rw [hp]; exact h
  | node k o kd f ih =>
    intro q h p hp
    obtain ⟨h1, h2, h3, h4, _⟩ := h
    rcases mem_node.1 hp with ⟨v, rfl, rfl⟩ | ⟨i, hi, hp⟩
    · exact ⟨h1, h2⟩
    · have := ih i (h4 i hi) p hp
      exact ⟨(h1.trans (List.prefix_append _ _)).trans this.1, this.2⟩
theorem Ok.kpre {T : RT} {q : List Int} (h : Ok q T) (hT : T.is = true) : q <+: T.key ∧ KB T.key := by
  cases T with
  | nil => simp [is] at hT
  | leaf k v => exact h
  | node k o kd f => exact ⟨h.1, h.2.1⟩
theorem Ok.less {T : RT} {q q' : List Int} (h : Ok q T) (hq : T.is = true → q' <+: T.key) : Ok q' T := by
  cases T with
  | nil => trivial
  | leaf k v => exact ⟨hq rfl, h.2⟩
  | node k o kd f => exact ⟨hq rfl, h.2⟩
theorem child_pre {k : List Int} {o : Option Int} {kd : Nat} {f : Nat → RT} {q : List Int} (h : Ok q (node k o kd f)) {i : Nat} (hi : i < 256) {p} (hp : p ∈ (f i).prs) : k ++ [(i : Int)] <+: p.1 := ((h.2.2.2.1 i hi).pre p hp).1
theorem pre_len {k x : List Int} {i : Int} (h : k ++ [i] <+: x) : k.length < x.length := by have := h.length_le; simp at this; omega

theorem Ok.rises {T : RT} : ∀ {q : List Int}, Ok q T → Rises T.prs := by
  induction T with
  | nil => intro q _; exact List.Pairwise.nil
  | leaf k v => intro q _; exact List.pairwise_singleton _ _
  | node k o kd f ih =>
    intro q h
    show (ownP k o ++ (List.range 256).flatMap (fun i => (f i).prs)).Pairwise _
    rw [List.pairwise_append]
    refine ⟨?_, ?_, ?_⟩
    · cases o <;> simp [ownP]
    · rw [List.pairwise_flatMap]
      refine ⟨fun i hi => ih i (h.2.2.2.1 i (List.mem_range.1 hi)), ?_⟩
      refine List.Pairwise.imp_of_mem ?_ (List.pairwise_lt_range)
      intro i j hi hj hij p hp r hr
      exact cmp_split (child_pre h (List.mem_range.1 hi) hp) (child_pre h (List.mem_range.1 hj) hr) hij
    · intro p hp r hr
      obtain ⟨v, _, rfl⟩ := ownP_mem.1 hp
      obtain ⟨i, hi, hr⟩ := List.mem_flatMap.1 hr
      have := child_pre h (List.mem_range.1 hi) hr
      exact cmpK_prefix ((List.prefix_append _ _).trans this) (pre_len this)
/-- there is a key -/
theorem Ok.some {T : RT} : ∀ {q : List Int}, Ok q T → T.is = true → ∃ p, p ∈ T.prs := by
  induction T with
  | nil => intro q _ h; simp [is] at h
  | leaf k v => intro q _ _; exact ⟨(k, v), by simp [prs]⟩
  | node k o kd f ih =>
    intro q h _
    cases ho : o with
    | some v => exact ⟨(k, v), mem_node.2 (Or.inl ⟨v, rfl, rfl⟩)⟩
    | none =>
      have hc : 0 < cnt (hsT f) 256 := by have := h.2.2.2.2.1; rw [ho] at this; simp [one] at this; omega
      obtain ⟨i, hi, hf⟩ := cnt_pos hc
      obtain ⟨p, hp⟩ := ih i (h.2.2.2.1 i hi) hf
      exact ⟨p, mem_node.2 (Or.inr ⟨i, hi, hp⟩)⟩
theorem Ok.key_le {T : RT} {q : List Int} (h : Ok q T) {L : Nat} (hL : ∀ p ∈ T.prs, p.1.length ≤ L) : T.key.length ≤ L := by
  cases hT : T.is with
  | false => rw [is_false hT]; simp [key]
  | true =>
    obtain ⟨p, hp⟩ := h.some hT
    refine Nat.le_trans ?_ (hL p hp)
    cases T with
    | nil => simp [key]
    | leaf k v => simp [prs] at hp; rw [hp]; exact Nat.le_refl _
    | node k o kd f =>
      rcases mem_node.1 hp with ⟨v, _, rfl⟩ | ⟨i, hi, hp⟩
      · exact Nat.le_refl _
      · exact Nat.le_of_lt (pre_len (child_pre h hi hp))
end RT
end Go.Proofs.YtclnnkacfanaiaaDoor
