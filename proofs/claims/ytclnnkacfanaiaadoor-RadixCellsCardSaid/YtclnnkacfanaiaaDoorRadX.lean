/- Texts of one chain, in one file. -/
import Derived.Test.YtclnnkacfanaiaaDoorKidW
import Derived.Test.YtclnnkacfanaiaaDoorRefC
import Derived.Test.YtclnnkacfanaiaaDoorModX
/- Plain laws: the tree of a radix tree's nodes; a put, a drop. -/
namespace Go.Proofs.YtclnnkacfanaiaaDoor
set_option linter.unusedVariables false
set_option linter.unusedSimpArgs false
open ModP (cmpK_prefix)

/-! ### keys -/
namespace RadK
theorem cmpK_way : ∀ (w a b : List Int), cmpK (w ++ a) (w ++ b) = cmpK a b
  | [], a, b => rfl
  | x :: w, a, b => by show cmpK (x :: (w ++ a)) (x :: (w ++ b)) = _; rw [cmpK_cons, cmpK_way w]
theorem comK_way : ∀ (w a b : List Int), comK (w ++ a) (w ++ b) = w.length + comK a b
  | [], a, b => by simp
  | x :: w, a, b => by show comK (x :: (w ++ a)) (x :: (w ++ b)) = _; rw [comK, if_pos rfl, comK_way w]; simp; omega
theorem comK_comm : ∀ a b : List Int, comK a b = comK b a
  | [], [] => rfl
  | [], _ :: _ => rfl
  | _ :: _, [] => rfl
  | x :: a, y :: b => by
    unfold comK
    by_cases h : x = y
    · subst h; rw [if_pos rfl, if_pos rfl, comK_comm a b]
    · rw [if_neg h, if_neg (Ne.symm h)]
theorem take_comK (a b : List Int) : a.take (comK a b) = b.take (comK a b) := by
  apply List.ext_getElem?
  intro i
  rw [List.getElem?_take, List.getElem?_take]
  split
  · rename_i h
    obtain ⟨x, h1, h2⟩ := comK_lt h
    rw [h1, h2]
  · rfl
theorem pre_of_comK {a b : List Int} (h : comK a b = a.length) : a <+: b := by
  have h1 := take_comK a b
  rw [h, List.take_length] at h1
  rw [h1]; exact List.take_prefix _ _
theorem comK_of_pre {a b : List Int} (h : a <+: b) : comK a b = a.length := by
  obtain ⟨r, rfl⟩ := h
  have := comK_way a [] r
  rw [List.append_nil] at this
  rw [this]; simp [comK]
theorem pre_split {a b : List Int} (h : a <+: b) (hn : a ≠ b) : ∃ x r, b = a ++ x :: r := by
  obtain ⟨r, rfl⟩ := h
  cases r with
  | nil => simp at hn
  | cons x r => exact ⟨x, r, rfl⟩
/-- the byte of a key at a place -/
def byteAt (k : List Int) (n : Nat) : Nat := (k.getD n 0).toNat
theorem byteAt_lt {k : List Int} (h : KB k) (n : Nat) : byteAt k n < 256 := by
  unfold byteAt
  rw [List.getD_eq_getElem?_getD]
  cases hx : k[n]? with
  | none => simp
  | some x => have := h x (List.mem_of_getElem? hx); simp; omega
theorem byteAt_int {k : List Int} (h : KB k) {n : Nat} (hn : n < k.length) : k[n]? = some ((byteAt k n : Nat) : Int) := by
  unfold byteAt
  rw [List.getD_eq_getElem?_getD, List.getElem?_eq_getElem hn]
  have := h k[n] (List.getElem_mem hn)
  simp; omega
theorem byteAt_way (w : List Int) (i : Nat) (r : List Int) : byteAt (w ++ (i : Int) :: r) w.length = i := by
  unfold byteAt
  rw [List.getD_eq_getElem?_getD, List.getElem?_append_right (Nat.le_refl _)]; simp
theorem pre_byte {a b : List Int} (hb : KB b) (h : a <+: b) (hl : a.length < b.length) : a ++ [((byteAt b a.length : Nat) : Int)] <+: b := by
  obtain ⟨x, r, rfl⟩ := pre_split h (fun e => by rw [e] at hl; omega)
  have hx := hb x (by simp)
  have e : byteAt (a ++ x :: r) a.length = x.toNat := by
    unfold byteAt
    rw [List.getD_eq_getElem?_getD, List.getElem?_append_right (Nat.le_refl _)]; simp
  rw [e, show ((x.toNat : Nat) : Int) = x by omega]
  exact ⟨r, by simp⟩
theorem pre_byte_eq {a b : List Int} {i : Nat} (h : a ++ [(i : Int)] <+: b) : byteAt b a.length = i := by
  obtain ⟨r, rfl⟩ := h
  rw [List.append_assoc]; exact byteAt_way a i r
theorem com_split {w a b : List Int} {i j : Nat} (ha : w ++ [(i : Int)] <+: a) (hb : w ++ [(j : Int)] <+: b) (hij : i ≠ j) : comK a b = w.length := by
  obtain ⟨r, rfl⟩ := ha
  obtain ⟨s, rfl⟩ := hb
  rw [List.append_assoc, List.append_assoc, comK_way]
  show w.length + comK ((i : Int) :: r) ((j : Int) :: s) = _
  rw [comK, if_neg (by omega)]; rfl
theorem cmp_split {w a b : List Int} {i j : Nat} (ha : w ++ [(i : Int)] <+: a) (hb : w ++ [(j : Int)] <+: b) (hij : i < j) : cmpK a b < 0 := by
  obtain ⟨r, rfl⟩ := ha
  obtain ⟨s, rfl⟩ := hb
  rw [List.append_assoc, List.append_assoc, cmpK_way]
  show cmpK ((i : Int) :: r) ((j : Int) :: s) < 0
  unfold cmpK
  rw [if_pos (by omega)]; omega
/-- two keys that part at a place below both ends -/
theorem com_bytes {a b : List Int} (ha : KB a) (hb : KB b) (h1 : comK a b < a.length) (h2 : comK a b < b.length) : byteAt a (comK a b) ≠ byteAt b (comK a b) := fun e => by
  have e1 := byteAt_int ha h1
  have e2 := byteAt_int hb h2
  exact comK_at e1 e2 (by rw [e])
theorem eq_of_com {a b : List Int} (h1 : comK a b = a.length) (h2 : comK a b = b.length) : a = b := by
  have h3 := take_comK a b
  rw [h1, List.take_length, ← h1, h2, List.take_length] at h3
  exact h3

/-- two rows that rise and have the same pairs -/
theorem rises_ext : ∀ {A B : Prs}, Rises A → Rises B → (∀ p, p ∈ A ↔ p ∈ B) → A = B
  | [], [], _, _, _ => rfl
  | [], b :: B, _, _, h => absurd ((h b).2 (by simp)) (by simp)
  | a :: A, [], _, _, h => absurd ((h a).1 (by simp)) (by simp)
  | a :: A, b :: B, hA, hB, h => by
    have hA' := List.pairwise_cons.1 hA
    have hB' := List.pairwise_cons.1 hB
    have hab : a = b := by
      have h1 := (h a).1 (by simp)
      have h2 := (h b).2 (by simp)
      rw [List.mem_cons] at h1 h2
      rcases h1 with h1 | h1
      · exact h1
      · rcases h2 with h2 | h2
        · exact h2.symm
        · have x1 := hB'.1 a h1
          have x2 := hA'.1 b h2
          have := cmpK_trans x1 x2
          rw [cmpK_self] at this; omega
    subst hab
    refine congrArg _ (rises_ext hA'.2 hB'.2 fun p => ?_)
    have := h p
    simp only [List.mem_cons] at this
    constructor
    · intro hp
      rcases this.1 (Or.inr hp) with h1 | h1
      · subst h1; have := hA'.1 p hp; rw [cmpK_self] at this; omega
      · exact h1
    · intro hp
      rcases this.2 (Or.inr hp) with h1 | h1
      · subst h1; have := hB'.1 p hp; rw [cmpK_self] at this; omega
      · exact h1
theorem mem_put {M : Prs} (hr : Rises M) {k : List Int} {x : Int} {p : List Int × Int} : p ∈ putK M k x ↔ p = (k, x) ∨ p ∈ M ∧ p.1 ≠ k :=
  ⟨ModR.put_mem_only hr, fun h => h.elim (fun h => by rw [h]; exact ModR.put_mem_self M k x) (fun h => ModR.put_mem_other h.1 h.2)⟩
theorem mem_drop {M : Prs} (hr : Rises M) {k : List Int} {p : List Int × Int} : p ∈ dropK M k ↔ p ∈ M ∧ p.1 ≠ k := by
  constructor
  · intro h
    refine ⟨dropK_mem h, fun e => ?_⟩
    unfold dropK at h
    rcases List.mem_append.1 h with h1 | h1
    · have := mem_take_rk h1; rw [e, cmpK_self] at this; omega
    · have := mem_drop_rk hr h1; rw [e, cmpK_self] at this; omega
  · rintro ⟨h, hn⟩
    cases hh : hasK M k with
    | false => rw [dropK_not hh]; exact h
    | true =>
      obtain ⟨v, hv, _⟩ := hasK_some hh
      have hl := hasK_lt hh
      have e : M = M.take (rk M k) ++ M.drop (rk M k) := (List.take_append_drop _ _).symm
      rw [e] at h
      unfold dropK
      rw [hh]
      simp only [if_true]
      rcases List.mem_append.1 h with h1 | h1
      · exact List.mem_append.2 (Or.inl h1)
      · rw [List.drop_eq_getElem_cons hl] at h1
        rcases List.mem_cons.1 h1 with h2 | h2
        · rw [List.getElem?_eq_getElem hl] at hv
          have := Option.some.inj hv
          rw [this] at h2
          rw [h2] at hn; exact absurd rfl hn
        · exact List.mem_append.2 (Or.inr h2)
open MaskP in
theorem cnt_pos {f : Nat → Bool} : ∀ {n : Nat}, 0 < cnt f n → ∃ i, i < n ∧ f i = true
  | 0, h => by simp [cnt] at h
  | n + 1, h => by
    cases hf : f n with
    | true => exact ⟨n, by omega, hf⟩
    | false =>
      simp only [cnt, hf] at h
      obtain ⟨i, h1, h2⟩ := cnt_pos (f := f) (n := n) (by simpa using h)
      exact ⟨i, by omega, h2⟩
open MaskP in
theorem cnt_two {f : Nat → Bool} : ∀ {n : Nat}, 2 ≤ cnt f n → ∃ i j, i < j ∧ j < n ∧ f i = true ∧ f j = true
  | 0, h => by simp [cnt] at h
  | n + 1, h => by
    cases hf : f n with
    | true =>
      simp only [cnt, hf] at h
      obtain ⟨i, h1, h2⟩ := cnt_pos (f := f) (n := n) (by simp at h; omega)
      exact ⟨i, n, h1, by omega, h2, hf⟩
    | false =>
      simp only [cnt, hf] at h
      obtain ⟨i, j, h1, h2, h3⟩ := cnt_two (f := f) (n := n) (by simpa using h)
      exact ⟨i, j, h1, by omega, h3⟩
end RadK

open RadK MaskP MaskA KidB
inductive RT
  | nil
  | leaf (k : List Int) (v : Int)
  | node (k : List Int) (o : Option Int) (kd : Nat) (f : Nat → RT)
namespace RT
def is : RT → Bool
  | nil => false
  | _ => true
def key : RT → List Int
  | nil => []
  | leaf k _ => k
  | node k _ _ _ => k
def ownP (k : List Int) (o : Option Int) : Prs := match o with
  | some v => [(k, v)]
  | none => []
def prs : RT → Prs
  | nil => []
  | leaf k v => [(k, v)]
  | node k o _ f => ownP k o ++ (List.range 256).flatMap fun i => (f i).prs
def cells : RT → Nat
  | nil => 0
  | leaf _ _ => 1
  | node _ _ _ f => 1 + ((List.range 256).map fun i => (f i).cells).sum
theorem cells_node (k : List Int) (o : Option Int) (kd : Nat) (f : Nat → RT) : (node k o kd f).cells = 1 + ((List.range 256).map fun i => (f i).cells).sum := by rw [cells]
theorem prs_node (k : List Int) (o : Option Int) (kd : Nat) (f : Nat → RT) : (node k o kd f).prs = ownP k o ++ (List.range 256).flatMap fun i => (f i).prs := by rw [prs]
/-- which bytes have a child -/
def hsT (f : Nat → RT) : Nat → Bool := fun i => (f i).is
def one (o : Option Int) : Nat := if o.isSome then 1 else 0
/-- well built, all keys behind some bytes -/
def Ok : List Int → RT → Prop
  | _, nil => True
  | q, leaf k _ => q <+: k ∧ KB k
  | q, node k o kd f => q <+: k ∧ KB k ∧ (∀ i : Nat, 256 ≤ i → f i = nil) ∧ (∀ i : Nat, i < 256 → Ok (k ++ [(i : Int)]) (f i)) ∧ 2 ≤ cnt (hsT f) 256 + one o ∧
      kd < 4 ∧ leftI kd < (cnt (hsT f) 256 : Nat) ∧ ((cnt (hsT f) 256 : Nat) : Int) ≤ roomI kd

theorem ownP_mem {k : List Int} {o : Option Int} {p : List Int × Int} : p ∈ ownP k o ↔ ∃ v, o = some v ∧ p = (k, v) := by
  cases o with
  | none => simp [ownP]
  | some v => simp [ownP]
theorem mem_node {k : List Int} {o : Option Int} {kd : Nat} {f : Nat → RT} {p : List Int × Int} : p ∈ (node k o kd f).prs ↔ (∃ v, o = some v ∧ p = (k, v)) ∨ ∃ i, i < 256 ∧ p ∈ (f i).prs := by
  show p ∈ ownP k o ++ (List.range 256).flatMap (fun i => (f i).prs) ↔ _
  rw [List.mem_append, ownP_mem, List.mem_flatMap]
  simp only [List.mem_range]
theorem is_false {T : RT} (h : T.is = false) : T = nil := by cases T <;> simp [is] at h; rfl
theorem is_ne {T : RT} (h : T.is = true) : T ≠ nil := fun e => by rw [e] at h; simp [is] at h

theorem Ok.pre {T : RT} : ∀ {q : List Int}, Ok q T → ∀ p ∈ T.prs, q <+: p.1 ∧ KB p.1 := by
  induction T with
  | nil => intro q _ p hp; simp [prs] at hp
  | leaf k v => intro q h p hp; simp [prs] at hp; rw [hp]; exact h
  | node k o kd f ih =>
    intro q h p hp
    obtain ⟨h1, h2, h3, h4, _⟩ := h
    rcases mem_node.1 hp with ⟨v, rfl, rfl⟩ | ⟨i, hi, hp⟩
    · exact ⟨h1, h2⟩
    · have := ih i (h4 i hi) p hp
      exact ⟨(h1.trans (List.prefix_append _ _)).trans this.1, this.2⟩
theorem Ok.kpre {T : RT} {q : List Int} (h : Ok q T) (hT : T.is = true) : q <+: T.key ∧ KB T.key := by
  cases T with
  | nil => simp [is] at hT
  | leaf k v => exact h
  | node k o kd f => exact ⟨h.1, h.2.1⟩
theorem Ok.less {T : RT} {q q' : List Int} (h : Ok q T) (hq : T.is = true → q' <+: T.key) : Ok q' T := by
  cases T with
  | nil => trivial
  | leaf k v => exact ⟨hq rfl, h.2⟩
  | node k o kd f => exact ⟨hq rfl, h.2⟩
theorem child_pre {k : List Int} {o : Option Int} {kd : Nat} {f : Nat → RT} {q : List Int} (h : Ok q (node k o kd f)) {i : Nat} (hi : i < 256) {p} (hp : p ∈ (f i).prs) : k ++ [(i : Int)] <+: p.1 := ((h.2.2.2.1 i hi).pre p hp).1
theorem pre_len {k x : List Int} {i : Int} (h : k ++ [i] <+: x) : k.length < x.length := by have := h.length_le; simp at this; omega

theorem Ok.rises {T : RT} : ∀ {q : List Int}, Ok q T → Rises T.prs := by
  induction T with
  | nil => intro q _; exact List.Pairwise.nil
  | leaf k v => intro q _; exact List.pairwise_singleton _ _
  | node k o kd f ih =>
    intro q h
    show (ownP k o ++ (List.range 256).flatMap (fun i => (f i).prs)).Pairwise _
    rw [List.pairwise_append]
    refine ⟨?_, ?_, ?_⟩
    · cases o <;> simp [ownP]
    · rw [List.pairwise_flatMap]
      refine ⟨fun i hi => ih i (h.2.2.2.1 i (List.mem_range.1 hi)), ?_⟩
      refine List.Pairwise.imp_of_mem ?_ (List.pairwise_lt_range)
      intro i j hi hj hij p hp r hr
      exact cmp_split (child_pre h (List.mem_range.1 hi) hp) (child_pre h (List.mem_range.1 hj) hr) hij
    · intro p hp r hr
      obtain ⟨v, _, rfl⟩ := ownP_mem.1 hp
      obtain ⟨i, hi, hr⟩ := List.mem_flatMap.1 hr
      have := child_pre h (List.mem_range.1 hi) hr
      exact cmpK_prefix ((List.prefix_append _ _).trans this) (pre_len this)
/-- there is a key -/
theorem Ok.some {T : RT} : ∀ {q : List Int}, Ok q T → T.is = true → ∃ p, p ∈ T.prs := by
  induction T with
  | nil => intro q _ h; simp [is] at h
  | leaf k v => intro q _ _; exact ⟨(k, v), by simp [prs]⟩
  | node k o kd f ih =>
    intro q h _
    cases ho : o with
    | some v => exact ⟨(k, v), mem_node.2 (Or.inl ⟨v, rfl, rfl⟩)⟩
    | none =>
      have hc : 0 < cnt (hsT f) 256 := by have := h.2.2.2.2.1; rw [ho] at this; simp [one] at this; omega
      obtain ⟨i, hi, hf⟩ := cnt_pos hc
      obtain ⟨p, hp⟩ := ih i (h.2.2.2.1 i hi) hf
      exact ⟨p, mem_node.2 (Or.inr ⟨i, hi, hp⟩)⟩
theorem Ok.key_le {T : RT} {q : List Int} (h : Ok q T) {L : Nat} (hL : ∀ p ∈ T.prs, p.1.length ≤ L) : T.key.length ≤ L := by
  cases hT : T.is with
  | false => rw [is_false hT]; simp [key]
  | true =>
    obtain ⟨p, hp⟩ := h.some hT
    refine Nat.le_trans ?_ (hL p hp)
    cases T with
    | nil => simp [key]
    | leaf k v => simp [prs] at hp; rw [hp]; exact Nat.le_refl _
    | node k o kd f =>
      rcases mem_node.1 hp with ⟨v, _, rfl⟩ | ⟨i, hi, hp⟩
      · exact Nat.le_refl _
      · exact Nat.le_of_lt (pre_len (child_pre h hi hp))
end RT
end Go.Proofs.YtclnnkacfanaiaaDoor

/- Plain laws: what a put, a drop makes of the tree of nodes. -/
namespace Go.Proofs.YtclnnkacfanaiaaDoor
set_option linter.unusedVariables false
set_option linter.unusedSimpArgs false
open ModP (cmpK_prefix)
open RadK MaskP MaskA KidB
namespace RT
def upd (f : Nat → RT) (b : Nat) (T : RT) : Nat → RT := fun i => if i = b then T else f i
theorem upd_at (f : Nat → RT) (b : Nat) (T : RT) : upd f b T b = T := by simp [upd]
theorem upd_ne (f : Nat → RT) (b : Nat) (T : RT) {i : Nat} (h : i ≠ b) : upd f b T i = f i := by simp [upd, h]
theorem hsT_upd (f : Nat → RT) (b : Nat) (T : RT) : hsT (upd f b T) = setb (hsT f) b T.is := by
  funext i; simp only [hsT, upd, setb]; split <;> rfl
theorem cnt_upd (f : Nat → RT) {b : Nat} (hb : b < 256) (T : RT) : cnt (hsT (upd f b T)) 256 + ((f b).is).toNat = cnt (hsT f) 256 + (T.is).toNat := by
  rw [hsT_upd]; exact KidW.cnt_setb (hsT f) b T.is 256 hb
def none : Nat → RT := fun _ => nil
theorem cnt_none' : cnt (hsT none) 256 = 0 := cnt_none 256
def leafO (c : Nat) : RT → Option Int
  | leaf k v => if k.length = c then some v else Option.none
  | _ => Option.none
/-- two that part at a place -/
def joinO (c : Nat) (n : RT) (k : List Int) (v : Int) : Option Int := if k.length = c then some v else leafO c n
def joinF (c : Nat) (n : RT) (k : List Int) (v : Int) : Nat → RT :=
  if k.length = c then upd none (byteAt n.key c) n else if n.key.length = c then upd none (byteAt k c) (leaf k v) else upd (upd none (byteAt n.key c) n) (byteAt k c) (leaf k v)
def join (c : Nat) (n : RT) (k : List Int) (v : Int) : RT := node (k.take c) (joinO c n k v) 0 (joinF c n k v)
def putT : RT → List Int → Int → RT
  | nil, k, v => leaf k v
  | leaf k0 v0, k, v => if k0 = k then leaf k0 v else join (comK k0 k) (leaf k0 v0) k v
  | node k0 o kd f, k, v =>
    if comK k0 k < k0.length then join (comK k0 k) (node k0 o kd f) k v
    else if k.length = k0.length then node k0 (some v) kd f
    else if (f (byteAt k k0.length)).is = false then node k0 o (upK kd (cnt (hsT f) 256 + 1)) (upd f (byteAt k k0.length) (leaf k v))
    else node k0 o kd (upd f (byteAt k k0.length) (putT (f (byteAt k k0.length)) k v))
/-- the only child -/
def oneT (f : Nat → RT) : RT := match (List.range 256).find? (hsT f) with
  | some i => f i
  | Option.none => nil
def dropN (k0 : List Int) (v0 : Int) (o : Option Int) (kd : Nat) (f : Nat → RT) : RT :=
  if o.isSome = true ∧ cnt (hsT f) 256 = 0 then leaf k0 (o.getD v0)
  else if o.isSome = false ∧ cnt (hsT f) 256 = 1 then oneT f
  else node k0 o kd f
def dropT : RT → List Int → RT
  | nil, _ => nil
  | leaf _ _, _ => nil
  | node k0 o kd f, k =>
    if k.length = k0.length then dropN k0 0 Option.none kd f
    else if (dropT (f (byteAt k k0.length)) k).is = false then dropN k0 0 o (dnK kd (cnt (hsT f) 256 - 1)) (upd f (byteAt k k0.length) nil)
    else dropN k0 0 o kd (upd f (byteAt k k0.length) (dropT (f (byteAt k k0.length)) k))

theorem join_is (c : Nat) (n : RT) (k : List Int) (v : Int) : (join c n k v).is = true := rfl
theorem putT_is (T : RT) (k : List Int) (v : Int) : (putT T k v).is = true := by
  cases T with
  | nil => rfl
  | leaf k0 v0 => unfold putT; split <;> rfl
  | node k0 o kd f => unfold putT; split; rfl; split; rfl; split <;> rfl

/-- what a node whose children one has changed -/
theorem ok_upd {q k : List Int} {o : Option Int} {kd kd' : Nat} {f : Nat → RT} (h : Ok q (node k o kd f)) {b : Nat} (hb : b < 256) {T : RT} (hT : Ok (k ++ [(b : Int)]) T) (h2 : 2 ≤ cnt (hsT (upd f b T)) 256 + one o)
    (hk : kd' < 4) (h3 : leftI kd' < (cnt (hsT (upd f b T)) 256 : Nat)) (h4 : ((cnt (hsT (upd f b T)) 256 : Nat) : Int) ≤ roomI kd') : Ok q (node k o kd' (upd f b T)) := by
  refine ⟨h.1, h.2.1, fun i hi => ?_, fun i hi => ?_, h2, hk, h3, h4⟩
  · rw [upd_ne _ _ _ (by omega)]; exact h.2.2.1 i hi
  · by_cases e : i = b
    · subst e; rw [upd_at]; exact hT
    · rw [upd_ne _ _ _ e]; exact h.2.2.2.1 i hi
theorem mem_upd {f : Nat → RT} {b : Nat} (hb : b < 256) {T : RT} {p : List Int × Int} : (∃ i, i < 256 ∧ p ∈ (upd f b T i).prs) ↔ p ∈ T.prs ∨ ∃ i, i < 256 ∧ i ≠ b ∧ p ∈ (f i).prs := by
  constructor
  · rintro ⟨i, hi, hp⟩
    by_cases e : i = b
    · subst e; rw [upd_at] at hp; exact Or.inl hp
    · rw [upd_ne _ _ _ e] at hp; exact Or.inr ⟨i, hi, e, hp⟩
  · rintro (hp | ⟨i, hi, e, hp⟩)
    · exact ⟨b, hb, by rw [upd_at]; exact hp⟩
    · exact ⟨i, hi, by rw [upd_ne _ _ _ e]; exact hp⟩
theorem up_band {kd n : Nat} (hk : kd < 4) (h1 : leftI kd < (n : Nat)) (h2 : ((n : Nat) : Int) ≤ roomI kd) (hn : n + 1 ≤ 256) : upK kd (n + 1) < 4 ∧ leftI (upK kd (n + 1)) < ((n + 1 : Nat) : Int) ∧ ((n + 1 : Nat) : Int) ≤ roomI (upK kd (n + 1)) := by
  refine ⟨up_lt hk hn, ?_⟩
  have a0 : leftI 0 = -1 := rfl
  have a1 : leftI 1 = 3 := rfl
  have a2 : leftI 2 = 12 := rfl
  have a3 : leftI 3 = 40 := rfl
  have b0 : roomI 0 = 4 := rfl
  have b1 : roomI 1 = 16 := rfl
  have b2 : roomI 2 = 48 := rfl
  have b3 : roomI 3 = 256 := rfl
  by_cases h : roomI kd < ((n + 1 : Nat) : Int)
  · have e : upK kd (n + 1) = kd + 1 := by unfold upK; rw [if_pos h]
    rw [e]
    rcases (show kd = 0 ∨ kd = 1 ∨ kd = 2 ∨ kd = 3 by omega) with rfl | rfl | rfl | rfl
    · show leftI 1 < _ ∧ _ ≤ roomI 1; omega
    · show leftI 2 < _ ∧ _ ≤ roomI 2; omega
    · show leftI 3 < _ ∧ _ ≤ roomI 3; omega
    · omega
  · have e : upK kd (n + 1) = kd := by unfold upK; rw [if_neg h]
    rw [e]
    omega
theorem dn_band {kd n : Nat} (hk : kd < 4) (h1 : leftI kd < ((n + 1 : Nat) : Int)) (h2 : ((n + 1 : Nat) : Int) ≤ roomI kd) : dnK kd n < 4 ∧ leftI (dnK kd n) < (n : Nat) ∧ ((n : Nat) : Int) ≤ roomI (dnK kd n) := by
  refine ⟨dn_lt hk, ?_⟩
  have a0 : leftI 0 = -1 := rfl
  have a1 : leftI 1 = 3 := rfl
  have a2 : leftI 2 = 12 := rfl
  have a3 : leftI 3 = 40 := rfl
  have b0 : roomI 0 = 4 := rfl
  have b1 : roomI 1 = 16 := rfl
  have b2 : roomI 2 = 48 := rfl
  have b3 : roomI 3 = 256 := rfl
  by_cases h : ((n : Nat) : Int) ≤ leftI kd
  · have e : dnK kd n = kd - 1 := by unfold dnK; rw [if_pos h]
    rw [e]
    rcases (show kd = 0 ∨ kd = 1 ∨ kd = 2 ∨ kd = 3 by omega) with rfl | rfl | rfl | rfl
    · omega
    · show leftI 0 < _ ∧ _ ≤ roomI 0; omega
    · show leftI 1 < _ ∧ _ ≤ roomI 1; omega
    · show leftI 2 < _ ∧ _ ≤ roomI 2; omega
  · have e : dnK kd n = kd := by unfold dnK; rw [if_neg h]
    rw [e]
    omega

/-! ### two that part -/
theorem join_ok {q k : List Int} {n : RT} {v : Int} {c : Nat} (hn : Ok n.key n) (hni : n.is = true) (hk : KB k) (hc : c = comK n.key k) (hne : n.key ≠ k) (hlf : (∃ k0 v0, n = leaf k0 v0) ∨ c < n.key.length) (hq : q <+: n.key) (hq2 : q <+: k) :
    Ok q (join c n k v) := by
  have hkn : KB n.key := (hn.kpre hni).2
  have hcl := comK_le n.key k
  rw [← hc] at hcl
  have htk := take_comK n.key k
  rw [← hc] at htk
  have hqc : q <+: k.take c := by
    have h1 : q.length ≤ c := by
      obtain ⟨r, hr⟩ := hq
      obtain ⟨s, hs⟩ := hq2
      rw [hc, ← hr, ← hs, comK_way]; omega
    rw [List.prefix_iff_eq_take] at hq2 ⊢
    rw [List.take_take, Nat.min_eq_left h1]
    exact hq2
  have hlen : (k.take c).length = c := by rw [List.length_take]; omega
  have hkp : c < k.length → k.take c ++ [((byteAt k c : Nat) : Int)] <+: k := fun h => by
    have := pre_byte hk (List.take_prefix c k) (by omega)
    rwa [hlen] at this
  have hnp : c < n.key.length → k.take c ++ [((byteAt n.key c : Nat) : Int)] <+: n.key := fun h => by
    have := pre_byte hkn (List.take_prefix c n.key) (by rw [List.length_take]; omega)
    rw [← htk]
    rwa [List.length_take, Nat.min_eq_left (by omega)] at this
  have hbk := byteAt_lt hk c
  have hbn := byteAt_lt hkn c
  have hnn : c < n.key.length → Ok (k.take c ++ [((byteAt n.key c : Nat) : Int)]) n := fun h => hn.less (fun _ => hnp h)
  have hll : c < k.length → Ok (k.take c ++ [((byteAt k c : Nat) : Int)]) (leaf k v) := fun h => ⟨hkp h, hk⟩
  have fin : ∀ (o : Option Int) (f : Nat → RT) (m : Nat), (∀ i : Nat, 256 ≤ i → f i = nil) → (∀ i : Nat, i < 256 → Ok (k.take c ++ [(i : Int)]) (f i)) → cnt (hsT f) 256 = m → 2 ≤ m + one o → m ≤ 2 → Ok q (node (k.take c) o 0 f) := by
    intro o f m h1 h2 h3 h4 h5
    refine ⟨hqc, hk.take c, h1, h2, by rw [h3]; exact h4, by omega, ?_, ?_⟩
    · rw [h3]; simp only [leftI]; omega
    · rw [h3]; simp only [roomI]; omega
  have hone : ∀ (b : Nat) (T : RT), b < 256 → T.is = true → cnt (hsT (upd none b T)) 256 = 1 := by
    intro b T hb hT
    have := cnt_upd none hb T
    rw [cnt_none', hT] at this
    simpa [none, is] using this
  unfold join
  by_cases hkc : k.length = c
  · have hnc : c < n.key.length := by
      rcases Nat.lt_or_ge c n.key.length with h | h
      · exact h
      · exact absurd (eq_of_com (a := n.key) (b := k) (by omega) (by omega)) hne
    have e1 : joinF c n k v = upd none (byteAt n.key c) n := by unfold joinF; rw [if_pos hkc]
    have e2 : joinO c n k v = some v := by unfold joinO; rw [if_pos hkc]
    rw [e1, e2]
    refine fin _ _ 1 (fun i hi => upd_ne _ _ _ (by omega)) (fun i hi => ?_) (hone _ _ hbn hni) (by simp [one]) (by omega)
    by_cases e : i = byteAt n.key c
    · subst e; rw [upd_at]; exact hnn hnc
    · rw [upd_ne _ _ _ e]; trivial
  · have hkl : c < k.length := by omega
    by_cases hnc : n.key.length = c
    · have e1 : joinF c n k v = upd none (byteAt k c) (leaf k v) := by unfold joinF; rw [if_neg hkc, if_pos hnc]
      have e2 : (joinO c n k v).isSome = true := by
        unfold joinO; rw [if_neg hkc]
        rcases hlf with ⟨k0, v0, rfl⟩ | h
        · have h3 : k0.length = c := hnc
          simp [leafO, h3]
        · omega
      rw [e1]
      refine fin _ _ 1 (fun i hi => upd_ne _ _ _ (by omega)) (fun i hi => ?_) (hone _ _ hbk rfl) (by simp [one, e2]) (by omega)
      by_cases e : i = byteAt k c
      · subst e; rw [upd_at]; exact hll hkl
      · rw [upd_ne _ _ _ e]; trivial
    · have hnl : c < n.key.length := by omega
      have e1 : joinF c n k v = upd (upd none (byteAt n.key c) n) (byteAt k c) (leaf k v) := by unfold joinF; rw [if_neg hkc, if_neg hnc]
      have hbb : byteAt n.key c ≠ byteAt k c := by
        have := com_bytes hkn hk (by omega) (by omega)
        rwa [← hc] at this
      rw [e1]
      refine fin _ _ 2 (fun i hi => by rw [upd_ne _ _ _ (by omega), upd_ne _ _ _ (by omega)]; rfl) (fun i hi => ?_) ?_ (by omega) (by omega)
      · by_cases e : i = byteAt k c
        · subst e; rw [upd_at]; exact hll hkl
        · rw [upd_ne _ _ _ e]
          by_cases e : i = byteAt n.key c
          · subst e; rw [upd_at]; exact hnn hnl
          · rw [upd_ne _ _ _ e]; trivial
      · have h1 := cnt_upd (upd none (byteAt n.key c) n) hbk (leaf k v)
        rw [hone _ _ hbn hni, upd_ne _ _ _ (Ne.symm hbb)] at h1
        simpa [none, is] using h1
theorem join_mem {k : List Int} {n : RT} {v : Int} {c : Nat} (hkn : KB n.key) (hk : KB k) (hc : c = comK n.key k) (hne : n.key ≠ k) (hlf : (∃ k0 v0, n = leaf k0 v0) ∨ c < n.key.length) {p : List Int × Int} :
    p ∈ (join c n k v).prs ↔ p = (k, v) ∨ p ∈ n.prs := by
  have hcl := comK_le n.key k
  rw [← hc] at hcl
  have htk := take_comK n.key k
  rw [← hc] at htk
  have hbk := byteAt_lt hk c
  have hbn := byteAt_lt hkn c
  unfold join
  rw [mem_node]
  by_cases hkc : k.length = c
  · have hnc : c < n.key.length := by
      rcases Nat.lt_or_ge c n.key.length with h | h
      · exact h
      · exact absurd (eq_of_com (a := n.key) (b := k) (by omega) (by omega)) hne
    have e1 : joinF c n k v = upd none (byteAt n.key c) n := by unfold joinF; rw [if_pos hkc]
    have e2 : joinO c n k v = some v := by unfold joinO; rw [if_pos hkc]
    rw [e1, e2, mem_upd hbn, List.take_of_length_le (by omega)]
    simp [none, prs]
  · by_cases hnc : n.key.length = c
    · have e1 : joinF c n k v = upd none (byteAt k c) (leaf k v) := by unfold joinF; rw [if_neg hkc, if_pos hnc]
      rw [e1, mem_upd hbk]
      rcases hlf with ⟨k0, v0, rfl⟩ | h
      · have h3 : k0.length = c := hnc
        have e2 : joinO c (leaf k0 v0) k v = some v0 := by unfold joinO; rw [if_neg hkc]; simp [leafO, h3]
        have e3 : k.take c = k0 := by rw [← htk]; show k0.take c = k0; rw [← h3, List.take_length]
        rw [e2, e3]
        simp [none, prs, or_comm]
      · omega
    · have e1 : joinF c n k v = upd (upd none (byteAt n.key c) n) (byteAt k c) (leaf k v) := by unfold joinF; rw [if_neg hkc, if_neg hnc]
      have e2 : joinO c n k v = Option.none := by
        unfold joinO; rw [if_neg hkc]
        rcases hlf with ⟨k0, v0, rfl⟩ | h
        · simp [leafO, show ¬ k0.length = c from hnc]
        · cases n <;> simp [leafO]
          exact fun h => absurd h (show ¬ _ from hnc)
      have hbb : byteAt n.key c ≠ byteAt k c := by
        have := com_bytes hkn hk (by omega) (by omega)
        rwa [← hc] at this
      rw [e1, e2, mem_upd hbk]
      constructor
      · rintro (⟨v', h, _⟩ | hp | ⟨i, hi, hn, hp⟩)
        · cases h
        · simp [prs] at hp; exact Or.inl hp
        · by_cases e : i = byteAt n.key c
          · subst e; rw [upd_at] at hp; exact Or.inr hp
          · rw [upd_ne _ _ _ e] at hp; simp [none, prs] at hp
      · rintro (hp | hp)
        · exact Or.inr (Or.inl (by simp [prs, hp]))
        · exact Or.inr (Or.inr ⟨_, hbn, hbb, by rw [upd_at]; exact hp⟩)

/-- one child, taken out -/
theorem cells_upd (f : Nat → RT) {b : Nat} (hb : b < 256) (T : RT) : ((List.range 256).map fun i => (upd f b T i).cells).sum + (f b).cells = ((List.range 256).map fun i => (f i).cells).sum + T.cells := by
  have key : ∀ n, b < n → ((List.range n).map fun i => (upd f b T i).cells).sum + (f b).cells = ((List.range n).map fun i => (f i).cells).sum + T.cells := by
    intro n
    induction n with
    | zero => intro h; omega
    | succ n ih =>
      intro h
      rw [List.range_succ, List.map_append, List.map_append, List.sum_append, List.sum_append]
      simp only [List.map_cons, List.map_nil, List.sum_cons, List.sum_nil, Nat.add_zero]
      rcases Nat.eq_or_lt_of_le (Nat.le_of_lt_succ h) with e | e
      · subst e
        have h1 : ((List.range b).map fun i => (upd f b T i).cells) = ((List.range b).map fun i => (f i).cells) := List.map_congr_left fun i hi => by rw [upd_ne _ _ _ (by have := List.mem_range.1 hi; omega)]
        rw [h1, upd_at]; omega
      · have := ih e
        rw [upd_ne _ _ _ (show n ≠ b by omega)]; omega
  exact key 256 hb
theorem cells_none : ((List.range 256).map fun i => (none i).cells).sum = 0 := by
  have : ∀ n, ((List.range n).map fun i => (none i).cells).sum = 0 := by
    intro n
    induction n with
    | zero => rfl
    | succ n ih => rw [List.range_succ, List.map_append, List.sum_append, ih]; rfl
  exact this 256
end RT
end Go.Proofs.YtclnnkacfanaiaaDoor

/- Plain laws: a put's, a drop's tree has the pairs that it should have. -/
namespace Go.Proofs.YtclnnkacfanaiaaDoor
set_option linter.unusedVariables false
set_option linter.unusedSimpArgs false
open ModP (cmpK_prefix)
open RadK MaskP MaskA KidB
namespace RT
theorem leaf_ok {q k : List Int} {v : Int} (h : q <+: k) (hk : KB k) : Ok q (leaf k v) := ⟨h, hk⟩
theorem self_ok {T : RT} {q : List Int} (h : Ok q T) : Ok T.key T := h.less (fun _ => List.prefix_refl _)
theorem com_full {a b : List Int} (h : ¬ comK a b < a.length) : a <+: b := pre_of_comK (by have := (comK_le a b).1; omega)

theorem putT_ok {T : RT} {k : List Int} (v : Int) (hk : KB k) : ∀ {q : List Int}, Ok q T → q <+: k → Ok q (putT T k v) := by
  induction T with
  | nil => intro q _ hq; exact leaf_ok hq hk
  | leaf k0 v0 =>
    intro q h hq
    unfold putT
    by_cases e : k0 = k
    · rw [if_pos e]; exact h
    · rw [if_neg e]
      exact join_ok (self_ok h) rfl hk rfl e (Or.inl ⟨k0, v0, rfl⟩) h.1 hq
  | node k0 o kd f ih =>
    intro q h hq
    unfold putT
    by_cases hc : comK k0 k < k0.length
    · rw [if_pos hc]
      have e : k0 ≠ k := fun e => by subst e; have := comK_of_pre (List.prefix_refl k0); omega
      exact join_ok (n := node k0 o kd f) (self_ok h) rfl hk rfl e (Or.inr hc) h.1 hq
    · rw [if_neg hc]
      have hp := com_full hc
      by_cases hl : k.length = k0.length
      · rw [if_pos hl]
        refine ⟨h.1, h.2.1, h.2.2.1, h.2.2.2.1, ?_, h.2.2.2.2.2⟩
        have := h.2.2.2.2.1
        have : one o ≤ 1 := by unfold one; split <;> omega
        simp [one]; omega
      · rw [if_neg hl]
        have hkl : k0.length < k.length := by have := hp.length_le; omega
        have hb := byteAt_lt hk k0.length
        have hpb := pre_byte hk hp hkl
        have h5 := h.2.2.2.2.1
        by_cases hi : (f (byteAt k k0.length)).is = false
        · rw [if_pos hi]
          have hc2 := cnt_upd f hb (leaf k v)
          rw [hi] at hc2
          have hc3 : cnt (hsT (upd f (byteAt k k0.length) (leaf k v))) 256 = cnt (hsT f) 256 + 1 := by simpa [is] using hc2
          have hle := cnt_le (hsT (upd f (byteAt k k0.length) (leaf k v))) 256
          rw [hc3] at hle
          have hbd := up_band h.2.2.2.2.2.1 h.2.2.2.2.2.2.1 h.2.2.2.2.2.2.2 hle
          exact ok_upd h hb (leaf_ok hpb hk) (by rw [hc3]; omega) hbd.1 (by rw [hc3]; exact hbd.2.1) (by rw [hc3]; exact hbd.2.2)
        · rw [if_neg hi]
          have hit : (f (byteAt k k0.length)).is = true := by simpa using hi
          have hc2 := cnt_upd f hb (putT (f (byteAt k k0.length)) k v)
          rw [hit, putT_is] at hc2
          have hc3 : cnt (hsT (upd f (byteAt k k0.length) (putT (f (byteAt k k0.length)) k v))) 256 = cnt (hsT f) 256 := by omega
          exact ok_upd h hb (ih _ (h.2.2.2.1 _ hb) hpb) (by rw [hc3]; omega) h.2.2.2.2.2.1 (by rw [hc3]; exact h.2.2.2.2.2.2.1) (by rw [hc3]; exact h.2.2.2.2.2.2.2)
theorem putT_mem {T : RT} {k : List Int} (v : Int) (hk : KB k) {p : List Int × Int} : ∀ {q : List Int}, Ok q T → q <+: k → (p ∈ (putT T k v).prs ↔ p = (k, v) ∨ p ∈ T.prs ∧ p.1 ≠ k) := by
  induction T with
  | nil => intro q _ _; simp [putT, prs]
  | leaf k0 v0 =>
    intro q h hq
    unfold putT
    by_cases e : k0 = k
    · subst e; rw [if_pos rfl]; simp only [prs, List.mem_singleton]
      constructor
      · exact Or.inl
      · rintro (h1 | ⟨h1, h2⟩)
        · exact h1
        · rw [h1] at h2; exact absurd rfl h2
    · rw [if_neg e, join_mem (n := leaf k0 v0) (c := comK k0 k) h.2 hk rfl e (Or.inl ⟨k0, v0, rfl⟩)]
      simp only [prs, List.mem_singleton]
      constructor
      · rintro (h1 | h1)
        · exact Or.inl h1
        · exact Or.inr ⟨h1, by rw [h1]; exact e⟩
      · rintro (h1 | ⟨h1, _⟩)
        · exact Or.inl h1
        · exact Or.inr h1
  | node k0 o kd f ih =>
    intro q h hq
    unfold putT
    by_cases hc : comK k0 k < k0.length
    · rw [if_pos hc]
      have e : k0 ≠ k := fun e => by subst e; have := comK_of_pre (List.prefix_refl k0); omega
      rw [join_mem (n := node k0 o kd f) (c := comK k0 k) h.2.1 hk rfl e (Or.inr hc)]
      have hno : ∀ p ∈ (node k0 o kd f).prs, p.1 ≠ k := fun p hp e2 => by
        have := ((self_ok h).pre p hp).1
        rw [e2] at this
        have := comK_of_pre this
        simp only [key] at this; omega
      constructor
      · rintro (h1 | h1)
        · exact Or.inl h1
        · exact Or.inr ⟨h1, hno p h1⟩
      · rintro (h1 | ⟨h1, _⟩)
        · exact Or.inl h1
        · exact Or.inr h1
    · rw [if_neg hc]
      have hp := com_full hc
      by_cases hl : k.length = k0.length
      · rw [if_pos hl, mem_node, mem_node]
        have hkk : k0 = k := by
          obtain ⟨r, rfl⟩ := hp
          have : r = [] := List.eq_nil_of_length_eq_zero (by rw [List.length_append] at hl; omega)
          simp [this]
        subst hkk
        constructor
        · rintro (⟨v', h1, h2⟩ | ⟨i, hi, h1⟩)
          · cases h1; exact Or.inl h2
          · exact Or.inr ⟨Or.inr ⟨i, hi, h1⟩, fun e => by have := pre_len (child_pre h hi h1); rw [e] at this; omega⟩
        · rintro (h1 | ⟨⟨v', h1, h2⟩ | h1, h3⟩)
          · exact Or.inl ⟨v, rfl, h1⟩
          · rw [h2] at h3; exact absurd rfl h3
          · exact Or.inr h1
      · rw [if_neg hl]
        have hkl : k0.length < k.length := by have := hp.length_le; omega
        have hb := byteAt_lt hk k0.length
        have hpb := pre_byte hk hp hkl
        have hown : ∀ v', p = (k0, v') → p.1 ≠ k := fun v' e e2 => by rw [e] at e2; simp only at e2; rw [e2] at hl; exact hl rfl
        have hoth : ∀ i, i < 256 → i ≠ byteAt k k0.length → p ∈ (f i).prs → p.1 ≠ k := fun i hi hn h1 e => by
          have := child_pre h hi h1
          rw [e] at this
          exact hn (pre_byte_eq this).symm
        by_cases hi : (f (byteAt k k0.length)).is = false
        · rw [if_pos hi, mem_node, mem_node, mem_upd hb]
          simp only [prs, List.mem_singleton]
          constructor
          · rintro (⟨v', h1, h2⟩ | h1 | ⟨i, hi2, hn, h1⟩)
            · exact Or.inr ⟨Or.inl ⟨v', h1, h2⟩, hown v' h2⟩
            · exact Or.inl h1
            · exact Or.inr ⟨Or.inr ⟨i, hi2, h1⟩, hoth i hi2 hn h1⟩
          · rintro (h1 | ⟨⟨v', h1, h2⟩ | ⟨i, hi2, h1⟩, h3⟩)
            · exact Or.inr (Or.inl h1)
            · exact Or.inl ⟨v', h1, h2⟩
            · refine Or.inr (Or.inr ⟨i, hi2, fun e => ?_, h1⟩)
              subst e; rw [is_false hi] at h1; simp [prs] at h1
        · rw [if_neg hi, mem_node, mem_node, mem_upd hb, ih _ (h.2.2.2.1 _ hb) hpb]
          constructor
          · rintro (⟨v', h1, h2⟩ | (h1 | ⟨h1, h2⟩) | ⟨i, hi2, hn, h1⟩)
            · exact Or.inr ⟨Or.inl ⟨v', h1, h2⟩, hown v' h2⟩
            · exact Or.inl h1
            · exact Or.inr ⟨Or.inr ⟨_, hb, h1⟩, h2⟩
            · exact Or.inr ⟨Or.inr ⟨i, hi2, h1⟩, hoth i hi2 hn h1⟩
          · rintro (h1 | ⟨⟨v', h1, h2⟩ | ⟨i, hi2, h1⟩, h3⟩)
            · exact Or.inr (Or.inl (Or.inl h1))
            · exact Or.inl ⟨v', h1, h2⟩
            · by_cases e : i = byteAt k k0.length
              · subst e; exact Or.inr (Or.inl (Or.inr ⟨h1, h3⟩))
              · exact Or.inr (Or.inr ⟨i, hi2, e, h1⟩)
theorem putT_prs {T : RT} {q k : List Int} (v : Int) (hk : KB k) (h : Ok q T) (hq : q <+: k) : (putT T k v).prs = putK T.prs k v :=
  rises_ext (putT_ok v hk h hq).rises (putK_rises h.rises k v) fun p => by rw [putT_mem v hk h hq, mem_put h.rises]

/-! ### how many cells more -/
def moreJ (c : Nat) (n : RT) (k : List Int) : Nat := if k.length = c ∨ n.key.length = c then 1 else 2
def manyT : RT → List Int → Nat
  | nil, _ => 1
  | leaf k0 v0, k => if k0 = k then 0 else moreJ (comK k0 k) (leaf k0 v0) k
  | node k0 o kd f, k =>
    if comK k0 k < k0.length then moreJ (comK k0 k) (node k0 o kd f) k
    else if k.length = k0.length then 0
    else if (f (byteAt k k0.length)).is = false then 1
    else manyT (f (byteAt k k0.length)) k
theorem join_cells {k : List Int} {n : RT} {v : Int} {c : Nat} (hkn : KB n.key) (hk : KB k) (hc : c = comK n.key k) (hne : n.key ≠ k) (hlf : (∃ k0 v0, n = leaf k0 v0) ∨ c < n.key.length) :
    (join c n k v).cells = n.cells + moreJ c n k := by
  have hcl := comK_le n.key k
  rw [← hc] at hcl
  have hbk := byteAt_lt hk c
  have hbn := byteAt_lt hkn c
  unfold join
  rw [cells_node]
  unfold moreJ
  by_cases hkc : k.length = c
  · have e1 : joinF c n k v = upd none (byteAt n.key c) n := by unfold joinF; rw [if_pos hkc]
    have h1 := cells_upd none hbn n
    rw [cells_none] at h1
    rw [e1, if_pos (Or.inl hkc)]
    have h3 : (none (byteAt n.key c)).cells = 0 := rfl
    omega
  · by_cases hnc : n.key.length = c
    · have e1 : joinF c n k v = upd none (byteAt k c) (leaf k v) := by unfold joinF; rw [if_neg hkc, if_pos hnc]
      have h1 := cells_upd none hbk (leaf k v)
      rw [cells_none] at h1
      rw [e1, if_pos (Or.inr hnc)]
      rcases hlf with ⟨k0, v0, rfl⟩ | h
      · have h3 : (none (byteAt k c)).cells = 0 := rfl
        have h4 : (leaf k v).cells = 1 := rfl
        have h5 : (leaf k0 v0).cells = 1 := rfl
        omega
      · omega
    · have e1 : joinF c n k v = upd (upd none (byteAt n.key c) n) (byteAt k c) (leaf k v) := by unfold joinF; rw [if_neg hkc, if_neg hnc]
      have hbb : byteAt n.key c ≠ byteAt k c := by
        have := com_bytes hkn hk (by omega) (by omega)
        rwa [← hc] at this
      have h1 := cells_upd none hbn n
      rw [cells_none] at h1
      have h2 := cells_upd (upd none (byteAt n.key c) n) hbk (leaf k v)
      rw [upd_ne _ _ _ (Ne.symm hbb)] at h2
      rw [e1, if_neg (fun h => h.elim hkc hnc)]
      have h3 : (none (byteAt k c)).cells = 0 := rfl
      have h4 : (leaf k v).cells = 1 := rfl
      have h5 : (none (byteAt n.key c)).cells = 0 := rfl
      omega
theorem putT_cells {T : RT} {k : List Int} (v : Int) (hk : KB k) : ∀ {q : List Int}, Ok q T → (putT T k v).cells = T.cells + manyT T k := by
  induction T with
  | nil => intro q _; rfl
  | leaf k0 v0 =>
    intro q h
    unfold putT manyT
    by_cases e : k0 = k
    · rw [if_pos e, if_pos e]; rfl
    · rw [if_neg e, if_neg e]
      exact join_cells (n := leaf k0 v0) h.2 hk rfl e (Or.inl ⟨k0, v0, rfl⟩)
  | node k0 o kd f ih =>
    intro q h
    unfold putT manyT
    by_cases hc : comK k0 k < k0.length
    · rw [if_pos hc, if_pos hc]
      have e : k0 ≠ k := fun e => by subst e; have := comK_of_pre (List.prefix_refl k0); omega
      exact join_cells (n := node k0 o kd f) h.2.1 hk rfl e (Or.inr hc)
    · rw [if_neg hc, if_neg hc]
      by_cases hl : k.length = k0.length
      · rw [if_pos hl, if_pos hl, cells_node, cells_node, Nat.add_zero]
      · rw [if_neg hl, if_neg hl]
        have hb := byteAt_lt hk k0.length
        by_cases hi : (f (byteAt k k0.length)).is = false
        · rw [if_pos hi, if_pos hi]
          have h1 := cells_upd f hb (leaf k v)
          have h3 : (f (byteAt k k0.length)).cells = 0 := by rw [is_false hi]; rfl
          have h4 : (leaf k v).cells = 1 := rfl
          rw [cells_node, cells_node]
          omega
        · rw [if_neg hi, if_neg hi]
          have h1 := cells_upd f hb (putT (f (byteAt k k0.length)) k v)
          rw [ih _ (h.2.2.2.1 _ hb)] at h1
          rw [cells_node, cells_node]
          omega
theorem manyT_le (T : RT) (k : List Int) : manyT T k ≤ 2 := by
  induction T with
  | nil => simp [manyT]
  | leaf k0 v0 => unfold manyT moreJ; split <;> (try split) <;> omega
  | node k0 o kd f ih =>
    unfold manyT moreJ
    split
    · split <;> omega
    · split
      · omega
      · split
        · omega
        · exact ih _
theorem many_rec {k0 k : List Int} {o : Option Int} {kd : Nat} {f : Nat → RT} (h1 : ¬ comK k0 k < k0.length) (h2 : k.length ≠ k0.length) (h3 : (f (byteAt k k0.length)).is = true) : manyT (node k0 o kd f) k = manyT (f (byteAt k k0.length)) k := by
  rw [manyT, if_neg h1, if_neg h2, if_neg (by rw [h3]; simp)]
theorem put_rec {k0 k : List Int} {o : Option Int} {kd : Nat} {f : Nat → RT} {x : Int} (h1 : ¬ comK k0 k < k0.length) (h2 : k.length ≠ k0.length) (h3 : (f (byteAt k k0.length)).is = true) :
    putT (node k0 o kd f) k x = node k0 o kd (upd f (byteAt k k0.length) (putT (f (byteAt k k0.length)) k x)) := by
  rw [putT, if_neg h1, if_neg h2, if_neg (by rw [h3]; simp)]
end RT
end Go.Proofs.YtclnnkacfanaiaaDoor

/- Plain laws: what a drop leaves. -/
namespace Go.Proofs.YtclnnkacfanaiaaDoor
set_option linter.unusedVariables false
set_option linter.unusedSimpArgs false
open ModP (cmpK_prefix)
open RadK MaskP MaskA KidB
namespace RT
theorem cnt_zero {f : Nat → Bool} {n : Nat} (h : cnt f n = 0) {i : Nat} (hi : i < n) : f i = false := by
  induction n with
  | zero => omega
  | succ n ih =>
    simp only [cnt] at h
    rcases Nat.eq_or_lt_of_le (Nat.le_of_lt_succ hi) with e | e
    · subst e; cases hf : f i with
      | false => rfl
      | true => rw [hf] at h; simp at h
    · exact ih (by omega) e
theorem cnt_one {f : Nat → Bool} (h : cnt f 256 = 1) {i j : Nat} (hi : i < 256) (hj : j < 256) (h1 : f i = true) (h2 : f j = true) : i = j := by
  have h3 := KidW.cnt_setb f i false 256 hi
  rw [h1, h] at h3
  have h4 : cnt (setb f i false) 256 = 0 := by simpa using h3
  have h5 := cnt_zero h4 hj
  simp only [setb] at h5
  split at h5
  · rename_i e; exact e.symm
  · rw [h2] at h5; cases h5
theorem oneT_spec {f : Nat → RT} (h : cnt (hsT f) 256 = 1) : ∃ i, i < 256 ∧ (f i).is = true ∧ oneT f = f i ∧ ∀ j, j < 256 → j ≠ i → f j = nil := by
  unfold oneT
  cases hf : (List.range 256).find? (hsT f) with
  | none =>
    obtain ⟨i, hi, h1⟩ := cnt_pos (f := hsT f) (n := 256) (by omega)
    rw [List.find?_eq_none] at hf
    exact absurd h1 (hf i (List.mem_range.2 hi))
  | some i =>
    have hi := List.mem_range.1 (List.mem_of_find?_eq_some hf)
    have h1 := List.find?_some hf
    refine ⟨i, hi, h1, rfl, fun j hj hn => is_false ?_⟩
    cases h2 : (f j).is with
    | false => rfl
    | true => exact absurd (cnt_one h hj hi h2 h1) hn
theorem dropN_ok {q k0 : List Int} {v0 : Int} {o : Option Int} {kd : Nat} {f : Nat → RT} (hq : q <+: k0) (hk : KB k0) (h1 : ∀ i : Nat, 256 ≤ i → f i = nil) (h2 : ∀ i : Nat, i < 256 → Ok (k0 ++ [(i : Int)]) (f i)) (h3 : 1 ≤ cnt (hsT f) 256 + one o)
    (hkd : kd < 4) (h4 : leftI kd < (cnt (hsT f) 256 : Nat)) (h5 : ((cnt (hsT f) 256 : Nat) : Int) ≤ roomI kd) : Ok q (dropN k0 v0 o kd f) := by
  unfold dropN
  by_cases c1 : o.isSome = true ∧ cnt (hsT f) 256 = 0
  · rw [if_pos c1]; exact leaf_ok hq hk
  · rw [if_neg c1]
    by_cases c2 : o.isSome = false ∧ cnt (hsT f) 256 = 1
    · rw [if_pos c2]
      obtain ⟨i, hi, h6, h7, h8⟩ := oneT_spec c2.2
      rw [h7]
      exact (h2 i hi).less (fun h => (hq.trans (List.prefix_append _ _)).trans ((h2 i hi).kpre h).1)
    · rw [if_neg c2]
      refine ⟨hq, hk, h1, h2, ?_, hkd, h4, h5⟩
      cases o with
      | none => simp [one] at h3 c2 ⊢; omega
      | some v => simp [one] at h3 c1 ⊢; omega
theorem dropN_mem {k0 : List Int} {v0 : Int} {o : Option Int} {kd : Nat} {f : Nat → RT} {p : List Int × Int} : p ∈ (dropN k0 v0 o kd f).prs ↔ (∃ v, o = some v ∧ p = (k0, v)) ∨ ∃ i, i < 256 ∧ p ∈ (f i).prs := by
  unfold dropN
  by_cases c1 : o.isSome = true ∧ cnt (hsT f) 256 = 0
  · rw [if_pos c1]
    obtain ⟨v, rfl⟩ := Option.isSome_iff_exists.1 c1.1
    have hz : ¬ ∃ i, i < 256 ∧ p ∈ (f i).prs := by
      rintro ⟨i, hi, h⟩
      rw [is_false (cnt_zero c1.2 hi)] at h; simp [prs] at h
    simp only [prs, List.mem_singleton, Option.getD_some]
    constructor
    · intro h; exact Or.inl ⟨v, rfl, h⟩
    · rintro (⟨v', h1, h2⟩ | h)
      · cases h1; exact h2
      · exact absurd h hz
  · rw [if_neg c1]
    by_cases c2 : o.isSome = false ∧ cnt (hsT f) 256 = 1
    · rw [if_pos c2]
      obtain ⟨i, hi, h6, h7, h8⟩ := oneT_spec c2.2
      rw [h7]
      constructor
      · intro h; exact Or.inr ⟨i, hi, h⟩
      · rintro (⟨v', h1, h2⟩ | ⟨j, hj, h⟩)
        · rw [h1] at c2; simp at c2
        · by_cases e : j = i
          · subst e; exact h
          · rw [h8 j hj e] at h; simp [prs] at h
    · rw [if_neg c2, mem_node]
def fewN (m : Nat) (o : Option Int) (f : Nat → RT) : Nat := if o.isSome = false ∧ cnt (hsT f) 256 = 1 then m + 1 else m
def fewT : RT → List Int → Nat
  | nil, _ => 0
  | leaf _ _, _ => 1
  | node k0 o kd f, k =>
    if k.length = k0.length then fewN 0 Option.none f
    else fewN (fewT (f (byteAt k k0.length)) k) o (upd f (byteAt k k0.length) (dropT (f (byteAt k k0.length)) k))
theorem sum_zero {f : Nat → RT} : ∀ n, (∀ i, i < n → (f i).cells = 0) → ((List.range n).map fun i => (f i).cells).sum = 0
  | 0, _ => rfl
  | n + 1, h => by
    rw [List.range_succ, List.map_append, List.sum_append, sum_zero n (fun i hi => h i (by omega))]
    simp [h n (by omega)]
theorem dropN_cells (k0 : List Int) (v0 : Int) (o : Option Int) (kd : Nat) (f : Nat → RT) (m : Nat) : (dropN k0 v0 o kd f).cells + fewN m o f = (node k0 o kd f).cells + m := by
  unfold dropN fewN
  by_cases c1 : o.isSome = true ∧ cnt (hsT f) 256 = 0
  · rw [if_pos c1, if_neg (fun h => by rw [c1.1] at h; simp at h), cells_node, sum_zero 256 (fun i hi => by rw [is_false (cnt_zero c1.2 hi)]; rfl)]
    rfl
  · rw [if_neg c1]
    by_cases c2 : o.isSome = false ∧ cnt (hsT f) 256 = 1
    · rw [if_pos c2, if_pos c2, cells_node]
      obtain ⟨i, hi, h6, h7, h8⟩ := oneT_spec c2.2
      have h9 := cells_upd f hi nil
      rw [sum_zero 256 (fun j hj => by
        by_cases e : j = i
        · subst e; rw [upd_at]; rfl
        · rw [upd_ne _ _ _ e, h8 j hj e]; rfl)] at h9
      rw [h7]
      have h10 : nil.cells = 0 := rfl
      omega
    · rw [if_neg c2, if_neg c2]
/-- the way to a key that is there -/
theorem way_of {q k k0 : List Int} {o : Option Int} {kd : Nat} {f : Nat → RT} (h : Ok q (node k0 o kd f)) {x : Int} (hp : (k, x) ∈ (node k0 o kd f).prs) :
    k0 <+: k ∧ (k.length = k0.length → k = k0 ∧ o = some x) ∧ (k.length ≠ k0.length → k0.length < k.length ∧ k0 ++ [((byteAt k k0.length : Nat) : Int)] <+: k ∧ (k, x) ∈ (f (byteAt k k0.length)).prs) := by
  rcases mem_node.1 hp with ⟨v, h1, h2⟩ | ⟨i, hi, h1⟩
  · cases h2
    exact ⟨List.prefix_refl _, fun _ => ⟨rfl, h1⟩, fun hn => absurd rfl hn⟩
  · have h2 := child_pre h hi h1
    have h3 := pre_len h2
    have h4 := pre_byte_eq h2
    simp only at h2 h3 h4
    exact ⟨(List.prefix_append _ _).trans h2, fun hn => by omega, fun _ => ⟨h3, by rw [h4]; exact h2, by rw [h4]; exact h1⟩⟩
theorem dropT_ok {T : RT} {k : List Int} {x : Int} : ∀ {q : List Int}, Ok q T → (k, x) ∈ T.prs → Ok q (dropT T k) := by
  induction T with
  | nil => intro q _ h; simp [prs] at h
  | leaf k0 v0 => intro q _ _; trivial
  | node k0 o kd f ih =>
    intro q h hp
    obtain ⟨w1, w2, w3⟩ := way_of h hp
    have hkb := (h.pre _ hp).2
    simp only at hkb
    have hb := byteAt_lt hkb k0.length
    have h5 := h.2.2.2.2.1
    unfold dropT
    by_cases hl : k.length = k0.length
    · rw [if_pos hl]
      exact dropN_ok h.1 h.2.1 h.2.2.1 h.2.2.2.1 (by have : one o ≤ 1 := by unfold one; split <;> omega
                                                     simp [one]; omega) h.2.2.2.2.2.1 h.2.2.2.2.2.2.1 h.2.2.2.2.2.2.2
    · rw [if_neg hl]
      obtain ⟨w4, w5, w6⟩ := w3 hl
      have hih := ih _ (h.2.2.2.1 _ hb) w6
      have hci : (f (byteAt k k0.length)).is = true := by
        cases hc : (f (byteAt k k0.length)).is with
        | true => rfl
        | false => rw [is_false hc] at w6; simp [prs] at w6
      by_cases hd : (dropT (f (byteAt k k0.length)) k).is = false
      · rw [if_pos hd]
        have hc := cnt_upd f hb nil
        rw [hci] at hc
        have hc2 : cnt (hsT (upd f (byteAt k k0.length) nil)) 256 + 1 = cnt (hsT f) 256 := by simpa [is] using hc
        obtain ⟨m, hm⟩ : ∃ m, cnt (hsT (upd f (byteAt k k0.length) nil)) 256 = m := ⟨_, rfl⟩
        rw [hm] at hc2
        have hbd := dn_band (kd := kd) (n := m) h.2.2.2.2.2.1 (by rw [hc2]; exact h.2.2.2.2.2.2.1) (by rw [hc2]; exact h.2.2.2.2.2.2.2)
        have e : cnt (hsT f) 256 - 1 = m := by omega
        rw [e]
        refine dropN_ok h.1 h.2.1 (fun i hi => by rw [upd_ne _ _ _ (by omega)]; exact h.2.2.1 i hi) (fun i hi => ?_) (by rw [hm]; omega) hbd.1 (by rw [hm]; exact hbd.2.1) (by rw [hm]; exact hbd.2.2)
        by_cases e : i = byteAt k k0.length
        · subst e; rw [upd_at]; trivial
        · rw [upd_ne _ _ _ e]; exact h.2.2.2.1 i hi
      · rw [if_neg hd]
        have hd2 : (dropT (f (byteAt k k0.length)) k).is = true := by simpa using hd
        have hc := cnt_upd f hb (dropT (f (byteAt k k0.length)) k)
        rw [hci, hd2] at hc
        have hc2 : cnt (hsT (upd f (byteAt k k0.length) (dropT (f (byteAt k k0.length)) k))) 256 = cnt (hsT f) 256 := by omega
        refine dropN_ok h.1 h.2.1 (fun i hi => by rw [upd_ne _ _ _ (by omega)]; exact h.2.2.1 i hi) (fun i hi => ?_) (by rw [hc2]; omega) h.2.2.2.2.2.1 (by rw [hc2]; exact h.2.2.2.2.2.2.1) (by rw [hc2]; exact h.2.2.2.2.2.2.2)
        by_cases e : i = byteAt k k0.length
        · subst e; rw [upd_at]; exact hih
        · rw [upd_ne _ _ _ e]; exact h.2.2.2.1 i hi
theorem dropT_mem {T : RT} {k : List Int} {x : Int} {p : List Int × Int} : ∀ {q : List Int}, Ok q T → (k, x) ∈ T.prs → (p ∈ (dropT T k).prs ↔ p ∈ T.prs ∧ p.1 ≠ k) := by
  induction T with
  | nil => intro q _ h; simp [prs] at h
  | leaf k0 v0 =>
    intro q _ h
    simp only [prs, List.mem_singleton] at h
    cases h
    simp only [dropT, prs, List.mem_singleton, List.not_mem_nil, false_iff, not_and]
    intro h; rw [h]; simp
  | node k0 o kd f ih =>
    intro q h hp
    obtain ⟨w1, w2, w3⟩ := way_of h hp
    have hkb := (h.pre _ hp).2
    simp only at hkb
    have hb := byteAt_lt hkb k0.length
    unfold dropT
    by_cases hl : k.length = k0.length
    · rw [if_pos hl, dropN_mem, mem_node]
      obtain ⟨rfl, rfl⟩ := w2 hl
      constructor
      · rintro (⟨v', h1, _⟩ | ⟨i, hi, h1⟩)
        · cases h1
        · exact ⟨Or.inr ⟨i, hi, h1⟩, fun e => by have := pre_len (child_pre h hi h1); rw [e] at this; omega⟩
      · rintro ⟨⟨v', h1, h2⟩ | h1, h3⟩
        · rw [h2] at h3; exact absurd rfl h3
        · exact Or.inr h1
    · rw [if_neg hl]
      obtain ⟨w4, w5, w6⟩ := w3 hl
      have hih := ih _ (h.2.2.2.1 _ hb) w6
      have hown : ∀ v', p = (k0, v') → p.1 ≠ k := fun v' e e2 => by rw [e] at e2; simp only at e2; rw [e2] at hl; exact hl rfl
      have hoth : ∀ i, i < 256 → i ≠ byteAt k k0.length → p ∈ (f i).prs → p.1 ≠ k := fun i hi hn h1 e => by
        have := child_pre h hi h1
        rw [e] at this
        exact hn (pre_byte_eq this).symm
      have fin : ((∃ v, o = some v ∧ p = (k0, v)) ∨ (p ∈ (dropT (f (byteAt k k0.length)) k).prs ∨ ∃ i, i < 256 ∧ i ≠ byteAt k k0.length ∧ p ∈ (f i).prs)) ↔ p ∈ (node k0 o kd f).prs ∧ p.1 ≠ k := by
        rw [mem_node, hih]
        constructor
        · rintro (⟨v', h1, h2⟩ | ⟨h1, h2⟩ | ⟨i, hi2, hn, h1⟩)
          · exact ⟨Or.inl ⟨v', h1, h2⟩, hown v' h2⟩
          · exact ⟨Or.inr ⟨_, hb, h1⟩, h2⟩
          · exact ⟨Or.inr ⟨i, hi2, h1⟩, hoth i hi2 hn h1⟩
        · rintro ⟨⟨v', h1, h2⟩ | ⟨i, hi2, h1⟩, h3⟩
          · exact Or.inl ⟨v', h1, h2⟩
          · by_cases e : i = byteAt k k0.length
            · subst e; exact Or.inr (Or.inl ⟨h1, h3⟩)
            · exact Or.inr (Or.inr ⟨i, hi2, e, h1⟩)
      by_cases hd : (dropT (f (byteAt k k0.length)) k).is = false
      · rw [if_pos hd, dropN_mem, mem_upd hb, ← fin, is_false hd]
      · rw [if_neg hd, dropN_mem, mem_upd hb, ← fin]
theorem dropT_prs {T : RT} {q k : List Int} (h : Ok q T) (hh : hasK T.prs k = true) : (dropT T k).prs = dropK T.prs k := by
  have hp := ModP.of_has hh
  exact rises_ext (dropT_ok h hp).rises (dropK_rises h.rises k) fun p => by rw [dropT_mem h hp, mem_drop h.rises]
theorem dropT_cells {T : RT} {k : List Int} {x : Int} : ∀ {q : List Int}, Ok q T → (k, x) ∈ T.prs → (dropT T k).cells + fewT T k = T.cells := by
  induction T with
  | nil => intro q _ h; simp [prs] at h
  | leaf k0 v0 => intro q _ h; rfl
  | node k0 o kd f ih =>
    intro q h hp
    obtain ⟨w1, w2, w3⟩ := way_of h hp
    have hkb := (h.pre _ hp).2
    simp only at hkb
    have hb := byteAt_lt hkb k0.length
    unfold dropT fewT
    by_cases hl : k.length = k0.length
    · rw [if_pos hl, if_pos hl, dropN_cells, cells_node, cells_node, Nat.add_zero]
    · rw [if_neg hl, if_neg hl]
      obtain ⟨w4, w5, w6⟩ := w3 hl
      have hih := ih _ (h.2.2.2.1 _ hb) w6
      have h9 := cells_upd f hb (dropT (f (byteAt k k0.length)) k)
      by_cases hd : (dropT (f (byteAt k k0.length)) k).is = false
      · rw [if_pos hd]
        rw [is_false hd] at h9 hih ⊢
        rw [dropN_cells, cells_node, cells_node]
        omega
      · rw [if_neg hd, dropN_cells, cells_node, cells_node]
        omega
theorem dropN_is {k0 : List Int} {v0 : Int} {o : Option Int} {kd : Nat} {f : Nat → RT} : (dropN k0 v0 o kd f).is = true := by
  unfold dropN
  split
  · rfl
  · split
    · rename_i h
      obtain ⟨i, _, h1, h2, _⟩ := oneT_spec h.2
      rw [h2]; exact h1
    · rfl
theorem dropT_nil {T : RT} {k : List Int} (h : (dropT T k).is = false) : fewT T k ≤ 1 := by
  cases T with
  | nil => simp [fewT]
  | leaf k0 v0 => simp [fewT]
  | node k0 o kd f =>
    unfold dropT at h
    split at h
    · rw [dropN_is] at h; cases h
    · split at h
      · rw [dropN_is] at h; cases h
      · rw [dropN_is] at h; cases h
theorem fewN_le (m : Nat) (o : Option Int) (f : Nat → RT) : fewN m o f ≤ m + 1 := by unfold fewN; split <;> omega
theorem few_le {T : RT} {k : List Int} {x : Int} : ∀ {q : List Int}, Ok q T → (k, x) ∈ T.prs → fewT T k ≤ 2 := by
  induction T with
  | nil => intro q _ h; simp [prs] at h
  | leaf k0 v0 => intro q _ h; simp [fewT]
  | node k0 o kd f ih =>
    intro q h hp
    obtain ⟨w1, w2, w3⟩ := way_of h hp
    have hkb := (h.pre _ hp).2
    simp only at hkb
    have hb := byteAt_lt hkb k0.length
    unfold fewT
    by_cases hl : k.length = k0.length
    · rw [if_pos hl]
      have := fewN_le 0 Option.none f; omega
    · rw [if_neg hl]
      obtain ⟨w4, w5, w6⟩ := w3 hl
      have hih := ih _ (h.2.2.2.1 _ hb) w6
      cases hd : (dropT (f (byteAt k k0.length)) k).is with
      | false =>
        have h1 := dropT_nil hd
        have := fewN_le (fewT (f (byteAt k k0.length)) k) o (upd f (byteAt k k0.length) (dropT (f (byteAt k k0.length)) k))
        omega
      | true =>
        have hci : (f (byteAt k k0.length)).is = true := by
          cases hc : (f (byteAt k k0.length)).is with
          | true => rfl
          | false => rw [is_false hc] at w6; simp [prs] at w6
        have hc := cnt_upd f hb (dropT (f (byteAt k k0.length)) k)
        rw [hci, hd] at hc
        have h5 := h.2.2.2.2.1
        unfold fewN
        rw [if_neg (fun h6 => by
          have h7 : one o = 0 := by unfold one; rw [if_neg (by rw [h6.1]; simp)]
          have h8 := h6.2
          omega)]
        exact hih
end RT
end Go.Proofs.YtclnnkacfanaiaaDoor

/- Plain laws: how many cells a radix tree of some pairs has. -/
namespace Go.Proofs.YtclnnkacfanaiaaDoor
set_option linter.unusedVariables false
set_option linter.unusedSimpArgs false
open ModP (cmpK_prefix)
open RadK MaskP MaskA KidB ModF
namespace RT
/-- the nodes' bytes -/
def NT : RT → Prs
  | nil => []
  | leaf _ _ => []
  | node k _ _ f => (k, 1) :: (List.range 256).flatMap fun i => (f i).NT
/-- the leaves -/
def LT : RT → Prs
  | nil => []
  | leaf k v => [(k, v)]
  | node _ _ _ f => (List.range 256).flatMap fun i => (f i).LT
theorem NT_node (k : List Int) (o : Option Int) (kd : Nat) (f : Nat → RT) : (node k o kd f).NT = (k, 1) :: (List.range 256).flatMap fun i => (f i).NT := by rw [NT]
theorem LT_node (k : List Int) (o : Option Int) (kd : Nat) (f : Nat → RT) : (node k o kd f).LT = (List.range 256).flatMap fun i => (f i).LT := by rw [LT]
theorem mem_NT {k : List Int} {o : Option Int} {kd : Nat} {f : Nat → RT} {p : List Int × Int} : p ∈ (node k o kd f).NT ↔ p = (k, 1) ∨ ∃ i, i < 256 ∧ p ∈ (f i).NT := by
  rw [NT_node, List.mem_cons, List.mem_flatMap]
  simp only [List.mem_range]
theorem mem_LT {k : List Int} {o : Option Int} {kd : Nat} {f : Nat → RT} {p : List Int × Int} : p ∈ (node k o kd f).LT ↔ ∃ i, i < 256 ∧ p ∈ (f i).LT := by
  rw [LT_node, List.mem_flatMap]
  simp only [List.mem_range]
theorem flat_rises {k : List Int} {g : Nat → Prs} (h1 : ∀ i, i < 256 → Rises (g i)) (h2 : ∀ i, i < 256 → ∀ p ∈ g i, k ++ [(i : Int)] <+: p.1) : Rises ((List.range 256).flatMap g) := by
  unfold Rises
  rw [List.pairwise_flatMap]
  refine ⟨fun i hi => h1 i (List.mem_range.1 hi), ?_⟩
  refine List.Pairwise.imp_of_mem ?_ (List.pairwise_lt_range)
  intro i j hi hj hij p hp r hr
  exact cmp_split (h2 i (List.mem_range.1 hi) p hp) (h2 j (List.mem_range.1 hj) r hr) hij
theorem NT_pre {T : RT} : ∀ {q : List Int}, Ok q T → ∀ p ∈ T.NT, q <+: p.1 ∧ p.2 = 1 := by
  induction T with
  | nil => intro q _ p hp; simp [NT] at hp
  | leaf k v => intro q _ p hp; simp [NT] at hp
  | node k o kd f ih =>
    intro q h p hp
    rcases mem_NT.1 hp with rfl | ⟨i, hi, hp⟩
    · exact ⟨h.1, rfl⟩
    · have := ih i (h.2.2.2.1 i hi) p hp
      exact ⟨(h.1.trans (List.prefix_append _ _)).trans this.1, this.2⟩
theorem LT_sub {T : RT} {p : List Int × Int} : p ∈ T.LT → p ∈ T.prs := by
  induction T with
  | nil => intro hp; simp [LT] at hp
  | leaf k v => intro hp; exact hp
  | node k o kd f ih =>
    intro hp
    obtain ⟨i, hi, hp⟩ := mem_LT.1 hp
    exact mem_node.2 (Or.inr ⟨i, hi, ih i hp⟩)
theorem NT_rises {T : RT} : ∀ {q : List Int}, Ok q T → Rises T.NT := by
  induction T with
  | nil => intro q _; exact List.Pairwise.nil
  | leaf k v => intro q _; exact List.Pairwise.nil
  | node k o kd f ih =>
    intro q h
    rw [NT_node]
    have hp : ∀ i, i < 256 → ∀ p ∈ (f i).NT, k ++ [(i : Int)] <+: p.1 := fun i hi p hp => (NT_pre (h.2.2.2.1 i hi) p hp).1
    refine List.Pairwise.cons (fun p hp2 => ?_) (flat_rises (fun i hi => ih i (h.2.2.2.1 i hi)) hp)
    obtain ⟨i, hi, h3⟩ := List.mem_flatMap.1 hp2
    have := hp i (List.mem_range.1 hi) p h3
    exact cmpK_prefix ((List.prefix_append _ _).trans this) (pre_len this)
theorem LT_rises {T : RT} : ∀ {q : List Int}, Ok q T → Rises T.LT := by
  induction T with
  | nil => intro q _; exact List.Pairwise.nil
  | leaf k v => intro q _; exact List.pairwise_singleton _ _
  | node k o kd f ih =>
    intro q h
    rw [LT_node]
    exact flat_rises (fun i hi => ih i (h.2.2.2.1 i hi)) (fun i hi p hp => child_pre h hi (LT_sub hp))
theorem sum_len (g : Nat → RT) : ∀ n, (∀ i, i < n → (g i).cells = (g i).NT.length + (g i).LT.length) →
    ((List.range n).map fun i => (g i).cells).sum = ((List.range n).flatMap fun i => (g i).NT).length + ((List.range n).flatMap fun i => (g i).LT).length
  | 0, _ => rfl
  | n + 1, h => by
    rw [List.range_succ, List.map_append, List.sum_append, List.flatMap_append, List.flatMap_append, List.length_append, List.length_append, sum_len g n (fun i hi => h i (by omega))]
    have := h n (by omega)
    simp only [List.map_cons, List.map_nil, List.sum_cons, List.sum_nil, List.flatMap_cons, List.flatMap_nil, List.append_nil]
    omega
theorem cells_len (T : RT) : T.cells = T.NT.length + T.LT.length := by
  induction T with
  | nil => rfl
  | leaf k v => rfl
  | node k o kd f ih =>
    rw [cells_node, NT_node, LT_node, List.length_cons, sum_len f 256 (fun i _ => ih i)]
    omega
/-- a node's bytes are what two keys share -/
theorem NT_iff {T : RT} {x : List Int} : ∀ {q : List Int}, Ok q T → ((x, 1) ∈ T.NT ↔ ∃ a ∈ T.prs, ∃ b ∈ T.prs, a.1 ≠ b.1 ∧ x = a.1.take (comK a.1 b.1)) := by
  induction T with
  | nil => intro q _; simp [NT, prs]
  | leaf k v =>
    intro q _
    simp only [NT, prs, List.not_mem_nil, List.mem_singleton, false_iff]
    rintro ⟨a, rfl, b, rfl, h, _⟩
    exact h rfl
  | node k o kd f ih =>
    intro q h
    have htk : ∀ {a b : List Int × Int} {i j : Nat}, i < 256 → j < 256 → a ∈ (f i).prs → b ∈ (f j).prs → i ≠ j → a.1.take (comK a.1 b.1) = k := fun hi hj ha hb hn => by
      have h1 := child_pre h hi ha
      have h2 := child_pre h hj hb
      rw [com_split h1 h2 hn]
      exact (List.prefix_iff_eq_take.1 ((List.prefix_append _ _).trans h1)).symm
    have htk2 : ∀ {b : List Int × Int} {i : Nat}, i < 256 → b ∈ (f i).prs → comK k b.1 = k.length := fun hi hb => comK_of_pre ((List.prefix_append _ _).trans (child_pre h hi hb))
    have hne : ∀ {b : List Int × Int} {i : Nat}, i < 256 → b ∈ (f i).prs → k ≠ b.1 := fun hi hb e => by have := pre_len (child_pre h hi hb); rw [← e] at this; omega
    rw [mem_NT]
    constructor
    · rintro (h1 | ⟨i, hi, h1⟩)
      · have hx : x = k := (Prod.mk.inj h1).1
        have h5 := h.2.2.2.2.1
        cases ho : o with
        | some v =>
          have hc : 0 < cnt (hsT f) 256 := by
            have : one o ≤ 1 := by unfold one; split <;> omega
            omega
          obtain ⟨i, hi, hf⟩ := cnt_pos hc
          obtain ⟨b, hb⟩ := (h.2.2.2.1 i hi).some hf
          exact ⟨(k, v), mem_node.2 (Or.inl ⟨v, rfl, rfl⟩), b, mem_node.2 (Or.inr ⟨i, hi, hb⟩), hne hi hb, by rw [hx]; show k = k.take (comK k b.1); rw [htk2 hi hb, List.take_length]⟩
        | none =>
          rw [ho] at h5
          obtain ⟨i, j, hij, hj, h1, h2⟩ := cnt_two (f := hsT f) (n := 256) (by simpa [one] using h5)
          obtain ⟨a, ha⟩ := (h.2.2.2.1 i (by omega)).some h1
          obtain ⟨b, hb⟩ := (h.2.2.2.1 j hj).some h2
          refine ⟨a, mem_node.2 (Or.inr ⟨i, by omega, ha⟩), b, mem_node.2 (Or.inr ⟨j, hj, hb⟩), fun e => ?_, hx.trans (htk (by omega) hj ha hb (by omega)).symm⟩
          have h3 := pre_byte_eq (child_pre h (by omega) ha)
          have h4 := pre_byte_eq (child_pre h hj hb)
          rw [e] at h3; omega
      · obtain ⟨a, ha, b, hb, h2⟩ := (ih i (h.2.2.2.1 i hi)).1 h1
        exact ⟨a, mem_node.2 (Or.inr ⟨i, hi, ha⟩), b, mem_node.2 (Or.inr ⟨i, hi, hb⟩), h2⟩
    · rintro ⟨a, ha, b, hb, hn, hx⟩
      rcases mem_node.1 ha with ⟨v, _, rfl⟩ | ⟨i, hi, ha⟩
      · rcases mem_node.1 hb with ⟨w, _, rfl⟩ | ⟨j, hj, hb⟩
        · exact absurd rfl hn
        · refine Or.inl ?_
          rw [hx]
          show (k.take (comK k b.1), (1 : Int)) = _
          rw [htk2 hj hb, List.take_length]
      · rcases mem_node.1 hb with ⟨w, _, rfl⟩ | ⟨j, hj, hb⟩
        · refine Or.inl ?_
          rw [hx]
          show (a.1.take (comK a.1 k), (1 : Int)) = _
          rw [comK_comm, htk2 hi ha]
          rw [← List.prefix_iff_eq_take.1 ((List.prefix_append _ _).trans (child_pre h hi ha))]
        · by_cases e : i = j
          · subst e; exact Or.inr ⟨i, hi, (ih i (h.2.2.2.1 i hi)).2 ⟨a, ha, b, hb, hn, hx⟩⟩
          · refine Or.inl ?_
            rw [hx, htk hi hj ha hb e]
/-- a leaf's key is none of a node's -/
theorem LT_iff {T : RT} {p : List Int × Int} : ∀ {q : List Int}, Ok q T → (p ∈ T.LT ↔ p ∈ T.prs ∧ (p.1, 1) ∉ T.NT) := by
  induction T with
  | nil => intro q _; simp [LT, prs]
  | leaf k v => intro q _; simp [LT, prs, NT]
  | node k o kd f ih =>
    intro q h
    rw [mem_LT, mem_node, mem_NT]
    constructor
    · rintro ⟨i, hi, hp⟩
      have h1 := (ih i (h.2.2.2.1 i hi)).1 hp
      refine ⟨Or.inr ⟨i, hi, h1.1⟩, ?_⟩
      have h2 := child_pre h hi h1.1
      rintro (e | ⟨j, hj, h3⟩)
      · have := pre_len h2; rw [(Prod.mk.inj e).1] at this; omega
      · have h4 := (NT_pre (h.2.2.2.1 j hj) _ h3).1
        have : i = j := (pre_byte_eq h2).symm.trans (pre_byte_eq h4)
        subst this; exact h1.2 h3
    · rintro ⟨⟨v, ho, rfl⟩ | ⟨i, hi, hp⟩, hn⟩
      · exact absurd (Or.inl rfl) hn
      · exact ⟨i, hi, (ih i (h.2.2.2.1 i hi)).2 ⟨hp, fun h3 => hn (Or.inr ⟨i, hi, h3⟩)⟩⟩
end RT

/-! ### as a function of the pairs -/
open RT
def sharedK (ps : Prs) : Prs := ps.flatMap fun p => (ps.filter fun q => !(q.1 == p.1)).map fun q => (p.1.take (comK p.1 q.1), 1)
def nodesK (ps : Prs) : Prs := mkK (sharedK ps)
def okP (ps : Prs) : Bool := risesB ps && ps.all fun p => p.1.all fun x => decide (0 ≤ x) && decide (x < 256)
def cellsK (ps : Prs) : Nat := (nodesK ps).length + (ps.filter fun p => !hasK (nodesK ps) p.1).length
/-- how many cells a radix tree of some pairs has -/
def szK (ps : Prs) : Nat := if okP ps then cellsK ps else 0
namespace RadS
theorem okP_iff {ps : Prs} : okP ps = true ↔ Rises ps ∧ ∀ p ∈ ps, KB p.1 := by
  unfold okP KB
  rw [Bool.and_eq_true, risesB_step]
  simp [List.all_eq_true]
theorem shared_mem {ps : Prs} {x : List Int} : (x, 1) ∈ sharedK ps ↔ ∃ a ∈ ps, ∃ b ∈ ps, a.1 ≠ b.1 ∧ x = a.1.take (comK a.1 b.1) := by
  unfold sharedK
  rw [List.mem_flatMap]
  constructor
  · rintro ⟨a, ha, h⟩
    obtain ⟨b, hb, e⟩ := List.mem_map.1 h
    have hb2 := List.mem_filter.1 hb
    exact ⟨a, ha, b, hb2.1, fun e => by simp [e] at hb2, ((Prod.mk.inj e).1).symm⟩
  · rintro ⟨a, ha, b, hb, hn, rfl⟩
    exact ⟨a, ha, List.mem_map.2 ⟨b, List.mem_filter.2 ⟨hb, by simp [Ne.symm hn]⟩, rfl⟩⟩
theorem shared_one {ps : Prs} {p : List Int × Int} (h : p ∈ sharedK ps) : p.2 = 1 := by
  unfold sharedK at h
  obtain ⟨a, _, h⟩ := List.mem_flatMap.1 h
  obtain ⟨b, _, rfl⟩ := List.mem_map.1 h
  rfl
theorem mk_has : ∀ (l : Prs) (p : List Int × Int), p ∈ l → hasK (mkK l) p.1 = true := by
  intro l
  have : ∀ n, n = l.length → ∀ p ∈ l, hasK (mkK l) p.1 = true := by
    intro n
    induction n generalizing l with
    | zero => intro h p hp; rw [List.eq_nil_of_length_eq_zero h.symm] at hp; simp at hp
    | succ n ih =>
      intro h p hp
      rcases List.eq_nil_or_concat l with rfl | ⟨l', a, rfl⟩
      · simp at h
      · rw [List.concat_eq_append] at h hp ⊢
        rw [mkK_snoc, ModR.has_put (mkK_rises l')]
        rcases List.mem_append.1 hp with h1 | h1
        · rw [ih l' (by simp at h; omega) p h1]; simp
        · simp at h1; rw [h1]; simp
  exact this l.length rfl
theorem mem_mk_one {l : Prs} (h1 : ∀ p ∈ l, p.2 = 1) {p : List Int × Int} : p ∈ mkK l ↔ p ∈ l := by
  refine ⟨mkK_mem, fun h => ?_⟩
  have h2 := ModP.of_has (mk_has l p h)
  have h3 := h1 _ (mkK_mem h2)
  have h4 := h1 _ h
  obtain ⟨a, b⟩ := p
  simp only at h2 h3 h4
  rw [h3] at h2
  rw [h4]; exact h2
theorem nodes_NT {T : RT} {q : List Int} (h : Ok q T) : nodesK T.prs = T.NT := by
  refine rises_ext (mkK_rises _) (NT_rises h) fun p => ?_
  unfold nodesK
  rw [mem_mk_one (fun p hp => shared_one hp)]
  constructor
  · intro hp
    have h1 := shared_one hp
    obtain ⟨a, b⟩ := p
    simp only at h1
    subst h1
    exact (NT_iff h).2 (shared_mem.1 hp)
  · intro hp
    have h1 := (NT_pre h p hp).2
    obtain ⟨a, b⟩ := p
    simp only at h1
    subst h1
    exact shared_mem.2 ((NT_iff h).1 hp)
theorem cells_sz {T : RT} {q : List Int} (h : Ok q T) : T.cells = szK T.prs := by
  have hok : okP T.prs = true := okP_iff.2 ⟨h.rises, fun p hp => (h.pre p hp).2⟩
  unfold szK
  rw [if_pos hok]
  unfold cellsK
  rw [nodes_NT h, cells_len]
  have hL : T.LT = T.prs.filter fun p => !hasK T.NT p.1 := by
    refine rises_ext (LT_rises h) (List.Pairwise.sublist List.filter_sublist h.rises) fun p => ?_
    rw [LT_iff h, List.mem_filter]
    refine and_congr_right fun _ => ?_
    have : hasK T.NT p.1 = true ↔ (p.1, 1) ∈ T.NT := by
      rw [ModR.has_iff (NT_rises h)]
      constructor
      · rintro ⟨r, hr, e⟩
        have h2 := (NT_pre h r hr).2
        obtain ⟨a, b⟩ := r
        simp only at e h2
        subst e; subst h2; exact hr
      · intro hr; exact ⟨_, hr, rfl⟩
    rw [← this]; simp
  rw [hL]
/-- the tree of some pairs -/
def mkT (ps : Prs) : RT := ps.foldl (fun T p => putT T p.1 p.2) nil
theorem mkT_snoc (ps : Prs) (p : List Int × Int) : mkT (ps ++ [p]) = putT (mkT ps) p.1 p.2 := by simp [mkT, List.foldl_append]
theorem mkT_spec : ∀ (n : Nat) (ps : Prs), ps.length = n → (∀ p ∈ ps, KB p.1) → Ok [] (mkT ps) ∧ (mkT ps).prs = mkK ps ∧ (mkT ps).cells ≤ 2 * ps.length
  | 0, ps, h, _ => by rw [List.eq_nil_of_length_eq_zero h]; exact ⟨trivial, rfl, Nat.le_refl _⟩
  | n + 1, ps, h, hk => by
    rcases List.eq_nil_or_concat ps with rfl | ⟨l, a, rfl⟩
    · simp at h
    · rw [List.concat_eq_append] at h hk ⊢
      obtain ⟨h1, h2, h3⟩ := mkT_spec n l (by simp at h; omega) (fun p hp => hk p (by simp [hp]))
      have hka := hk a (by simp)
      rw [mkT_snoc, mkK_snoc, ← h2]
      refine ⟨putT_ok a.2 hka h1 List.nil_prefix, putT_prs a.2 hka h1 List.nil_prefix, ?_⟩
      rw [putT_cells a.2 hka h1]
      have := manyT_le (mkT l) a.1
      simp; omega
theorem tree_of {M : Prs} (hr : Rises M) (hk : ∀ p ∈ M, KB p.1) : ∃ T, Ok [] T ∧ T.prs = M := by
  obtain ⟨h1, h2, _⟩ := mkT_spec _ M rfl hk
  exact ⟨mkT M, h1, by rw [h2, ModR.mk_self hr]⟩
theorem sz_not {ps : Prs} (h : ¬ (Rises ps ∧ ∀ p ∈ ps, KB p.1)) : szK ps = 0 := by
  unfold szK; rw [if_neg (fun h2 => h (okP_iff.1 h2))]
theorem sz_bound2 (ps : Prs) : szK ps ≤ 2 * ps.length := by
  by_cases h : Rises ps ∧ ∀ p ∈ ps, KB p.1
  · obtain ⟨h1, h2, h3⟩ := mkT_spec _ ps rfl h.2
    rw [cells_sz h1, h2, ModR.mk_self h.1] at h3
    exact h3
  · rw [sz_not h]; omega
theorem manyT_has {T : RT} {k : List Int} {x : Int} : ∀ {q : List Int}, Ok q T → (k, x) ∈ T.prs → manyT T k = 0 := by
  induction T with
  | nil => intro q _ h; simp [prs] at h
  | leaf k0 v0 => intro q _ h; simp [prs] at h; simp [manyT, h.1]
  | node k0 o kd f ih =>
    intro q h hp
    obtain ⟨w1, w2, w3⟩ := way_of h hp
    have hkb := (h.pre _ hp).2
    simp only at hkb
    unfold manyT
    rw [if_neg (by rw [comK_of_pre w1]; omega)]
    by_cases hl : k.length = k0.length
    · rw [if_pos hl]
    · rw [if_neg hl]
      obtain ⟨w4, w5, w6⟩ := w3 hl
      rw [if_neg (fun hc => by rw [is_false hc] at w6; simp [prs] at w6)]
      exact ih _ (h.2.2.2.1 _ (byteAt_lt hkb _)) w6
theorem sz_put_tree {T : RT} {k : List Int} (v : Int) (h : Ok [] T) (hk : KB k) : szK (putK T.prs k v) = szK T.prs + manyT T k := by
  rw [← putT_prs v hk h List.nil_prefix, ← cells_sz (putT_ok v hk h List.nil_prefix), ← cells_sz h, putT_cells v hk h]
theorem put_kb {M : Prs} {k : List Int} {v : Int} (hr : Rises M) (h : ∀ p ∈ putK M k v, KB p.1) : KB k ∧ (∀ p ∈ M, p.1 ≠ k → KB p.1) :=
  ⟨h _ (ModR.put_mem_self M k v), fun p hp hn => h _ (ModR.put_mem_other hp hn)⟩
theorem sz_put_le2 {M : Prs} (hr : Rises M) {k : List Int} (v : Int) (h : hasK M k = false) : szK (putK M k v) ≤ szK M + 2 := by
  by_cases hh : Rises (putK M k v) ∧ ∀ p ∈ putK M k v, KB p.1
  · have h1 := put_kb hr hh.2
    have hM : ∀ p ∈ M, KB p.1 := fun p hp => h1.2 p hp (fun e => by have := (ModR.has_iff hr k).2 ⟨p, hp, e⟩; rw [h] at this; cases this)
    obtain ⟨T, h2, rfl⟩ := tree_of hr hM
    rw [sz_put_tree v h2 h1.1]
    have := manyT_le T k; omega
  · rw [sz_not hh]; omega
theorem sz_put_has2 {M : Prs} (hr : Rises M) {k : List Int} (v : Int) (h : hasK M k = true) : szK (putK M k v) = szK M := by
  obtain ⟨x, hx, _⟩ := hasK_some h
  have hm := List.mem_of_getElem? hx
  by_cases hM : ∀ p ∈ M, KB p.1
  · obtain ⟨T, h2, rfl⟩ := tree_of hr hM
    rw [sz_put_tree v h2 (hM _ hm), manyT_has h2 hm]; rfl
  · rw [sz_not (fun h2 => hM h2.2), sz_not (fun h2 => hM (fun p hp => ?_))]
    have h1 := put_kb hr h2.2
    by_cases e : p.1 = k
    · rw [e]; exact h1.1
    · exact h1.2 p hp e
theorem sz_drop_le2 {M : Prs} (hr : Rises M) (hM : ∀ p ∈ M, KB p.1) (k : List Int) : szK (dropK M k) ≤ szK M := by
  cases h : hasK M k with
  | false => rw [dropK_not h]; exact Nat.le_refl _
  | true =>
    obtain ⟨x, hx, _⟩ := hasK_some h
    have hm := List.mem_of_getElem? hx
    obtain ⟨T, h2, rfl⟩ := tree_of hr hM
    rw [← dropT_prs h2 h, ← cells_sz (dropT_ok h2 hm), ← cells_sz h2]
    have := dropT_cells h2 hm
    omega
end RadS
end Go.Proofs.YtclnnkacfanaiaaDoor
