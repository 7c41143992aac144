/- Keys in order, and lists of pairs by rising keys: plain laws. -/
import Derived.Test.YtclnnkacfanaiaaDoorMem
import Derived.Lib.Bytealg
namespace Go.Proofs.YtclnnkacfanaiaaDoor
set_option linter.unusedVariables false
set_option linter.unusedSimpArgs false

def cmpK : List Int → List Int → Int
  | [], [] => 0
  | [], _ :: _ => -1
  | _ :: _, [] => 1
  | a :: xs, b :: ys => if a < b then -1 else if b < a then 1 else cmpK xs ys
def ltK (a b : List Int) : Bool := decide (cmpK a b < 0)

theorem cmpK_range : ∀ a b, cmpK a b = -1 ∨ cmpK a b = 0 ∨ cmpK a b = 1
  | [], [] => by simp [cmpK]
  | [], _ :: _ => by simp [cmpK]
  | _ :: _, [] => by simp [cmpK]
  | a :: xs, b :: ys => by
    unfold cmpK
    split
    · simp
    · split
      · simp
      · exact cmpK_range xs ys
theorem cmpK_self : ∀ a, cmpK a a = 0
  | [] => rfl
  | a :: xs => by unfold cmpK; simp [cmpK_self xs]
theorem cmpK_cons (a : Int) (xs ys : List Int) : cmpK (a :: xs) (a :: ys) = cmpK xs ys := by
  rw [cmpK]
  simp
theorem cmpK_eq : ∀ {a b}, cmpK a b = 0 → a = b
  | [], [], _ => rfl
  | [], _ :: _, h => by simp [cmpK] at h
  | _ :: _, [], h => by simp [cmpK] at h
  | a :: xs, b :: ys, h => by
    unfold cmpK at h
    split at h
    · simp at h
    · split at h
      · simp at h
      · have : a = b := by omega
        rw [this, cmpK_eq h]
theorem cmpK_iff {a b : List Int} : cmpK a b = 0 ↔ a = b := ⟨cmpK_eq, fun h => by rw [h, cmpK_self]⟩
theorem cmpK_neg : ∀ a b, cmpK b a = - cmpK a b
  | [], [] => rfl
  | [], _ :: _ => rfl
  | _ :: _, [] => rfl
  | a :: xs, b :: ys => by
    unfold cmpK
    by_cases h1 : a < b
    · have h2 : ¬ b < a := by omega
      simp [h1, h2]
    · by_cases h2 : b < a
      · simp [h1, h2]
      · simp [h1, h2, cmpK_neg xs ys]
theorem cmpK_trans : ∀ {a b c}, cmpK a b < 0 → cmpK b c < 0 → cmpK a c < 0
  | [], [], _, h, _ => by simp [cmpK] at h
  | [], _ :: _, [], _, h => by simp [cmpK] at h
  | [], _ :: _, _ :: _, _, _ => by simp [cmpK]
  | _ :: _, [], _, h, _ => by simp [cmpK] at h
  | _ :: _, _ :: _, [], _, h => by simp [cmpK] at h
  | a :: xs, b :: ys, c :: zs, h1, h2 => by
    unfold cmpK at h1 h2 ⊢
    by_cases a1 : a < b
    · by_cases b1 : b < c
      · rw [if_pos (by omega)]; omega
      · by_cases b2 : c < b
        · simp [b1, b2] at h2
        · rw [if_pos (by omega)]; omega
    · by_cases a2 : b < a
      · simp [a1, a2] at h1
      · simp only [a1, a2, if_false] at h1
        have : a = b := by omega
        subst this
        by_cases b1 : a < c
        · rw [if_pos b1]; omega
        · by_cases b2 : c < a
          · simp [b1, b2] at h2
          · simp only [b1, b2, if_false] at h2 ⊢
            exact cmpK_trans h1 h2
theorem ltK_iff {a b : List Int} : ltK a b = true ↔ cmpK a b < 0 := by simp [ltK]
theorem ltK_false {a b : List Int} : ltK a b = false ↔ ¬ cmpK a b < 0 := by simp [ltK]
theorem ltK_irrefl (a : List Int) : ltK a a = false := by simp [ltK, cmpK_self]
theorem ltK_trans {a b c : List Int} (h1 : ltK a b = true) (h2 : ltK b c = true) : ltK a c = true := ltK_iff.2 (cmpK_trans (ltK_iff.1 h1) (ltK_iff.1 h2))
theorem cmpK_pos {a b : List Int} : 0 < cmpK a b ↔ cmpK b a < 0 := by rw [cmpK_neg a b]; omega
theorem cmpK_tri (a b : List Int) : cmpK a b < 0 ∨ a = b ∨ cmpK b a < 0 := by
  rcases cmpK_range a b with h | h | h
  · left; omega
  · right; left; exact cmpK_eq h
  · right; right; rw [cmpK_neg a b]; omega
/-- not ahead of: a ≤ b < c -/
theorem cmpK_le_lt {a b c : List Int} (h1 : ¬ cmpK b a < 0) (h2 : cmpK b c < 0) : cmpK a c < 0 := by
  rcases cmpK_tri a b with h | rfl | h
  · exact cmpK_trans h h2
  · exact h2
  · exact absurd h h1
theorem cmpK_lt_le {a b c : List Int} (h1 : cmpK a b < 0) (h2 : ¬ cmpK c b < 0) : cmpK a c < 0 := by
  rcases cmpK_tri b c with h | rfl | h
  · exact cmpK_trans h1 h
  · exact h1
  · exact absurd h h2

/-! ### what the machine compares -/
def u8s (k : List Int) : List UInt8 := k.map fun n => UInt8.ofNat n.toNat
theorem u8_lt {a b : Int} (ha : 0 ≤ a ∧ a < 256) (hb : 0 ≤ b ∧ b < 256) : (UInt8.ofNat a.toNat < UInt8.ofNat b.toNat) ↔ a < b := by
  rw [UInt8.lt_iff_toNat_lt, UInt8.toNat_ofNat', UInt8.toNat_ofNat']; omega
theorem u8_eq {a b : Int} (ha : 0 ≤ a ∧ a < 256) (hb : 0 ≤ b ∧ b < 256) : (UInt8.ofNat a.toNat = UInt8.ofNat b.toNat) ↔ a = b := by
  rw [← UInt8.toNat_inj, UInt8.toNat_ofNat', UInt8.toNat_ofNat']; omega
theorem KB.tail {x : Int} {k : List Int} (h : KB (x :: k)) : KB k := fun y hy => h y (List.mem_cons_of_mem _ hy)
theorem KB.head {x : Int} {k : List Int} (h : KB (x :: k)) : 0 ≤ x ∧ x < 256 := h x List.mem_cons_self
theorem KB.nil : KB [] := fun x h => by simp at h
theorem KB.take {k : List Int} (h : KB k) (n : Nat) : KB (k.take n) := fun x hx => h x (List.mem_of_mem_take hx)
theorem KB.drop {k : List Int} (h : KB k) (n : Nat) : KB (k.drop n) := fun x hx => h x (List.mem_of_mem_drop hx)
theorem KB.append {k l : List Int} (h : KB k) (h' : KB l) : KB (k ++ l) := fun x hx => by rw [List.mem_append] at hx; exact hx.elim (h x) (h' x)
theorem compareBytes_u8s : ∀ {a b : List Int}, KB a → KB b → Lib.compareBytes (u8s a) (u8s b) = cmpK a b
  | [], [], _, _ => rfl
  | [], _ :: _, _, _ => rfl
  | _ :: _, [], _, _ => rfl
  | a :: xs, b :: ys, ha, hb => by
    show (if UInt8.ofNat a.toNat < UInt8.ofNat b.toNat then -1 else if UInt8.ofNat b.toNat < UInt8.ofNat a.toNat then 1 else Lib.compareBytes (u8s xs) (u8s ys)) = _
    unfold cmpK
    simp only [u8_lt ha.head hb.head, u8_lt hb.head ha.head, compareBytes_u8s ha.tail hb.tail]
theorem bytesLess_u8s : ∀ {a b : List Int}, KB a → KB b → Op.bytesLess (u8s a) (u8s b) = ltK a b
  | [], [], _, _ => rfl
  | [], _ :: _, _, _ => rfl
  | _ :: _, [], _, _ => rfl
  | a :: xs, b :: ys, ha, hb => by
    show (decide (UInt8.ofNat a.toNat < UInt8.ofNat b.toNat) || (UInt8.ofNat a.toNat == UInt8.ofNat b.toNat && Op.bytesLess (u8s xs) (u8s ys))) = _
    rw [bytesLess_u8s ha.tail hb.tail]
    by_cases h1 : a < b
    · have e : ltK (a :: xs) (b :: ys) = true := by simp [ltK, cmpK, h1]
      rw [e]
      simp [h1, u8_lt ha.head hb.head]
    · by_cases h2 : b < a
      · have : ¬ a = b := by omega
        have e : ltK (a :: xs) (b :: ys) = false := by simp [ltK, cmpK, h1, h2]
        rw [e]
        simp [h1, h2, u8_lt ha.head hb.head, u8_eq ha.head hb.head, this]
      · have : a = b := by omega
        subst this
        have e : ltK (a :: xs) (a :: ys) = ltK xs ys := by unfold ltK; rw [cmpK_cons]
        rw [e]
        simp [u8_lt ha.head hb.head]
theorem u8s_inj : ∀ {a b : List Int}, KB a → KB b → (u8s a = u8s b ↔ a = b)
  | [], [], _, _ => by simp
  | [], _ :: _, _, _ => by simp [u8s]
  | _ :: _, [], _, _ => by simp [u8s]
  | a :: xs, b :: ys, ha, hb => by
    have := u8s_inj ha.tail hb.tail
    simp only [u8s, List.map_cons, List.cons.injEq] at this ⊢
    rw [this, u8_eq ha.head hb.head]

/-! ### pairs by rising keys -/
def Rises (ps : Prs) : Prop := ps.Pairwise fun a b => cmpK a.1 b.1 < 0
def rk (ps : Prs) (k : List Int) : Nat := (ps.takeWhile fun p => ltK p.1 k).length
def hasK (ps : Prs) (k : List Int) : Bool := match ps[rk ps k]? with | some p => p.1 == k | none => false
def valK (ps : Prs) (k : List Int) : Int := match ps[rk ps k]? with | some p => if p.1 == k then p.2 else 0 | none => 0
def putK (ps : Prs) (k : List Int) (v : Int) : Prs := ps.take (rk ps k) ++ (k, v) :: ps.drop (rk ps k + if hasK ps k then 1 else 0)
def dropK (ps : Prs) (k : List Int) : Prs := ps.take (rk ps k) ++ ps.drop (rk ps k + if hasK ps k then 1 else 0)

theorem rk_le (ps : Prs) (k : List Int) : rk ps k ≤ ps.length := (List.takeWhile_sublist _).length_le
theorem rk_eq : ∀ {ps : Prs} {k : List Int} {i : Nat}, i ≤ ps.length → (∀ j p, j < i → ps[j]? = some p → ltK p.1 k = true) → (∀ p, ps[i]? = some p → ltK p.1 k = false) → rk ps k = i
  | [], k, i, h, _, _ => by simp [rk]; simp at h; omega
  | p :: ps, k, 0, _, _, h => by
    have := h p rfl
    simp [rk, List.takeWhile_cons, this]
  | p :: ps, k, i + 1, hi, h1, h2 => by
    have h0 := h1 0 p (by omega) rfl
    have ih := rk_eq (ps := ps) (k := k) (i := i) (by simpa using hi) (fun j q hj hq => h1 (j + 1) q (by omega) (by simpa using hq)) (fun q hq => h2 q (by simpa using hq))
    simp [rk, List.takeWhile_cons, h0] at ih ⊢
    exact ih
theorem rk_lt : ∀ {ps : Prs} {k : List Int} {j : Nat} {p}, j < rk ps k → ps[j]? = some p → ltK p.1 k = true
  | [], k, j, p, h, _ => by simp [rk] at h
  | q :: ps, k, j, p, h, hp => by
    by_cases hq : ltK q.1 k = true
    · cases j with
      | zero => simp at hp; subst hp; exact hq
      | succ j =>
        refine rk_lt (ps := ps) (j := j) ?_ (by simpa using hp)
        simp [rk, List.takeWhile_cons, hq] at h ⊢
        omega
    · simp [rk, List.takeWhile_cons, hq] at h
theorem rk_ge : ∀ {ps : Prs} {k : List Int} {p}, ps[rk ps k]? = some p → ltK p.1 k = false
  | [], k, p, h => by simp at h
  | q :: ps, k, p, h => by
    by_cases hq : ltK q.1 k = true
    · refine rk_ge (ps := ps) (k := k) ?_
      simpa [rk, List.takeWhile_cons, hq] using h
    · have h0 : rk (q :: ps) k = 0 := by simp [rk, List.takeWhile_cons, hq]
      rw [h0] at h
      simp at h
      subst h
      simpa using hq
theorem Rises.get {ps : Prs} (h : Rises ps) {i j : Nat} {p q : List Int × Int} (hi : ps[i]? = some p) (hj : ps[j]? = some q) (hij : i < j) : cmpK p.1 q.1 < 0 := by
  obtain ⟨h1, rfl⟩ := List.getElem?_eq_some_iff.1 hi
  obtain ⟨h2, rfl⟩ := List.getElem?_eq_some_iff.1 hj
  exact List.pairwise_iff_getElem.1 h i j h1 h2 hij
theorem rk_ge_any {ps : Prs} (hr : Rises ps) {k : List Int} {j : Nat} {p} (hj : rk ps k ≤ j) (hp : ps[j]? = some p) : ltK p.1 k = false := by
  have hlt := (List.getElem?_eq_some_iff.1 hp).1
  have h0 : ps[rk ps k]? = some (ps[rk ps k]'(by omega)) := List.getElem?_eq_getElem (by omega)
  have hg := rk_ge h0
  rcases Nat.eq_or_lt_of_le hj with h | h
  · rw [← h] at hp; exact rk_ge hp
  · have := hr.get h0 hp h
    rw [ltK_false] at hg ⊢
    intro h'
    exact hg (cmpK_trans this h')
theorem hasK_some {ps : Prs} {k : List Int} (h : hasK ps k = true) : ∃ v, ps[rk ps k]? = some (k, v) ∧ valK ps k = v := by
  unfold hasK at h
  cases hp : ps[rk ps k]? with
  | none => simp [hp] at h
  | some p =>
    simp only [hp, beq_iff_eq] at h
    subst h
    exact ⟨p.2, rfl, by unfold valK; rw [hp]; simp⟩
theorem hasK_lt {ps : Prs} {k : List Int} (h : hasK ps k = true) : rk ps k < ps.length := by
  obtain ⟨v, hv, _⟩ := hasK_some h
  exact (List.getElem?_eq_some_iff.1 hv).1
theorem hasK_false {ps : Prs} {k : List Int} (h : hasK ps k = false) : ∀ p, ps[rk ps k]? = some p → p.1 ≠ k := by
  intro p hp
  unfold hasK at h
  simpa [hp] using h
theorem valK_none {ps : Prs} {k : List Int} (h : hasK ps k = false) : valK ps k = 0 := by
  unfold valK hasK at *
  cases hp : ps[rk ps k]? with
  | none => rfl
  | some p => simp only [hp] at h ⊢; simp [h]

theorem rises_take {ps : Prs} (h : Rises ps) (n : Nat) : Rises (ps.take n) := List.Pairwise.sublist (List.take_sublist _ _) h
theorem rises_drop {ps : Prs} (h : Rises ps) (n : Nat) : Rises (ps.drop n) := List.Pairwise.sublist (List.drop_sublist _ _) h
theorem mem_take_rk {ps : Prs} {k : List Int} {p} (h : p ∈ ps.take (rk ps k)) : cmpK p.1 k < 0 := by
  obtain ⟨j, hj⟩ := List.mem_iff_getElem?.1 h
  rw [List.getElem?_take] at hj
  split at hj
  · exact ltK_iff.1 (rk_lt ‹_› hj)
  · cases hj
theorem mem_drop_rk {ps : Prs} (hr : Rises ps) {k : List Int} {p} (h : p ∈ ps.drop (rk ps k + if hasK ps k then 1 else 0)) : cmpK k p.1 < 0 := by
  obtain ⟨j, hj⟩ := List.mem_iff_getElem?.1 h
  rw [List.getElem?_drop] at hj
  have hge := rk_ge_any hr (k := k) (by split at hj <;> omega) hj
  have hne : p.1 ≠ k := by
    intro he
    by_cases hh : hasK ps k = true
    · simp only [hh, if_true] at hj
      obtain ⟨v, hv, _⟩ := hasK_some hh
      have := hr.get hv hj (by omega)
      simp only [he, cmpK_self] at this
      omega
    · have hh' : hasK ps k = false := by simpa using hh
      simp only [hh', Bool.false_eq_true, if_false, Nat.add_zero] at hj
      cases j with
      | zero => exact hasK_false hh' p hj he
      | succ j =>
        have hlt := (List.getElem?_eq_some_iff.1 hj).1
        have h0 : ps[rk ps k]? = some (ps[rk ps k]'(by omega)) := List.getElem?_eq_getElem (by omega)
        have h1 := hr.get h0 hj (by omega)
        have h2 := rk_ge h0
        rw [he] at h1
        exact (ltK_false.1 h2) h1
  rcases cmpK_tri p.1 k with h | h | h
  · exact absurd h (ltK_false.1 hge)
  · exact absurd h hne
  · exact h
theorem putK_rises {ps : Prs} (h : Rises ps) (k : List Int) (v : Int) : Rises (putK ps k v) := by
  unfold putK Rises
  rw [List.pairwise_append]
  refine ⟨rises_take h _, ?_, ?_⟩
  · rw [List.pairwise_cons]
    exact ⟨fun p hp => mem_drop_rk h hp, rises_drop h _⟩
  · intro p hp q hq
    have h1 := mem_take_rk hp
    rw [List.mem_cons] at hq
    rcases hq with rfl | hq
    · exact h1
    · exact cmpK_trans h1 (mem_drop_rk h hq)
theorem dropK_rises {ps : Prs} (h : Rises ps) (k : List Int) : Rises (dropK ps k) := by
  unfold dropK Rises
  rw [List.pairwise_append]
  exact ⟨rises_take h _, rises_drop h _, fun p hp q hq => cmpK_trans (mem_take_rk hp) (mem_drop_rk h hq)⟩
theorem putK_mem {ps : Prs} {k : List Int} {v : Int} {p} (h : p ∈ putK ps k v) : p = (k, v) ∨ p ∈ ps := by
  unfold putK at h
  rw [List.mem_append, List.mem_cons] at h
  rcases h with h | h | h
  · exact Or.inr (List.mem_of_mem_take h)
  · exact Or.inl h
  · exact Or.inr (List.mem_of_mem_drop h)
theorem dropK_mem {ps : Prs} {k : List Int} {p} (h : p ∈ dropK ps k) : p ∈ ps := by
  unfold dropK at h
  rw [List.mem_append] at h
  rcases h with h | h
  · exact List.mem_of_mem_take h
  · exact List.mem_of_mem_drop h
theorem putK_length (ps : Prs) (k : List Int) (v : Int) : (putK ps k v).length = ps.length + if hasK ps k then 0 else 1 := by
  unfold putK
  have := rk_le ps k
  rw [List.length_append, List.length_cons, List.length_take, List.length_drop]
  by_cases h : hasK ps k = true
  · have := hasK_lt h
    simp only [h, if_true]; omega
  · simp only [h, Bool.false_eq_true, if_false]; omega
theorem dropK_length (ps : Prs) (k : List Int) : (dropK ps k).length = ps.length - if hasK ps k then 1 else 0 := by
  unfold dropK
  have := rk_le ps k
  rw [List.length_append, List.length_take, List.length_drop]
  by_cases h : hasK ps k = true
  · have := hasK_lt h
    simp only [h, if_true]; omega
  · simp only [h, Bool.false_eq_true, if_false]; omega
theorem putK_has {ps : Prs} {k : List Int} {v : Int} (h : hasK ps k = true) : putK ps k v = ps.set (rk ps k) (k, v) := by
  unfold putK
  rw [List.set_eq_take_append_cons_drop, if_pos (hasK_lt h)]
  simp [h]
theorem dropK_not {ps : Prs} {k : List Int} (h : hasK ps k = false) : dropK ps k = ps := by
  unfold dropK; simp [h]
end Go.Proofs.YtclnnkacfanaiaaDoor
