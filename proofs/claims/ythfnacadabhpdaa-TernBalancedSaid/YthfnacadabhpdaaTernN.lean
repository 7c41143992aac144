/- Plain laws: the cells of a ternary tree. -/
import Derived.Test.YthfnacadabhpdaaTernP
import Derived.Test.YthfnacadabhpdaaCellM
namespace Go.Proofs.Ythfnacadabhpdaa
set_option linter.unusedVariables false
set_option linter.unusedSimpArgs false
open ModP (cmpK_prefix)

def bAt (n : Nat) (p : List Int × Int) : Int := p.1.getD n 0
def nodeC (b : Int) (n : Nat) (count kids : Nat) (f : Bool) (v : Int) : Cl := ⟨4, n, count, kids, b, f, v, []⟩
def emptyC (v : Int) : Cl := ⟨3, 0, 1, 0, 0, false, v, []⟩
def kidsOf (l1 : List Prs) (ps : Prs) (l2 : List Prs) : Nat := (if l1.length = 0 then 0 else 1) + (if ps.length = 0 then 0 else 2) + (if l2.length = 0 then 0 else 4)
/-- groups: none is empty; each of one byte; the bytes rise -/
structure Good (n : Nat) (G : List Prs) : Prop where
  ne : ∀ g ∈ G, g ≠ []
  same : ∀ g ∈ G, ∀ p ∈ g, ∀ q ∈ g, bAt n p = bAt n q
  asc : G.Pairwise fun g h => ∀ p ∈ g, ∀ q ∈ h, bAt n p < bAt n q
/-- all keys are longer than a way, and begin with it -/
def On (way : List Int) (ps : Prs) : Prop := ∀ p ∈ ps, ∃ b r, p.1 = way ++ b :: r

theorem on_len {way : List Int} {ps : Prs} (h : On way ps) {p} (hp : p ∈ ps) : way.length < p.1.length := by obtain ⟨b, r, e⟩ := h p hp; rw [e]; simp
theorem on_at {way : List Int} {b : Int} {r : List Int} {p : List Int × Int} (h : p.1 = way ++ b :: r) : bAt way.length p = b := by
  unfold bAt; rw [h, List.getD_eq_getElem?_getD, List.getElem?_append_right (Nat.le_refl _)]; simp
theorem on_get {way : List Int} {ps : Prs} (h : On way ps) {p} (hp : p ∈ ps) : p.1[way.length]? = some (bAt way.length p) := by
  obtain ⟨b, r, e⟩ := h p hp
  rw [on_at e, e, List.getElem?_append_right (Nat.le_refl _)]; simp
theorem on_sub {way : List Int} {ps qs : Prs} (h : On way ps) (hs : ∀ q ∈ qs, q ∈ ps) : On way qs := fun q hq => h q (hs q hq)
theorem cmpK_way : ∀ (w a b : List Int), cmpK (w ++ a) (w ++ b) = cmpK a b
  | [], a, b => rfl
  | x :: w, a, b => by show cmpK (x :: (w ++ a)) (x :: (w ++ b)) = _; rw [cmpK_cons, cmpK_way w]
theorem comK_way : ∀ (w a b : List Int), comK (w ++ a) (w ++ b) = w.length + comK a b
  | [], a, b => by simp
  | x :: w, a, b => by show comK (x :: (w ++ a)) (x :: (w ++ b)) = _; rw [comK, if_pos rfl, comK_way w]; simp; omega
theorem byte_le {way : List Int} {p q : List Int × Int} {ps : Prs} (h : On way ps) (hp : p ∈ ps) (hq : q ∈ ps) (hlt : cmpK p.1 q.1 < 0) : bAt way.length p ≤ bAt way.length q := by
  obtain ⟨b, r, e⟩ := h p hp
  obtain ⟨c, s, f⟩ := h q hq
  rw [on_at e, on_at f]
  rw [e, f, cmpK_way] at hlt
  unfold cmpK at hlt
  rcases Int.lt_or_le c b with h1 | h1
  · rw [if_neg (by omega), if_pos h1] at hlt; omega
  · exact h1
theorem com_eq {way : List Int} {p q : List Int × Int} {ps : Prs} (h : On way ps) (hp : p ∈ ps) (hq : q ∈ ps) (hne : bAt way.length p ≠ bAt way.length q) : comK p.1 q.1 = way.length := by
  obtain ⟨b, r, e⟩ := h p hp
  obtain ⟨c, s, f⟩ := h q hq
  rw [on_at e, on_at f] at hne
  rw [e, f, comK_way, comK, if_neg hne]; rfl

theorem good_nil (n : Nat) : Good n [] := ⟨fun g h => by simp at h, fun g h => by simp at h, List.Pairwise.nil⟩
theorem mem_flat {G : List Prs} {g : Prs} {p} (hg : g ∈ G) (hp : p ∈ g) : p ∈ G.flatten := List.mem_flatten.2 ⟨g, hg, hp⟩
/-- the last pair stands in the last group -/
theorem last_group {n : Nat} {G : List Prs} (hG : Good n G) {ps : Prs} {i : Nat} (h : G.flatten = ps.take (i + 1)) {q} (hq : ps[i]? = some q) : ∃ G' g, G = G' ++ [g] ∧ q ∈ g := by
  have hi := (List.getElem?_eq_some_iff.1 hq).1
  rcases List.eq_nil_or_concat G with rfl | ⟨G', g, rfl⟩
  · have := congrArg List.length h; simp at this; omega
  · refine ⟨G', g, by simp, ?_⟩
    have hg := hG.ne g (by simp)
    rcases List.eq_nil_or_concat g with rfl | ⟨g', x, rfl⟩
    · exact absurd rfl hg
    · have h2 : ps.take (i + 1) = ps.take i ++ [q] := by rw [List.take_add_one, hq]; rfl
      rw [h2] at h
      simp only [List.concat_eq_append, List.flatten_append, List.flatten_cons, List.flatten_nil, List.append_nil, ← List.append_assoc] at h
      have := (List.append_inj' h rfl).2
      simp at this
      simp [this]
/-- a pair of a new byte -/
theorem good_new {way : List Int} {ps : Prs} {G : List Prs} (hG : Good way.length G) (hr : Rises ps) (hon : On way ps) {i : Nat} {p q} (h : G.flatten = ps.take (i + 1)) (hq : ps[i]? = some q) (hp : ps[i + 1]? = some p) (hne : bAt way.length q ≠ bAt way.length p) : Good way.length (G ++ [[p]]) := by
  refine ⟨fun g hg => ?_, fun g hg x hx y hy => ?_, ?_⟩
  · rcases List.mem_append.1 hg with h1 | h1
    · exact hG.ne g h1
    · simp at h1; subst h1; simp
  · rcases List.mem_append.1 hg with h1 | h1
    · exact hG.same g h1 x hx y hy
    · simp at h1; subst h1; simp at hx hy; rw [hx, hy]
  · rw [List.pairwise_append]
    refine ⟨hG.asc, List.pairwise_singleton _ _, fun g hg g' hg' x hx y hy => ?_⟩
    simp at hg'; subst hg'; simp at hy; subst hy
    have hxm := mem_flat hg hx
    rw [h] at hxm
    obtain ⟨j, hj⟩ := List.mem_iff_getElem?.1 hxm
    rw [List.getElem?_take] at hj
    split at hj
    · rename_i hji
      have hqm := List.mem_of_getElem? hq
      have hpm := List.mem_of_getElem? hp
      have hxm' := List.mem_of_getElem? hj
      have h1 : bAt way.length q ≤ bAt way.length y := byte_le hon hqm hpm (hr.get hq hp (by omega))
      have h2 : bAt way.length x ≤ bAt way.length q := by
        rcases Nat.eq_or_lt_of_le (Nat.le_of_lt_succ hji) with e | e
        · subst e; rw [hq] at hj; cases hj; exact Int.le_refl _
        · exact byte_le hon hxm' hqm (hr.get hj hq e)
      omega
    · cases hj
theorem good_one (n : Nat) (p) : Good n [[p]] := ⟨fun g hg => by simp at hg; subst hg; simp, fun g hg x hx y hy => by simp at hg; subst hg; simp at hx hy; rw [hx, hy], List.pairwise_singleton _ _⟩
/-- a pair of the same byte -/
theorem good_more {n : Nat} {G' : List Prs} {g : Prs} (hG : Good n (G' ++ [g])) {p q} (hq : q ∈ g) (he : bAt n q = bAt n p) : Good n (G' ++ [g ++ [p]]) := by
  have hgm : g ∈ G' ++ [g] := by simp
  have key : ∀ x ∈ g ++ [p], bAt n x = bAt n q := fun x hx => by
    rcases List.mem_append.1 hx with h | h
    · exact hG.same g hgm x h q hq
    · simp at h; subst h; exact he.symm
  refine ⟨fun h hh => ?_, fun h hh x hx y hy => ?_, ?_⟩
  · rcases List.mem_append.1 hh with h1 | h1
    · exact hG.ne h (by simp [h1])
    · simp at h1; subst h1; simp
  · rcases List.mem_append.1 hh with h1 | h1
    · exact hG.same h (by simp [h1]) x hx y hy
    · simp at h1; subst h1; rw [key x hx, key y hy]
  · have ha := hG.asc
    rw [List.pairwise_append] at ha ⊢
    refine ⟨ha.1, List.pairwise_singleton _ _, fun h hh h' hh' x hx y hy => ?_⟩
    simp at hh'; subst hh'
    rw [key y hy]
    exact ha.2.2 h hh g (by simp) x hx q hq

/-! ### the tree of groups -/
inductive TT : List Int → List Prs → Cls → Nat → Prop
  | nil (way : List Int) : TT way [] [] 0
  | node (way : List Int) (l1 l2 G2 : List Prs) (b : Int) (f : Bool) (v : Int) (ps : Prs) (cs1 cs2 cs3 : Cls) (d1 d2 d3 : Nat)
      (h1 : TT way l1 cs1 d1) (h2 : TT (way ++ [b]) G2 cs2 d2) (hG : G2.flatten = ps) (h3 : TT way l2 cs3 d3) (hf : f = true ∨ ps ≠ []) (hv : f = false → v = 0)
      (lo : ∀ p ∈ l1.flatten, bAt way.length p < b) (hi : ∀ p ∈ l2.flatten, b < bAt way.length p) (hb : 0 ≤ b ∧ b < 256) (bal : l1.length = (l1.length + 1 + l2.length) / 2)
      (on1 : On way l1.flatten) (on2 : On (way ++ [b]) ps) (on3 : On way l2.flatten) :
      TT way (l1 ++ ((if f then [(way ++ [b], v)] else []) ++ ps) :: l2) (nodeC b way.length (l1 ++ ((if f then [(way ++ [b], v)] else []) ++ ps) :: l2).flatten.length (kidsOf l1 ps l2) f v :: (cs1 ++ (cs2 ++ cs3))) (1 + max d1 (max d2 d3))

theorem TT.ne {way : List Int} {l : List Prs} {cs : Cls} {d : Nat} (h : TT way l cs d) (hl : l ≠ []) : cs ≠ [] := by cases h with | nil => exact absurd rfl hl | node => simp
theorem TT.nil_cs {way : List Int} {cs : Cls} {d : Nat} (h : TT way [] cs d) : cs = [] ∧ d = 0 := by
  generalize hl : ([] : List Prs) = l at h
  cases h with
  | nil => exact ⟨rfl, rfl⟩
  | node => simp at hl
theorem on_up {way : List Int} {b : Int} {ps : Prs} (h : On (way ++ [b]) ps) : On way ps := fun p hp => by
  obtain ⟨c, r, e⟩ := h p hp
  exact ⟨b, c :: r, by rw [e]; simp⟩
theorem on_mid {way : List Int} {b : Int} {f : Bool} {v : Int} {ps : Prs} (h : On (way ++ [b]) ps) : On way ((if f then [(way ++ [b], v)] else []) ++ ps) := fun p hp => by
  rcases List.mem_append.1 hp with h1 | h1
  · cases f <;> simp at h1
    subst h1
    exact ⟨b, [], rfl⟩
  · exact on_up h p h1
theorem mid_at {way : List Int} {b : Int} {f : Bool} {v : Int} {ps : Prs} (h : On (way ++ [b]) ps) {p} (hp : p ∈ (if f then [(way ++ [b], v)] else []) ++ ps) : bAt way.length p = b := by
  rcases List.mem_append.1 hp with h1 | h1
  · cases f <;> simp at h1
    subst h1
    exact on_at (r := []) rfl
  · obtain ⟨c, r, e⟩ := h p h1
    exact on_at (r := c :: r) (by rw [e]; simp)

/-! ### how many cells -/
def restA : List Int → Prs → Nat
  | _, [] => 0
  | q, p :: ps => (p.1.length - comK q p.1) + restA p.1 ps
def szA (n : Nat) : Prs → Nat
  | [] => 0
  | p :: ps => (p.1.length - n) + restA p.1 ps
theorem szA_append (n : Nat) : ∀ (A B : Prs), (∀ a ∈ A, ∀ b ∈ B, comK a.1 b.1 = n) → szA n (A ++ B) = szA n A + szA n B
  | [], B, _ => by simp [szA]
  | [a], [], _ => by simp [szA]
  | [a], b :: B, h => by simp [szA, restA, h a (by simp) b (by simp)]
  | a :: a' :: A, B, h => by
    have ih := szA_append n (a' :: A) B (fun x hx b hb => h x (by simp [List.mem_cons.1 hx]) b hb)
    simp only [List.cons_append, szA, restA] at ih ⊢
    omega
theorem TT.length {way : List Int} {l : List Prs} {cs : Cls} {d : Nat} (h : TT way l cs d) : cs.length = szA way.length l.flatten := by
  induction h with
  | nil way => rfl
  | node way l1 l2 G2 b f v ps cs1 cs2 cs3 d1 d2 d3 h1 h2 hG h3 hf hv lo hi hb bal on1 on2 on3 ih1 ih2 ih3 =>
    have onm := on_mid (f := f) (v := v) on2
    have hall : On way (l1.flatten ++ (((if f then [(way ++ [b], v)] else []) ++ ps) ++ l2.flatten)) := fun p hp => by
      rcases List.mem_append.1 hp with h | h
      · exact on1 p h
      · rcases List.mem_append.1 h with h | h
        · exact onm p h
        · exact on3 p h
    have e : (l1 ++ ((if f then [(way ++ [b], v)] else []) ++ ps) :: l2).flatten = l1.flatten ++ (((if f then [(way ++ [b], v)] else []) ++ ps) ++ l2.flatten) := by simp
    rw [e]
    rw [szA_append, szA_append]
    · rw [hG] at ih2
      have hm : szA way.length ((if f then [(way ++ [b], v)] else []) ++ ps) = 1 + szA (way ++ [b]).length ps := by
        cases f with
        | true =>
          cases ps with
          | nil => simp [szA, restA]
          | cons p ps =>
            obtain ⟨c, r, e⟩ := on2 p (by simp)
            have hc : comK (way ++ [b]) p.1 = way.length + 1 := by
              rw [e]
              have := comK_way (way ++ [b]) [] (c :: r)
              rw [List.append_nil] at this
              rw [this]; simp [comK]
            simp [szA, restA, hc]
        | false =>
          cases ps with
          | nil => simp at hf
          | cons p ps =>
            have := on_len on2 (p := p) (by simp)
            simp only [List.length_append, List.length_cons, List.length_nil] at this
            simp [szA]; omega
      rw [hm]
      simp only [List.length_cons, List.length_append] at ih2 ⊢
      omega
    · intro x hx y hy
      have h4 := mid_at on2 hx
      have h5 := hi y hy
      exact com_eq hall (by simp only [List.mem_append] at hx ⊢; rcases hx with h | h <;> simp [h]) (by simp [hy]) (by omega)
    · intro x hx y hy
      have h4 := lo x hx
      refine com_eq hall (by simp [hx]) (by simp only [List.mem_append] at hy ⊢; exact Or.inr hy) ?_
      rcases List.mem_append.1 hy with h | h
      · have := mid_at on2 h; omega
      · have := hi y h; omega
theorem restA_le : ∀ (ps : Prs) (q : List Int), restA q ps ≤ (ps.map fun p => p.1.length).sum
  | [], q => by simp [restA]
  | p :: ps, q => by have := restA_le ps p.1; simp only [restA, List.map_cons, List.sum_cons]; omega
theorem szA_le (n : Nat) (ps : Prs) : szA n ps ≤ (ps.map fun p => p.1.length).sum := by
  cases ps with
  | nil => simp [szA]
  | cons p ps => have := restA_le ps p.1; simp only [szA, List.map_cons, List.sum_cons]; omega
theorem restA_T : ∀ (ps : Prs) (q : List Int), (∀ p ∈ ps, p.1 ≠ []) → szT (some q) ps = restA q ps
  | [], q, _ => rfl
  | p :: ps, q, h => by
    have h1 := restA_T ps p.1 (fun x hx => h x (by simp [hx]))
    have h2 := h p (by simp)
    simp [szT, restA, ownT, h2, h1]
theorem szA_none (ps : Prs) (h : ∀ p ∈ ps, p.1 ≠ []) : szK ps = szA 0 ps := by
  unfold szK
  cases ps with
  | nil => rfl
  | cons p ps =>
    have h2 := h p (by simp)
    simp [szT, szA, ownT, h2, restA_T ps p.1 (fun x hx => h x (by simp [hx]))]
theorem szA_some (v : Int) (ps : Prs) (h : ∀ p ∈ ps, p.1 ≠ []) : szK (([], v) :: ps) = 1 + szA 0 ps := by
  unfold szK
  cases ps with
  | nil => simp [szT, szA, ownT]
  | cons p ps =>
    have h2 := h p (by simp)
    simp [szT, szA, ownT, h2, restA_T ps p.1 (fun x hx => h x (by simp [hx])), comK]

/-! ### how far a walk may go -/
def mP (n : Nat) (ps : Prs) : Nat := (ps.map fun p => p.1.length - n).sum
theorem mP_append (n : Nat) (A B : Prs) : mP n (A ++ B) = mP n A + mP n B := by simp [mP]
theorem mP_cons (n : Nat) (p) (A : Prs) : mP n (p :: A) = p.1.length - n + mP n A := by simp [mP]
theorem mP_pos {way : List Int} {ps : Prs} (h : On way ps) : ps.length ≤ mP way.length ps := by
  induction ps with
  | nil => simp
  | cons p ps ih =>
    have h1 := ih (on_sub h (fun q hq => by simp [hq]))
    have h2 := on_len h (p := p) (by simp)
    rw [mP_cons, List.length_cons]; omega
theorem mP_up {way : List Int} {ps : Prs} (h : On way ps) : mP (way.length + 1) ps + ps.length ≤ mP way.length ps := by
  induction ps with
  | nil => simp [mP]
  | cons p ps ih =>
    have h1 := ih (on_sub h (fun q hq => by simp [hq]))
    have h2 := on_len h (p := p) (by simp)
    rw [mP_cons, mP_cons, List.length_cons]; omega
theorem mP_bound (n : Nat) (ps : Prs) (L : Nat) (h : ∀ p ∈ ps, p.1.length ≤ L) : mP n ps ≤ ps.length * L := by
  induction ps with
  | nil => simp [mP]
  | cons p ps ih =>
    have h1 := ih (fun q hq => h q (by simp [hq]))
    have h2 := h p (by simp)
    rw [mP_cons, List.length_cons, Nat.add_mul]; omega
theorem sum_bound' (ps : Prs) (L : Nat) (h : ∀ p ∈ ps, p.1.length ≤ L) : (ps.map fun p => p.1.length).sum ≤ ps.length * L := by
  have := mP_bound 0 ps L h
  simpa [mP] using this

/-! ### the middle group -/
theorem split_mid {α : Type} (l : List α) (n : Nat) (hn : n < l.length) (g : α) (hg : l[n]? = some g) : l = l.take n ++ g :: l.drop (n + 1) := by
  conv => lhs; rw [← List.take_append_drop n l]
  rw [List.drop_eq_getElem_cons hn]
  rw [List.getElem?_eq_getElem hn] at hg
  rw [Option.some.inj hg]
theorem Good.parts {n : Nat} {l1 l2 : List Prs} {g : Prs} (h : Good n (l1 ++ g :: l2)) : Good n l1 ∧ Good n l2 ∧ g ≠ [] ∧ (∀ p ∈ g, ∀ q ∈ g, bAt n p = bAt n q) ∧ (∀ x ∈ l1.flatten, ∀ p ∈ g, bAt n x < bAt n p) ∧ (∀ x ∈ l2.flatten, ∀ p ∈ g, bAt n p < bAt n x) := by
  have ha := h.asc
  rw [List.pairwise_append, List.pairwise_cons] at ha
  refine ⟨⟨fun x hx => h.ne x (by simp [hx]), fun x hx => h.same x (by simp [hx]), ha.1⟩, ⟨fun x hx => h.ne x (by simp [hx]), fun x hx => h.same x (by simp [hx]), ha.2.1.2⟩, h.ne g (by simp), h.same g (by simp), fun x hx p hp => ?_, fun x hx p hp => ?_⟩
  · obtain ⟨k, hk, hxk⟩ := List.mem_flatten.1 hx
    exact ha.2.2 k hk g (by simp) x hxk p hp
  · obtain ⟨k, hk, hxk⟩ := List.mem_flatten.1 hx
    exact ha.2.1.1 k hk p hp x hxk
theorem flat_parts (l1 : List Prs) (g : Prs) (l2 : List Prs) : (l1 ++ g :: l2).flatten = l1.flatten ++ (g ++ l2.flatten) := by simp
/-- the first pair of a group is the whole way, or no pair is -/
theorem mid_full {way : List Int} {p : List Int × Int} {g : Prs} (hr : Rises (p :: g)) (hon : On way (p :: g)) (hs : ∀ x ∈ p :: g, bAt way.length x = bAt way.length p) :
    (p.1.length = way.length + 1 → p.1 = way ++ [bAt way.length p] ∧ On (way ++ [bAt way.length p]) g) ∧ (p.1.length ≠ way.length + 1 → On (way ++ [bAt way.length p]) (p :: g)) := by
  have key : ∀ x ∈ p :: g, ∃ r, x.1 = way ++ bAt way.length p :: r := fun x hx => by
    obtain ⟨c, r, e⟩ := hon x hx
    have := hs x hx
    rw [on_at e] at this
    exact ⟨r, by rw [e, this]⟩
  obtain ⟨rp, ep⟩ := key p (by simp)
  have hlt : ∀ x ∈ g, cmpK p.1 x.1 < 0 := (List.pairwise_cons.1 hr).1
  constructor
  · intro hl
    have h9 : rp.length = 0 := by rw [ep] at hl; simp only [List.length_append, List.length_cons] at hl; omega
    have : rp = [] := List.eq_nil_of_length_eq_zero h9
    subst this
    refine ⟨ep, fun x hx => ?_⟩
    obtain ⟨r, e⟩ := key x (by simp [hx])
    cases r with
    | nil =>
      have := hlt x hx
      rw [ep, e, cmpK_iff.2 rfl] at this; omega
    | cons c r => exact ⟨c, r, by rw [e]; simp⟩
  · intro hl x hx
    obtain ⟨r, e⟩ := key x hx
    cases r with
    | cons c r => exact ⟨c, r, by rw [e]; simp⟩
    | nil =>
      exfalso
      rcases List.mem_cons.1 hx with rfl | hx
      · rw [e] at hl; simp at hl
      · have h1 := hlt x hx
        rw [e, ep, cmpK_way, cmpK_cons] at h1
        cases rp with
        | nil => rw [ep] at hl; simp at hl
        | cons c r => simp [cmpK] at h1
end Go.Proofs.Ythfnacadabhpdaa
