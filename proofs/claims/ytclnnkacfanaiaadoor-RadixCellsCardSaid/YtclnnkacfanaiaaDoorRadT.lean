/- The document reads the cells of a radix tree: a node. -/
import Derived.Test.YtclnnkacfanaiaaDoorRadR
namespace Go.Proofs.YtclnnkacfanaiaaDoor
open Go.RowKit
set_option linter.unusedVariables false
set_option linter.unusedSimpArgs false
open MaskA MaskP KidA KidB RadK
namespace RT
def deep : RT → Nat
  | nil => 0
  | leaf _ _ => 1
  | node _ _ _ f => ((bl f).map fun i => (f i).deep).foldl max 0 + 1
def belowD (f : Nat → RT) (j : Nat) : Nat := (((bl f).take j).map fun i => (f i).deep).foldl max 0
def belowP (f : Nat → RT) (j : Nat) : Prs := ((bl f).take j).flatMap fun i => (f i).prs
def lastI (f : Nat → RT) : Nat → Int
  | 0 => -1
  | j + 1 => (((bl f).getD j 0 : Nat) : Int)
theorem belowD_succ (f : Nat → RT) {j i : Nat} (h : (bl f)[j]? = some i) : belowD f (j + 1) = max (belowD f j) (f i).deep := by
  unfold belowD; rw [List.take_add_one, h]; simp
theorem belowP_succ (f : Nat → RT) {j i : Nat} (h : (bl f)[j]? = some i) : belowP f (j + 1) = belowP f j ++ (f i).prs := by
  unfold belowP; rw [List.take_add_one, h, List.flatMap_append]; simp
theorem belowP_length (f : Nat → RT) (j : Nat) : (belowP f j).length = belowN f j := rfl
theorem lastI_succ (f : Nat → RT) {j i : Nat} (h : (bl f)[j]? = some i) : lastI f (j + 1) = (i : Int) := by
  show (((bl f).getD j 0 : Nat) : Int) = _
  rw [List.getD_eq_getElem?_getD, h]; rfl
theorem bl_rises (f : Nat → RT) : (bl f).Pairwise (· < ·) := List.Pairwise.sublist List.filter_sublist List.pairwise_lt_range
theorem lastI_lt (f : Nat → RT) {j i : Nat} (h : (bl f)[j]? = some i) : lastI f j < (i : Int) := by
  cases j with
  | zero => show (-1 : Int) < _; omega
  | succ j =>
    have hl := (List.getElem?_eq_some_iff.1 h).1
    have hj : (bl f)[j]? = some (bl f)[j] := List.getElem?_eq_getElem (by omega)
    rw [lastI_succ f hj]
    have := List.pairwise_iff_getElem.1 (bl_rises f) j (j + 1) (by omega) hl (by omega)
    obtain ⟨_, e⟩ := List.getElem?_eq_some_iff.1 h
    rw [e] at this
    exact_mod_cast this
theorem prs_all (k : List Int) (o : Option Int) (kd : Nat) (f : Nat → RT) : (node k o kd f).prs = ownP k o ++ belowP f (cnt (hsT f) 256) := by
  rw [prs_node, flat_bl f prs rfl]
  unfold belowP
  rw [← bl_length, List.take_length]
theorem deep_all (k : List Int) (o : Option Int) (kd : Nat) (f : Nat → RT) : (node k o kd f).deep = belowD f (cnt (hsT f) 256) + 1 := by
  rw [deep]
  unfold belowD
  rw [← bl_length, List.take_length]
theorem max_le {l : List Nat} {B : Nat} : ∀ {a : Nat}, a ≤ B → (∀ x ∈ l, x ≤ B) → l.foldl max a ≤ B := by
  induction l with
  | nil => intro a h _; exact h
  | cons x l ih =>
    intro a h hl
    rw [List.foldl_cons]
    exact ih (Nat.max_le.2 ⟨h, hl x (by simp)⟩) (fun y hy => hl y (by simp [hy]))
theorem deep_le (T : RT) : T.deep ≤ T.CK.length := by
  induction T with
  | nil => simp [deep]
  | leaf k v => simp [deep, CK]
  | node k o kd f ih =>
    rw [deep, CK_below, List.length_cons]
    refine Nat.succ_le_succ (max_le (Nat.zero_le _) fun x hx => ?_)
    obtain ⟨i, hi, rfl⟩ := List.mem_map.1 hx
    have := (below_child (f := f) hi).1
    rw [← CK_length] at this
    exact Nat.le_trans (ih i) this
theorem belowD_le (f : Nat → RT) (j : Nat) : belowD f j ≤ (belowC f (cnt (hsT f) 256)).length := by
  unfold belowD
  refine max_le (Nat.zero_le _) fun x hx => ?_
  obtain ⟨i, hi, rfl⟩ := List.mem_map.1 hx
  have h1 := (below_child (f := f) (List.mem_of_mem_take hi)).1
  rw [← CK_length] at h1
  exact Nat.le_trans (deep_le _) h1
theorem CK_first {T : RT} (h : T.is = true) : ∃ c, T.CK[0]? = some c ∧ c.key = T.key := by
  cases T with
  | nil => simp [is] at h
  | leaf k v => exact ⟨_, rfl, rfl⟩
  | node k o kd f => rw [CK]; exact ⟨_, rfl, rfl⟩
theorem below_at {f : Nat → RT} {j i : Nat} (h : (bl f)[j]? = some i) : ∃ c, (belowC f (cnt (hsT f) 256))[(belowC f j).length]? = some c ∧ c.key = (f i).key := by
  have hi := bl_mem.1 (List.mem_of_getElem? h)
  obtain ⟨c, h1, h2⟩ := CK_first hi.2
  refine ⟨c, ?_, h2⟩
  have hl := (List.getElem?_eq_some_iff.1 h).1
  have e : belowC f (cnt (hsT f) 256) = belowC f (j + 1) ++ ((bl f).drop (j + 1)).flatMap fun i => (f i).CK := by
    unfold belowC
    rw [← bl_length, List.take_length, ← List.flatMap_append, List.take_append_drop]
  have hc := (List.getElem?_eq_some_iff.1 h1).1
  rw [e, belowC_succ f h, List.append_assoc, List.getElem?_append_right (Nat.le_refl _), Nat.sub_self, List.getElem?_append_left hc]
  exact h1
end RT
namespace RadT
open RadM RadG RadR

/-- behind the region that reads a child: what it told -/
def XSt (N : Nat) (wr : World) (s : Value) (W : World) (ps : Prs) (nx : Int) (d : Nat) : Prop :=
  ∃ bx a c, s = pt bx ∧ Cb W bx [.slice a ps.length c, .int .i64 nx, .int .i64 (d : Int), .bool true] ∧ ps.length ≤ c ∧ (a = none → c = 0) ∧ RN W N wr.heap.size (.slice a ps.length c) ps ∧ wr.heap.size ≤ bx ∧ bx < W.heap.size ∧ Ext wr W
theorem RN.less {w : World} {N L L' : Nat} {v : Value} {ps : Prs} (h : RN w N L v ps) (hL : L' ≤ L) : RN w N L' v ps := by
  obtain ⟨es, h1, h2, h3⟩ := h
  exact ⟨es, h1, h2.mono (fun b hb => Nat.le_trans hL hb), h3⟩
theorem RN.keep' {w w' : World} {N L : Nat} {v : Value} {ps : Prs} {S : Nat → Prop} (h : RN w N L v ps) (t : Touch S w w') (hS : ∀ b, S b → N ≤ b ∧ (b < L ∨ w.heap.size ≤ b)) : RN w' N L v ps := by
  obtain ⟨es, h1, ⟨a, cap, g1, g2, g3, g4, g5⟩, h3⟩ := h
  refine ⟨es, h1, ⟨a, cap, g1, g2, g3, g4, fun i e he => ?_⟩, fun e he => (h3 e he).keep t (fun b hb hs => by have := (hS b hs).1; omega)⟩
  obtain ⟨b, off, h6, h7, h8, h9⟩ := g5 i e he
  have hlt := World.block_lt_of_cell? _ _ h8
  have hn : ¬ S b := fun hs => by have := (hS b hs).2; simp only at hlt; omega
  exact ⟨b, off, h6, h7, keepc t hn h8, keepc t hn h9⟩
abbrev zr : List Value := [.slice none 0 0, .int .i64 0, .int .i64 0, .bool false]
theorem x_end {N : Nat} {wr wa wb : World} {bx : Nat} {a : Option Addr} {c d : Nat} {ps : Prs} {nx : Int} (hc : Cb wb bx zr) (t : Touch (fun b => b = bx) wa wb) (hbx : N ≤ bx ∧ wr.heap.size ≤ bx ∧ bx < wb.heap.size) (h1 : ps.length ≤ c) (h2 : a = none → c = 0) (L : Nat) (hL : wr.heap.size ≤ L) (h3 : RN wa N L (.slice a ps.length c) ps) (h4 : bx < L ∨ wa.heap.size ≤ bx) (x : Ext wr wa) :
    XSt N wr (pt bx) ((((wb.setCell ⟨bx, 0, none⟩ (.slice a ps.length c)).setCell ⟨bx, 1, none⟩ (.int .i64 nx)).setCell ⟨bx, 2, none⟩ (.int .i64 (d : Int))).setCell ⟨bx, 3, none⟩ (.bool true)) ps nx d := by
  have tz : Touch (fun b => b = bx) wb ((((wb.setCell ⟨bx, 0, none⟩ (.slice a ps.length c)).setCell ⟨bx, 1, none⟩ (.int .i64 nx)).setCell ⟨bx, 2, none⟩ (.int .i64 (d : Int))).setCell ⟨bx, 3, none⟩ (.bool true)) :=
    ((((Touch.refl (fun b => b = bx) wb).setCell (p := ⟨bx, 0, none⟩) (Or.inl rfl) _).setCell (p := ⟨bx, 1, none⟩) (Or.inl rfl) _).setCell (p := ⟨bx, 2, none⟩) (Or.inl rfl) _).setCell (p := ⟨bx, 3, none⟩) (Or.inl rfl) _
  have tt := t.trans' tz
  refine ⟨bx, a, c, rfl, (((hc.set 0 _).set 1 _).set 2 _).set 3 _, h1, h2, RN.less (RN.keep' h3 tt (fun b hb => ?_)) hL, hbx.2.1, Nat.lt_of_lt_of_le hbx.2.2 tz.size, x.ext_new tt (fun i hi => ?_)⟩
  · have hb : b = bx := hb
    subst hb; exact ⟨hbx.1, h4⟩
  · have hi : i = bx := hi
    rw [hi]; exact hbx.2.1
end RadT
end Go.Proofs.YtclnnkacfanaiaaDoor
