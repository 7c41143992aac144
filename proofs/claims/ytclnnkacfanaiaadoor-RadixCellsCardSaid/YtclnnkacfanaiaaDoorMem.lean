/- Keys, pairs, and rows of them in memory. General words. -/
import Derived.Test.YtclnnkacfanaiaaDoorBase
import Derived.Maps.AppendAt
import Derived.Laws.OwnMore
import Derived.Laws.BytesArg
import Derived.Lib.AppendZeros
namespace Go.Proofs.YtclnnkacfanaiaaDoor
open Go.RowKit
set_option linter.unusedVariables false
set_option linter.unusedSimpArgs false

abbrev Prs := List (List Int × Int)
abbrev El := Value × (List Int × Int)
abbrev Ext (w w' : World) : Prop := Touch (fun _ => False) w w'
def KB (k : List Int) : Prop := ∀ x ∈ k, 0 ≤ x ∧ x < 256
def Ge (n : Nat) : Nat → Prop := fun b => n ≤ b

theorem Touch.none_to {S : Nat → Prop} {a b : World} (h : Ext a b) : Touch S a b := h.mono fun _ h => h.elim
theorem Touch.trans_ext {S : Nat → Prop} {a b c : World} (h : Touch S a b) (k : Ext b c) : Touch S a c := h.trans k fun _ h _ => h.elim
theorem Touch.ext_trans {S : Nat → Prop} {a b c : World} (h : Ext a b) (k : Touch S b c) : Touch S a c := h.none_to.trans' k
/-- what is touched lies behind a's heap -/
theorem Touch.ext_new {S : Nat → Prop} {a b c : World} (h : Ext a b) (k : Touch S b c) (hs : ∀ i, S i → a.heap.size ≤ i) : Ext a c := h.trans k fun i hi hlt => by have := hs i hi; omega
theorem Touch.new {S : Nat → Prop} {a b : World} (k : Touch S a b) (hs : ∀ i, S i → a.heap.size ≤ i) : Ext a b := k.mono fun i hi hlt => by have := hs i hi; omega

theorem add_at (b o n : Nat) : (⟨b, o, none⟩ : Addr).add n = ⟨b, o + n, none⟩ := by unfold Addr.add; split <;> simp_all

/-! ### A slice of bytes that can be read -/
def RB (w : World) (F : Nat → Prop) (v : Value) (k : List Int) : Prop :=
  ∃ a cap, v = .slice a k.length cap ∧ k.length ≤ cap ∧ cap ≤ maxLen ∧ (a = none → cap = 0) ∧
    ∀ i, (h : i < k.length) → ∃ b off, a = some ⟨b, off, none⟩ ∧ F b ∧ w.cell? ⟨b, off + i, none⟩ = some (.int .u8 k[i])

namespace RB
variable {w w' : World} {F G S : Nat → Prop} {v : Value} {k : List Int}
theorem nil (w : World) (F : Nat → Prop) : RB w F (.slice none 0 0) [] := ⟨none, 0, rfl, by simp, by simp, fun _ => rfl, fun i h => by simp at h⟩
theorem empty (w : World) (F : Nat → Prop) (a : Option Addr) (c : Nat) (hc : c ≤ maxLen) (hn : a = none → c = 0) : RB w F (.slice a 0 c) [] := ⟨a, c, rfl, by simp, hc, hn, fun i h => by simp at h⟩
theorem shape (h : RB w F v k) : ∃ a cap, v = .slice a k.length cap ∧ k.length ≤ cap ∧ cap ≤ maxLen ∧ (a = none → cap = 0) := by
  obtain ⟨a, cap, h1, h2, h3, h4, _⟩ := h; exact ⟨a, cap, h1, h2, h3, h4⟩
theorem mono (h : RB w F v k) (hs : ∀ b, F b → G b) : RB w G v k := by
  obtain ⟨a, cap, h1, h2, h3, h4, h5⟩ := h
  refine ⟨a, cap, h1, h2, h3, h4, fun i hi => ?_⟩
  obtain ⟨b, off, h6, h7, h8⟩ := h5 i hi
  exact ⟨b, off, h6, hs b h7, h8⟩
theorem keep (h : RB w F v k) (t : Touch S w w') (hd : ∀ b, F b → ¬ S b) : RB w' F v k := by
  obtain ⟨a, cap, h1, h2, h3, h4, h5⟩ := h
  refine ⟨a, cap, h1, h2, h3, h4, fun i hi => ?_⟩
  obtain ⟨b, off, h6, h7, h8⟩ := h5 i hi
  exact ⟨b, off, h6, h7, keepc t (hd b h7) h8⟩
theorem ext (h : RB w F v k) (t : Ext w w') : RB w' F v k := h.keep t fun _ _ h => h
theorem addr {a : Option Addr} {n cap : Nat} (h : RB w F (.slice a n cap) k) (hn : 0 < k.length) : ∃ b off, a = some ⟨b, off, none⟩ ∧ F b := by
  obtain ⟨a', cap', h1, _, _, _, h5⟩ := h
  simp only [Value.slice.injEq] at h1
  obtain ⟨rfl, _, _⟩ := h1
  obtain ⟨b, off, h6, h7, _⟩ := h5 0 hn
  exact ⟨b, off, h6, h7⟩
theorem cell {b off n cap : Nat} (h : RB w F (.slice (some ⟨b, off, none⟩) n cap) k) (i : Nat) (hi : i < k.length) : w.cell? ⟨b, off + i, none⟩ = some (.int .u8 k[i]) := by
  obtain ⟨a', cap', h1, _, _, _, h5⟩ := h
  simp only [Value.slice.injEq] at h1
  obtain ⟨rfl, _, _⟩ := h1
  obtain ⟨b', off', h6, _, h7⟩ := h5 i hi
  simp only [Option.some.injEq, Addr.mk.injEq, and_true] at h6
  obtain ⟨rfl, rfl⟩ := h6
  exact h7
theorem reads (h : RB w F v k) : Reads w v (ivs .u8 k) := by
  obtain ⟨a, cap, rfl, h2, h3, _, h5⟩ := h
  refine ⟨a, cap, by simp [ivs], by simpa [ivs] using h2, h3, fun i hi => ?_⟩
  have hi' : i < k.length := by simpa [ivs] using hi
  obtain ⟨b, off, h6, h7, h8⟩ := h5 i hi'
  exact ⟨b, off, h6, World.block_lt_of_cell? _ _ h8, by simpa [ivs] using h8⟩
theorem len {a : Option Addr} {n cap : Nat} (h : RB w F (.slice a n cap) k) : n = k.length ∧ n ≤ cap ∧ cap ≤ maxLen ∧ (a = none → cap = 0) := by
  obtain ⟨a', cap', h1, h2, h3, h4, h5⟩ := h
  simp only [Value.slice.injEq] at h1
  obtain ⟨rfl, rfl, rfl⟩ := h1
  exact ⟨rfl, h2, h3, h4⟩
/-- s[:m] -/
theorem take {a : Option Addr} {n cap : Nat} (h : RB w F (.slice a n cap) k) (m : Nat) (hm : m ≤ k.length) : RB w F (.slice a m cap) (k.take m) := by
  obtain ⟨a', cap', h1, h2, h3, h4, h5⟩ := h
  simp only [Value.slice.injEq] at h1
  obtain ⟨rfl, rfl, rfl⟩ := h1
  have hl : (k.take m).length = m := by simp; omega
  refine ⟨a, cap, by rw [hl], by omega, h3, h4, fun i hi => ?_⟩
  obtain ⟨b, off, h6, h7, h8⟩ := h5 i (by omega)
  exact ⟨b, off, h6, h7, by rw [List.getElem_take]; exact h8⟩
/-- s[m:] -/
theorem drop {b off n cap : Nat} (h : RB w F (.slice (some ⟨b, off, none⟩) n cap) k) (m : Nat) (hm : m ≤ k.length) : RB w F (.slice (some ⟨b, off + m, none⟩) (n - m) (cap - m)) (k.drop m) := by
  obtain ⟨a', cap', h1, h2, h3, h4, h5⟩ := h
  simp only [Value.slice.injEq] at h1
  obtain ⟨rfl, rfl, rfl⟩ := h1
  have hl : (k.drop m).length = k.length - m := by simp
  refine ⟨_, _, by rw [hl], by omega, by omega, (fun h => by cases h), fun i hi => ?_⟩
  obtain ⟨b', off', h6, h7, h8⟩ := h5 (m + i) (by omega)
  simp only [Option.some.injEq, Addr.mk.injEq, and_true] at h6
  obtain ⟨rfl, rfl⟩ := h6
  exact ⟨b, off + m, rfl, h7, by rw [List.getElem_drop, Nat.add_assoc]; exact h8⟩
end RB

/-! ### Bytes that are one's own -/
def OB (w : World) (F : Nat → Prop) (v : Value) (k : List Int) : Prop := w.ownsRow 0 5 1 v k.length (ivs .u8 k) ∧ ∀ b, v.ownBlock = some b → F b

namespace OB
variable {w w' : World} {F G S : Nat → Prop} {v : Value} {k : List Int}
theorem nil (w : World) (F : Nat → Prop) : OB w F (.slice none 0 0) [] := ⟨World.ownsRow_nil _ _ _ _, fun b h => by cases h⟩
theorem mono (h : OB w F v k) (hs : ∀ b, F b → G b) : OB w G v k := ⟨h.1, fun b hb => hs b (h.2 b hb)⟩
theorem keep (h : OB w F v k) (t : Touch S w w') (hd : ∀ b, F b → ¬ S b) : OB w' F v k := ⟨own_keep h.1 t fun b hb => hd b (h.2 b hb), h.2⟩
theorem keep' (h : OB w F v k) (t : Touch S w w') (hd : ∀ b, v.ownBlock = some b → ¬ S b) : OB w' F v k := ⟨own_keep h.1 t hd, h.2⟩
theorem ext (h : OB w F v k) (t : Ext w w') : OB w' F v k := h.keep t fun _ _ h => h
theorem shape (h : OB w F v k) : ∃ a cap, v = .slice a k.length cap := own_len h.1
theorem lt (h : OB w F v k) : ∀ b, v.ownBlock = some b → b < w.heap.size := fun b hb => (h.1.lt b hb).2
theorem rb (h : OB w F v k) : RB w F v k := by
  obtain ⟨h1, h2⟩ := h
  have hh := h1
  rcases h1.2 with ⟨rfl, h0⟩ | ⟨g, cap, cur, rfl, _, _, h3, h4, _⟩
  · obtain rfl := List.eq_nil_of_length_eq_zero h0
    exact RB.nil w F
  · refine ⟨_, cap, rfl, h3, h4, (fun h => by cases h), fun i hi => ⟨g, 0, rfl, h2 g rfl, ?_⟩⟩
    rw [Nat.zero_add, hh.cellAt i (by omega)]
    simp [ivs, hi]
end OB

/-! ### Rows of pairs -/
def flat (es : List El) : List Value := es.flatMap fun e => [e.1, .int .u64 e.2.2]
@[simp] theorem flat_nil : flat [] = [] := rfl
theorem flat_cons (e : El) (es : List El) : flat (e :: es) = e.1 :: .int .u64 e.2.2 :: flat es := rfl
theorem flat_append (a b : List El) : flat (a ++ b) = flat a ++ flat b := by simp [flat, List.flatMap_append]
theorem flat_one (e : El) : flat [e] = [e.1, .int .u64 e.2.2] := rfl
theorem flat_length (es : List El) : (flat es).length = es.length * 2 := by
  induction es with
  | nil => rfl
  | cons e es ih => rw [flat_cons]; simp only [List.length_cons, ih]; omega
theorem flat_get0 : ∀ (es : List El) (i : Nat) (e : El), es[i]? = some e → (flat es)[i * 2]? = some e.1
  | [], i, e, h => by simp at h
  | x :: es, 0, e, h => by simp at h; subst h; rfl
  | x :: es, i + 1, e, h => by
    rw [flat_cons, show (i + 1) * 2 = i * 2 + 1 + 1 by omega, List.getElem?_cons_succ, List.getElem?_cons_succ]
    exact flat_get0 es i e (by simpa using h)
theorem flat_get1 : ∀ (es : List El) (i : Nat) (e : El), es[i]? = some e → (flat es)[i * 2 + 1]? = some (.int .u64 e.2.2)
  | [], i, e, h => by simp at h
  | x :: es, 0, e, h => by simp at h; subst h; rfl
  | x :: es, i + 1, e, h => by
    rw [flat_cons, show (i + 1) * 2 + 1 = i * 2 + 1 + 1 + 1 by omega, List.getElem?_cons_succ, List.getElem?_cons_succ]
    exact flat_get1 es i e (by simpa using h)
theorem flat_take (es : List El) (n : Nat) : flat (es.take n) = (flat es).take (n * 2) := by
  induction es generalizing n with
  | nil => simp [flat]
  | cons e es ih =>
    cases n with
    | zero => simp
    | succ n => rw [show (n + 1) * 2 = n * 2 + 1 + 1 by omega, List.take_succ_cons, flat_cons, flat_cons, List.take_succ_cons, List.take_succ_cons, ih]
theorem flat_drop (es : List El) (n : Nat) : flat (es.drop n) = (flat es).drop (n * 2) := by
  induction es generalizing n with
  | nil => simp [flat]
  | cons e es ih =>
    cases n with
    | zero => simp
    | succ n => rw [show (n + 1) * 2 = n * 2 + 1 + 1 by omega, List.drop_succ_cons, flat_cons, List.drop_succ_cons, List.drop_succ_cons, ih]
theorem flat_one_cell (es : List El) (h : ∀ e ∈ es, e.1.oneCell' = true) : ∀ u ∈ flat es, u.oneCell' = true := by
  intro u hu
  simp only [flat, List.mem_flatMap] at hu
  obtain ⟨e, he, hu⟩ := hu
  simp at hu
  rcases hu with rfl | rfl
  · exact h e he
  · rfl

/-- a slice of pairs whose cells are known -/
def Cells2 (w : World) (F : Nat → Prop) (v : Value) (es : List El) : Prop :=
  ∃ a cap, v = .slice a es.length cap ∧ es.length ≤ cap ∧ cap ≤ maxLen ∧ (a = none → cap = 0) ∧
    ∀ i e, es[i]? = some e → ∃ b off, a = some ⟨b, off, none⟩ ∧ F b ∧ w.cell? ⟨b, off + i * 2, none⟩ = some e.1 ∧ w.cell? ⟨b, off + i * 2 + 1, none⟩ = some (.int .u64 e.2.2)

namespace Cells2
variable {w w' : World} {F G S : Nat → Prop} {v : Value} {es : List El}
theorem nil (w : World) (F : Nat → Prop) : Cells2 w F (.slice none 0 0) [] := ⟨none, 0, rfl, by simp, by simp, fun _ => rfl, fun i e h => by simp at h⟩
theorem shape (h : Cells2 w F v es) : ∃ a cap, v = .slice a es.length cap ∧ es.length ≤ cap ∧ cap ≤ maxLen ∧ (a = none → cap = 0) := by
  obtain ⟨a, cap, h1, h2, h3, h4, _⟩ := h; exact ⟨a, cap, h1, h2, h3, h4⟩
theorem mono (h : Cells2 w F v es) (hs : ∀ b, F b → G b) : Cells2 w G v es := by
  obtain ⟨a, cap, h1, h2, h3, h4, h5⟩ := h
  refine ⟨a, cap, h1, h2, h3, h4, fun i e hi => ?_⟩
  obtain ⟨b, off, h6, h7, h8⟩ := h5 i e hi
  exact ⟨b, off, h6, hs b h7, h8⟩
theorem keep (h : Cells2 w F v es) (t : Touch S w w') (hd : ∀ b, F b → ¬ S b) : Cells2 w' F v es := by
  obtain ⟨a, cap, h1, h2, h3, h4, h5⟩ := h
  refine ⟨a, cap, h1, h2, h3, h4, fun i e hi => ?_⟩
  obtain ⟨b, off, h6, h7, h8, h9⟩ := h5 i e hi
  exact ⟨b, off, h6, h7, keepc t (hd b h7) h8, keepc t (hd b h7) h9⟩
theorem ext (h : Cells2 w F v es) (t : Ext w w') : Cells2 w' F v es := h.keep t fun _ _ h => h
theorem addr {a : Option Addr} {n cap : Nat} (h : Cells2 w F (.slice a n cap) es) (hn : 0 < es.length) : ∃ b off, a = some ⟨b, off, none⟩ ∧ F b := by
  obtain ⟨a', cap', h1, _, _, _, h5⟩ := h
  simp only [Value.slice.injEq] at h1
  obtain ⟨rfl, _, _⟩ := h1
  obtain ⟨b, off, h6, h7, _⟩ := h5 0 _ (List.getElem?_eq_getElem hn)
  exact ⟨b, off, h6, h7⟩
theorem cell {b off n cap : Nat} (h : Cells2 w F (.slice (some ⟨b, off, none⟩) n cap) es) (i : Nat) (e : El) (hi : es[i]? = some e) :
    w.cell? ⟨b, off + i * 2, none⟩ = some e.1 ∧ w.cell? ⟨b, off + i * 2 + 1, none⟩ = some (.int .u64 e.2.2) := by
  obtain ⟨a', cap', h1, _, _, _, h5⟩ := h
  simp only [Value.slice.injEq] at h1
  obtain ⟨rfl, _, _⟩ := h1
  obtain ⟨b', off', h6, _, h7⟩ := h5 i e hi
  simp only [Option.some.injEq, Addr.mk.injEq, and_true] at h6
  obtain ⟨rfl, rfl⟩ := h6
  exact h7
theorem len {a : Option Addr} {n cap : Nat} (h : Cells2 w F (.slice a n cap) es) : n = es.length ∧ n ≤ cap ∧ cap ≤ maxLen ∧ (a = none → cap = 0) := by
  obtain ⟨a', cap', h1, h2, h3, h4, h5⟩ := h
  simp only [Value.slice.injEq] at h1
  obtain ⟨rfl, rfl, rfl⟩ := h1
  exact ⟨rfl, h2, h3, h4⟩
theorem take {a : Option Addr} {n cap : Nat} (h : Cells2 w F (.slice a n cap) es) (m : Nat) (hm : m ≤ es.length) : Cells2 w F (.slice a m cap) (es.take m) := by
  obtain ⟨a', cap', h1, h2, h3, h4, h5⟩ := h
  simp only [Value.slice.injEq] at h1
  obtain ⟨rfl, rfl, rfl⟩ := h1
  have hl : (es.take m).length = m := by simp; omega
  refine ⟨a, cap, by rw [hl], by omega, h3, h4, fun i e hi => h5 i e ?_⟩
  rw [List.getElem?_take] at hi
  split at hi
  · exact hi
  · cases hi
theorem drop {b off n cap : Nat} (h : Cells2 w F (.slice (some ⟨b, off, none⟩) n cap) es) (m : Nat) (hm : m ≤ es.length) : Cells2 w F (.slice (some ⟨b, off + m * 2, none⟩) (n - m) (cap - m)) (es.drop m) := by
  obtain ⟨a', cap', h1, h2, h3, h4, h5⟩ := h
  simp only [Value.slice.injEq] at h1
  obtain ⟨rfl, rfl, rfl⟩ := h1
  have hl : (es.drop m).length = es.length - m := by simp
  refine ⟨_, _, by rw [hl], by omega, by omega, (fun h => by cases h), fun i e hi => ?_⟩
  rw [List.getElem?_drop] at hi
  obtain ⟨b', off', h6, h7, h8, h9⟩ := h5 _ _ hi
  simp only [Option.some.injEq, Addr.mk.injEq, and_true] at h6
  obtain ⟨rfl, rfl⟩ := h6
  refine ⟨b, off + m * 2, rfl, h7, ?_, ?_⟩
  · rw [show off + m * 2 + i * 2 = off + (m + i) * 2 by omega]; exact h8
  · rw [show off + m * 2 + i * 2 = off + (m + i) * 2 by omega]; exact h9
/-- of an owned row -/
theorem of_own (h : w.ownsRow 0 33 2 v es.length (flat es)) (hF : ∀ b, v.ownBlock = some b → F b) : Cells2 w F v es := by
  have hh := h
  rcases h.2 with ⟨rfl, h0⟩ | ⟨g, cap, cur, rfl, _, _, h1, h2, _⟩
  · obtain rfl := List.eq_nil_of_length_eq_zero h0
    exact nil w F
  · refine ⟨_, cap, rfl, h1, h2, (fun h => by cases h), fun i e hi => ⟨g, 0, rfl, hF g rfl, ?_, ?_⟩⟩
    · have := (List.getElem?_eq_some_iff.1 hi).1
      rw [Nat.zero_add, hh.cellAt _ (by omega), flat_get0 _ _ _ hi]
    · have := (List.getElem?_eq_some_iff.1 hi).1
      rw [Nat.zero_add, hh.cellAt _ (by omega), flat_get1 _ _ _ hi]
end Cells2

/-- pairs that can be read -/
def RP (w : World) (F : Nat → Prop) (v : Value) (ps : Prs) : Prop := ∃ es : List El, es.map (·.2) = ps ∧ Cells2 w F v es ∧ ∀ e ∈ es, RB w F e.1 e.2.1
namespace RP
variable {w w' : World} {F G S : Nat → Prop} {v : Value} {ps : Prs}
theorem nil (w : World) (F : Nat → Prop) : RP w F (.slice none 0 0) [] := ⟨[], rfl, Cells2.nil w F, fun e h => by simp at h⟩
theorem mono (h : RP w F v ps) (hs : ∀ b, F b → G b) : RP w G v ps := by
  obtain ⟨es, h1, h2, h3⟩ := h; exact ⟨es, h1, h2.mono hs, fun e he => (h3 e he).mono hs⟩
theorem keep (h : RP w F v ps) (t : Touch S w w') (hd : ∀ b, F b → ¬ S b) : RP w' F v ps := by
  obtain ⟨es, h1, h2, h3⟩ := h; exact ⟨es, h1, h2.keep t hd, fun e he => (h3 e he).keep t hd⟩
theorem ext (h : RP w F v ps) (t : Ext w w') : RP w' F v ps := h.keep t fun _ _ h => h
theorem shape (h : RP w F v ps) : ∃ a cap, v = .slice a ps.length cap ∧ ps.length ≤ cap ∧ cap ≤ maxLen ∧ (a = none → cap = 0) := by
  obtain ⟨es, rfl, h2, _⟩ := h
  obtain ⟨a, cap, h⟩ := h2.shape
  exact ⟨a, cap, by simpa using h⟩
/-- the i-th -/
theorem get {b off n cap : Nat} (h : RP w F (.slice (some ⟨b, off, none⟩) n cap) ps) (i : Nat) (p : List Int × Int) (hi : ps[i]? = some p) :
    ∃ kv, w.cell? ⟨b, off + i * 2, none⟩ = some kv ∧ w.cell? ⟨b, off + i * 2 + 1, none⟩ = some (.int .u64 p.2) ∧ RB w F kv p.1 := by
  obtain ⟨es, rfl, h2, h3⟩ := h
  rw [List.getElem?_map, Option.map_eq_some_iff] at hi
  obtain ⟨e, he, rfl⟩ := hi
  have := h2.cell i e he
  exact ⟨e.1, this.1, this.2, h3 e (List.mem_of_getElem? he)⟩
theorem addr {a : Option Addr} {n cap : Nat} (h : RP w F (.slice a n cap) ps) (hn : 0 < ps.length) : ∃ b off, a = some ⟨b, off, none⟩ ∧ F b := by
  obtain ⟨es, rfl, h2, h3⟩ := h
  exact h2.addr (by simpa using hn)
theorem len {a : Option Addr} {n cap : Nat} (h : RP w F (.slice a n cap) ps) : n = ps.length ∧ n ≤ cap ∧ cap ≤ maxLen ∧ (a = none → cap = 0) := by
  obtain ⟨es, rfl, h2, h3⟩ := h
  simpa using h2.len
theorem take {a : Option Addr} {n cap : Nat} (h : RP w F (.slice a n cap) ps) (m : Nat) (hm : m ≤ ps.length) : RP w F (.slice a m cap) (ps.take m) := by
  obtain ⟨es, rfl, h2, h3⟩ := h
  exact ⟨es.take m, by rw [List.map_take], h2.take m (by simpa using hm), fun e he => h3 e (List.mem_of_mem_take he)⟩
theorem drop {b off n cap : Nat} (h : RP w F (.slice (some ⟨b, off, none⟩) n cap) ps) (m : Nat) (hm : m ≤ ps.length) : RP w F (.slice (some ⟨b, off + m * 2, none⟩) (n - m) (cap - m)) (ps.drop m) := by
  obtain ⟨es, rfl, h2, h3⟩ := h
  exact ⟨es.drop m, by rw [List.map_drop], h2.drop m (by simpa using hm), fun e he => h3 e (List.mem_of_mem_drop he)⟩
end RP

/-- pairs that are one's own: the row, and each key in a block of its own -/
def OP (w : World) (F : Nat → Prop) (v : Value) (ps : Prs) : Prop :=
  ∃ es : List El, es.map (·.2) = ps ∧ w.ownsRow 0 33 2 v es.length (flat es) ∧ (∀ b, v.ownBlock = some b → F b) ∧
    (∀ e ∈ es, OB w (fun b => F b ∧ v.ownBlock ≠ some b) e.1 e.2.1) ∧ es.Pairwise fun e f => ∀ b, e.1.ownBlock = some b → f.1.ownBlock ≠ some b
namespace OP
variable {w w' : World} {F G S : Nat → Prop} {v : Value} {ps : Prs}
theorem nil (w : World) (F : Nat → Prop) : OP w F (.slice none 0 0) [] := ⟨[], rfl, World.ownsRow_nil _ _ _ _, (fun b h => by cases h), (fun e h => by simp at h), List.Pairwise.nil⟩
theorem mono (h : OP w F v ps) (hs : ∀ b, F b → G b) : OP w G v ps := by
  obtain ⟨es, h1, h2, h3, h4, h5⟩ := h; exact ⟨es, h1, h2, fun b hb => hs b (h3 b hb), fun e he => (h4 e he).mono fun b hb => ⟨hs b hb.1, hb.2⟩, h5⟩
theorem keep (h : OP w F v ps) (t : Touch S w w') (hd : ∀ b, F b → ¬ S b) : OP w' F v ps := by
  obtain ⟨es, h1, h2, h3, h4, h5⟩ := h
  exact ⟨es, h1, own_keep h2 t fun b hb => hd b (h3 b hb), h3, fun e he => (h4 e he).keep t fun b hb => hd b hb.1, h5⟩
theorem ext (h : OP w F v ps) (t : Ext w w') : OP w' F v ps := h.keep t fun _ _ h => h
theorem rp (h : OP w F v ps) : RP w F v ps := by
  obtain ⟨es, h1, h2, h3, h4, h5⟩ := h
  exact ⟨es, h1, Cells2.of_own h2 h3, fun e he => (h4 e he).rb.mono fun b hb => hb.1⟩
end OP

theorem op_append {wr w w' : World} {F : Nat → Prop} {v v' kv : Value} {es : List El} {k : List Int} {x : Int}
    (ho : wr.ownsRow 0 33 2 v es.length (flat es)) (hF : ∀ b, v.ownBlock = some b → F b) (hk : ∀ e ∈ es, OB wr (fun b => F b ∧ v.ownBlock ≠ some b) e.1 e.2.1)
    (hd : es.Pairwise fun e f => ∀ b, e.1.ownBlock = some b → f.1.ownBlock ≠ some b) (t1 : Ext wr w) (hkv : OB w (Ge wr.heap.size) kv k) (hFge : ∀ b, wr.heap.size ≤ b → F b)
    (hown : w'.ownsRow 0 33 2 v' (es.length + 1) (flat es ++ [kv, .int .u64 x])) (ht : Touch (fun b => v.ownBlock = some b) w w') (hb : v'.ownBlock = v.ownBlock ∨ v'.ownBlock = some w.heap.size) :
    OP w' F v' (es.map (·.2) ++ [(k, x)]) := by
  have hvlt : ∀ b, v.ownBlock = some b → b < wr.heap.size := fun b hb => (ho.lt b hb).2
  have helt : ∀ e ∈ es, ∀ b, e.1.ownBlock = some b → b < wr.heap.size := fun e he => (hk e he).lt
  have hsz := t1.size
  have hkvlt := hkv.lt
  refine ⟨es ++ [(kv, k, x)], by simp, ?_, ?_, ?_, ?_⟩
  · rw [flat_append, flat_one, List.length_append]; exact hown
  · intro b hb'
    rcases hb with h | h
    · exact hF b (h ▸ hb')
    · rw [h] at hb'; cases hb'; exact hFge _ hsz
  · intro e he
    have key : ∀ b, e.1.ownBlock = some b → v.ownBlock ≠ some b ∧ b < w.heap.size := by
      intro b hbe
      rw [List.mem_append, List.mem_singleton] at he
      rcases he with he | rfl
      · exact ⟨((hk e he).2 b hbe).2, Nat.lt_of_lt_of_le (helt e he b hbe) hsz⟩
      · refine ⟨fun h => ?_, hkvlt b hbe⟩
        have h1 := hvlt b h
        have h2 : wr.heap.size ≤ b := hkv.2 b hbe
        omega
    have hF' : ∀ b, e.1.ownBlock = some b → F b := by
      intro b hbe
      rw [List.mem_append, List.mem_singleton] at he
      rcases he with he | rfl
      · exact ((hk e he).2 b hbe).1
      · exact hFge b (hkv.2 b hbe)
    have hob : ∃ G, OB w G e.1 e.2.1 := by
      rw [List.mem_append, List.mem_singleton] at he
      rcases he with he | rfl
      · exact ⟨_, (hk e he).ext t1⟩
      · exact ⟨_, hkv⟩
    obtain ⟨G, hob⟩ := hob
    refine ⟨(hob.keep' ht fun b hb' => (key b hb').1).1, fun b hb' => ⟨hF' b hb', fun h => ?_⟩⟩
    rcases hb with hh | hh
    · exact (key b hb').1 (hh ▸ h)
    · rw [hh] at h; cases h; have := (key _ hb').2; omega
  · rw [List.pairwise_append]
    refine ⟨hd, List.pairwise_singleton _ _, fun e he f hf b hbe hbf => ?_⟩
    rw [List.mem_singleton] at hf
    subst hf
    have h1 := helt e he b hbe
    have h2 : wr.heap.size ≤ b := hkv.2 b hbf
    omega

/-! ### append onto a row of one's own, from whatever can be read -/
section
variable {P : Program}
/-- cells to be read -/
def Src (w : World) (a : Option Addr) (news : List Value) : Prop := ∀ j u, news[j]? = some u → ∃ b off, a = some ⟨b, off, none⟩ ∧ w.cell? ⟨b, off + j, none⟩ = some u
theorem RB.src {w : World} {F : Nat → Prop} {a : Option Addr} {n cap : Nat} {k : List Int} (h : RB w F (.slice a n cap) k) : Src w a (ivs .u8 k) := by
  intro j u hj
  obtain ⟨a', cap', h1, _, _, _, h5⟩ := h
  simp only [Value.slice.injEq] at h1
  obtain ⟨rfl, _, _⟩ := h1
  obtain ⟨hlt, rfl⟩ := List.getElem?_eq_some_iff.1 hj
  have hlt' : j < k.length := by simpa [ivs] using hlt
  obtain ⟨b, off, h6, _, h8⟩ := h5 j hlt'
  exact ⟨b, off, h6, by simpa [ivs] using h8⟩
theorem flat_get (es : List El) (j : Nat) (u : Value) (h : (flat es)[j]? = some u) : ∃ i e, es[i]? = some e ∧ ((j = i * 2 ∧ u = e.1) ∨ (j = i * 2 + 1 ∧ u = .int .u64 e.2.2)) := by
  have hlt := (List.getElem?_eq_some_iff.1 h).1
  rw [flat_length] at hlt
  have hi : j / 2 < es.length := by omega
  have he : es[j / 2]? = some es[j / 2] := List.getElem?_eq_getElem hi
  refine ⟨j / 2, _, he, ?_⟩
  rcases Nat.mod_two_eq_zero_or_one j with h2 | h2
  · refine Or.inl ⟨by omega, ?_⟩
    have := flat_get0 es _ _ he
    rw [show j / 2 * 2 = j by omega, h] at this
    exact Option.some.inj this
  · refine Or.inr ⟨by omega, ?_⟩
    have := flat_get1 es _ _ he
    rw [show j / 2 * 2 + 1 = j by omega, h] at this
    exact Option.some.inj this
theorem Cells2.src {w : World} {F : Nat → Prop} {a : Option Addr} {n cap : Nat} {es : List El} (h : Cells2 w F (.slice a n cap) es) : Src w a (flat es) := by
  intro j u hj
  obtain ⟨a', cap', h1, _, _, _, h5⟩ := h
  simp only [Value.slice.injEq] at h1
  obtain ⟨rfl, _, _⟩ := h1
  obtain ⟨i, e, he, h⟩ := flat_get es j u hj
  obtain ⟨b, off, h6, _, h8, h9⟩ := h5 i e he
  rcases h with ⟨rfl, rfl⟩ | ⟨rfl, rfl⟩
  · exact ⟨b, off, h6, h8⟩
  · exact ⟨b, off, h6, by rw [← Nat.add_assoc]; exact h9⟩
theorem Src.ext {w w' : World} {a : Option Addr} {news : List Value} (h : Src w a news) (t : Ext w w') : Src w' a news := fun j u hj => by
  obtain ⟨b, off, h1, h2⟩ := h j u hj
  exact ⟨b, off, h1, keepc t id h2⟩
theorem Src.alloc {w : World} {a : Option Addr} {news : List Value} (h : Src w a news) (o : Obj) : Src (w.alloc o) a news := h.ext ((Touch.refl _ _).alloc o)

theorem run_push_any (w : World) (t ty e : TypeId) (z : Value) (size bytes : Nat) (ht : P.underlying t = some (.slice e)) (hi : (P.info? e).map (fun i => (i.zero, i.size, i.bytes)) = some (some z, size, bytes)) (hzs : z.cells.size = size) (hsz : 0 < size)
    (v : Value) (n : Nat) (xs : List Value) (hown : w.ownsRow 0 e size v n xs) (a : Option Addr) (m c : Nat) (ha : a = none → c = 0) (news : List Value) (hmc : m ≤ c) (hl : news.length = m * size) (hs : Src w a news) (h1 : ∀ u ∈ news, u.oneCell' = true)
    (h63 : n + m ≤ maxLen) (hbytes : (n + m) * bytes ≤ 140737488355328) :
    ∃ v' w', (Builtin.append_ #[t, t] ty #[v, .slice a m c]).run P w = .ok v' w' ∧ w'.ownsRow 0 e size v' (n + m) (xs ++ news) ∧ Touch (fun b => v.ownBlock = some b) w w' ∧ (v'.ownBlock = v.ownBlock ∨ v'.ownBlock = some w.heap.size) := by
  obtain ⟨i, hi0, hz, hsz', hby⟩ := info_parts hi
  cases a with
  | none =>
    obtain rfl := ha rfl
    obtain rfl : m = 0 := by omega
    obtain rfl : news = [] := List.eq_nil_of_length_eq_zero (by simpa using hl)
    refine ⟨v, w, run_append_owned_none (P := P) (w := w) 0 t ty e i size ht hi0 v n xs hown, by simpa using hown, Touch.refl _ _, Or.inl rfl⟩
  | some ad =>
    by_cases hm : m = 0
    · subst hm
      obtain rfl : news = [] := List.eq_nil_of_length_eq_zero (by simpa using hl)
      obtain ⟨v', w', hr, h2, h3, h4, h5⟩ := run_append_own_at w 0 t ty e i z size bytes ht hi0 hz hsz' hby hzs hsz v n xs hown ad 0 c [] (by simp) (by intro j u hj; simp at hj) h1 h63 hbytes (Nat.zero_le _)
      exact ⟨v', w', hr, h2, Touch.grown h3, h5⟩
    · have hpos : 0 < news.length := by rw [hl]; exact Nat.mul_pos (by omega) hsz
      obtain ⟨b, off, hb, _⟩ := hs 0 _ (List.getElem?_eq_getElem hpos)
      obtain rfl := Option.some.inj hb
      obtain ⟨v', w', hr, h2, h3, h4, h5⟩ := run_append_own_at w 0 t ty e i z size bytes ht hi0 hz hsz' hby hzs hsz v n xs hown ⟨b, off, none⟩ m c news hl
        (by intro j u hj; obtain ⟨b', off', e1, e2⟩ := hs j u hj; cases e1; rw [add_at]; exact e2) h1 h63 hbytes (Nat.zero_le _)
      exact ⟨v', w', hr, h2, Touch.grown h3, h5⟩

/-- the operation 'append(s, x...)', at Oper.wp -/
theorem wp_push_any (w : World) {o : Oper} {a : Act} {K : Act → World → Prop} {Q : Exit → Act → World → Prop} (s x : Operand) (t : TypeId) (ho : o.op = .call { callee := .builtin .append, args := #[s, x], argTypes := #[t, t] })
    (e : TypeId) (z : Value) (size bytes : Nat) (ht : P.underlying t = some (.slice e)) (hi : (P.info? e).map (fun i => (i.zero, i.size, i.bytes)) = some (some z, size, bytes)) (hzs : z.cells.size = size) (hsz : 0 < size)
    (v : Value) (n : Nat) (xs : List Value) (hev : a.eval s = v) (hown : w.ownsRow 0 e size v n xs) (ad : Option Addr) (m c : Nat) (hex : a.eval x = .slice ad m c) (ha : ad = none → c = 0) (news : List Value) (hmc : m ≤ c) (hl : news.length = m * size) (hs : Src w ad news) (h1 : ∀ u ∈ news, u.oneCell' = true)
    (h63 : n + m ≤ maxLen) (hbytes : (n + m) * bytes ≤ 140737488355328)
    (h : ∀ v' w', w'.ownsRow 0 e size v' (n + m) (xs ++ news) → Touch (fun b => v.ownBlock = some b) w w' → (v'.ownBlock = v.ownBlock ∨ v'.ownBlock = some w.heap.size) → K (a.put o.dst v') w') : o.wp P a w K Q := by
  obtain ⟨v', w', hr, h2, h3, h5⟩ := run_push_any (P := P) w t o.type e z size bytes ht hi hzs hsz v n xs hown ad m c ha news hmc hl hs h1 h63 hbytes
  exact Lib.wp_append_run w s x t t ho v (.slice ad m c) hev hex v' w' hr (h v' w' h2 h3 h5)

theorem wpList_push_any (w : World) {ops : Array Oper} {rest : List Oper} {o : Oper} {a : Act} {Q : Exit → Act → World → Prop} (hgd : o.guard = none) (s x : Operand) (t : TypeId) (ho : o.op = .call { callee := .builtin .append, args := #[s, x], argTypes := #[t, t] })
    (e : TypeId) (z : Value) (size bytes : Nat) (ht : P.underlying t = some (.slice e)) (hi : (P.info? e).map (fun i => (i.zero, i.size, i.bytes)) = some (some z, size, bytes)) (hzs : z.cells.size = size) (hsz : 0 < size)
    (v : Value) (n : Nat) (xs : List Value) (hev : a.eval s = v) (hown : w.ownsRow 0 e size v n xs) (ad : Option Addr) (m c : Nat) (hex : a.eval x = .slice ad m c) (ha : ad = none → c = 0) (news : List Value) (hmc : m ≤ c) (hl : news.length = m * size) (hs : Src w ad news) (h1 : ∀ u ∈ news, u.oneCell' = true)
    (h63 : n + m ≤ maxLen) (hbytes : (n + m) * bytes ≤ 140737488355328)
    (h : ∀ v' w', w'.ownsRow 0 e size v' (n + m) (xs ++ news) → Touch (fun b => v.ownBlock = some b) w w' → (v'.ownBlock = v.ownBlock ∨ v'.ownBlock = some w.heap.size) → wpList P ops Q rest (a.put o.dst v') w') : wpList P ops Q (o :: rest) a w :=
  wpList_plain hgd fun _ hK => wp_push_any w s x t ho e z size bytes ht hi hzs hsz v n xs hev hown ad m c hex ha news hmc hl hs h1 h63 hbytes fun v' w' h2 h3 h5 => hK _ _ (h v' w' h2 h3 h5)
end

section
variable {P : Program}
/-- append within the capacity: the row stays where it is -/
theorem run_push_room (w : World) (t ty e : TypeId) (z : Value) (size bytes : Nat) (ht : P.underlying t = some (.slice e)) (hi : (P.info? e).map (fun i => (i.zero, i.size, i.bytes)) = some (some z, size, bytes))
    (g n cap : Nat) (xs : List Value) (hown : w.ownsRow 0 e size (.slice (some ⟨g, 0, none⟩) n cap) n xs) (a : Option Addr) (m c : Nat) (ha : a = none → c = 0) (news : List Value) (hmc : m ≤ c) (hl : news.length = m * size) (hsz : 0 < size) (hs : Src w a news) (h1 : ∀ u ∈ news, u.oneCell' = true)
    (hroom : n + m ≤ cap) :
    ∃ w', (Builtin.append_ #[t, t] ty #[.slice (some ⟨g, 0, none⟩) n cap, .slice a m c]).run P w = .ok (.slice (some ⟨g, 0, none⟩) (n + m) cap) w' ∧ w'.ownsRow 0 e size (.slice (some ⟨g, 0, none⟩) (n + m) cap) (n + m) (xs ++ news) ∧ Touch (fun b => b = g) w w' := by
  obtain ⟨i, hi0, hz, hsz', hby⟩ := info_parts hi
  have triv : m = 0 → (Builtin.append_ #[t, t] ty #[.slice (some ⟨g, 0, none⟩) n cap, .slice a m c]).run P w = .ok (.slice (some ⟨g, 0, none⟩) (n + m) cap) w → ∃ w', (Builtin.append_ #[t, t] ty #[.slice (some ⟨g, 0, none⟩) n cap, .slice a m c]).run P w = .ok (.slice (some ⟨g, 0, none⟩) (n + m) cap) w' ∧ w'.ownsRow 0 e size (.slice (some ⟨g, 0, none⟩) (n + m) cap) (n + m) (xs ++ news) ∧ Touch (fun b => b = g) w w' := by
    intro hm hr
    subst hm
    obtain rfl : news = [] := List.eq_nil_of_length_eq_zero (by simpa using hl)
    exact ⟨w, hr, by simpa using hown, Touch.refl _ _⟩
  cases a with
  | none =>
    obtain rfl := ha rfl
    obtain rfl : m = 0 := by omega
    exact triv rfl (run_append_owned_none (P := P) (w := w) 0 t ty e i size ht hi0 _ n xs hown)
  | some ad =>
    rcases hown.2 with ⟨h, _⟩ | ⟨g', cap', cur, h, hbg, hg, hnc, hcm, hcs, htake⟩
    · simp at h
    · simp only [Value.slice.injEq, Option.some.injEq, Addr.mk.injEq, and_true, true_and] at h
      obtain ⟨rfl, rfl⟩ := h
      have hnews : ∀ j u, news[j]? = some u → w.cell? (ad.add j) = some u := by
        intro j u hj
        obtain ⟨b', off', e1, e2⟩ := hs j u hj
        cases e1; rw [add_at]; exact e2
      subst hsz'
      have hfit : n * i.size + news.length ≤ cur.size := by rw [hl, hcs, ← Nat.add_mul]; exact Nat.mul_le_mul_right _ hroom
      have hr := run_append_room (P := P) w t ty e i ht hi0 g n cap cur hg ad m c news hl hnews h1 hroom hfit
      have hlen : (xs ++ news).length = (n + m) * i.size := by rw [List.length_append, hown.1, hl, Nat.add_mul]
      refine ⟨_, hr, ⟨hlen, .inr ⟨g, cap, _, rfl, hbg, setRow_heap w g cur _ e _ hg, hroom, hcm, ?_, ?_⟩⟩, ⟨rfl, rfl, rfl, by simp [World.setRow], fun k _ hk => setRow_other w g k _ hk⟩⟩
      · simp only [List.size_toArray, List.length_append, List.length_take, List.length_drop, Array.length_toList]
        omega
      · rw [htake, ← hlen]
        exact List.take_left

theorem wp_push_room (w : World) {o : Oper} {a : Act} {K : Act → World → Prop} {Q : Exit → Act → World → Prop} (s x : Operand) (t : TypeId) (ho : o.op = .call { callee := .builtin .append, args := #[s, x], argTypes := #[t, t] })
    (e : TypeId) (z : Value) (size bytes : Nat) (ht : P.underlying t = some (.slice e)) (hi : (P.info? e).map (fun i => (i.zero, i.size, i.bytes)) = some (some z, size, bytes)) (hsz : 0 < size)
    (g n cap : Nat) (xs : List Value) (hev : a.eval s = .slice (some ⟨g, 0, none⟩) n cap) (hown : w.ownsRow 0 e size (.slice (some ⟨g, 0, none⟩) n cap) n xs) (ad : Option Addr) (m c : Nat) (hex : a.eval x = .slice ad m c) (ha : ad = none → c = 0) (news : List Value) (hmc : m ≤ c) (hl : news.length = m * size) (hs : Src w ad news) (h1 : ∀ u ∈ news, u.oneCell' = true)
    (hroom : n + m ≤ cap)
    (h : ∀ w', w'.ownsRow 0 e size (.slice (some ⟨g, 0, none⟩) (n + m) cap) (n + m) (xs ++ news) → Touch (fun b => b = g) w w' → K (a.put o.dst (.slice (some ⟨g, 0, none⟩) (n + m) cap)) w') : o.wp P a w K Q := by
  obtain ⟨w', hr, h2, h3⟩ := run_push_room (P := P) w t o.type e z size bytes ht hi g n cap xs hown ad m c ha news hmc hl hsz hs h1 hroom
  exact Lib.wp_append_run w s x t t ho (.slice (some ⟨g, 0, none⟩) n cap) (.slice ad m c) hev hex _ w' hr (h w' h2 h3)
theorem wpList_push_room (w : World) {ops : Array Oper} {rest : List Oper} {o : Oper} {a : Act} {Q : Exit → Act → World → Prop} (hgd : o.guard = none) (s x : Operand) (t : TypeId) (ho : o.op = .call { callee := .builtin .append, args := #[s, x], argTypes := #[t, t] })
    (e : TypeId) (z : Value) (size bytes : Nat) (ht : P.underlying t = some (.slice e)) (hi : (P.info? e).map (fun i => (i.zero, i.size, i.bytes)) = some (some z, size, bytes)) (hsz : 0 < size)
    (g n cap : Nat) (xs : List Value) (hev : a.eval s = .slice (some ⟨g, 0, none⟩) n cap) (hown : w.ownsRow 0 e size (.slice (some ⟨g, 0, none⟩) n cap) n xs) (ad : Option Addr) (m c : Nat) (hex : a.eval x = .slice ad m c) (ha : ad = none → c = 0) (news : List Value) (hmc : m ≤ c) (hl : news.length = m * size) (hs : Src w ad news) (h1 : ∀ u ∈ news, u.oneCell' = true)
    (hroom : n + m ≤ cap)
    (h : ∀ w', w'.ownsRow 0 e size (.slice (some ⟨g, 0, none⟩) (n + m) cap) (n + m) (xs ++ news) → Touch (fun b => b = g) w w' → wpList P ops Q rest (a.put o.dst (.slice (some ⟨g, 0, none⟩) (n + m) cap)) w') : wpList P ops Q (o :: rest) a w :=
  wpList_plain hgd fun _ hK => wp_push_room w s x t ho e z size bytes ht hi hsz g n cap xs hev hown ad m c hex ha news hmc hl hs h1 hroom fun w' h2 h3 => hK _ _ (h w' h2 h3)
end
/-- a place of the row, spare or not -/
theorem own_spare {w : World} {base e size n g cap : Nat} {xs : List Value} (h : w.ownsRow base e size (.slice (some ⟨g, 0, none⟩) n cap) n xs) (j : Nat) (hj : j < cap * size) : ∃ u, w.cell? ⟨g, j, none⟩ = some u := by
  rcases h.2 with ⟨h', _⟩ | ⟨g', cap', cur, h', _, hg, _, _, hs, _⟩
  · simp at h'
  · simp only [Value.slice.injEq, Option.some.injEq, Addr.mk.injEq, and_true, true_and] at h'
    obtain ⟨rfl, rfl⟩ := h'
    exact ⟨cur[j]'(by omega), by rw [cell_of_row w g j cur e (0, 0) hg]; simp [hs, hj]⟩

theorem ivs_one (k : IntKind) (xs : List Int) : ∀ u ∈ ivs k xs, u.oneCell' = true := by
  intro u hu
  simp only [ivs, List.mem_map] at hu
  obtain ⟨x, _, rfl⟩ := hu
  rfl
theorem ivs_append (k : IntKind) (xs ys : List Int) : ivs k (xs ++ ys) = ivs k xs ++ ivs k ys := by simp [ivs]

end Go.Proofs.YtclnnkacfanaiaaDoor
