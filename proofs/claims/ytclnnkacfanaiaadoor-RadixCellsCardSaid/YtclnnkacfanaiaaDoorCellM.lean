/- Cells of a tree in memory (cells without pairs). General words. -/
import Derived.Test.YtclnnkacfanaiaaDoorMem
namespace Go.Proofs.YtclnnkacfanaiaaDoor
open Go.RowKit
set_option linter.unusedVariables false
set_option linter.unusedSimpArgs false

/-- a cell's fields, but its pairs, of which there are none -/
structure Cl where
  kind : Int
  at_ : Int
  count : Int
  kids : Int
  byte : Int
  full : Bool
  val : Int
  key : List Int
abbrev Cls := List Cl
abbrev Ec := Value × Cl
def flat9 (e : Ec) : List Value := [.int .i64 e.2.kind, .int .i64 e.2.at_, .int .i64 e.2.count, .int .i64 e.2.kids, .int .u8 e.2.byte, .bool e.2.full, .int .u64 e.2.val, e.1, .slice none 0 0]
def flatC (es : List Ec) : List Value := es.flatMap flat9
@[simp] theorem flatC_nil : flatC [] = [] := rfl
theorem flatC_cons (e : Ec) (es : List Ec) : flatC (e :: es) = flat9 e ++ flatC es := rfl
theorem flatC_append (a b : List Ec) : flatC (a ++ b) = flatC a ++ flatC b := by simp [flatC, List.flatMap_append]
theorem flatC_length (es : List Ec) : (flatC es).length = es.length * 9 := by
  induction es with
  | nil => rfl
  | cons e es ih => rw [flatC_cons, List.length_append, ih, List.length_cons]; simp only [flat9, List.length_cons, List.length_nil]; omega
theorem flatC_get : ∀ (es : List Ec) (i j : Nat) (e : Ec), es[i]? = some e → j < 9 → (flatC es)[i * 9 + j]? = (flat9 e)[j]?
  | [], i, j, e, h, _ => by simp at h
  | x :: es, 0, j, e, h, hj => by
    simp at h; subst h
    rw [flatC_cons, Nat.zero_mul, Nat.zero_add, List.getElem?_append_left (by simp [flat9]; omega)]
  | x :: es, i + 1, j, e, h, hj => by
    rw [flatC_cons, List.getElem?_append_right (by simp [flat9]; omega), show (i + 1) * 9 + j - (flat9 x).length = i * 9 + j by simp [flat9]; omega]
    exact flatC_get es i j e (by simpa using h) hj
theorem flatC_one (es : List Ec) (h : ∀ e ∈ es, e.1.oneCell' = true) : ∀ u ∈ flatC es, u.oneCell' = true := by
  intro u hu
  simp only [flatC, List.mem_flatMap] at hu
  obtain ⟨e, he, hu⟩ := hu
  simp only [flat9, List.mem_cons, List.not_mem_nil, or_false] at hu
  rcases hu with rfl | rfl | rfl | rfl | rfl | rfl | rfl | rfl | rfl <;> first | rfl | exact h e he

/-- a slice of cells whose own cells are known -/
def RC (w : World) (K : Nat → Prop) (v : Value) (cs : Cls) : Prop :=
  ∃ es : List Ec, es.map (·.2) = cs ∧ (∃ a cap, v = .slice a es.length cap ∧ es.length ≤ cap ∧ cap ≤ maxLen ∧ (a = none → cap = 0) ∧
    ∀ i e, es[i]? = some e → ∃ b off, a = some ⟨b, off, none⟩ ∧ ∀ j u, (flat9 e)[j]? = some u → w.cell? ⟨b, off + i * 9 + j, none⟩ = some u) ∧ ∀ e ∈ es, RB w K e.1 e.2.key
namespace RC
variable {w w' : World} {K : Nat → Prop} {v : Value} {cs : Cls}
theorem nil (w : World) (K : Nat → Prop) : RC w K (.slice none 0 0) [] := ⟨[], rfl, ⟨none, 0, rfl, by simp, by simp, fun _ => rfl, fun i e h => by simp at h⟩, fun e h => by simp at h⟩
theorem ext (h : RC w K v cs) (t : Ext w w') : RC w' K v cs := by
  obtain ⟨es, h1, ⟨a, cap, h2, h3, h4, h5, h6⟩, h7⟩ := h
  refine ⟨es, h1, ⟨a, cap, h2, h3, h4, h5, fun i e hi => ?_⟩, fun e he => (h7 e he).ext t⟩
  obtain ⟨b, off, h8, h9⟩ := h6 i e hi
  exact ⟨b, off, h8, fun j u hj => keepc t id (h9 j u hj)⟩
theorem shape (h : RC w K v cs) : ∃ a cap, v = .slice a cs.length cap ∧ cs.length ≤ cap ∧ cap ≤ maxLen ∧ (a = none → cap = 0) := by
  obtain ⟨es, rfl, ⟨a, cap, h2, h3, h4, h5, _⟩, _⟩ := h
  exact ⟨a, cap, by simpa using h2, by simpa using h3, h4, h5⟩
theorem addr {a : Option Addr} {n cap : Nat} (h : RC w K (.slice a n cap) cs) (hn : 0 < cs.length) : ∃ b off, a = some ⟨b, off, none⟩ := by
  obtain ⟨es, rfl, ⟨a', cap', h2, _, _, _, h6⟩, _⟩ := h
  simp only [Value.slice.injEq] at h2
  obtain ⟨rfl, _, _⟩ := h2
  obtain ⟨b, off, h8, _⟩ := h6 0 _ (List.getElem?_eq_getElem (by simpa using hn))
  exact ⟨b, off, h8⟩
theorem get {b off n cap : Nat} (h : RC w K (.slice (some ⟨b, off, none⟩) n cap) cs) (i : Nat) (c : Cl) (hi : cs[i]? = some c) : ∃ kv, RB w K kv c.key ∧
    w.cell? ⟨b, off + i * 9, none⟩ = some (.int .i64 c.kind) ∧ w.cell? ⟨b, off + i * 9 + 1, none⟩ = some (.int .i64 c.at_) ∧ w.cell? ⟨b, off + i * 9 + 2, none⟩ = some (.int .i64 c.count) ∧ w.cell? ⟨b, off + i * 9 + 3, none⟩ = some (.int .i64 c.kids) ∧
    w.cell? ⟨b, off + i * 9 + 4, none⟩ = some (.int .u8 c.byte) ∧ w.cell? ⟨b, off + i * 9 + 5, none⟩ = some (.bool c.full) ∧ w.cell? ⟨b, off + i * 9 + 6, none⟩ = some (.int .u64 c.val) ∧ w.cell? ⟨b, off + i * 9 + 7, none⟩ = some kv ∧ w.cell? ⟨b, off + i * 9 + 8, none⟩ = some (.slice none 0 0) := by
  obtain ⟨es, rfl, ⟨a', cap', h2, _, _, _, h6⟩, h7⟩ := h
  simp only [Value.slice.injEq] at h2
  obtain ⟨rfl, _, _⟩ := h2
  rw [List.getElem?_map, Option.map_eq_some_iff] at hi
  obtain ⟨e, he, rfl⟩ := hi
  obtain ⟨b', off', h8, h9⟩ := h6 i e he
  simp only [Option.some.injEq, Addr.mk.injEq, and_true] at h8
  obtain ⟨rfl, rfl⟩ := h8
  exact ⟨e.1, h7 e (List.mem_of_getElem? he), h9 0 _ rfl, h9 1 _ rfl, h9 2 _ rfl, h9 3 _ rfl, h9 4 _ rfl, h9 5 _ rfl, h9 6 _ rfl, h9 7 _ rfl, h9 8 _ rfl⟩
theorem mono {G : Nat → Prop} (h : RC w K v cs) (hs : ∀ b, K b → G b) : RC w G v cs := by
  obtain ⟨es, h1, h2, h3⟩ := h
  exact ⟨es, h1, h2, fun e he => (h3 e he).mono hs⟩
end RC

/-- cells that are one's own; their keys lie in K -/
def OC (w : World) (K : Nat → Prop) (v : Value) (cs : Cls) : Prop :=
  ∃ es : List Ec, es.map (·.2) = cs ∧ w.ownsRow 0 53 9 v es.length (flatC es) ∧ (∀ b, v.ownBlock = some b → ¬ K b) ∧ ∀ e ∈ es, RB w K e.1 e.2.key
namespace OC
variable {w w' : World} {K S : Nat → Prop} {v : Value} {cs : Cls}
theorem nil (w : World) (K : Nat → Prop) : OC w K (.slice none 0 0) [] := ⟨[], rfl, World.ownsRow_nil _ _ _ _, (fun b h => by cases h), fun e h => by simp at h⟩
theorem ext (h : OC w K v cs) (t : Ext w w') : OC w' K v cs := by
  obtain ⟨es, h1, h2, h3, h4⟩ := h
  exact ⟨es, h1, own_keep h2 t (fun _ _ h => h), h3, fun e he => (h4 e he).ext t⟩
theorem shape (h : OC w K v cs) : ∃ a cap, v = .slice a cs.length cap := by
  obtain ⟨es, rfl, h2, _⟩ := h
  obtain ⟨a, c, h⟩ := own_len h2
  exact ⟨a, c, by simpa using h⟩
theorem rc (h : OC w K v cs) : RC w K v cs := by
  obtain ⟨es, h1, ho, _, h4⟩ := h
  have hh := ho
  refine ⟨es, h1, ?_, h4⟩
  rcases ho.2 with ⟨rfl, h0⟩ | ⟨g, cap, cur, rfl, _, _, h5, h6, _⟩
  · obtain rfl := List.eq_nil_of_length_eq_zero h0
    exact ⟨none, 0, rfl, by simp, by simp, fun _ => rfl, fun i e h => by simp at h⟩
  · refine ⟨_, cap, rfl, h5, h6, (fun h => by cases h), fun i e hi => ⟨g, 0, rfl, fun j u hj => ?_⟩⟩
    have hil := (List.getElem?_eq_some_iff.1 hi).1
    have hj9 : j < 9 := by have := (List.getElem?_eq_some_iff.1 hj).1; simpa [flat9] using this
    rw [Nat.zero_add, hh.cellAt _ (by omega), flatC_get _ _ _ _ hi hj9]
    exact hj
/-- other cells are appended -/
theorem push {v1 v' : Value} {es1 es2 : List Ec} (h1 : ∀ b, v1.ownBlock = some b → ¬ K b) (k1 : ∀ e ∈ es1, RB w K e.1 e.2.key) (k2 : ∀ e ∈ es2, RB w K e.1 e.2.key) (hK : ∀ b, K b → b < w.heap.size)
    (hown : w'.ownsRow 0 53 9 v' (es1.length + es2.length) (flatC es1 ++ flatC es2)) (ht : Touch (fun b => v1.ownBlock = some b) w w') (hb : v'.ownBlock = v1.ownBlock ∨ v'.ownBlock = some w.heap.size) : OC w' K v' (es1.map (·.2) ++ es2.map (·.2)) := by
  refine ⟨es1 ++ es2, by simp, by rw [List.length_append, flatC_append]; exact hown, fun b hv hk => ?_, fun e he => ?_⟩
  · rcases hb with h | h
    · exact h1 b (h ▸ hv) hk
    · rw [h] at hv; cases hv; have := hK _ hk; omega
  · rcases List.mem_append.1 he with h | h
    · exact (k1 e h).keep ht (fun b hb hv => h1 b hv hb)
    · exact (k2 e h).keep ht (fun b hb hv => h1 b hv hb)
end OC
theorem ec_one {w : World} {K : Nat → Prop} {es : List Ec} (h : ∀ e ∈ es, RB w K e.1 e.2.key) : ∀ e ∈ es, e.1.oneCell' = true := fun e he => by
  obtain ⟨a, c, h1, _⟩ := (h e he).shape
  rw [h1]; rfl
theorem info_cell : (Tryd.prog.info? 53).map (fun i => (i.zero, i.size, i.bytes)) = some (some (.agg #[.int .i64 0, .int .i64 0, .int .i64 0, .int .i64 0, .int .u8 0, .bool false, .int .u64 0, .slice none 0 0, .slice none 0 0]), 9, 96) := by kernel_rfl
theorem own_src {w : World} {e size n c : Nat} {a : Option Addr} {xs : List Value} (h : w.ownsRow 0 e size (.slice a n c) n xs) : Src w a xs ∧ n ≤ c ∧ (a = none → c = 0) ∧ c ≤ maxLen := by
  have hh := h
  rcases h.2 with ⟨h1, h0⟩ | ⟨g, cap, cur, h1, _, _, h5, h6, _⟩
  · simp only [Value.slice.injEq] at h1
    obtain ⟨rfl, rfl, rfl⟩ := h1
    have hl := h.1
    obtain rfl := List.eq_nil_of_length_eq_zero (show xs.length = 0 by omega)
    exact ⟨fun j u hj => by simp at hj, Nat.le_refl _, fun _ => rfl, by simp⟩
  · simp only [Value.slice.injEq] at h1
    obtain ⟨rfl, _, rfl⟩ := h1
    refine ⟨fun j u hj => ⟨g, 0, rfl, ?_⟩, h5, (fun h => by cases h), h6⟩
    have hjl := (List.getElem?_eq_some_iff.1 hj).1
    rw [Nat.zero_add, hh.cellAt j (by have := h.1; omega)]
    exact hj
/-- cells of a literal -/
theorem own_lit (w : World) (e : Ec) : (w.alloc (.cells (flat9 e).toArray 53)).ownsRow 0 53 9 (.slice (some ⟨w.heap.size, 0, none⟩) 1 1) 1 (flatC [e]) :=
  World.ownsRow_lit w (flat9 e).toArray 1 (Nat.zero_le _) (by simp [maxLen]) (by simp [flat9])
end Go.Proofs.YtclnnkacfanaiaaDoor
