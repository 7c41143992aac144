/- General words: what a call may touch in memory. No program in sight. -/
import Derived.Test.YtclnnkacfanaiaaDoorRows
import Derived.WalkKit
import Derived.ProofKit
import Derived.WalkSpells
import Derived.Lib.Hide
import Derived.BigQuiet
import Derived.Deep.QuietTactic
import Derived.Deep.RegionHeld3
import Derived.Deep.LoopGhost
import Derived.Deep.DeepMust
import Derived.Deep.DeepFit
namespace Go.Proofs.YtclnnkacfanaiaaDoor
open Go.RowKit
set_option linter.unusedVariables false
set_option linter.unusedSimpArgs false

/-- w' is w, but for blocks in S and new ones. -/
structure Touch (S : Nat → Prop) (w w' : World) : Prop where
  os : w'.os = w.os
  tape : w'.tape = w.tape
  output : w'.output = w.output
  size : w.heap.size ≤ w'.heap.size
  block : ∀ k, k < w.heap.size → ¬ S k → w'.heap[k]? = w.heap[k]?

def V64 (x : Int) : Prop := -9223372036854775808 ≤ x ∧ x < 9223372036854775808
theorem w64 {x : Int} (h0 : -9223372036854775808 ≤ x) (h1 : x < 9223372036854775808) : wrap64 x = x := by unfold wrap64; omega

namespace Touch
variable {S T : Nat → Prop} {a b c : World}
theorem refl (S : Nat → Prop) (w : World) : Touch S w w := ⟨rfl, rfl, rfl, Nat.le_refl _, fun _ _ _ => rfl⟩
theorem trans (h : Touch S a b) (k : Touch T b c) (hs : ∀ i, T i → i < a.heap.size → S i) : Touch S a c :=
  ⟨k.os.trans h.os, k.tape.trans h.tape, k.output.trans h.output, Nat.le_trans h.size k.size,
    fun i hi hn => (k.block i (Nat.lt_of_lt_of_le hi h.size) (fun ht => hn (hs i ht hi))).trans (h.block i hi hn)⟩
theorem trans' (h : Touch S a b) (k : Touch S b c) : Touch S a c := h.trans k fun _ h _ => h
theorem mono (h : Touch S a b) (hs : ∀ i, S i → i < a.heap.size → T i) : Touch T a b :=
  ⟨h.os, h.tape, h.output, h.size, fun i hi hn => h.block i hi fun hS => hn (hs i hS hi)⟩
theorem of_below (h : Below a.heap.size a b) : Touch S a b := ⟨h.os, h.tape, h.output, h.size, fun i hi _ => h.block i hi⟩
theorem below (h : Touch S a b) (hs : ∀ i, S i → i < a.heap.size → False) : Below a.heap.size a b :=
  ⟨h.os, h.tape, h.output, h.size, fun i hi => h.block i hi fun hS => hs i hS hi⟩
theorem belowB {B : Nat} (h : Touch S a b) (hB : B ≤ a.heap.size) (hs : ∀ i, S i → B ≤ i) : Below B a b :=
  ⟨h.os, h.tape, h.output, h.size, fun i hi => h.block i (by omega) fun hS => by have := hs i hS; omega⟩
theorem cell (h : Touch S a b) {p : Addr} (hp : p.block < a.heap.size) (hn : ¬ S p.block) : b.cell? p = a.cell? p := World.cell?_of_block (w := a) (h.block p.block hp hn)
theorem frozen (h : Touch S a b) {p : Addr} (hp : p.block < a.heap.size) (hn : ¬ S p.block) : b.frozen? p = a.frozen? p := World.frozen?_of_block (w := a) (h.block p.block hp hn)
theorem drew (h : Touch S a b) : Touch S a b.drew := ⟨h.os, h.tape, h.output, h.size, h.block⟩
theorem drewN (h : Touch S a b) (n : Nat) : Touch S a (b.drewN n) := ⟨h.os, h.tape, h.output, h.size, h.block⟩
theorem undrew (h : Touch S a.drew b) : Touch S a b := ⟨h.os, h.tape, h.output, h.size, h.block⟩
theorem alloc (h : Touch S a b) (o : Obj) : Touch S a (b.alloc o) :=
  h.trans (T := fun _ => False) ⟨rfl, rfl, rfl, by simp, fun k hk _ => Below.heap_alloc _ _ _ (by omega)⟩ (fun _ h => h.elim)
theorem setCell (h : Touch S a b) {p : Addr} (hp : S p.block ∨ a.heap.size ≤ p.block) (u : Value) : Touch S a (b.setCell p u) :=
  h.trans (T := fun k => k = p.block) ⟨rfl, rfl, rfl, by simp [World.setCell], fun k hk hn => Below.heap_setCell _ _ _ _ (by simpa using hn)⟩
    (fun i hi hlt => by subst hi; rcases hp with hp | hp; exact hp; omega)
theorem grown {row : Option Nat} (h : a.grownBy b row) : Touch (fun k => row = some k) a b := ⟨h.os, h.tape, h.output, h.size, fun k hk hn => h.block k hk fun e => hn e.symm⟩
end Touch

section
variable {P : Program} {w : World}
/-- 'append(v, u)' of one value of one cell, onto a row that the call owns: the literal's block lies behind w. -/
theorem wpList_push {ops : Array Oper} {rest : List Oper} {o : Oper} {a : Act} {Q : Exit → Act → World → Prop} (hgd : o.guard = none) (s x : Operand) (t : TypeId)
    (ho : o.op = .call { callee := .builtin .append, args := #[s, x], argTypes := #[t, t] })
    (base : Nat) (e : TypeId) (z : Value) (bytes : Nat) (ht : P.underlying t = some (.slice e)) (hi : (P.info? e).map (fun i => (i.zero, i.size, i.bytes)) = some (some z, 1, bytes)) (hzs : z.cells.size = 1)
    (v : Value) (n : Nat) (xs : List Value) (hs : a.eval s = v) (hown : w.ownsRow base e 1 v n xs)
    (u : Value) (hu : u.oneCell' = true) (hx : a.eval x = .slice (some ⟨w.heap.size, 0, none⟩) 1 1)
    (hbytes : (n + 1) * bytes ≤ 140737488355328) (h63 : n + 1 ≤ maxLen) (hbase : base ≤ w.heap.size)
    (h : ∀ v' w', w'.ownsRow base e 1 v' (n + 1) (xs ++ [u]) → Touch (fun k => v.ownBlock = some k) w w' → wpList P ops Q rest (a.put o.dst v') w') :
    wpList P ops Q (o :: rest) a (w.alloc (.cells #[u] e)) := by
  obtain ⟨i, hi0, hz, hsz, hby⟩ := info_parts hi
  refine wpList_append_own _ hgd s x t ho base e i z 1 bytes ht hi0 hz hsz hby hzs (by omega) v n xs hs (hown.alloc _) ⟨w.heap.size, 0, none⟩ 1 1 [u] hx rfl (cell_one_new _ _ _) (by simpa using hu) h63 hbytes (by simp; omega) ?_
  intro v' w' h1 h2 _
  exact h v' w' h1 (((Touch.refl _ w).alloc _).trans' (Touch.grown h2))
end

/-! ### cells that are kept -/
theorem keepc {S : Nat → Prop} {a b : World} {p : Addr} {v : Value} (ht : Touch S a b) (hn : ¬ S p.block) (h : a.cell? p = some v) : b.cell? p = some v := (ht.cell (World.block_lt_of_cell? _ _ h) hn).trans h
theorem keepf {S : Nat → Prop} {a b : World} {p : Addr} (ht : Touch S a b) (hlt : p.block < a.heap.size) (hn : ¬ S p.block) (h : a.frozen? p = false) : b.frozen? p = false := (ht.frozen hlt hn).trans h
theorem keep2 {S : Nat → Prop} {a b : World} {bx o1 o2 : Nat} {v1 v2 : Value} (ht : Touch S a b) (hn : ¬ S bx) (h : a.cell? ⟨bx, o1, none⟩ = some v1 ∧ a.cell? ⟨bx, o2, none⟩ = some v2) :
    b.cell? ⟨bx, o1, none⟩ = some v1 ∧ b.cell? ⟨bx, o2, none⟩ = some v2 := ⟨keepc ht hn h.1, keepc ht hn h.2⟩
theorem keep22 {S : Nat → Prop} {a b : World} {bx by' o1 o2 : Nat} {v1 v2 : Value} (ht : Touch S a b) (hn : ¬ S bx) (hn2 : ¬ S by') (h : a.cell? ⟨bx, o1, none⟩ = some v1 ∧ a.cell? ⟨by', o2, none⟩ = some v2) :
    b.cell? ⟨bx, o1, none⟩ = some v1 ∧ b.cell? ⟨by', o2, none⟩ = some v2 := ⟨keepc ht hn h.1, keepc ht hn2 h.2⟩
theorem keep3 {S : Nat → Prop} {a b : World} {bx o1 o2 o3 : Nat} {v1 v2 v3 : Value} (ht : Touch S a b) (hn : ¬ S bx) (h : a.cell? ⟨bx, o1, none⟩ = some v1 ∧ a.cell? ⟨bx, o2, none⟩ = some v2 ∧ a.cell? ⟨bx, o3, none⟩ = some v3) :
    b.cell? ⟨bx, o1, none⟩ = some v1 ∧ b.cell? ⟨bx, o2, none⟩ = some v2 ∧ b.cell? ⟨bx, o3, none⟩ = some v3 := ⟨keepc ht hn h.1, keepc ht hn h.2.1, keepc ht hn h.2.2⟩

/-- a row that is owned: its length stands in the value -/
theorem own_len {w : World} {base e size n : Nat} {v : Value} {xs : List Value} (h : w.ownsRow base e size v n xs) : ∃ a cap, v = .slice a n cap := by
  rcases h.2 with ⟨rfl, rfl⟩ | ⟨g, cap, cur, rfl, _⟩ <;> exact ⟨_, _, rfl⟩
theorem own_addr {w : World} {base e size n m cap : Nat} {a : Option Addr} {xs : List Value} (h : w.ownsRow base e size (.slice a m cap) n xs) (hn : 0 < n) : ∃ g, a = some ⟨g, 0, none⟩ := by
  rcases h.2 with ⟨_, h2⟩ | ⟨g, cap', cur, h1, _⟩
  · omega
  · simp only [Value.slice.injEq] at h1; exact ⟨g, h1.1⟩
theorem own_cell {w : World} {base e n g cap : Nat} {xs : List Value} (h : w.ownsRow base e 1 (.slice (some ⟨g, 0, none⟩) n cap) n xs) (k : Nat) (hk : k < n) : ∃ u, w.cell? ⟨g, k, none⟩ = some u := by
  have := h.cellAt k (by omega)
  have hl := h.1
  exact ⟨xs[k]'(by omega), by rw [this, List.getElem?_eq_getElem]⟩

theorem own_mono {w : World} {base base' e size n : Nat} {v : Value} {xs : List Value} (h : w.ownsRow base e size v n xs) (hb : base' ≤ base) : w.ownsRow base' e size v n xs := by
  refine ⟨h.1, ?_⟩
  rcases h.2 with h2 | ⟨g, cap, cur, rfl, hg, rest⟩
  · exact Or.inl h2
  · exact Or.inr ⟨g, cap, cur, rfl, by omega, rest⟩
theorem own_keep {S : Nat → Prop} {w w' : World} {base e size n : Nat} {v : Value} {xs : List Value} (h : w.ownsRow base e size v n xs) (ht : Touch S w w') (hn : ∀ b, v.ownBlock = some b → ¬ S b) : w'.ownsRow base e size v n xs := by
  refine ⟨h.1, ?_⟩
  rcases h.2 with h2 | ⟨g, cap, cur, rfl, hb, hg, rest⟩
  · exact Or.inl h2
  · exact Or.inr ⟨g, cap, cur, rfl, hb, by rw [ht.block g (Array.getElem?_eq_some_iff.1 hg).1 (hn g rfl)]; exact hg, rest⟩

/-! ### A slice that reads as a list of one-cell values -/
def Reads (w : World) (v : Value) (xs : List Value) : Prop :=
  ∃ a cap, v = .slice a xs.length cap ∧ xs.length ≤ cap ∧ cap ≤ maxLen ∧ ∀ i, (h : i < xs.length) → ∃ b off, a = some ⟨b, off, none⟩ ∧ b < w.heap.size ∧ w.cell? ⟨b, off + i, none⟩ = some xs[i]

namespace Reads
variable {w w' : World} {v : Value} {xs : List Value} {S : Nat → Prop}
theorem nil (w : World) : Reads w (.slice none 0 0) [] := ⟨none, 0, rfl, by simp, by simp, fun i h => by simp at h⟩
theorem shape (h : Reads w v xs) : ∃ a cap, v = .slice a xs.length cap ∧ xs.length ≤ cap ∧ cap ≤ maxLen := by
  obtain ⟨a, cap, rfl, h1, h2, _⟩ := h; exact ⟨_, _, rfl, h1, h2⟩
theorem addr {a : Option Addr} {n cap : Nat} (h : Reads w (.slice a n cap) xs) (hn : 0 < xs.length) : ∃ b off, a = some ⟨b, off, none⟩ := by
  obtain ⟨a', cap', h1, _, _, h4⟩ := h
  simp only [Value.slice.injEq] at h1
  obtain ⟨rfl, _, _⟩ := h1
  obtain ⟨b, off, h5, _⟩ := h4 0 hn
  exact ⟨b, off, h5⟩
theorem cell {b off n cap : Nat} (h : Reads w (.slice (some ⟨b, off, none⟩) n cap) xs) (i : Nat) (hi : i < xs.length) : w.cell? ⟨b, off + i, none⟩ = some xs[i] := by
  obtain ⟨a', cap', h1, _, _, h4⟩ := h
  simp only [Value.slice.injEq] at h1
  obtain ⟨rfl, _, _⟩ := h1
  obtain ⟨b', off', h5, _, h6⟩ := h4 i hi
  simp only [Option.some.injEq, Addr.mk.injEq, and_true] at h5
  obtain ⟨rfl, rfl⟩ := h5
  exact h6
theorem lt {b off n cap : Nat} (h : Reads w (.slice (some ⟨b, off, none⟩) n cap) xs) (hn : 0 < xs.length) : b < w.heap.size := World.block_lt_of_cell? _ _ (h.cell 0 hn)
theorem keep (h : Reads w v xs) (ht : Touch S w w') (hn : ∀ b, v.ownBlock = some b → ¬ S b) : Reads w' v xs := by
  obtain ⟨a, cap, rfl, h1, h2, h3⟩ := h
  refine ⟨a, cap, rfl, h1, h2, fun i hi => ?_⟩
  obtain ⟨b, off, rfl, h4, h5⟩ := h3 i hi
  exact ⟨b, off, rfl, Nat.lt_of_lt_of_le h4 ht.size, (ht.cell (p := ⟨b, off + i, none⟩) h4 (hn b rfl)).trans h5⟩
theorem of_own {base e n : Nat} (h : w.ownsRow base e 1 v n xs) : Reads w v xs := by
  have hlen := h.1
  rcases h.2 with ⟨rfl, rfl⟩ | ⟨g, cap, cur, rfl, hb, hg, hn, hc, hs, htake⟩
  · have : xs = [] := List.eq_nil_of_length_eq_zero (by simpa using hlen)
    subst this
    exact nil w
  · have hl : xs.length = n := by simpa using hlen
    refine ⟨some ⟨g, 0, none⟩, cap, by rw [hl], by omega, hc, fun i hi => ⟨g, 0, rfl, (Array.getElem?_eq_some_iff.1 hg).1, ?_⟩⟩
    rw [Nat.zero_add, cell_of_row w g i cur e (0, 0) hg]
    have : (cur.toList.take (n * 1))[i]? = xs[i]? := by rw [htake]
    rw [List.getElem?_take, if_pos (by omega)] at this
    simpa [hi] using this
end Reads

def ivs (k : IntKind) (xs : List Int) : List Value := xs.map (Value.int k)
@[simp] theorem ivs_length (k : IntKind) (xs : List Int) : (ivs k xs).length = xs.length := by simp [ivs]

theorem reads_cell {w : World} {b off cap : Nat} {n : Nat} {k : IntKind} {xs : List Int} (h : Reads w (.slice (some ⟨b, off, none⟩) n cap) (ivs k xs)) (i : Nat) (hi : i < xs.length) :
    ∃ x, xs[i]? = some x ∧ w.cell? ⟨b, off + i, none⟩ = some (.int k x) := by
  have := h.cell i (by simpa using hi)
  exact ⟨xs[i], by simp [hi], by simpa [ivs] using this⟩

end Go.Proofs.YtclnnkacfanaiaaDoor
