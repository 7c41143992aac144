/- Package kid: a node in memory; New. -/
import Derived.Test.YtclnnkacfanaiaaDoorMaskX
import Derived.Test.YtclnnkacfanaiaaDoorMem
import Derived.Test.YtclnnkacfanaiaaDoorPlan
namespace Go.Proofs.YtclnnkacfanaiaaDoor
open Go.RowKit
set_option linter.unusedVariables false
set_option linter.unusedSimpArgs false
namespace KidA
open MaskA MaskP

/-- the set of the bytes that have a child -/
def hs (h : Nat → Int) : Nat → Bool := fun i => h i != 0
/-- a node at block g: its kind, its mask, its children -/
structure Kn (w : World) (g : Nat) (kd : Int) (h : Nat → Int) : Prop where
  kind : w.cell? ⟨g, 0, none⟩ = some (.int .i64 kd)
  m0 : w.cell? ⟨g, 1, none⟩ = some (.int .u64 (word (hs h) 0 : Nat))
  m1 : w.cell? ⟨g, 2, none⟩ = some (.int .u64 (word (hs h) 1 : Nat))
  m2 : w.cell? ⟨g, 3, none⟩ = some (.int .u64 (word (hs h) 2 : Nat))
  m3 : w.cell? ⟨g, 4, none⟩ = some (.int .u64 (word (hs h) 3 : Nat))
  kid : ∀ i : Nat, i < 256 → w.cell? ⟨g, 5 + i, none⟩ = some (.int .u32 (h i))
  fr : ∀ o : Nat, o < 261 → w.frozen? ⟨g, o, none⟩ = false
theorem Kn.keep {S : Nat → Prop} {w w' : World} {g : Nat} {kd : Int} {h : Nat → Int} (k : Kn w g kd h) (t : Touch S w w') (hn : ¬ S g) : Kn w' g kd h :=
  ⟨keepc t hn k.kind, keepc t hn k.m0, keepc t hn k.m1, keepc t hn k.m2, keepc t hn k.m3, fun i hi => keepc t hn (k.kid i hi), fun o ho => keepf (p := ⟨g, o, none⟩) t (show g < w.heap.size from World.block_lt_of_cell? _ ⟨g, 0, none⟩ k.kind) hn (k.fr o ho)⟩
theorem Kn.ext {w w' : World} {g : Nat} {kd : Int} {h : Nat → Int} (k : Kn w g kd h) (t : Ext w w') : Kn w' g kd h := k.keep t id
theorem Kn.lt {w : World} {g : Nat} {kd : Int} {h : Nat → Int} (k : Kn w g kd h) : g < w.heap.size := World.block_lt_of_cell? _ _ k.kind
/-- the two tables: how many children a kind has at most; at how many it becomes the one before -/
structure Tb (w : World) : Prop where
  r0 : w.cell? ⟨1, 0, none⟩ = some (.int .i64 4)
  r1 : w.cell? ⟨1, 1, none⟩ = some (.int .i64 16)
  r2 : w.cell? ⟨1, 2, none⟩ = some (.int .i64 48)
  r3 : w.cell? ⟨1, 3, none⟩ = some (.int .i64 256)
  l0 : w.cell? ⟨0, 0, none⟩ = some (.int .i64 (-1))
  l1 : w.cell? ⟨0, 1, none⟩ = some (.int .i64 3)
  l2 : w.cell? ⟨0, 2, none⟩ = some (.int .i64 12)
  l3 : w.cell? ⟨0, 3, none⟩ = some (.int .i64 40)
theorem Tb.keep {S : Nat → Prop} {w w' : World} (k : Tb w) (t : Touch S w w') (h0 : ¬ S 1) (h1 : ¬ S 0) : Tb w' :=
  ⟨keepc t h0 k.r0, keepc t h0 k.r1, keepc t h0 k.r2, keepc t h0 k.r3, keepc t h1 k.l0, keepc t h1 k.l1, keepc t h1 k.l2, keepc t h1 k.l3⟩
theorem Tb.ext {w w' : World} (k : Tb w) (t : Ext w w') : Tb w' := k.keep t id id

/-- each table alone -/
structure Tr (w : World) : Prop where
  r0 : w.cell? ⟨1, 0, none⟩ = some (.int .i64 4)
  r1 : w.cell? ⟨1, 1, none⟩ = some (.int .i64 16)
  r2 : w.cell? ⟨1, 2, none⟩ = some (.int .i64 48)
  r3 : w.cell? ⟨1, 3, none⟩ = some (.int .i64 256)
theorem Tr.keep {S : Nat → Prop} {w w' : World} (k : Tr w) (t : Touch S w w') (h0 : ¬ S 1) : Tr w' := ⟨keepc t h0 k.r0, keepc t h0 k.r1, keepc t h0 k.r2, keepc t h0 k.r3⟩
theorem Tr.ext {w w' : World} (k : Tr w) (t : Ext w w') : Tr w' := k.keep t id
structure Tl (w : World) : Prop where
  l0 : w.cell? ⟨0, 0, none⟩ = some (.int .i64 (-1))
  l1 : w.cell? ⟨0, 1, none⟩ = some (.int .i64 3)
  l2 : w.cell? ⟨0, 2, none⟩ = some (.int .i64 12)
  l3 : w.cell? ⟨0, 3, none⟩ = some (.int .i64 40)
theorem Tl.keep {S : Nat → Prop} {w w' : World} (k : Tl w) (t : Touch S w w') (h1 : ¬ S 0) : Tl w' := ⟨keepc t h1 k.l0, keepc t h1 k.l1, keepc t h1 k.l2, keepc t h1 k.l3⟩
theorem Tl.ext {w w' : World} (k : Tl w) (t : Ext w w') : Tl w' := k.keep t id
theorem Tb.tr {w : World} (k : Tb w) : Tr w := ⟨k.r0, k.r1, k.r2, k.r3⟩
theorem Tb.tl {w : World} (k : Tb w) : Tl w := ⟨k.l0, k.l1, k.l2, k.l3⟩

def zeroC : Array Value := (#[.int .i64 0, .int .u64 0, .int .u64 0, .int .u64 0, .int .u64 0] : Array Value) ++ Array.replicate 256 (.int .u32 0)
theorem zero_cell (i : Nat) (h : i < 256) : zeroC[5 + i]? = some (.int .u32 0) := by
  unfold zeroC
  rw [Array.getElem?_append_right (by simp)]
  simp [h]
theorem zero_head (i : Nat) (h : i < 5) : zeroC[i]? = (#[.int .i64 0, .int .u64 0, .int .u64 0, .int .u64 0, .int .u64 0] : Array Value)[i]? := by
  unfold zeroC
  rw [Array.getElem?_append_left (by simpa using h)]
theorem kn_new (w : World) (t : Nat) : Kn (w.alloc (.cells zeroC t)) w.heap.size 0 (fun _ => 0) := by
  have hz : hs (fun _ => 0) = fun _ => false := by funext i; simp [hs]
  refine ⟨?_, ?_, ?_, ?_, ?_, fun i hi => ?_, fun o _ => World.frozen?_alloc_new _ _ _ _⟩
  · rw [World.cell?_alloc_new, zero_head 0 (by omega)]; rfl
  · rw [World.cell?_alloc_new, hz, word_none, zero_head 1 (by omega)]; rfl
  · rw [World.cell?_alloc_new, hz, word_none, zero_head 2 (by omega)]; rfl
  · rw [World.cell?_alloc_new, hz, word_none, zero_head 3 (by omega)]; rfl
  · rw [World.cell?_alloc_new, hz, word_none, zero_head 4 (by omega)]; rfl
  · rw [World.cell?_alloc_new]; exact zero_cell i hi

def KNew (w : World) (e : Ending) (w' : World) : Prop := e = .returned (.pointer (some ⟨w.heap.size, 0, none⟩)) ∧ Kn w' w.heap.size 0 (fun _ => 0) ∧ Ext w w'
set_option maxRecDepth 100000 in
set_option maxHeartbeats 800000 in
theorem new_any (w : World) : Calls Tryd.prog 95 #[] w (KNew w) := by
  have hz := (kn_new w 127)
  have Hz := Lib.hid hz
  clear hz
  unfold KNew
  go_enter Tryd.func95, Tryd.ntmps95
  have hzv : ∀ W, Sem.run Tryd.prog (zeroValue 127) W = .ok (.agg zeroC) W := fun _ => by kernel_rfl
  go_wp2_with (fail)
  go_ret
  exact ⟨rfl, Hz.out, (Touch.refl _ _).alloc _⟩
end KidA
end Go.Proofs.YtclnnkacfanaiaaDoor
