/- A radix tree's nodes in memory: maps of bytes, nodes. -/
import Derived.Test.YtclnnkacfanaiaaDoorRadX
import Derived.Test.YtclnnkacfanaiaaDoorKeyC
import Derived.Maps.OwnSet
namespace Go.Proofs.YtclnnkacfanaiaaDoor
open Go.RowKit
set_option linter.unusedVariables false
set_option linter.unusedSimpArgs false
namespace RadM
open MaskA MaskP KidA KidB RadK
/-! ### a map of bytes -/
abbrev RdV : Value → Option (DataW Value × List MemPlace) := fun v => some (.held v, [])
abbrev lk (i : Nat) : Lit := .int .u8 (i : Int)
theorem keyed : Maps.Keyed Tryd.prog 5 := Maps.int_keyed Tryd.underlying5
theorem lk_wf {i : Nat} (h : i < 256) : (lk i).wf = true := by
  simp [Lit.wf, IntKind.min, IntKind.max, IntKind.signed, IntKind.bits]; omega
theorem keyOf_at {i : Nat} (h : i < 256) : keyOf Tryd.prog 5 (.int .u8 (i : Int)) = some (lk i) := Maps.keyOf_int_mk Tryd.underlying5 (lk_wf h)
theorem lk_ne {i j : Nat} (h : i ≠ j) : lk i ≠ lk j := fun e => h (by have := (Lit.int.inj e).2; omega)
theorem lk_lit (i : Nat) : WideAt.IsKeyLit (lk i) := by simp [WideAt.IsKeyLit]
theorem zeroP (w : World) : (zeroValue 74).run Tryd.prog w = .ok (.pointer none) w := by kernel_rfl

/-- block b holds a map of bytes to values -/
def Om (w : World) (b : Nat) (m : Nat → Option Value) : Prop :=
  ∃ D : DataW Value, w.ownsMap Tryd.prog 5 RdV b (Maps.size D) D ∧ Maps.size D = cnt (fun i => (m i).isSome) 256 ∧ (∀ i, i < 256 → Maps.has D (lk i) = (m i).isSome) ∧ ∀ i, i < 256 → ∀ v, m i = some v → ∀ z, D.atKey (lk i) z = .held v
def setm (m : Nat → Option Value) (i : Nat) (v : Option Value) : Nat → Option Value := fun j => if j = i then v else m j
theorem tight {w : World} {b n : Nat} {D : DataW Value} (h : w.ownsMap Tryd.prog 5 RdV b n D) : w.ownsMap Tryd.prog 5 RdV b (Maps.size D) D := by
  obtain ⟨es, clock, hb, F, hs, rfl⟩ := h
  exact ⟨es, clock, hb, F, by simp [Maps.size, length_sorted], rfl⟩
namespace Om
variable {w w' : World} {b : Nat} {m : Nat → Option Value} {S : Nat → Prop}
theorem lt (h : Om w b m) : b < w.heap.size := by obtain ⟨D, h1, _⟩ := h; exact h1.lt
theorem keep (h : Om w b m) (t : Touch S w w') (hn : ¬ S b) : Om w' b m := by
  obtain ⟨D, h1, h2⟩ := h
  have hl := h1.lt
  obtain ⟨es, clock, hb, r⟩ := h1
  exact ⟨D, ⟨es, clock, (t.block b hl hn).trans hb, r⟩, h2⟩
theorem ext (h : Om w b m) (t : Ext w w') : Om w' b m := h.keep t id
theorem new (w : World) : Om (w.alloc (.map #[] 0)) w.heap.size (fun _ => none) :=
  ⟨.map [], World.ownsMap_made w _ _ _, (cnt_none 256).symm, fun i _ => rfl, fun i _ v h => by cases h⟩
theorem look (h : Om w b m) {i : Nat} (hi : i < 256) : (Instr.lookup 94 (.map (some b)) (.int .u8 (i : Int)) true).run Tryd.prog w = .ok (.tuple #[(m i).getD (.pointer none), .bool (m i).isSome]) w := by
  obtain ⟨D, h1, h2, h3, h4⟩ := h
  obtain ⟨v, ps, hr, hv⟩ := h1.look_ok keyed Tryd.underlying94 (zeroP w) (zd := .held (.pointer none)) (zp := []) rfl (keyOf_at hi)
  rw [hr, h3 i hi]
  have hv2 : DataW.held v = D.atKey (lk i) (.held (.pointer none)) := (Prod.mk.inj (Option.some.inj hv)).1
  cases hm : m i with
  | none =>
    rw [Maps.atKey_of_not_has (by rw [h3 i hi, hm]; rfl)] at hv2
    cases hv2; rfl
  | some u =>
    rw [h4 i hi u hm] at hv2
    cases hv2; rfl
theorem look1 (h : Om w b m) {i : Nat} (hi : i < 256) : (Instr.lookup 94 (.map (some b)) (.int .u8 (i : Int)) false).run Tryd.prog w = .ok ((m i).getD (.pointer none)) w := by
  obtain ⟨D, h1, h2, h3, h4⟩ := h
  obtain ⟨v, ps, hr, hv⟩ := h1.lookup keyed Tryd.underlying94 (zeroP w) (zd := .held (.pointer none)) (zp := []) rfl (keyOf_at hi)
  rw [hr]
  have hv2 : DataW.held v = D.atKey (lk i) (.held (.pointer none)) := (Prod.mk.inj (Option.some.inj hv)).1
  cases hm : m i with
  | none =>
    rw [Maps.atKey_of_not_has (by rw [h3 i hi, hm]; rfl)] at hv2
    cases hv2; rfl
  | some u =>
    rw [h4 i hi u hm] at hv2
    cases hv2; rfl
theorem cnt_setm (m : Nat → Option Value) {i : Nat} (hi : i < 256) (v : Option Value) : cnt (fun j => (setm m i v j).isSome) 256 + ((m i).isSome).toNat = cnt (fun j => (m j).isSome) 256 + (v.isSome).toNat := by
  have h := KidW.cnt_setb (fun j => (m j).isSome) i v.isSome 256 hi
  have e : setb (fun j => (m j).isSome) i v.isSome = fun j => (setm m i v j).isSome := by
    funext j; simp only [setb, setm]; split <;> rfl
  rwa [e] at h
theorem put (h : Om w b m) {i : Nat} (hi : i < 256) (v : Value) : ∃ w', (Instr.mapUpdate 94 (.map (some b)) (.int .u8 (i : Int)) v).run Tryd.prog w = .ok () w' ∧ Om w' b (setm m i (some v)) ∧ Touch (fun k => k = b) w w' := by
  obtain ⟨D, h1, h2, h3, h4⟩ := h
  have hle := cnt_le (fun i => (m i).isSome) 256
  obtain ⟨w', hr, ho, ht⟩ := h1.store keyed Tryd.underlying94 (by unfold maxLen; omega) (keyOf_at hi) (d := .held v) (ps := []) (val := v) rfl
  have htd := h1.tidy keyed
  refine ⟨w', hr, ⟨_, tight ho, ?_, fun j hj => ?_, fun j hj u hu z => ?_⟩, ?_⟩
  · have hc := cnt_setm m hi (some v)
    rw [Maps.size_put htd, h3 i hi]
    cases hm : (m i).isSome with
    | true => rw [hm] at hc; simp at hc ⊢; omega
    | false => rw [hm] at hc; simp at hc ⊢; omega
  · unfold setm
    by_cases e : j = i
    · subst e; rw [Maps.has_put_same htd.isMap (lk_lit _)]; simp
    · rw [Maps.has_put_other (lk_ne e), h3 j hj]; simp [e]
  · unfold setm at hu
    by_cases e : j = i
    · subst e; simp at hu; subst hu; exact Maps.atKey_put_same htd.isMap (lk_lit _) _ _
    · simp [e] at hu; rw [Maps.atKey_put_other (lk_ne e)]; exact h4 j hj u hu z
  · have g := ht.grown
    exact ⟨g.os, g.tape, g.output, g.size, fun k hk hn => g.block k hk (fun e => hn (Option.some.inj e))⟩
theorem drop (h : Om w b m) {i : Nat} (hi : i < 256) (ty : TypeId) : ∃ w', (Builtin.delete_ #[94, 5] ty #[.map (some b), .int .u8 (i : Int)]).run Tryd.prog w = .ok (.tuple #[]) w' ∧ Om w' b (setm m i none) ∧ Touch (fun k => k = b) w w' := by
  obtain ⟨D, h1, h2, h3, h4⟩ := h
  obtain ⟨w', hr, ho, ht⟩ := h1.drop keyed Tryd.underlying94 (keyOf_at hi) ty
  have htd := h1.tidy keyed
  refine ⟨w', hr, ⟨_, tight ho, ?_, fun j hj => ?_, fun j hj u hu z => ?_⟩, ?_⟩
  · have hc := cnt_setm m hi none
    have hs := Maps.size_del (k := lk i) htd
    rw [h3 i hi] at hs
    cases hm : (m i).isSome with
    | true => rw [hm] at hc hs; simp at hc hs ⊢; omega
    | false => rw [hm] at hc hs; simp at hc hs ⊢; omega
  · unfold setm
    by_cases e : j = i
    · subst e; rw [Maps.has_del_same]; simp
    · rw [Maps.has_del_other (lk_ne e), h3 j hj]; simp [e]
  · unfold setm at hu
    by_cases e : j = i
    · subst e; simp at hu
    · simp [e] at hu; rw [Maps.atKey_del_other (lk_ne e)]; exact h4 j hj u hu z
  · have g := ht.grown
    exact ⟨g.os, g.tape, g.output, g.size, fun k hk hn => g.block k hk (fun e => hn (Option.some.inj e))⟩
end Om
section
variable (w : World) {ops : Array Oper} {rest : List Oper} {o : Oper} {a : Act} {Q : Exit → Act → World → Prop}
theorem wpList_mapPut (hg : o.guard = none) (x y v : Operand) (hop : o.op = Op.mapUpdate 94 x y v) (b : Nat) (m : Nat → Option Value) (hm : a.eval x = .map (some b)) (hown : Om w b m) (i : Nat) (hi : i < 256) (hy : a.eval y = .int .u8 (i : Int)) (u : Value) (hv : a.eval v = u)
    (hK : ∀ w', Om w' b (setm m i (some u)) → Touch (fun k => k = b) w w' → wpList Tryd.prog ops Q rest (a.put o.dst undef) w') : wpList Tryd.prog ops Q (o :: rest) a w := by
  refine wpList_plain hg fun K' hK' => ?_
  obtain ⟨w', hrun, r1, r2⟩ := hown.put hi u
  unfold Oper.wp
  simp [execOp, hop, hm, hy, hv, hrun, Result.andThen]
  exact hK' _ _ (hK w' r1 r2)
theorem wpList_mapDrop (hg : o.guard = none) (x y : Operand) (hop : o.op = Op.call { callee := Callee.builtin .delete, args := #[x, y], argTypes := #[94, 5] }) (b : Nat) (m : Nat → Option Value) (hm : a.eval x = .map (some b)) (hown : Om w b m) (i : Nat) (hi : i < 256) (hy : a.eval y = .int .u8 (i : Int))
    (hK : ∀ w', Om w' b (setm m i none) → Touch (fun k => k = b) w w' → wpList Tryd.prog ops Q rest (a.put o.dst (.tuple #[])) w') : wpList Tryd.prog ops Q (o :: rest) a w := by
  refine wpList_plain hg fun K' hK' => ?_
  obtain ⟨w', hrun, r1, r2⟩ := hown.drop hi o.type
  unfold Oper.wp
  simp [execOp, hop, resolve, invoke, builtin, hm, hy, hrun, Result.andThen]
  exact hK' _ _ (hK w' r1 r2)
end

/-! ### a node -/
structure Nd (w : World) (g : Nat) (kv : Value) (full : Bool) (x : Int) (kp mp : Value) : Prop where
  c0 : w.cell? ⟨g, 0, none⟩ = some kv
  c1 : w.cell? ⟨g, 1, none⟩ = some (.bool full)
  c2 : w.cell? ⟨g, 2, none⟩ = some (.int .u64 x)
  c3 : w.cell? ⟨g, 3, none⟩ = some kp
  c4 : w.cell? ⟨g, 4, none⟩ = some mp
  f1 : w.frozen? ⟨g, 1, none⟩ = false
  f2 : w.frozen? ⟨g, 2, none⟩ = false
namespace Nd
variable {w w' : World} {g : Nat} {kv kp mp : Value} {full : Bool} {x : Int} {S : Nat → Prop}
theorem lt (h : Nd w g kv full x kp mp) : g < w.heap.size := World.block_lt_of_cell? _ _ h.c0
theorem keep (h : Nd w g kv full x kp mp) (t : Touch S w w') (hn : ¬ S g) : Nd w' g kv full x kp mp :=
  ⟨keepc t hn h.c0, keepc t hn h.c1, keepc t hn h.c2, keepc t hn h.c3, keepc t hn h.c4, keepf (p := ⟨g, 1, none⟩) t h.lt hn h.f1, keepf (p := ⟨g, 2, none⟩) t h.lt hn h.f2⟩
theorem ext (h : Nd w g kv full x kp mp) (t : Ext w w') : Nd w' g kv full x kp mp := h.keep t id
theorem new (w : World) (kv kp mp : Value) (full : Bool) (x : Int) (t : Nat) : Nd (w.alloc (.cells #[kv, .bool full, .int .u64 x, kp, mp] t)) w.heap.size kv full x kp mp := by
  refine ⟨?_, ?_, ?_, ?_, ?_, ?_, ?_⟩ <;> simp
theorem set1 (h : Nd w g kv full x kp mp) (b : Bool) : Nd (w.setCell ⟨g, 1, none⟩ (.bool b)) g kv b x kp mp := by
  have o : ∀ (j : Nat), 1 ≠ j → (w.setCell ⟨g, 1, none⟩ (.bool b)).cell? ⟨g, j, none⟩ = w.cell? ⟨g, j, none⟩ := fun j hij => World.cell?_setCell_other _ _ _ _ (fun h => hij (congrArg Addr.off h))
  exact ⟨by rw [o 0 (by omega)]; exact h.c0, World.cell?_setCell_same _ _ _ h.c1, by rw [o 2 (by omega)]; exact h.c2, by rw [o 3 (by omega)]; exact h.c3, by rw [o 4 (by omega)]; exact h.c4, by rw [World.frozen?_setCell]; exact h.f1, by rw [World.frozen?_setCell]; exact h.f2⟩
theorem set2 (h : Nd w g kv full x kp mp) (y : Int) : Nd (w.setCell ⟨g, 2, none⟩ (.int .u64 y)) g kv full y kp mp := by
  have o : ∀ (j : Nat), 2 ≠ j → (w.setCell ⟨g, 2, none⟩ (.int .u64 y)).cell? ⟨g, j, none⟩ = w.cell? ⟨g, j, none⟩ := fun j hij => World.cell?_setCell_other _ _ _ _ (fun h => hij (congrArg Addr.off h))
  exact ⟨by rw [o 0 (by omega)]; exact h.c0, by rw [o 1 (by omega)]; exact h.c1, World.cell?_setCell_same _ _ _ h.c2, by rw [o 3 (by omega)]; exact h.c3, by rw [o 4 (by omega)]; exact h.c4, by rw [World.frozen?_setCell]; exact h.f1, by rw [World.frozen?_setCell]; exact h.f2⟩
end Nd

def hI (f : Nat → RT) : Nat → Int := fun i => if (f i).is then 1 else 0
theorem hs_hI (f : Nat → RT) : hs (hI f) = RT.hsT f := by
  funext i; simp only [hs, hI, RT.hsT]; cases (f i).is <;> rfl
def mO (f : Nat → RT) (m : Nat → Value) : Nat → Option Value := fun i => if (f i).is then some (m i) else none
theorem mO_some (f : Nat → RT) (m : Nat → Value) (i : Nat) : (mO f m i).isSome = (f i).is := by unfold mO; cases (f i).is <;> rfl
abbrev pt (g : Nat) : Value := .pointer (some ⟨g, 0, none⟩)

/-- block v tells a tree; F: what is written; K: where keys lie -/
def Rn (w : World) (K : Nat → Prop) : (Nat → Prop) → Value → RT → Prop
  | _, v, .nil => v = .pointer none
  | F, v, .leaf k x => ∃ g kv, v = pt g ∧ F g ∧ Nd w g kv true x (.pointer none) (.map none) ∧ RB w K kv k
  | F, v, .node k o kd f => ∃ g gk gm kv, ∃ m : Nat → Value, ∃ G : Nat → Nat → Prop, v = pt g ∧ F g ∧ F gk ∧ F gm ∧ g ≠ gk ∧ g ≠ gm ∧ gk ≠ gm ∧ Nd w g kv o.isSome (o.getD 0) (pt gk) (.map (some gm)) ∧ RB w K kv k ∧
      Kn w gk kd (hI f) ∧ Om w gm (mO f m) ∧ (∀ i, i < 256 → Rn w K (G i) (m i) (f i)) ∧ (∀ i b, G i b → F b ∧ b ≠ g ∧ b ≠ gk ∧ b ≠ gm) ∧ ∀ i j b, G i b → G j b → i = j
namespace Rn
variable {w w' : World} {K K' F F' S : Nat → Prop} {v : Value} {T : RT}
theorem keep {T : RT} : ∀ {F : Nat → Prop} {v : Value}, Rn w K F v T → Touch S w w' → (∀ b, F b → ¬ S b) → (∀ b, K b → ¬ S b) → Rn w' K F v T := by
  induction T with
  | nil => intro F v h _ _ _; exact h
  | leaf k x =>
    intro F v h t hF hK
    obtain ⟨g, kv, h1, h2, h3, h4⟩ := h
    exact ⟨g, kv, h1, h2, h3.keep t (hF _ h2), h4.keep t hK⟩
  | node k o kd f ih =>
    intro F v h t hF hK
    obtain ⟨g, gk, gm, kv, m, G, h1, h2, h3, h4, h5, h6, h7, h8, h9, h10, h11, h12, h13, h14⟩ := h
    exact ⟨g, gk, gm, kv, m, G, h1, h2, h3, h4, h5, h6, h7, h8.keep t (hF _ h2), h9.keep t hK, h10.keep t (hF _ h3), h11.keep t (hF _ h4), fun i hi => ih i (h12 i hi) t (fun b hb => hF b (h13 i b hb).1) hK, h13, h14⟩
theorem ext (h : Rn w K F v T) (t : Ext w w') : Rn w' K F v T := h.keep t (fun _ _ h => h) (fun _ _ h => h)
theorem mono {T : RT} (h : Rn w K F v T) (hF : ∀ b, F b → F' b) : Rn w K F' v T := by
  cases T with
  | nil => exact h
  | leaf k x =>
    obtain ⟨g, kv, h1, h2, h3⟩ := h
    exact ⟨g, kv, h1, hF _ h2, h3⟩
  | node k o kd f =>
    obtain ⟨g, gk, gm, kv, m, G, h1, h2, h3, h4, h5, h6, h7, h8, h9, h10, h11, h12, h13, h14⟩ := h
    exact ⟨g, gk, gm, kv, m, G, h1, hF _ h2, hF _ h3, hF _ h4, h5, h6, h7, h8, h9, h10, h11, h12, fun i b hb => ⟨hF _ (h13 i b hb).1, (h13 i b hb).2⟩, h14⟩
theorem keys {T : RT} (hK : ∀ b, K b → K' b) : ∀ {F : Nat → Prop} {v : Value}, Rn w K F v T → Rn w K' F v T := by
  induction T with
  | nil => intro F v h; exact h
  | leaf k x =>
    intro F v h
    obtain ⟨g, kv, h1, h2, h3, h4⟩ := h
    exact ⟨g, kv, h1, h2, h3, h4.mono hK⟩
  | node k o kd f ih =>
    intro F v h
    obtain ⟨g, gk, gm, kv, m, G, h1, h2, h3, h4, h5, h6, h7, h8, h9, h10, h11, h12, h13, h14⟩ := h
    exact ⟨g, gk, gm, kv, m, G, h1, h2, h3, h4, h5, h6, h7, h8, h9.mono hK, h10, h11, fun i hi => ih i (h12 i hi), h13, h14⟩
theorem ptr {T : RT} (h : Rn w K F v T) (hT : T.is = true) : ∃ g, v = pt g ∧ F g ∧ g < w.heap.size := by
  cases T with
  | nil => simp [RT.is] at hT
  | leaf k x => obtain ⟨g, kv, h1, h2, h3, _⟩ := h; exact ⟨g, h1, h2, h3.lt⟩
  | node k o kd f => obtain ⟨g, gk, gm, kv, m, G, h1, h2, h3, h4, h5, h6, h7, h8, _⟩ := h; exact ⟨g, h1, h2, h8.lt⟩
/-- its first cell, and the rest of what every node has -/
theorem head {T : RT} (h : Rn w K F v T) (hT : T.is = true) : ∃ g kv full x kp mp, v = pt g ∧ F g ∧ Nd w g kv full x kp mp ∧ RB w K kv T.key := by
  cases T with
  | nil => simp [RT.is] at hT
  | leaf k x => obtain ⟨g, kv, h1, h2, h3, h4⟩ := h; exact ⟨g, kv, _, _, _, _, h1, h2, h3, h4⟩
  | node k o kd f => obtain ⟨g, gk, gm, kv, m, G, h1, h2, h3, h4, h5, h6, h7, h8, h9, _⟩ := h; exact ⟨g, kv, _, _, _, _, h1, h2, h8, h9⟩
end Rn
end RadM
end Go.Proofs.YtclnnkacfanaiaaDoor
