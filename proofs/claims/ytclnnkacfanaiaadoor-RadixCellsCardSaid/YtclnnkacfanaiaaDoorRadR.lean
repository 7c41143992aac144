/- The document reads the cells of a radix tree: a leaf; words on what was read. -/
import Derived.Test.YtclnnkacfanaiaaDoorRadG
import Derived.Test.YtclnnkacfanaiaaDoorRadF
import Derived.Test.YtclnnkacfanaiaaDoorRefC
import Derived.Outline
namespace Go.Proofs.YtclnnkacfanaiaaDoor
open Go.RowKit
set_option linter.unusedVariables false
set_option linter.unusedSimpArgs false
namespace RadR
open MaskA MaskP KidA KidB RadK RadM RadG
/-- pairs that were read: their row is new, their keys lie where the cells' keys do -/
def RN (w : World) (N L : Nat) (v : Value) (ps : Prs) : Prop := ∃ es : List El, es.map (·.2) = ps ∧ Cells2 w (fun b => L ≤ b) v es ∧ ∀ e ∈ es, RB w (fun b => b < N) e.1 e.2.1
def TRead (N : Nat) (w : World) (nx : Int) (d : Nat) (ps : Prs) (e : Ending) (w' : World) : Prop :=
  (∃ a c, e = .returned (.agg #[.slice a ps.length c, .int .i64 nx, .int .i64 (d : Int), .bool true]) ∧ ps.length ≤ c ∧ (a = none → c = 0) ∧ RN w' N w.heap.size (.slice a ps.length c) ps) ∧ Ext w w'
theorem RN.rp {w : World} {N L : Nat} {v : Value} {ps : Prs} (h : RN w N L v ps) : RP w (fun _ => True) v ps := by
  obtain ⟨es, h1, h2, h3⟩ := h
  exact ⟨es, h1, h2.mono (fun _ _ => trivial), fun e he => (h3 e he).mono (fun _ _ => trivial)⟩
theorem RN.keep {w w' : World} {N L : Nat} {v : Value} {ps : Prs} {S : Nat → Prop} (h : RN w N L v ps) (t : Touch S w w') (hS : ∀ b, S b → N ≤ b ∧ v.ownBlock ≠ some b) : RN w' N L v ps := by
  obtain ⟨es, h1, ⟨a, cap, g1, g2, g3, g4, g5⟩, h3⟩ := h
  refine ⟨es, h1, ⟨a, cap, g1, g2, g3, g4, fun i e he => ?_⟩, fun e he => (h3 e he).keep t (fun b hb hs => by have := (hS b hs).1; omega)⟩
  obtain ⟨b, off, h6, h7, h8, h9⟩ := g5 i e he
  have hn : ¬ S b := fun hs => (hS b hs).2 (by rw [g1, h6]; rfl)
  exact ⟨b, off, h6, h7, keepc t hn h8, keepc t hn h9⟩
theorem flat_append (a b : List El) : flat (a ++ b) = flat a ++ flat b := by simp [flat, List.flatMap_append]
/-- what was read so far: block rb; its row is one's own -/
def RSt (N W1 : Nat) (w : World) (rb : Nat) (ps : Prs) (nx : Int) (d : Nat) : Prop :=
  ∃ (a : Option Addr) (c : Nat) (es : List El), es.map (·.2) = ps ∧ Cb w rb [.slice a ps.length c, .int .i64 nx, .int .i64 (d : Int), .bool true] ∧ w.ownsRow 0 33 2 (.slice a ps.length c) ps.length (flat es) ∧
    (∀ b, (Value.slice a ps.length c).ownBlock = some b → W1 ≤ b ∧ b ≠ rb) ∧ ∀ e ∈ es, RB w (fun b => b < N) e.1 e.2.1
theorem RSt.ext {N W1 : Nat} {w w' : World} {rb : Nat} {ps : Prs} {nx : Int} {d : Nat} (h : RSt N W1 w rb ps nx d) (x : Ext w w') : RSt N W1 w' rb ps nx d := by
  obtain ⟨a, c, es, h1, h2, h3, h4, h5⟩ := h
  exact ⟨a, c, es, h1, h2.keep x id, own_keep h3 x (fun _ _ h => h), h4, fun e he => (h5 e he).ext x⟩
theorem RSt.new {N W1 : Nat} {w : World} {rb : Nat} {nx : Int} (h : Cb w rb [.slice none 0 0, .int .i64 nx, .int .i64 0, .bool true]) : RSt N W1 w rb [] nx 0 :=
  ⟨none, 0, [], rfl, h, World.ownsRow_nil _ _ _ _, (fun b h => by cases h), fun e he => by simp at he⟩
/-- pairs more: the row has grown, the four cells are stored -/
theorem RSt.more {N W1 : Nat} {w w1 w' : World} {rb : Nat} {ps qs : Prs} {nx' : Int} {d' : Nat} {a a' : Option Addr} {c c' : Nat} {es fs : List El} (hes : es.map (·.2) = ps) (hfs : fs.map (·.2) = qs) (hlt : ∀ b, (Value.slice a ps.length c).ownBlock = some b → W1 ≤ b ∧ b ≠ rb) (hW : W1 ≤ w.heap.size) (hrb : rb < w.heap.size) (hN : N ≤ W1) (hNr : N ≤ rb)
    (hk : ∀ e ∈ es, RB w (fun b => b < N) e.1 e.2.1) (hl : ∀ e ∈ fs, RB w (fun b => b < N) e.1 e.2.1)
    (hown : w1.ownsRow 0 33 2 (.slice a' (ps.length + qs.length) c') (ps.length + qs.length) (flat es ++ flat fs)) (t : Touch (fun b => (Value.slice a ps.length c).ownBlock = some b) w w1) (hb : (Value.slice a' (ps.length + qs.length) c').ownBlock = (Value.slice a ps.length c).ownBlock ∨ ∃ M, (Value.slice a' (ps.length + qs.length) c').ownBlock = some M ∧ w.heap.size ≤ M)
    (t2 : Touch (fun i => i = rb) w1 w') (hcb : Cb w' rb [.slice a' (ps.length + qs.length) c', .int .i64 nx', .int .i64 (d' : Int), .bool true]) : RSt N W1 w' rb (ps ++ qs) nx' d' := by
  have hne : ∀ b, (Value.slice a' (ps.length + qs.length) c').ownBlock = some b → W1 ≤ b ∧ b ≠ rb := fun b hb' => by
    rcases hb with h | ⟨M, h, hM⟩
    · exact hlt b (h ▸ hb')
    · rw [h] at hb'; cases hb'; exact ⟨by omega, by omega⟩
  have hll : (ps ++ qs).length = ps.length + qs.length := by simp
  refine ⟨a', c', es ++ fs, by simp [hes, hfs], by rw [hll]; exact hcb, by rw [hll, flat_append]; exact own_keep hown t2 (fun b hb' h => (hne b hb').2 h), by rw [hll]; exact hne, fun e he => ?_⟩
  have key : RB w (fun b => b < N) e.1 e.2.1 := (List.mem_append.1 he).elim (hk e) (hl e)
  exact (key.keep t (fun b hb' h => by have := (hlt b h).1; omega)).keep t2 (fun b hb' h => by have h : b = rb := h; omega)

theorem band_any (w : World) (kd n : Nat) (hkd : kd < 4) (h1 : leftI kd < (n : Int)) (h2 : (n : Int) ≤ roomI kd) :
    Calls Tryd.prog 108 #[.int .i64 (6 + (kd : Int)), .int .i64 n] w fun e w' => e = .returned (.bool true) ∧ w = w' := by
  have hk : kd = 0 ∨ kd = 1 ∨ kd = 2 ∨ kd = 3 := by omega
  rcases hk with rfl | rfl | rfl | rfl
  all_goals
    simp only [leftI, roomI] at h1 h2
    go_enter Tryd.func108, Tryd.ntmps108
    go_wp2_with (fail)
    go_ret
    exact ⟨congrArg (fun b => Ending.returned (.bool b)) (by simp <;> omega), rfl⟩

theorem cell_at_new (W : World) (b : Nat) (hb : b = W.heap.size) (C : Array Value) (T : TypeId) (j : Nat) : (W.alloc (.cells C T)).cell? ⟨b, j, none⟩ = C[j]? := by subst hb; exact World.cell?_alloc_new _ _ _ _
set_option maxRecDepth 100000 in
set_option maxHeartbeats 3200000 in
theorem read_leaf (w : World) (N : Nat) (v wv : Value) (cs : Cls) (i : Nat) (way k : List Int) (x : Int) (K : Nat → Prop) (h : RC w (fun b => b < N) v cs) (hw : RB w K wv way) (hi0 : cs[i]? = some (RT.leafC k x)) (hpre : way <+: k) (hkl : k.length ≤ 65535) (hm : cs.length ≤ 100000000000) :
    Calls Tryd.prog 88 #[v, .int .i64 i, wv] w (TRead N w ((i : Int) + 1) 1 [(k, x)]) := by
  obtain ⟨a, c, rfl, l1', m1, _⟩ := h.shape
  unfold maxLen at m1
  obtain ⟨wa, wc0, rfl, wl1, wl2, wn0⟩ := hw.shape
  have hil := (List.getElem?_eq_some_iff.1 hi0).1
  obtain ⟨cb, co, rfl⟩ := h.addr (by omega)
  obtain ⟨kv, hkv, c0, c1, c2, c3, c4, c5, c6, c7, c8⟩ := h.get i _ hi0
  obtain ⟨ka, kc, rfl, kl1, km1, kn0⟩ := hkv.shape
  simp only [RT.leafC] at hkv c0 c1 c2 c3 c4 c5 c6 c7 c8 kl1 km1
  have i0 : (0 : Int) ≤ (i : Int) := by omega
  have i1 : (i : Int) < (cs.length : Int) := by omega
  obtain ⟨W1, hW1⟩ : ∃ W1, W1 = w.alloc (.cells #[.slice none 0 0, .int .i64 0, .int .i64 0, .bool false] 86) := ⟨_, rfl⟩
  have x1 : Ext w W1 := by rw [hW1]; exact (Touch.refl _ _).alloc _
  have hcR := Cb.new w [.slice none 0 0, .int .i64 0, .int .i64 0, .bool false] 86
  rw [show w.alloc (.cells ([.slice none 0 0, .int .i64 0, .int .i64 0, .bool false] : List Value).toArray 86) = W1 by rw [hW1]] at hcR
  have hw1 : w.heap.size < W1.heap.size := by rw [hW1]; simp
  have hwl := hpre.length_le
  have hbg := RefC.rbegins_any W1 _ _ k way (hkv.ext x1) (hw.ext x1) (by omega) (by omega)
  rw [RadF.beg_pre.2 hpre] at hbg
  have hmy := fun W (x : Ext w W) => rmay_any W _ _ k (hkv.ext x)
  rw [decide_eq_true hkl] at hmy
  have c7' := keepc x1 id c7
  clear wn0 hwl wl2
  have H := Lib.hid h
  clear h
  have Hw := Lib.hid hw
  clear hw
  have Hi0 := Lib.hid hi0
  clear hi0
  have Hkv := Lib.hid hkv
  clear hkv
  have Hbg := Lib.hid hbg
  clear hbg
  have Hmy := Lib.hid hmy
  clear hmy
  have Hpre := Lib.hid hpre
  clear hpre
  have HcR := Lib.hid hcR
  clear hcR
  have X1 := Lib.hid x1
  clear x1
  unfold TRead
  go_enter Tryd.func88, Tryd.ntmps88
  go_upto_region 1 with (fail)
  rw [← hW1]
  clear hW1
  go_wp2_with (fail)
  (with_reducible refine Hbg.out.mono ?_)
  rintro e w2 ⟨rfl, t2⟩
  have x2 := X1.out.trans' t2
  have c7'' := keepc t2 id c7'
  have hmy := Hmy.out w2 x2
  have hcR2 := HcR.out.keep t2 id
  obtain ⟨r0, g0⟩ := hcR2 0 _ rfl
  obtain ⟨r1, g1⟩ := hcR2 1 _ rfl
  obtain ⟨r2, g2⟩ := hcR2 2 _ rfl
  obtain ⟨r3, g3⟩ := hcR2 3 _ rfl
  have hw2 : w.heap.size < w2.heap.size := Nat.lt_of_lt_of_le hw1 t2.size
  have Hmy := Lib.hid hmy
  clear hmy
  have HcR2 := Lib.hid hcR2
  clear hcR2
  have X2 := Lib.hid x2
  clear x2
  clear t2
  go_wp2_with (fail)
  (with_reducible refine Hmy.out.mono ?_)
  rintro e w' ⟨rfl, rfl⟩
  have d0 := keepc X2.out id c0
  have d1 := keepc X2.out id c1
  have d2 := keepc X2.out id c2
  have d3 := keepc X2.out id c3
  have d4 := keepc X2.out id c4
  have d5 := keepc X2.out id c5
  have d6 := keepc X2.out id c6
  have d8 := keepc X2.out id c8
  clear c0 c1 c2 c3 c4 c5 c6 c7 c8 c7' Hbg
  go_wp2_with (fail)
  obtain ⟨w3, hw3⟩ : ∃ w3, w3 = (((w2.setCell ⟨w.heap.size, 0, none⟩ (.slice (some ⟨w2.heap.size + 1, 0, none⟩) 1 1)).setCell ⟨w.heap.size, 1, none⟩ (.int .i64 ((i : Int) + 1))).setCell ⟨w.heap.size, 2, none⟩ (.int .i64 1)).setCell ⟨w.heap.size, 3, none⟩ (.bool true) := ⟨_, rfl⟩
  have hend : Cb w3 w.heap.size [.slice (some ⟨w2.heap.size + 1, 0, none⟩) 1 1, .int .i64 ((i : Int) + 1), .int .i64 1, .bool true] := by rw [hw3]; exact (((HcR2.out.set 0 _).set 1 _).set 2 _).set 3 _
  have tz : Touch (fun b => b = w.heap.size) w2 w3 := by
    rw [hw3]
    exact ((((Touch.refl (fun b => b = w.heap.size) w2).setCell (p := ⟨w.heap.size, 0, none⟩) (Or.inl rfl) _).setCell (p := ⟨w.heap.size, 1, none⟩) (Or.inl rfl) _).setCell (p := ⟨w.heap.size, 2, none⟩) (Or.inl rfl) _).setCell (p := ⟨w.heap.size, 3, none⟩) (Or.inl rfl) _
  have hsz : w2.heap.size = w3.heap.size := by rw [hw3]; simp
  rw [← hw3, hsz]
  rw [hsz] at hend
  clear hw3
  obtain ⟨w4, hw4⟩ : ∃ w4, w4 = w3.alloc (.cells #[.int .i64 5, .int .i64 0, .int .i64 1, .int .i64 0, .int .u8 0, .bool false, .int .u64 x, .slice ka k.length kc, .slice none 0 0] 53) := ⟨_, rfl⟩
  have x4 : Ext w3 w4 := by rw [hw4]; exact (Touch.refl _ _).alloc _
  have hs4 : w4.heap.size = w3.heap.size + 1 := by rw [hw4]; simp
  rw [← hw4]
  clear hw4
  have hn0 := cell_at_new w4 (w3.heap.size + 1) hs4.symm #[.slice ka k.length kc, .int .u64 x] 33 0
  have hn1 := cell_at_new w4 (w3.heap.size + 1) hs4.symm #[.slice ka k.length kc, .int .u64 x] 33 1
  have x5 : Ext w3 (w4.alloc (.cells #[.slice ka k.length kc, .int .u64 x] 33)) := x4.alloc _
  generalize w4.alloc (.cells #[.slice ka k.length kc, .int .u64 x] 33) = w5 at *
  have hend5 := hend.keep x5 id
  have xz : Ext w w5 := (X2.out.ext_new tz (fun i hi => by have hi : i = w.heap.size := hi; omega)).trans' x5
  have hkk := Hkv.out.ext xz
  clear hend r0 r1 r2 r3 g0 g1 g2 g3 hw2
  obtain ⟨k0, _⟩ := hend5 0 _ rfl
  obtain ⟨k1, _⟩ := hend5 1 _ rfl
  obtain ⟨k2, _⟩ := hend5 2 _ rfl
  obtain ⟨k3, _⟩ := hend5 3 _ rfl
  refine bodyPost_ret (v := .agg #[.slice (some ⟨w3.heap.size + 1, 0, none⟩) 1 1, .int .i64 ((i : Int) + 1), .int .i64 1, .bool true]) (by simp [results, Tryd.results88, go_sem, k0, k1, k2, k3]) rfl ⟨⟨_, _, rfl, Nat.le_refl _, (fun h => by cases h), ?_⟩, xz⟩
  refine ⟨[((.slice ka k.length kc : Value), (k, x))], rfl, ⟨_, _, rfl, Nat.le_refl _, by simp [maxLen], (fun h => by cases h), fun j e hj => ⟨_, _, rfl, ?_, ?_⟩⟩, fun e he => ?_⟩
  · have := X2.out.size; omega
  · obtain rfl : j = 0 := by have := (List.getElem?_eq_some_iff.1 hj).1; simp at this; exact this
    simp at hj
    subst hj
    exact ⟨hn0, hn1⟩
  · simp only [List.mem_cons, List.not_mem_nil, or_false] at he
    subst he
    exact hkk
end RadR
end Go.Proofs.YtclnnkacfanaiaaDoor
