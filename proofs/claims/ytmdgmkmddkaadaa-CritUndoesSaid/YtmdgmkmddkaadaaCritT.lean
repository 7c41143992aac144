/- The document reads the cells of a crit-bit tree. -/
import Derived.Test.YtmdgmkmddkaadaaCritR
import Derived.Test.YtmdgmkmddkaadaaCritS
import Derived.Outline
namespace Go.Proofs.Ytmdgmkmddkaadaa
open Go.RowKit
set_option linter.unusedVariables false
set_option linter.unusedSimpArgs false
namespace CritT
open CritR
variable {F G : Nat → Prop}

theorem cell_at_new (W : World) (b : Nat) (hb : b = W.heap.size) (C : Array Value) (T : TypeId) (j : Nat) : (W.alloc (.cells C T)).cell? ⟨b, j, none⟩ = C[j]? := by subst hb; exact World.cell?_alloc_new _ _ _ _
set_option maxRecDepth 100000 in
set_option maxHeartbeats 3200000 in
theorem read_leaf (w : World) (v : Value) (cs : Cls) (i : Nat) (p : List Int × Int) (above : Int) (N : Nat) (hN : N ≤ w.heap.size) (h : RC w (fun b => b < N) v cs) (hi : cs[i]? = some (leafC p)) (hpp : KB p.1 ∧ p.1.length ≤ 65535) (hm : cs.length ≤ 2000000) :
    Calls Try.prog 64 #[v, .int .i64 i, .int .i64 above] w fun e w' => (∃ v', e = .returned (.agg #[v', .int .i64 (i + 1), .int .i64 1, .bool true]) ∧ RP w' (fun b => b < N ∨ w.heap.size ≤ b) v' [p]) ∧ Ext w w' := by
  obtain ⟨a, c, rfl, l1, m1, _⟩ := h.shape
  unfold maxLen at m1
  have hil := (List.getElem?_eq_some_iff.1 hi).1
  obtain ⟨b, off, rfl⟩ := h.addr (by omega)
  obtain ⟨kv, hkv, c0, c1, c2, c3, c4, c5, c6, c7, c8⟩ := h.get i _ hi
  obtain ⟨ka, kc, rfl, _⟩ := hkv.shape
  simp only [leafC] at hkv c0 c1 c2 c3 c4 c5 c6 c7 c8
  have i0 : (0 : Int) ≤ (i : Int) := by omega
  have i1 : (i : Int) < (cs.length : Int) := by omega
  have hlt := World.block_lt_of_cell? _ _ c0
  have H := Lib.hid h
  clear h
  have Hi := Lib.hid hi
  clear hi
  have Hkv := Lib.hid hkv
  clear hkv
  go_enter Try.func64, Try.ntmps64
  go_wp2_with (fail)
  have t1 : Ext w ((w.alloc (.cells #[.slice none 0 0, .int .i64 0, .int .i64 0, .bool false] 53)).alloc (.cells #[.int .i64 1, .int .i64 0, .int .i64 1, .int .i64 0, .int .u8 0, .bool false, .int .u64 p.2, .slice ka p.1.length kc, .slice none 0 0] 51)) := ((Touch.refl _ _).alloc _).alloc _
  have hmay := rmay_any _ _ _ p.1 (Hkv.out.ext t1)
  rw [decide_eq_true hpp.2] at hmay
  have Hmay := Lib.hid hmay
  clear hmay
  refine Hmay.out.mono ?_
  rintro e w1 ⟨rfl, rfl⟩
  go_wp2_with (fail)
  have t3 : ∀ o1 o2 : Obj, Ext w ((w.alloc o1).alloc o2) := fun o1 o2 => ((Touch.refl _ _).alloc _).alloc _
  refine bodyPost_ret (v := .agg #[.slice (some ⟨w.heap.size + 1 + 1, 0, none⟩) 1 1, .int .i64 ((i : Int) + 1), .int .i64 1, .bool true]) (by simp [results, Try.results64, go_sem]) rfl ⟨⟨_, rfl, ?_⟩, (t3 _ _).alloc _⟩
  refine ⟨[((.slice ka p.1.length kc : Value), p)], rfl, ⟨_, _, rfl, Nat.le_refl _, by simp [maxLen], (fun h => by cases h), fun j e hj => ⟨_, _, rfl, Or.inr (by omega), ?_⟩⟩, fun e he => ?_⟩
  · obtain rfl : j = 0 := by have := (List.getElem?_eq_some_iff.1 hj).1; simp at this; exact this
    simp at hj
    subst hj
    exact ⟨(cell_at_new _ _ (by simp) _ _ _).trans rfl, (cell_at_new _ _ (by simp) _ _ _).trans rfl⟩
  · simp only [List.mem_cons, List.not_mem_nil, or_false] at he
    subst he
    exact ((Hkv.out.ext (t3 _ _)).ext ((Touch.refl _ _).alloc _)).mono (fun b hb => Or.inl hb)

set_option maxRecDepth 100000 in
set_option maxHeartbeats 1600000 in
/-- a cell that has none but its bit -/
theorem bare_inner (w : World) (d : Int) (n : Int) (ka : Option Addr) (kc : Nat) :
    Calls Try.prog 93 #[.agg #[.int .i64 2, .int .i64 d, .int .i64 n, .int .i64 2, .int .u8 0, .bool false, .int .u64 0, .slice ka 0 kc, .slice none 0 0], .bool true, .bool false, .bool false, .bool false, .bool false] w fun e w' => e = .returned (.bool true) ∧ Ext w w' := by
  go_enter Try.func93, Try.ntmps93
  go_wp2_with (fail)
  go_ret
  exact ⟨rfl, (Touch.refl _ _).alloc _⟩

/-- what a part of a tree is read as: so many cells, so deep -/
def ReadRet (N : Nat) (w : World) (nx : Int) (d : Nat) (ps : Prs) (e : Ending) (w' : World) : Prop :=
  (∃ v', e = .returned (.agg #[v', .int .i64 nx, .int .i64 (d : Int), .bool true]) ∧ RP w' (fun b => b < N ∨ w.heap.size ≤ b) v' ps) ∧ Ext w w'
theorem read_of {w w' : World} {nx : Int} {d : Nat} {ps : Prs} {e : Ending} {N : Nat} (h : ReadRet N w nx d ps e w') : ∃ a c, e = .returned (.agg #[.slice a ps.length c, .int .i64 nx, .int .i64 (d : Int), .bool true]) ∧ ps.length ≤ c ∧ (a = none → c = 0) ∧ RP w' (fun b => b < N ∨ w.heap.size ≤ b) (.slice a ps.length c) ps ∧ Ext w w' := by
  obtain ⟨⟨v', rfl, hr⟩, ht⟩ := h
  obtain ⟨a, c, rfl, h1, _, h2⟩ := hr.shape
  exact ⟨a, c, rfl, h1, h2, hr, ht⟩

theorem set4_get {w : World} {b : Nat} {u0 u1 u2 u3 x0 x1 x2 x3 : Value} (h0 : w.cell? ⟨b, 0, none⟩ = some x0) (h1 : w.cell? ⟨b, 1, none⟩ = some x1) (h2 : w.cell? ⟨b, 2, none⟩ = some x2) (h3 : w.cell? ⟨b, 3, none⟩ = some x3) :
    ((((w.setCell ⟨b, 0, none⟩ u0).setCell ⟨b, 1, none⟩ u1).setCell ⟨b, 2, none⟩ u2).setCell ⟨b, 3, none⟩ u3).cell? ⟨b, 0, none⟩ = some u0 ∧ ((((w.setCell ⟨b, 0, none⟩ u0).setCell ⟨b, 1, none⟩ u1).setCell ⟨b, 2, none⟩ u2).setCell ⟨b, 3, none⟩ u3).cell? ⟨b, 1, none⟩ = some u1 ∧
    ((((w.setCell ⟨b, 0, none⟩ u0).setCell ⟨b, 1, none⟩ u1).setCell ⟨b, 2, none⟩ u2).setCell ⟨b, 3, none⟩ u3).cell? ⟨b, 2, none⟩ = some u2 ∧ ((((w.setCell ⟨b, 0, none⟩ u0).setCell ⟨b, 1, none⟩ u1).setCell ⟨b, 2, none⟩ u2).setCell ⟨b, 3, none⟩ u3).cell? ⟨b, 3, none⟩ = some u3 := by
  refine ⟨?_, ?_, ?_, ?_⟩
  · rw [World.cell?_setCell_other _ _ _ _ (by simp), World.cell?_setCell_other _ _ _ _ (by simp), World.cell?_setCell_other _ _ _ _ (by simp)]; exact World.cell?_setCell_same _ _ _ h0
  · rw [World.cell?_setCell_other _ _ _ _ (by simp), World.cell?_setCell_other _ _ _ _ (by simp)]; exact World.cell?_setCell_same _ _ _ (by rw [World.cell?_setCell_other _ _ _ _ (by simp)]; exact h1)
  · rw [World.cell?_setCell_other _ _ _ _ (by simp)]; exact World.cell?_setCell_same _ _ _ (by rw [World.cell?_setCell_other _ _ _ _ (by simp), World.cell?_setCell_other _ _ _ _ (by simp)]; exact h2)
  · exact World.cell?_setCell_same _ _ _ (by rw [World.cell?_setCell_other _ _ _ _ (by simp), World.cell?_setCell_other _ _ _ _ (by simp), World.cell?_setCell_other _ _ _ _ (by simp)]; exact h3)
theorem touch_four (w : World) (b : Nat) (u0 u1 u2 u3 : Value) : Touch (fun i => i = b) w ((((w.setCell ⟨b, 0, none⟩ u0).setCell ⟨b, 1, none⟩ u1).setCell ⟨b, 2, none⟩ u2).setCell ⟨b, 3, none⟩ u3) :=
  ((((Touch.refl (fun i => i = b) w).setCell (p := ⟨b, 0, none⟩) (Or.inl rfl) _).setCell (p := ⟨b, 1, none⟩) (Or.inl rfl) _).setCell (p := ⟨b, 2, none⟩) (Or.inl rfl) _).setCell (p := ⟨b, 3, none⟩) (Or.inl rfl) _



set_option maxRecDepth 100000 in
set_option maxHeartbeats 8000000 in
theorem read_inner (w : World) (v : Value) (cs : Cls) (i : Nat) (ps : Prs) (d : Nat) (above : Int) (N : Nat) (hN : N ≤ w.heap.size) (h : RC w (fun b => b < N) v cs) (A B : Prs) (la da db : Nat) (hAB : ps = A ++ B) (hA : 0 < A.length) (hB : 0 < B.length) (hdd : ∀ (k : Nat) x, ps[k]? = some x → (dI (firstK ps) x.1 = -1 ∨ (d : Int) ≤ dI (firstK ps) x.1) ∧ bK x.1 d = if k < A.length then 0 else 1) (hlen : (critK ps).length = 1 + la + (critK B).length) (hdep : deepK ps = 1 + max da db) (hpp : ∀ p ∈ ps, KB p.1 ∧ p.1.length ≤ 65535) (hi : cs[i]? = some (innerC d ps.length)) (hm : cs.length ≤ 2000000) (hpm : ps.length ≤ 1000000) (hab : above < d) (hdm : d ≤ 1000000) (hdp : da ≤ 1000000 ∧ db ≤ 1000000) (hfit : i + (critK ps).length ≤ cs.length)
    (h1 : ∀ W, Ext w W → w.heap.size + 1 < W.heap.size → Calls Try.prog 64 #[v, .int .i64 ((i : Int) + 1), .int .i64 d] W (ReadRet N W ((i : Int) + 1 + la) da A))
    (h2 : ∀ W, Ext w W → w.heap.size + 1 < W.heap.size → Calls Try.prog 64 #[v, .int .i64 ((i : Int) + 1 + la), .int .i64 d] W (ReadRet N W ((i : Int) + 1 + la + ((critK B).length : Int)) db B)) :
    Calls Try.prog 64 #[v, .int .i64 i, .int .i64 above] w (ReadRet N w ((i : Int) + ((critK ps).length : Int)) (deepK ps) ps) := by
  obtain ⟨a, c, rfl, l1, m1, _⟩ := h.shape
  unfold maxLen at m1
  have hil := (List.getElem?_eq_some_iff.1 hi).1
  obtain ⟨b, off, rfl⟩ := h.addr (by omega)
  obtain ⟨kv, hkv, c0, c1, c2, c3, c4, c5, c6, c7, c8⟩ := h.get i _ hi
  obtain ⟨ka, kc, rfl, _⟩ := hkv.shape
  simp only [innerC] at hkv c0 c1 c2 c3 c4 c5 c6 c7 c8
  have i0 : (0 : Int) ≤ (i : Int) := by omega
  have i1 : (i : Int) < (cs.length : Int) := by omega
  have hlt := World.block_lt_of_cell? _ _ c0
  have hsum : (A.length : Int) + (B.length : Int) = (ps.length : Int) := by rw [hAB]; simp
  have hwrap : IntKind.i64.wrap (ps.length : Int) = (ps.length : Int) := by rw [IntKind.wrap_i64]; omega
  have hda := hdp.1
  have hdb := hdp.2
  generalize hlb : (critK B).length = lb at *
  generalize hlp : (critK ps).length = lp at *
  generalize hdq : deepK ps = dp at *
  have H := Lib.hid h
  clear h
  have Hi := Lib.hid hi
  clear hi
  have Hkv := Lib.hid hkv
  clear hkv
  have H1 := Lib.hid h1
  clear h1
  have H2 := Lib.hid h2
  clear h2
  have Hpp := Lib.hid hpp
  clear hpp
  have Hdp := Lib.hid hdp
  clear hdp
  have Hdd := Lib.hid hdd
  clear hdd
  have HAB := Lib.hid hAB
  clear hAB
  have Hlb := Lib.hid hlb
  clear hlb
  have Hlp := Lib.hid hlp
  clear hlp
  have Hdq := Lib.hid hdq
  clear hdq
  have Hlen := Lib.hid hlen
  clear hlen
  have Hdep := Lib.hid hdep
  clear hdep
  have Hsum := Lib.hid hsum
  clear hsum
  have Hwrap := Lib.hid hwrap
  clear hwrap
  go_enter Try.func64, Try.ntmps64
  go_wp2_with (fail)
  have t0 : Ext w ((w.alloc (.cells #[.slice none 0 0, .int .i64 0, .int .i64 0, .bool false] 53)).alloc (.cells #[.int .i64 2, .int .i64 d, .int .i64 (ps.length : Int), .int .i64 2, .int .u8 0, .bool false, .int .u64 0, .slice ka 0 kc, .slice none 0 0] 51)) := ((Touch.refl _ _).alloc _).alloc _
  have hK : ∀ W, Ext ((w.alloc (.cells #[.slice none 0 0, .int .i64 0, .int .i64 0, .bool false] 53)).alloc (.cells #[.int .i64 2, .int .i64 d, .int .i64 (ps.length : Int), .int .i64 2, .int .u8 0, .bool false, .int .u64 0, .slice ka 0 kc, .slice none 0 0] 51)) W → (W.cell? ⟨w.heap.size + 1, 1, none⟩ = some (.int .i64 d) ∧ W.cell? ⟨w.heap.size + 1, 2, none⟩ = some (.int .i64 (ps.length : Int)) ∧ W.cell? ⟨w.heap.size + 1, 3, none⟩ = some (.int .i64 2)) ∧
      (W.cell? ⟨w.heap.size, 0, none⟩ = some (.slice none 0 0) ∧ W.cell? ⟨w.heap.size, 1, none⟩ = some (.int .i64 0) ∧ W.cell? ⟨w.heap.size, 2, none⟩ = some (.int .i64 0) ∧ W.cell? ⟨w.heap.size, 3, none⟩ = some (.bool false)) ∧
      W.frozen? ⟨w.heap.size, 0, none⟩ = false ∧ W.frozen? ⟨w.heap.size, 1, none⟩ = false ∧ W.frozen? ⟨w.heap.size, 2, none⟩ = false ∧ W.frozen? ⟨w.heap.size, 3, none⟩ = false := fun W t =>
    ⟨⟨keepc t id (by simp), keepc t id (by simp), keepc t id (by simp)⟩, ⟨keepc t id (by simp), keepc t id (by simp), keepc t id (by simp), keepc t id (by simp)⟩, keepf t (by simp; omega) id (by simp), keepf t (by simp; omega) id (by simp), keepf t (by simp; omega) id (by simp), keepf t (by simp; omega) id (by simp)⟩
  have hsz0 : w.heap.size + 1 < ((w.alloc (.cells #[.slice none 0 0, .int .i64 0, .int .i64 0, .bool false] 53)).alloc (.cells #[.int .i64 2, .int .i64 d, .int .i64 (ps.length : Int), .int .i64 2, .int .u8 0, .bool false, .int .u64 0, .slice ka 0 kc, .slice none 0 0] 51)).heap.size := by simp
  have hba := bare_inner ((w.alloc (.cells #[.slice none 0 0, .int .i64 0, .int .i64 0, .bool false] 53)).alloc (.cells #[.int .i64 2, .int .i64 d, .int .i64 (ps.length : Int), .int .i64 2, .int .u8 0, .bool false, .int .u64 0, .slice ka 0 kc, .slice none 0 0] 51)) d ps.length ka kc
  have Hba := Lib.hid hba
  clear hba
  generalize (w.alloc (.cells #[.slice none 0 0, .int .i64 0, .int .i64 0, .bool false] 53)).alloc (.cells #[.int .i64 2, .int .i64 d, .int .i64 (ps.length : Int), .int .i64 2, .int .u8 0, .bool false, .int .u64 0, .slice ka 0 kc, .slice none 0 0] 51) = W2 at *
  (with_reducible refine Hba.out.mono ?_)
  rintro e w1 ⟨rfl, t1⟩
  obtain ⟨⟨z1, z2, z3⟩, _⟩ := hK _ t1
  have HK := Lib.hid hK
  clear hK
  have b1 : decide ((d : Int) ≤ above) = false := by simp; omega
  have e1 : IntKind.i64.wrap ((i : Int) + 1) = (i : Int) + 1 := by rw [IntKind.wrap_i64]; omega
  go_wp2_with (fail)
  (with_reducible refine (H1.out _ (t0.trans' t1) (Nat.lt_of_lt_of_le hsz0 t1.size)).mono ?_)
  intro e w2 hp
  obtain ⟨pa, pc, rfl, hpl, hpn, hpr, t2⟩ := read_of hp
  have hpr := hpr.mono (G := fun b => b < N ∨ w.heap.size + 1 < b) (fun b hb => hb.imp id (fun h9 => Nat.lt_of_lt_of_le (Nat.lt_of_lt_of_le hsz0 t1.size) h9))
  clear hp e1
  have x2 := t1.trans' t2
  have xa := x2.alloc (.cells #[.slice pa A.length pc, .int .i64 ((i : Int) + 1 + (la : Int)), .int .i64 (da : Int), .bool true] 53)
  have ha : ∀ W, Ext (w2.alloc (.cells #[.slice pa A.length pc, .int .i64 ((i : Int) + 1 + (la : Int)), .int .i64 (da : Int), .bool true] 53)) W → W.cell? ⟨w2.heap.size, 0, none⟩ = some (.slice pa A.length pc) ∧ W.cell? ⟨w2.heap.size, 2, none⟩ = some (.int .i64 (da : Int)) ∧ RP W (fun b => b < N ∨ w.heap.size + 1 < b) (.slice pa A.length pc) A := fun W t =>
    ⟨keepc t id (by simp), keepc t id (by simp), (hpr.ext ((Touch.refl _ _).alloc _)).ext t⟩
  have hza := HK.out _ xa
  obtain ⟨⟨y1, y2, y3⟩, _⟩ := hza
  clear z1 z2 z3 hpr
  have Ha := Lib.hid ha
  clear ha
  go_wp2_with (fail)
  generalize w2.alloc (.cells #[.slice pa A.length pc, .int .i64 ((i : Int) + 1 + (la : Int)), .int .i64 (da : Int), .bool true] 53) = Wa at *
  generalize w2.heap.size = ba at *
  (with_reducible refine (H2.out _ (t0.trans' xa) (Nat.lt_of_lt_of_le hsz0 xa.size)).mono ?_)
  intro e w3 hp
  obtain ⟨pb, pd, rfl, hpl2, hpn2, hpr2, t3⟩ := read_of hp
  have hpr2 := hpr2.mono (G := fun b => b < N ∨ w.heap.size + 1 < b) (fun b hb => hb.imp id (fun h9 => Nat.lt_of_lt_of_le (Nat.lt_of_lt_of_le hsz0 xa.size) h9))
  clear hp
  have xb1 := t3.alloc (.cells #[.slice pb B.length pd, .int .i64 ((i : Int) + 1 + (la : Int) + (lb : Int)), .int .i64 (db : Int), .bool true] 53)
  have xb := xa.trans' xb1
  have hb : ∀ W, Ext (w3.alloc (.cells #[.slice pb B.length pd, .int .i64 ((i : Int) + 1 + (la : Int) + (lb : Int)), .int .i64 (db : Int), .bool true] 53)) W → W.cell? ⟨w3.heap.size, 0, none⟩ = some (.slice pb B.length pd) ∧ W.cell? ⟨w3.heap.size, 1, none⟩ = some (.int .i64 ((i : Int) + 1 + (la : Int) + (lb : Int))) ∧ W.cell? ⟨w3.heap.size, 2, none⟩ = some (.int .i64 (db : Int)) ∧ RP W (fun b => b < N ∨ w.heap.size + 1 < b) (.slice pb B.length pd) B := fun W t =>
    ⟨keepc t id (by simp), keepc t id (by simp), keepc t id (by simp), (hpr2.ext ((Touch.refl _ _).alloc _)).ext t⟩
  have ha2 := fun W t => Ha.out W (xb1.trans' t)
  have hza := HK.out _ xb
  obtain ⟨⟨z1, z2, z3⟩, _⟩ := hza
  obtain ⟨g0, g2, gr⟩ := ha2 _ (Touch.refl _ _)
  clear y1 y2 y3 hpr2 Ha t3
  have hwr2 : IntKind.i64.wrap ((A.length : Int) + (B.length : Int)) = (ps.length : Int) := by rw [Hsum.out]; exact Hwrap.out
  have hsm := Hsum.out
  have hne : ((ps.length : Int) != (ps.length : Int)) = false := by simp
  have Hb := Lib.hid hb
  clear hb
  have Ha2 := Lib.hid ha2
  clear ha2
  have Gr := Lib.hid gr
  clear gr
  go_wp2_with (fail)
  generalize w3.alloc (.cells #[.slice pb B.length pd, .int .i64 ((i : Int) + 1 + (la : Int) + (lb : Int)), .int .i64 (db : Int), .bool true] 53) = Wb at *
  generalize w3.heap.size = bb at *
  obtain ⟨q0, q1, q2, qr⟩ := Hb.out Wb (Touch.refl _ _)
  obtain ⟨esA, heA, hcA, hkA⟩ := Gr.out
  obtain ⟨esB, heB, hcB, hkB⟩ := qr
  have hla : esA.length = A.length := by rw [← heA]; simp
  have hlB : esB.length = B.length := by rw [← heB]; simp
  have hsA := hcA.src
  have hsB := hcB.src
  have hAle : A.length ≤ 1000000 := by omega
  have hBle : B.length ≤ 1000000 := by omega
  have h1A : ∀ u ∈ flat esA, u.oneCell' = true := flat_one_cell _ (fun e he => by obtain ⟨a, c, h1, _⟩ := (hkA e he).shape; rw [h1]; rfl)
  have h1B : ∀ u ∈ flat esB, u.oneCell' = true := flat_one_cell _ (fun e he => by obtain ⟨a, c, h1, _⟩ := (hkB e he).shape; rw [h1]; rfl)
  have xb' : w.heap.size + 1 < Wb.heap.size := Nat.lt_of_lt_of_le hsz0 xb.size
  clear z1 z2 z3 hsm hwr2 q1 q2 g2
  have Hla := Lib.hid hla
  clear hla
  have HlB := Lib.hid hlB
  clear hlB
  have HeA := Lib.hid heA
  clear heA
  have HeB := Lib.hid heB
  clear heB
  have HcA := Lib.hid hcA
  clear hcA
  have HcB := Lib.hid hcB
  clear hcB
  have HkA := Lib.hid hkA
  clear hkA
  have HkB := Lib.hid hkB
  clear hkB
  have HsA := Lib.hid hsA
  clear hsA
  have HsB := Lib.hid hsB
  clear hsB
  have H1A := Lib.hid h1A
  clear h1A
  have H1B := Lib.hid h1B
  clear h1B
  have Xb := Lib.hid xb
  clear xb
  refine wp_region_plan (.take 0 (.take 1 (.take 3 (.take 4 (.must 2 (.must 5 (.take 6 .done))))))) (fun wy => wy.cell? ⟨ba, 0, none⟩ = some (.slice pa A.length pc) ∧ wy.cell? ⟨bb, 0, none⟩ = some (.slice pb B.length pd)) (by kernel_rfl) (by kernel_rfl) (by kernel_rfl) rfl ?_ (fun KK hKK => ?_)
  · exact ⟨g0, q0⟩
  repeat (first
    | (refine wpPlan_take (v := ?_) rfl (by rfl) (fun W hW => ?_) ?_; rotate_left; (focus ((try dsimp only at hW); go_split_ands; go_simp; (try with_reducible rfl); done)); (try simp only [Act.put, List.setIfInBounds_toArray, List.set_cons_zero, List.set_cons_succ]))
    | (refine wpPlan_skip rfl (by rfl) ?_; (try simp only [Act.put, List.setIfInBounds_toArray, List.set_cons_zero, List.set_cons_succ])))
  refine wpPlan_must rfl (by rfl) (fun K hK => ?_)
  refine wp_push_any _ _ _ 22 rfl 33 _ 2 32 Try.underlying22 info_pair rfl (by decide) (.slice none 0 0) 0 [] rfl (World.ownsRow_nil _ _ _ _) pa A.length pc rfl hpn (flat esA) hpl (by rw [flat_length, Hla.out]) (HsA.out.ext (Touch.refl _ _).drew) H1A.out (by simp [maxLen]; omega) (by omega) ?_
  intro v5 w5 hown5 ht5 hb5
  rw [Nat.zero_add, List.nil_append] at hown5
  have x5 : Ext Wb w5 := (Touch.refl (fun _ => False) Wb).drew.ext_new ht5 (fun i hi => by simp [Value.ownBlock] at hi)
  have hg5 : ∀ b', v5.ownBlock = some b' → Wb.heap.size ≤ b' := fun b' hb' => by
    rcases hb5 with h1 | h1
    · rw [h1] at hb'; simp [Value.ownBlock] at hb'
    · rw [h1] at hb'; cases hb'; exact Nat.le_refl _
  obtain ⟨ra, rc, rfl⟩ := own_len hown5
  clear ht5 hb5
  have Hown5 := Lib.hid hown5
  clear hown5
  have Hg5 := Lib.hid hg5
  clear hg5
  refine hK.out _ _ ?_ ?_
  · exact ⟨keepc x5 id g0, keepc x5 id q0⟩
  clear hK K
  (try simp only [Act.put, List.setIfInBounds_toArray, List.set_cons_zero, List.set_cons_succ])
  refine wpPlan_must rfl (by rfl) (fun K hK => ?_)
  refine wp_push_any _ _ _ 22 rfl 33 _ 2 32 Try.underlying22 info_pair rfl (by decide) (.slice ra A.length rc) A.length (flat esA) rfl Hown5.out pb B.length pd rfl hpn2 (flat esB) hpl2 (by rw [flat_length, HlB.out]) (HsB.out.ext x5) H1B.out (by simp [maxLen]; omega) (by omega) ?_
  intro v6 w6 hown6 ht6 hb6
  have x6 : Ext Wb w6 := x5.ext_new ht6 (fun i hi => Hg5.out i hi)
  have hn : A.length + B.length = ps.length := by have := Hsum.out; omega
  have hWb := xb'
  have hall : RP w6 (fun b => b < N ∨ w.heap.size + 1 < b) v6 ps := by
    refine ⟨esA ++ esB, by rw [List.map_append, HeA.out, HeB.out]; exact HAB.out.symm, Cells2.of_own (by rw [List.length_append, Hla.out, HlB.out, flat_append]; exact hown6) (fun b' hb' => Or.inr (by
      rcases hb6 with h9 | h9
      · have := Hg5.out b' (h9 ▸ hb'); omega
      · rw [h9] at hb'; cases hb'; have := x5.size; omega)), fun e he => ?_⟩
    rcases List.mem_append.1 he with h9 | h9
    · exact (HkA.out e h9).ext x6
    · exact (HkB.out e h9).ext x6
  obtain ⟨ya, yc, rfl, _⟩ := hall.shape
  clear hown6 ht6 hb6 Hown5
  have Hall := Lib.hid hall
  clear hall
  refine hK.out _ _ ?_ ?_
  · exact ⟨keepc x6 id g0, keepc x6 id q0⟩
  clear hK K
  (try simp only [Act.put, List.setIfInBounds_toArray, List.set_cons_zero, List.set_cons_succ])
  repeat (first
    | (refine wpPlan_take (v := ?_) rfl (by rfl) (fun W hW => ?_) ?_; rotate_left; (focus ((try dsimp only at hW); go_split_ands; go_simp; (try with_reducible rfl); done)); (try simp only [Act.put, List.setIfInBounds_toArray, List.set_cons_zero, List.set_cons_succ]))
    | (refine wpPlan_skip rfl (by rfl) ?_; (try simp only [Act.put, List.setIfInBounds_toArray, List.set_cons_zero, List.set_cons_succ])))
  refine wpPlan_done (hKK.out _ _ ?_)
  clear hKK KK
  obtain ⟨gb, go, rfl, _⟩ := Hall.out.addr (by omega)
  obtain ⟨p0, hp0⟩ : ∃ p, ps[0]? = some p := ⟨_, List.getElem?_eq_getElem (by omega)⟩
  have hfk : firstK ps = p0.1 := by unfold firstK; cases ps with | nil => simp at hp0 | cons p ps => simp at hp0; rw [hp0]; rfl
  have hpz := Hpp.out _ (List.mem_of_getElem? hp0)
  obtain ⟨fv, fz0, _, hfv⟩ := Hall.out.get 0 _ hp0
  obtain ⟨fa, fc, rfl, _⟩ := hfv.shape
  simp only [Nat.zero_mul, Nat.add_zero] at fz0
  have l0 : 0 < ps.length := by omega
  clear x5 g0 q0
  have X6 := Lib.hid x6
  clear x6
  have Hp0 := Lib.hid hp0
  clear hp0
  have Hfk := Lib.hid hfk
  clear hfk
  have Hpz := Lib.hid hpz
  clear hpz
  have Hfv := Lib.hid hfv
  clear hfv
  have Hn := Lib.hid hn
  clear hn
  go_wp2_with (fail)
  go_loopw [12] (fun s12 wr => ∃ k : Nat, k ≤ ps.length ∧ s12 = .int .i64 k ∧ Ext w6 wr) (fun s12 _ => ps.length - (intOf s12).toNat)
  case atStart => exact ⟨0, by omega, rfl, Touch.refl _ _⟩
  case round =>
    obtain ⟨k, hk, rfl, ht⟩ := hrel
    by_cases hkl : k < ps.length
    · have hg := List.getElem?_eq_getElem hkl
      obtain ⟨kx, s0, _, hkx⟩ := (Hall.out.ext ht).get _ _ hg
      have hdk := Hdd.out _ _ hg
      have hpx := Hpp.out _ (List.mem_of_getElem? hg)
      generalize ps[k] = x at *
      obtain ⟨xa, xc, rfl, _⟩ := hkx.shape
      have f0 := keepc ht id fz0
      have hrd := fun W (t : Ext wr W) => rdiffer_any W _ _ p0.1 x.1 (Hfv.out.ext (ht.trans' t)) (hkx.ext t) Hpz.out.1 hpx.1 (by have := Hpz.out.2; omega) (by have := hpx.2; omega)
      have hbt := fun W (t : Ext wr W) => rbit_any W _ x.1 d (hkx.ext t) hpx.1 (by omega)
      rw [Hfk.out] at hdk
      have j0 : (0 : Int) ≤ (k : Int) := by omega
      have j1 : (k : Int) < (ps.length : Int) := by omega
      obtain ⟨hd1, hd2⟩ := hdk
      by_cases hkA : k < A.length
      · rw [if_pos hkA] at hd2
        rw [hd2] at hbt
        have j2 : decide ((A.length : Int) ≤ (k : Int)) = false := by simp; omega
        have j3 : decide (A.length ≤ k) = false := by simp; omega
        rcases hd1 with hd1 | hd1
        · rw [hd1] at hrd
          clear hd1 hd2
          have Hg := Lib.hid hg
          clear hg
          have Hkx := Lib.hid hkx
          clear hkx
          have Hpx := Lib.hid hpx
          clear hpx
          have Hrd := Lib.hid hrd
          clear hrd
          have Hbt := Lib.hid hbt
          clear hbt
          go_wp2_with (fail)
          refine wp_region_plan (.take 0 (.take 1 (.take 2 (.take 3 (.take 4 (.take 5 (.take 6 (.take 7 (.take 8 (.must 9 (.take 10 .done))))))))))) (fun wy => wy.cell? ⟨gb, go, none⟩ = some (.slice fa p0.1.length fc) ∧ wy.cell? ⟨gb, go + k * 2, none⟩ = some (.slice xa x.1.length xc)) (by kernel_rfl) (by kernel_rfl) (by kernel_rfl) rfl ?_ (fun KK hKK => ?_)
          · exact ⟨f0, s0⟩
          repeat (first
            | (refine wpPlan_take (v := ?_) rfl (by rfl) (fun W hW => ?_) ?_; rotate_left; (focus ((try dsimp only at hW); go_split_ands; go_simp; (try with_reducible rfl); done)); (try simp only [Act.put, List.setIfInBounds_toArray, List.set_cons_zero, List.set_cons_succ]))
            | (refine wpPlan_skip rfl (by rfl) ?_; (try simp only [Act.put, List.setIfInBounds_toArray, List.set_cons_zero, List.set_cons_succ])))
          refine wpPlan_must rfl (by rfl) (fun K hK => ?_)
          go_simp
          (with_reducible refine (Hrd.out _ (Touch.refl _ _).drew).mono ?_)
          rintro e u1 ⟨rfl, v1⟩
          have v1 := (Touch.refl (fun _ => False) _).drew.trans' v1
          refine hK.out _ _ ?_ ?_
          · exact ⟨keepc v1 id f0, keepc v1 id s0⟩
          clear hK K
          (try simp only [Act.put, List.setIfInBounds_toArray, List.set_cons_zero, List.set_cons_succ])
          repeat (first
            | (refine wpPlan_take (v := ?_) rfl (by rfl) (fun W hW => ?_) ?_; rotate_left; (focus ((try dsimp only at hW); go_split_ands; go_simp; (try with_reducible rfl); done)); (try simp only [Act.put, List.setIfInBounds_toArray, List.set_cons_zero, List.set_cons_succ]))
            | (refine wpPlan_skip rfl (by rfl) ?_; (try simp only [Act.put, List.setIfInBounds_toArray, List.set_cons_zero, List.set_cons_succ])))
          refine wpPlan_done (hKK.out _ _ ?_)
          clear hKK KK
          have hv := ht.trans' v1
          obtain ⟨a0, _⟩ := Ha2.out _ (X6.out.trans' hv)
          obtain ⟨⟨z1, _, _⟩, _⟩ := HK.out _ (Xb.out.trans' (X6.out.trans' hv))
          have s1 := keepc v1 id s0
          go_wp2_with (fail)
          refine wp_region_plan (.take 0 (.take 1 (.take 2 (.take 3 (.take 4 (.take 5 (.take 6 (.take 7 (.take 8 (.take 9 (.take 10 (.take 11 (.take 12 (.take 13 (.take 14 (.take 15 (.take 17 (.must 16 (.take 18 (.take 19 .done)))))))))))))))))))) (fun wy => wy.cell? ⟨gb, go + k * 2, none⟩ = some (.slice xa x.1.length xc) ∧ wy.cell? ⟨w.heap.size + 1, 1, none⟩ = some (.int .i64 d)) (by kernel_rfl) (by kernel_rfl) (by kernel_rfl) rfl ?_ (fun KK hKK => ?_)
          · exact ⟨s1, z1⟩
          repeat (first
            | (refine wpPlan_take (v := ?_) rfl (by rfl) (fun W hW => ?_) ?_; rotate_left; (focus ((try dsimp only at hW); go_split_ands; go_simp; (try with_reducible rfl); done)); (try simp only [Act.put, List.setIfInBounds_toArray, List.set_cons_zero, List.set_cons_succ]))
            | (refine wpPlan_skip rfl (by rfl) ?_; (try simp only [Act.put, List.setIfInBounds_toArray, List.set_cons_zero, List.set_cons_succ])))
          refine wpPlan_must rfl (by rfl) (fun K hK => ?_)
          go_simp
          (with_reducible refine (Hbt.out _ v1.drew).mono ?_)
          rintro e u2 ⟨rfl, rfl⟩
          refine hK.out _ _ ?_ ?_
          · exact ⟨s1, z1⟩
          clear hK K
          (try simp only [Act.put, List.setIfInBounds_toArray, List.set_cons_zero, List.set_cons_succ])
          repeat (first
            | (refine wpPlan_take (v := ?_) rfl (by rfl) (fun W hW => ?_) ?_; rotate_left; (focus ((try dsimp only at hW); go_split_ands; go_simp; (try with_reducible rfl); done)); (try simp only [Act.put, List.setIfInBounds_toArray, List.set_cons_zero, List.set_cons_succ]))
            | (refine wpPlan_skip rfl (by rfl) ?_; (try simp only [Act.put, List.setIfInBounds_toArray, List.set_cons_zero, List.set_cons_succ])))
          refine wpPlan_done (hKK.out _ _ ?_)
          clear hKK KK
          go_wp2_with (fail)
          go_roundw
          case rel => exact ⟨k + 1, by omega, by go_num, hv.drew⟩
          case measure => simp [intOf]; omega
        · generalize dI p0.1 x.1 = D at *
          have j4 : decide (0 ≤ D) = true := by simp; omega
          have j5 : decide (D < (d : Int)) = false := by simp; omega
          clear hd2
          have Hg := Lib.hid hg
          clear hg
          have Hkx := Lib.hid hkx
          clear hkx
          have Hpx := Lib.hid hpx
          clear hpx
          have Hrd := Lib.hid hrd
          clear hrd
          have Hbt := Lib.hid hbt
          clear hbt
          go_wp2_with (fail)
          refine wp_region_plan (.take 0 (.take 1 (.take 2 (.take 3 (.take 4 (.take 5 (.take 6 (.take 7 (.take 8 (.must 9 (.take 10 .done))))))))))) (fun wy => wy.cell? ⟨gb, go, none⟩ = some (.slice fa p0.1.length fc) ∧ wy.cell? ⟨gb, go + k * 2, none⟩ = some (.slice xa x.1.length xc)) (by kernel_rfl) (by kernel_rfl) (by kernel_rfl) rfl ?_ (fun KK hKK => ?_)
          · exact ⟨f0, s0⟩
          repeat (first
            | (refine wpPlan_take (v := ?_) rfl (by rfl) (fun W hW => ?_) ?_; rotate_left; (focus ((try dsimp only at hW); go_split_ands; go_simp; (try with_reducible rfl); done)); (try simp only [Act.put, List.setIfInBounds_toArray, List.set_cons_zero, List.set_cons_succ]))
            | (refine wpPlan_skip rfl (by rfl) ?_; (try simp only [Act.put, List.setIfInBounds_toArray, List.set_cons_zero, List.set_cons_succ])))
          refine wpPlan_must rfl (by rfl) (fun K hK => ?_)
          go_simp
          (with_reducible refine (Hrd.out _ (Touch.refl _ _).drew).mono ?_)
          rintro e u1 ⟨rfl, v1⟩
          have v1 := (Touch.refl (fun _ => False) _).drew.trans' v1
          refine hK.out _ _ ?_ ?_
          · exact ⟨keepc v1 id f0, keepc v1 id s0⟩
          clear hK K
          (try simp only [Act.put, List.setIfInBounds_toArray, List.set_cons_zero, List.set_cons_succ])
          repeat (first
            | (refine wpPlan_take (v := ?_) rfl (by rfl) (fun W hW => ?_) ?_; rotate_left; (focus ((try dsimp only at hW); go_split_ands; go_simp; (try with_reducible rfl); done)); (try simp only [Act.put, List.setIfInBounds_toArray, List.set_cons_zero, List.set_cons_succ]))
            | (refine wpPlan_skip rfl (by rfl) ?_; (try simp only [Act.put, List.setIfInBounds_toArray, List.set_cons_zero, List.set_cons_succ])))
          refine wpPlan_done (hKK.out _ _ ?_)
          clear hKK KK
          have hv := ht.trans' v1
          obtain ⟨a0, _⟩ := Ha2.out _ (X6.out.trans' hv)
          obtain ⟨⟨z1, _, _⟩, _⟩ := HK.out _ (Xb.out.trans' (X6.out.trans' hv))
          have s1 := keepc v1 id s0
          go_wp2_with (fail)
          refine wp_region_plan (.take 0 (.take 1 (.take 2 (.take 3 (.take 4 (.take 5 (.take 6 (.take 7 (.take 8 (.take 9 (.take 10 (.take 11 (.take 12 (.take 13 (.take 14 (.take 15 (.take 17 (.must 16 (.take 18 (.take 19 .done)))))))))))))))))))) (fun wy => wy.cell? ⟨gb, go + k * 2, none⟩ = some (.slice xa x.1.length xc) ∧ wy.cell? ⟨w.heap.size + 1, 1, none⟩ = some (.int .i64 d)) (by kernel_rfl) (by kernel_rfl) (by kernel_rfl) rfl ?_ (fun KK hKK => ?_)
          · exact ⟨s1, z1⟩
          repeat (first
            | (refine wpPlan_take (v := ?_) rfl (by rfl) (fun W hW => ?_) ?_; rotate_left; (focus ((try dsimp only at hW); go_split_ands; go_simp; (try with_reducible rfl); done)); (try simp only [Act.put, List.setIfInBounds_toArray, List.set_cons_zero, List.set_cons_succ]))
            | (refine wpPlan_skip rfl (by rfl) ?_; (try simp only [Act.put, List.setIfInBounds_toArray, List.set_cons_zero, List.set_cons_succ])))
          refine wpPlan_must rfl (by rfl) (fun K hK => ?_)
          go_simp
          (with_reducible refine (Hbt.out _ v1.drew).mono ?_)
          rintro e u2 ⟨rfl, rfl⟩
          refine hK.out _ _ ?_ ?_
          · exact ⟨s1, z1⟩
          clear hK K
          (try simp only [Act.put, List.setIfInBounds_toArray, List.set_cons_zero, List.set_cons_succ])
          repeat (first
            | (refine wpPlan_take (v := ?_) rfl (by rfl) (fun W hW => ?_) ?_; rotate_left; (focus ((try dsimp only at hW); go_split_ands; go_simp; (try with_reducible rfl); done)); (try simp only [Act.put, List.setIfInBounds_toArray, List.set_cons_zero, List.set_cons_succ]))
            | (refine wpPlan_skip rfl (by rfl) ?_; (try simp only [Act.put, List.setIfInBounds_toArray, List.set_cons_zero, List.set_cons_succ])))
          refine wpPlan_done (hKK.out _ _ ?_)
          clear hKK KK
          go_wp2_with (fail)
          go_roundw
          case rel => exact ⟨k + 1, by omega, by go_num, hv.drew⟩
          case measure => simp [intOf]; omega
      · rw [if_neg hkA] at hd2
        rw [hd2] at hbt
        have j2 : decide ((A.length : Int) ≤ (k : Int)) = true := by simp; omega
        have j3 : decide (A.length ≤ k) = true := by simp; omega
        rcases hd1 with hd1 | hd1
        · rw [hd1] at hrd
          clear hd1 hd2
          have Hg := Lib.hid hg
          clear hg
          have Hkx := Lib.hid hkx
          clear hkx
          have Hpx := Lib.hid hpx
          clear hpx
          have Hrd := Lib.hid hrd
          clear hrd
          have Hbt := Lib.hid hbt
          clear hbt
          go_wp2_with (fail)
          refine wp_region_plan (.take 0 (.take 1 (.take 2 (.take 3 (.take 4 (.take 5 (.take 6 (.take 7 (.take 8 (.must 9 (.take 10 .done))))))))))) (fun wy => wy.cell? ⟨gb, go, none⟩ = some (.slice fa p0.1.length fc) ∧ wy.cell? ⟨gb, go + k * 2, none⟩ = some (.slice xa x.1.length xc)) (by kernel_rfl) (by kernel_rfl) (by kernel_rfl) rfl ?_ (fun KK hKK => ?_)
          · exact ⟨f0, s0⟩
          repeat (first
            | (refine wpPlan_take (v := ?_) rfl (by rfl) (fun W hW => ?_) ?_; rotate_left; (focus ((try dsimp only at hW); go_split_ands; go_simp; (try with_reducible rfl); done)); (try simp only [Act.put, List.setIfInBounds_toArray, List.set_cons_zero, List.set_cons_succ]))
            | (refine wpPlan_skip rfl (by rfl) ?_; (try simp only [Act.put, List.setIfInBounds_toArray, List.set_cons_zero, List.set_cons_succ])))
          refine wpPlan_must rfl (by rfl) (fun K hK => ?_)
          go_simp
          (with_reducible refine (Hrd.out _ (Touch.refl _ _).drew).mono ?_)
          rintro e u1 ⟨rfl, v1⟩
          have v1 := (Touch.refl (fun _ => False) _).drew.trans' v1
          refine hK.out _ _ ?_ ?_
          · exact ⟨keepc v1 id f0, keepc v1 id s0⟩
          clear hK K
          (try simp only [Act.put, List.setIfInBounds_toArray, List.set_cons_zero, List.set_cons_succ])
          repeat (first
            | (refine wpPlan_take (v := ?_) rfl (by rfl) (fun W hW => ?_) ?_; rotate_left; (focus ((try dsimp only at hW); go_split_ands; go_simp; (try with_reducible rfl); done)); (try simp only [Act.put, List.setIfInBounds_toArray, List.set_cons_zero, List.set_cons_succ]))
            | (refine wpPlan_skip rfl (by rfl) ?_; (try simp only [Act.put, List.setIfInBounds_toArray, List.set_cons_zero, List.set_cons_succ])))
          refine wpPlan_done (hKK.out _ _ ?_)
          clear hKK KK
          have hv := ht.trans' v1
          obtain ⟨a0, _⟩ := Ha2.out _ (X6.out.trans' hv)
          obtain ⟨⟨z1, _, _⟩, _⟩ := HK.out _ (Xb.out.trans' (X6.out.trans' hv))
          have s1 := keepc v1 id s0
          go_wp2_with (fail)
          refine wp_region_plan (.take 0 (.take 1 (.take 2 (.take 3 (.take 4 (.take 5 (.take 6 (.take 7 (.take 8 (.take 9 (.take 10 (.take 11 (.take 12 (.take 13 (.take 14 (.take 15 (.take 17 (.must 16 (.take 18 (.take 19 .done)))))))))))))))))))) (fun wy => wy.cell? ⟨gb, go + k * 2, none⟩ = some (.slice xa x.1.length xc) ∧ wy.cell? ⟨w.heap.size + 1, 1, none⟩ = some (.int .i64 d)) (by kernel_rfl) (by kernel_rfl) (by kernel_rfl) rfl ?_ (fun KK hKK => ?_)
          · exact ⟨s1, z1⟩
          repeat (first
            | (refine wpPlan_take (v := ?_) rfl (by rfl) (fun W hW => ?_) ?_; rotate_left; (focus ((try dsimp only at hW); go_split_ands; go_simp; (try with_reducible rfl); done)); (try simp only [Act.put, List.setIfInBounds_toArray, List.set_cons_zero, List.set_cons_succ]))
            | (refine wpPlan_skip rfl (by rfl) ?_; (try simp only [Act.put, List.setIfInBounds_toArray, List.set_cons_zero, List.set_cons_succ])))
          refine wpPlan_must rfl (by rfl) (fun K hK => ?_)
          go_simp
          (with_reducible refine (Hbt.out _ v1.drew).mono ?_)
          rintro e u2 ⟨rfl, rfl⟩
          refine hK.out _ _ ?_ ?_
          · exact ⟨s1, z1⟩
          clear hK K
          (try simp only [Act.put, List.setIfInBounds_toArray, List.set_cons_zero, List.set_cons_succ])
          repeat (first
            | (refine wpPlan_take (v := ?_) rfl (by rfl) (fun W hW => ?_) ?_; rotate_left; (focus ((try dsimp only at hW); go_split_ands; go_simp; (try with_reducible rfl); done)); (try simp only [Act.put, List.setIfInBounds_toArray, List.set_cons_zero, List.set_cons_succ]))
            | (refine wpPlan_skip rfl (by rfl) ?_; (try simp only [Act.put, List.setIfInBounds_toArray, List.set_cons_zero, List.set_cons_succ])))
          refine wpPlan_done (hKK.out _ _ ?_)
          clear hKK KK
          go_wp2_with (fail)
          go_roundw
          case rel => exact ⟨k + 1, by omega, by go_num, hv.drew⟩
          case measure => simp [intOf]; omega
        · generalize dI p0.1 x.1 = D at *
          have j4 : decide (0 ≤ D) = true := by simp; omega
          have j5 : decide (D < (d : Int)) = false := by simp; omega
          clear hd2
          have Hg := Lib.hid hg
          clear hg
          have Hkx := Lib.hid hkx
          clear hkx
          have Hpx := Lib.hid hpx
          clear hpx
          have Hrd := Lib.hid hrd
          clear hrd
          have Hbt := Lib.hid hbt
          clear hbt
          go_wp2_with (fail)
          refine wp_region_plan (.take 0 (.take 1 (.take 2 (.take 3 (.take 4 (.take 5 (.take 6 (.take 7 (.take 8 (.must 9 (.take 10 .done))))))))))) (fun wy => wy.cell? ⟨gb, go, none⟩ = some (.slice fa p0.1.length fc) ∧ wy.cell? ⟨gb, go + k * 2, none⟩ = some (.slice xa x.1.length xc)) (by kernel_rfl) (by kernel_rfl) (by kernel_rfl) rfl ?_ (fun KK hKK => ?_)
          · exact ⟨f0, s0⟩
          repeat (first
            | (refine wpPlan_take (v := ?_) rfl (by rfl) (fun W hW => ?_) ?_; rotate_left; (focus ((try dsimp only at hW); go_split_ands; go_simp; (try with_reducible rfl); done)); (try simp only [Act.put, List.setIfInBounds_toArray, List.set_cons_zero, List.set_cons_succ]))
            | (refine wpPlan_skip rfl (by rfl) ?_; (try simp only [Act.put, List.setIfInBounds_toArray, List.set_cons_zero, List.set_cons_succ])))
          refine wpPlan_must rfl (by rfl) (fun K hK => ?_)
          go_simp
          (with_reducible refine (Hrd.out _ (Touch.refl _ _).drew).mono ?_)
          rintro e u1 ⟨rfl, v1⟩
          have v1 := (Touch.refl (fun _ => False) _).drew.trans' v1
          refine hK.out _ _ ?_ ?_
          · exact ⟨keepc v1 id f0, keepc v1 id s0⟩
          clear hK K
          (try simp only [Act.put, List.setIfInBounds_toArray, List.set_cons_zero, List.set_cons_succ])
          repeat (first
            | (refine wpPlan_take (v := ?_) rfl (by rfl) (fun W hW => ?_) ?_; rotate_left; (focus ((try dsimp only at hW); go_split_ands; go_simp; (try with_reducible rfl); done)); (try simp only [Act.put, List.setIfInBounds_toArray, List.set_cons_zero, List.set_cons_succ]))
            | (refine wpPlan_skip rfl (by rfl) ?_; (try simp only [Act.put, List.setIfInBounds_toArray, List.set_cons_zero, List.set_cons_succ])))
          refine wpPlan_done (hKK.out _ _ ?_)
          clear hKK KK
          have hv := ht.trans' v1
          obtain ⟨a0, _⟩ := Ha2.out _ (X6.out.trans' hv)
          obtain ⟨⟨z1, _, _⟩, _⟩ := HK.out _ (Xb.out.trans' (X6.out.trans' hv))
          have s1 := keepc v1 id s0
          go_wp2_with (fail)
          refine wp_region_plan (.take 0 (.take 1 (.take 2 (.take 3 (.take 4 (.take 5 (.take 6 (.take 7 (.take 8 (.take 9 (.take 10 (.take 11 (.take 12 (.take 13 (.take 14 (.take 15 (.take 17 (.must 16 (.take 18 (.take 19 .done)))))))))))))))))))) (fun wy => wy.cell? ⟨gb, go + k * 2, none⟩ = some (.slice xa x.1.length xc) ∧ wy.cell? ⟨w.heap.size + 1, 1, none⟩ = some (.int .i64 d)) (by kernel_rfl) (by kernel_rfl) (by kernel_rfl) rfl ?_ (fun KK hKK => ?_)
          · exact ⟨s1, z1⟩
          repeat (first
            | (refine wpPlan_take (v := ?_) rfl (by rfl) (fun W hW => ?_) ?_; rotate_left; (focus ((try dsimp only at hW); go_split_ands; go_simp; (try with_reducible rfl); done)); (try simp only [Act.put, List.setIfInBounds_toArray, List.set_cons_zero, List.set_cons_succ]))
            | (refine wpPlan_skip rfl (by rfl) ?_; (try simp only [Act.put, List.setIfInBounds_toArray, List.set_cons_zero, List.set_cons_succ])))
          refine wpPlan_must rfl (by rfl) (fun K hK => ?_)
          go_simp
          (with_reducible refine (Hbt.out _ v1.drew).mono ?_)
          rintro e u2 ⟨rfl, rfl⟩
          refine hK.out _ _ ?_ ?_
          · exact ⟨s1, z1⟩
          clear hK K
          (try simp only [Act.put, List.setIfInBounds_toArray, List.set_cons_zero, List.set_cons_succ])
          repeat (first
            | (refine wpPlan_take (v := ?_) rfl (by rfl) (fun W hW => ?_) ?_; rotate_left; (focus ((try dsimp only at hW); go_split_ands; go_simp; (try with_reducible rfl); done)); (try simp only [Act.put, List.setIfInBounds_toArray, List.set_cons_zero, List.set_cons_succ]))
            | (refine wpPlan_skip rfl (by rfl) ?_; (try simp only [Act.put, List.setIfInBounds_toArray, List.set_cons_zero, List.set_cons_succ])))
          refine wpPlan_done (hKK.out _ _ ?_)
          clear hKK KK
          go_wp2_with (fail)
          go_roundw
          case rel => exact ⟨k + 1, by omega, by go_num, hv.drew⟩
          case measure => simp [intOf]; omega
    · obtain rfl : k = ps.length := by omega
      have j1 : ¬ ((ps.length : Nat) : Int) < (ps.length : Int) := by omega
      obtain ⟨a0, a2, _⟩ := Ha2.out _ (X6.out.trans' ht)
      obtain ⟨b0, b1', b2, _⟩ := Hb.out _ (X6.out.trans' ht)
      obtain ⟨_, ⟨r0, r1, r2, r3⟩, m0, m1', m2, m3⟩ := HK.out _ (Xb.out.trans' (X6.out.trans' ht))
      have hgb := World.block_lt_of_cell? _ _ fz0
      go_wp2_with (fail)
      · have hgets := set4_get (u0 := .slice (some ⟨gb, go, none⟩) ps.length yc) (u1 := .int .i64 ((i : Int) + 1 + (la : Int) + (lb : Int))) (u2 := .int .i64 (1 + (db : Int))) (u3 := .bool true) r0 r1 r2 r3
        obtain ⟨k0, k1, k2, k3⟩ := hgets
        have htt := touch_four wr w.heap.size (.slice (some ⟨gb, go, none⟩) ps.length yc) (.int .i64 ((i : Int) + 1 + (la : Int) + (lb : Int))) (.int .i64 (1 + (db : Int))) (.bool true)
        have hxw : Ext w _ := (t0.trans' (Xb.out.trans' (X6.out.trans' ht))).ext_new htt (fun i hi => by omega)
        refine bodyPost_ret (v := .agg #[.slice (some ⟨gb, go, none⟩) ps.length yc, .int .i64 ((i : Int) + 1 + (la : Int) + (lb : Int)), .int .i64 (1 + (db : Int)), .bool true]) (by simp [results, Try.results64, go_sem, k0, k1, k2, k3]) rfl ⟨⟨.slice (some ⟨gb, go, none⟩) ps.length yc, ?_, ?_⟩, hxw⟩
        · have e1 : (i : Int) + 1 + (la : Int) + (lb : Int) = (i : Int) + (lp : Int) := by have h9 := Hlen.out; omega
          have e2 : (1 : Int) + (db : Int) = (dp : Int) := by have h9 := Hdep.out; omega
          rw [e1, e2]
        · exact ((Hall.out.ext ht).keep htt (fun b hb h9 => by rcases hb with h8 | h8 <;> omega)).mono (fun b hb => hb.imp id (fun h8 => by omega))
      · have hgets := set4_get (u0 := .slice (some ⟨gb, go, none⟩) ps.length yc) (u1 := .int .i64 ((i : Int) + 1 + (la : Int) + (lb : Int))) (u2 := .int .i64 (1 + (da : Int))) (u3 := .bool true) r0 r1 r2 r3
        obtain ⟨k0, k1, k2, k3⟩ := hgets
        have htt := touch_four wr w.heap.size (.slice (some ⟨gb, go, none⟩) ps.length yc) (.int .i64 ((i : Int) + 1 + (la : Int) + (lb : Int))) (.int .i64 (1 + (da : Int))) (.bool true)
        have hxw : Ext w _ := (t0.trans' (Xb.out.trans' (X6.out.trans' ht))).ext_new htt (fun i hi => by omega)
        refine bodyPost_ret (v := .agg #[.slice (some ⟨gb, go, none⟩) ps.length yc, .int .i64 ((i : Int) + 1 + (la : Int) + (lb : Int)), .int .i64 (1 + (da : Int)), .bool true]) (by simp [results, Try.results64, go_sem, k0, k1, k2, k3]) rfl ⟨⟨.slice (some ⟨gb, go, none⟩) ps.length yc, ?_, ?_⟩, hxw⟩
        · have e1 : (i : Int) + 1 + (la : Int) + (lb : Int) = (i : Int) + (lp : Int) := by have h9 := Hlen.out; omega
          have e2 : (1 : Int) + (da : Int) = (dp : Int) := by have h9 := Hdep.out; omega
          rw [e1, e2]
        · exact ((Hall.out.ext ht).keep htt (fun b hb h9 => by rcases hb with h8 | h8 <;> omega)).mono (fun b hb => hb.imp id (fun h8 => by omega))
end CritT
end Go.Proofs.Ytmdgmkmddkaadaa
