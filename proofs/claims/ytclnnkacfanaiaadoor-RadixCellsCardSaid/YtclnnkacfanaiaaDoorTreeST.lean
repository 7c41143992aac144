/- Texts of one chain, in one file. -/
import Derived.Test.YtclnnkacfanaiaaDoorTreeP
import Derived.Test.YtclnnkacfanaiaaDoorTreeD
import Derived.Test.YtclnnkacfanaiaaDoorRefX
import Derived.Test.YtclnnkacfanaiaaDoorRadU
import Derived.Test.YtclnnkacfanaiaaDoorSameX
/- A tree and the document's map side by side; what a put, a drop does to both. -/
namespace Go.Proofs.YtclnnkacfanaiaaDoor
open Go.RowKit
set_option linter.unusedVariables false
set_option linter.unusedSimpArgs false
namespace TreeS
open TreeB TreeP TreeD ModF RefF RadU

abbrev In (w : World) : Nat → Prop := fun b => b < w.heap.size
/-- all but what is kept -/
abbrev NQ (Q : Nat → Prop) : Nat → Prop := fun b => ¬ Q b
abbrev Q1 (Q : Nat → Prop) (n : Nat) : Nat → Prop := fun b => Q b ∨ b = n

/-- a tree of pairs M at t, a map of the document of pairs N at r, each of its own; neither reaches into Q -/
structure St (Q : Nat → Prop) (w : World) (t r : Nat) (F R : Nat → Prop) (M N : Prs) (most : Int) : Prop where
  tp : Tp w t F M most
  rf : Rf w r R N
  hF : ∀ b, F b → ¬ Q b
  hR : ∀ b, R b → ¬ Q b
  hd : ∀ b, F b → ¬ R b
  hQ : ∀ b, Q b → b < w.heap.size
  tl : KidA.Tl w
  lf : ¬ F 0
  lr : ¬ R 0
  rr : ¬ R 1
def Sx (Q : Nat → Prop) (w : World) (t r : Nat) (M N : Prs) (most : Int) : Prop := ∃ F R, St Q w t r F R M N most

section
variable {Q Q' S G : Nat → Prop} {w w' : World} {t r : Nat} {M N : Prs} {most : Int}
/-- what lies in Q, or is new, has changed -/
theorem Sx.over (h : Sx Q w t r M N most) (x : Touch S w w') (hS : ∀ b, S b → Q b ∨ w.heap.size ≤ b) (hT : ∀ b, S b → b ≠ 1 ∧ b ≠ 0) : Sx Q w' t r M N most := by
  obtain ⟨F, R, h⟩ := h
  exact ⟨F, R, h.tp.keepR x (fun b hb hs => by have := h.tp.lt b hb; rcases hS b hs with h1 | h1; exact h.hF b hb h1; omega) (fun hs => (hT _ hs).1 rfl), h.rf.keep x (fun b hb hs => by have := h.rf.lt b hb; rcases hS b hs with h1 | h1; exact h.hR b hb h1; omega), h.hF, h.hR, h.hd,
    fun b hb => Nat.lt_of_lt_of_le (h.hQ b hb) x.size, h.tl.keep x (fun hs => (hT _ hs).2 rfl), h.lf, h.lr, h.rr⟩
theorem Sx.ext (h : Sx Q w t r M N most) (x : Ext w w') : Sx Q w' t r M N most := h.over x (fun b h => h.elim) (fun b h => h.elim)
theorem Sx.tabs (h : Sx Q w t r M N most) : 1 < w.heap.size ∧ 0 < w.heap.size := by
  obtain ⟨F, R, h⟩ := h
  have h1 := World.block_lt_of_cell? _ _ h.tp.tr.r0
  have h2 := World.block_lt_of_cell? _ _ h.tl.l0
  exact ⟨h1, h2⟩
/-- another set is kept -/
theorem Sx.kept (h : Sx Q w t r M N most) (x : Ext w w') (hQ : ∀ b, Q' b → Q b ∨ w.heap.size ≤ b ∧ b < w'.heap.size) : Sx Q' w' t r M N most := by
  obtain ⟨F', R', h'⟩ := h
  refine ⟨F', R', h'.tp.ext x, h'.rf.ext x, fun b hb hq => ?_, fun b hb hq => ?_, h'.hd, fun b hq => ?_, h'.tl.ext x, h'.lf, h'.lr, h'.rr⟩
  · rcases hQ b hq with h1 | h1
    · exact h'.hF b hb h1
    · have := h'.tp.lt b hb; omega
  · rcases hQ b hq with h1 | h1
    · exact h'.hR b hb h1
    · have := h'.rf.lt b hb; omega
  · rcases hQ b hq with h1 | h1
    · exact Nat.lt_of_lt_of_le (h'.hQ b h1) x.size
    · exact h1.2
theorem Sx.less (h : Sx Q w t r M N most) (hQ : ∀ b, Q' b → Q b) : Sx Q' w t r M N most := h.kept (Touch.refl _ _) (fun b hb => Or.inl (hQ b hb))
theorem Sx.tree (h : Sx Q w t r M N most) : ∃ F, Tp w t F M most := by obtain ⟨F, R, h⟩ := h; exact ⟨F, h.tp⟩
theorem Sx.map (h : Sx Q w t r M N most) : ∃ R, Rf w r R N := by obtain ⟨F, R, h⟩ := h; exact ⟨R, h.rf⟩
theorem Sx.tq (h : Sx Q w t r M N most) : Tq w (.pointer (some ⟨t, 0, none⟩)) (fun b => b < w.heap.size) M := by obtain ⟨F, R, h⟩ := h; exact h.tp.tq
theorem Sx.hQ (h : Sx Q w t r M N most) : ∀ b, Q b → b < w.heap.size := by obtain ⟨F, R, h⟩ := h; exact h.hQ
theorem Sx.few (h : Sx Q w t r M N most) : M.length ≤ 1000000 := by obtain ⟨F, R, h⟩ := h; exact h.tp.few
theorem Sx.ne (h : Sx Q w t r M N most) : ∀ b, Q b → b ≠ t ∧ b ≠ r := by
  obtain ⟨F, R, h⟩ := h
  exact fun b hb => ⟨fun e => h.hF _ h.tp.self (e ▸ hb), fun e => h.hR _ h.rf.self (e ▸ hb)⟩
/-- what the document's map holds: a row in its first cell -/
theorem Sx.row (h : Sx Q w t r M N most) : ∃ a c, w.cell? ⟨r, 0, none⟩ = some (.slice a N.length c) ∧ RP w (NQ Q) (.slice a N.length c) N := by
  obtain ⟨F, R, h⟩ := h
  obtain ⟨v, h1, h2⟩ := h.rf.row
  obtain ⟨a, c, rfl, _⟩ := h2.shape
  exact ⟨a, c, h1, h2.mono (fun b hb => h.hR b hb)⟩
theorem Touch.nq (x : Touch S w w') (hS : ∀ b, S b → ¬ Q b) : Touch (NQ Q) w w' := x.mono (fun i hi _ => hS i hi)
/-- what is kept: cells, bytes -/
theorem rbq {v : Value} {k : List Int} (h : RB w G v k) (x : Touch (NQ Q) w w') (hG : ∀ b, G b → Q b) : RB w' G v k := h.keep x (fun b hb hn => hn (hG b hb))
theorem keepq {p : Addr} {v : Value} (x : Touch (NQ Q) w w') (hq : Q p.block) (h : w.cell? p = some v) : w'.cell? p = some v := keepc x (fun hn => hn hq) h
theorem extq {w0 : World} (h : Ext w0 w) (x : Touch (NQ Q) w w') (hq : ∀ b, b < w0.heap.size → Q b) : Ext w0 w' := h.trans x (fun i hi hlt => hi (hq i hlt))
theorem Sx.q1 (h : Sx Q w t r M N most) (o : Obj) : Sx (Q1 Q w.heap.size) (w.alloc o) t r M N most := h.kept ((Touch.refl _ _).alloc o) (fun b hb => hb.imp id (fun e => by subst e; exact ⟨Nat.le_refl _, by simp⟩))

/-- the tree has changed -/
theorem St.upd {F R F' : Nat → Prop} {M' : Prs} (h : St Q w t r F R M N most) (h' : Tp w' t F' M' most) (hu : Upd w w' F F') : St Q w' t r F' R M' N most := by
  have hl := World.block_lt_of_cell? _ _ h.tl.l0
  refine ⟨h', h.rf.keep hu.1 (fun b hb hf => h.hd b hf hb), fun b hb hq => (hu.2 b hb).elim (fun h1 => h.hF b h1 hq) (fun h1 => by have := h.hQ b hq; omega), h.hR, fun b hb hr => ?_, fun b hb => Nat.lt_of_lt_of_le (h.hQ b hb) hu.1.size, h.tl.keep hu.1 h.lf, fun hb => (hu.2 _ hb).elim h.lf (fun h1 => by simp only at hl; omega), h.lr, h.rr⟩
  rcases hu.2 b hb with h1 | h1
  · exact h.hd b h1 hr
  · have := h.rf.lt b hr; omega
/-- the document's map has changed -/
theorem St.updR {F R R' : Nat → Prop} {N' : Prs} (h : St Q w t r F R M N most) (h' : Rf w' r R' N') (x : Touch (fun b => b = r) w w') (hs : ∀ b, R' b → R b ∨ w.heap.size ≤ b) : St Q w' t r F R' M N' most := by
  have hl := World.block_lt_of_cell? _ _ h.tl.l0
  have hl2 := World.block_lt_of_cell? _ _ h.tp.tr.r0
  refine ⟨h.tp.keepR x (fun b hb e => h.hd b hb (e ▸ h.rf.self)) (fun e => h.rr (e ▸ h.rf.self)), h', h.hF, fun b hb hq => (hs b hb).elim (fun h1 => h.hR b h1 hq) (fun h1 => by have := h.hQ b hq; omega), fun b hb hr => ?_, fun b hb => Nat.lt_of_lt_of_le (h.hQ b hb) x.size, h.tl.keep x (fun e => h.lr (e ▸ h.rf.self)), h.lf, fun hb => (hs _ hb).elim h.lr (fun h1 => by simp only at hl; omega), fun hb => (hs _ hb).elim h.rr (fun h1 => by simp only at hl2; omega)⟩
  rcases hs b hr with h1 | h1
  · exact h.hd b hb h1
  · have := h.tp.lt b hb; omega

/-- a put of the tree alone, where there is room -/
def SPut (Q : Nat → Prop) (w : World) (t r : Nat) (M N : Prs) (most : Int) (k : List Int) (v : Int) (e : Ending) (w' : World) : Prop :=
  e = .returned (.tuple #[.int .u64 (valK M k), .bool (hasK M k), .int .i64 0]) ∧ Sx Q w' t r (putK M k v) N most ∧ Touch (NQ Q) w w'
theorem sput (h : Sx Q w t r M N most) (hm : M.length < 1000000) (kw : Value) (k : List Int) (v : Int) (hk : RB w Q kw k) (kb : KB k) (hl : k.length ≤ 65535) (hroom : hasK M k = true ∨ (szK (putK M k v) : Int) ≤ most) :
    Calls Tryd.prog 15 #[.pointer (some ⟨t, 0, none⟩), kw, .int .u64 v] w (SPut Q w t r M N most k v) := by
  obtain ⟨F, R, h⟩ := h
  refine (put_any w t kw M most k v h.tp hm (hk.mono (fun b hb => aw h.tp (fun hf => h.hF b hf hb))) kb hl hroom).mono ?_
  rintro e w' ⟨rfl, F', h', hu⟩
  exact ⟨rfl, ⟨F', R, h.upd h' hu⟩, Touch.nq hu.1 h.hF⟩
def SFull (Q : Nat → Prop) (w : World) (t r : Nat) (M N : Prs) (most : Int) (e : Ending) (w' : World) : Prop := e = .returned (.tuple #[.int .u64 0, .bool false, .int .i64 4]) ∧ Sx Q w' t r M N most ∧ Ext w w'
theorem sfull (h : Sx Q w t r M N most) (hm : M.length < 1000000) (kw : Value) (k : List Int) (v : Int) (hk : RB w Q kw k) (kb : KB k) (hl : k.length ≤ 65535) (hh : hasK M k = false) (hroom : most < (szK (putK M k v) : Int)) :
    Calls Tryd.prog 15 #[.pointer (some ⟨t, 0, none⟩), kw, .int .u64 v] w (SFull Q w t r M N most) := by
  obtain ⟨F, R, h⟩ := h
  refine (put_full w t kw M most k v h.tp (by omega) (hk.mono (fun b hb => aw h.tp (fun hf => h.hF b hf hb))) kb hl hh hroom).mono ?_
  rintro e w' ⟨rfl, x⟩
  exact ⟨rfl, Sx.ext ⟨F, R, h⟩ x, x⟩
def SDrop (Q : Nat → Prop) (w : World) (t r : Nat) (M N : Prs) (most : Int) (k : List Int) (e : Ending) (w' : World) : Prop :=
  e = .returned (.tuple #[.int .u64 (valK M k), .bool (hasK M k)]) ∧ Sx Q w' t r (dropK M k) N most ∧ Touch (NQ Q) w w'
theorem sdrop (h : Sx Q w t r M N most) (kw : Value) (k : List Int) (hk : RB w Q kw k) (kb : KB k) (hl : k.length ≤ 65535) :
    Calls Tryd.prog 32 #[.pointer (some ⟨t, 0, none⟩), kw] w (SDrop Q w t r M N most k) := by
  obtain ⟨F, R, h⟩ := h
  refine (drop_any w t kw M most k h.tp (h.tl) (h.lf) (hk.mono (fun b hb => aw h.tp (fun hf => h.hF b hf hb))) kb hl).mono ?_
  rintro e w' ⟨rfl, F', h', hu⟩
  exact ⟨rfl, ⟨F', R, h.upd h' hu⟩, Touch.nq hu.1 h.hF⟩
def SRPut (Q : Nat → Prop) (w : World) (t r : Nat) (M N : Prs) (most : Int) (k : List Int) (v : Int) (e : Ending) (w' : World) : Prop :=
  e = .returned (.tuple #[.int .u64 (valK N k), .bool (hasK N k), .int .i64 0]) ∧ Sx Q w' t r M (putK N k v) most ∧ Touch (NQ Q) w w'
theorem srput (h : Sx Q w t r M N most) (hm : N.length ≤ 1000000) (kw : Value) (k : List Int) (v : Int) (hk : RB w G kw k) (kb : KB k) (hl : k.length ≤ 65535) :
    Calls Tryd.prog 34 #[.pointer (some ⟨r, 0, none⟩), kw, .int .u64 v] w (SRPut Q w t r M N most k v) := by
  obtain ⟨F, R, h⟩ := h
  refine (RefJ.put_any w r kw N k v h.rf hk kb hl hm).mono ?_
  rintro e w' ⟨rfl, R', h', hu, hs⟩
  exact ⟨rfl, ⟨F, R', h.updR h' hu hs⟩, Touch.nq hu (fun b hb => by subst hb; exact h.hR _ h.rf.self)⟩
def SRDrop (Q : Nat → Prop) (w : World) (t r : Nat) (M N : Prs) (most : Int) (k : List Int) (e : Ending) (w' : World) : Prop :=
  e = .returned (.tuple #[.int .u64 (valK N k), .bool (hasK N k)]) ∧ Sx Q w' t r M (dropK N k) most ∧ Touch (NQ Q) w w'
theorem srdrop (h : Sx Q w t r M N most) (hm : N.length ≤ 1000000) (kw : Value) (k : List Int) (hk : RB w G kw k) (kb : KB k) :
    Calls Tryd.prog 36 #[.pointer (some ⟨r, 0, none⟩), kw] w (SRDrop Q w t r M N most k) := by
  obtain ⟨F, R, h⟩ := h
  refine (RefJ.drop_any w r kw N k h.rf hk kb hm).mono ?_
  rintro e w' ⟨rfl, R', h', hu, hs⟩
  exact ⟨rfl, ⟨F, R', h.updR h' hu hs⟩, Touch.nq hu (fun b hb => by subst hb; exact h.hR _ h.rf.self)⟩
theorem sright (h : Sx Q w t r M M most) :
    Calls Tryd.prog 35 #[.pointer (some ⟨t, 0, none⟩), .pointer (some ⟨r, 0, none⟩)] w fun e w' => e = .returned (.bool true) ∧ Ext w w' := by
  obtain ⟨F, R, h⟩ := h
  exact right_any w t r M most h.tp h.rf
end
/-- a tree, made; a map of the document, made behind it -/
theorem sx_new {Q : Nat → Prop} {w1 : World} {t : Nat} {F : Nat → Prop} {M : Prs} {most : Int} (hQ : ∀ b, Q b → b < w1.heap.size) (hF : ∀ b, F b → ¬ Q b) (htp : Tp w1 t F M most) (htl : KidA.Tl w1) (hlf : ¬ F 0) : Sx Q (w1.alloc (.cells #[.slice none 0 0] 55)) t w1.heap.size M [] most := by
  have hl := World.block_lt_of_cell? _ _ htl.l0
  have hl2 := World.block_lt_of_cell? _ _ htp.tr.r0
  simp only at hl hl2
  exact ⟨F, fun b => b = w1.heap.size, htp.ext ((Touch.refl _ _).alloc _), RefJ.rf_new w1, hF, fun b hb hq => by have := hQ b hq; omega, fun b hb h => by have := htp.lt b hb; omega, fun b hb => Nat.lt_of_lt_of_le (hQ b hb) (by simp), htl.ext ((Touch.refl _ _).alloc _), hlf, fun h => by omega, fun h => by omega⟩
variable {G : Nat → Prop}

/-! ### how much room is asked for -/
def costK (k : List Int) : Nat := 3
theorem sz_put_le {M : Prs} (hr : Rises M) {k : List Int} (v : Int) (h : hasK M k = false) : szK (putK M k v) ≤ szK M + costK k := by
  have := RadS.sz_put_le2 hr v h
  unfold costK; omega
theorem sz_put_has' {M : Prs} (hr : Rises M) {k : List Int} (v : Int) (h : hasK M k = true) : szK (putK M k v) = szK M := RadS.sz_put_has2 hr v h
def sumK (ps : Prs) : Nat := (ps.map fun p => costK p.1).sum
theorem sumK_take (ps : Prs) (j : Nat) (p : List Int × Int) (h : ps[j]? = some p) : sumK (ps.take (j + 1)) = sumK (ps.take j) + costK p.1 := by
  unfold sumK; rw [List.take_add_one, h]; simp
theorem sumK_take_le (ps : Prs) (j : Nat) : sumK (ps.take j) ≤ sumK ps := by
  unfold sumK
  have h : ps = ps.take j ++ ps.drop j := (List.take_append_drop j ps).symm
  conv => rhs; rw [h]
  rw [List.map_append, List.sum_append]; omega
theorem sz_put_any {M : Prs} (hr : Rises M) (k : List Int) (v : Int) : szK (putK M k v) ≤ szK M + costK k := by
  cases h : hasK M k with
  | true => rw [sz_put_has' (hr) v h]; omega
  | false => exact sz_put_le hr v h
theorem sz_mk_sum (ps : Prs) : ∀ j, szK (mkK (ps.take j)) ≤ sumK (ps.take j)
  | 0 => Nat.le_trans (Nat.le_of_eq (rfl : szK (mkK (ps.take 0)) = 0)) (Nat.zero_le _)
  | j + 1 => by
    have ih := sz_mk_sum ps j
    cases hp : ps[j]? with
    | none =>
      have hl : ps.length ≤ j := by simpa using hp
      rw [List.take_of_length_le (by omega)] at ih
      rw [List.take_of_length_le (by omega)]
      exact ih
    | some p =>
      rw [mkK_take ps j p hp, sumK_take ps j p hp]
      have := sz_put_any (mkK_rises (ps.take j)) p.1 p.2
      omega
theorem costK_le (k : List Int) : costK k ≤ k.length + 3 := by unfold costK; omega
theorem sum_bound (ps : Prs) (L : Nat) (h : ∀ p ∈ ps, p.1.length ≤ L) : sumK ps ≤ ps.length * (L + 3) := by
  induction ps with
  | nil => simp [sumK]
  | cons p ps ih =>
    have h1 := ih (fun q hq => h q (by simp [hq]))
    have h2 := h p (by simp)
    have h3 := costK_le p.1
    have h4 : sumK (p :: ps) = costK p.1 + sumK ps := by simp [sumK]
    rw [h4, List.length_cons, Nat.add_mul]; omega

set_option maxRecDepth 100000 in
set_option maxHeartbeats 800000 in
/-- ref10.Put: how many cells a key may take -/
theorem need_any (w : World) (k : List Int) (hl : k.length ≤ 65535) : Calls Tryd.prog 61 #[.int .i64 3, .int .i64 k.length] w fun e w' => e = .returned (.int .i64 (costK k : Nat)) ∧ w = w' := by
  have h0 : ¬ (65535 : Int) < (k.length : Int) := by omega
  go_enter Tryd.func61, Tryd.ntmps61
  go_wp2_with (fail)
  go_ret
  exact ⟨congrArg (fun z => Ending.returned (.int .i64 z)) (by unfold costK; omega), rfl⟩
set_option maxRecDepth 100000 in
set_option maxHeartbeats 1600000 in
theorem needs_any (w : World) (v : Value) (ps : Prs) (h : RP w G v ps) (hm : ps.length ≤ 1000) (hl : ∀ p ∈ ps, p.1.length ≤ 1000) : Calls Tryd.prog 33 #[.int .i64 3, v] w fun e w' => e = .returned (.int .i64 (sumK ps : Nat)) ∧ Ext w w' := by
  obtain ⟨a, c, rfl, l1, m1, hn⟩ := h.shape
  unfold maxLen at m1
  have hsb := sum_bound ps 1000 hl
  have H := Lib.hid h
  clear h
  have Hl := Lib.hid hl
  clear hl
  have Hsb := Lib.hid hsb
  clear hsb
  go_enter Tryd.func33, Tryd.ntmps33
  go_wp2_with (fail)
  go_loopw [5, 6] (fun s5 s6 wr => ∃ j : Nat, j ≤ ps.length ∧ s6 = .int .i64 j ∧ s5 = .int .i64 (sumK (ps.take j) : Nat) ∧ Ext w wr) (fun s5 s6 _ => ps.length - (intOf s6).toNat)
  case atStart => exact ⟨0, by omega, rfl, rfl, Touch.refl _ _⟩
  case round =>
    obtain ⟨j, hj, rfl, rfl, ht⟩ := hrel
    by_cases hlt : j < ps.length
    · obtain ⟨b, off, rfl, _⟩ := H.out.addr (by omega)
      have hg := List.getElem?_eq_getElem hlt
      obtain ⟨kv, c0, c1, hkb⟩ := (H.out.ext ht).get j _ hg
      have hpl := Hl.out _ (List.mem_of_getElem? hg)
      have hsk := sumK_take ps j _ hg
      have hle := sumK_take_le ps (j + 1)
      generalize ps[j] = p at *
      obtain ⟨ka, kc, rfl, l2, m2, n2⟩ := hkb.shape
      have i0 : (0 : Int) ≤ (j : Int) := by omega
      have i1 : (j : Int) < (ps.length : Int) := by omega
      have hb : sumK (ps.take (j + 1)) ≤ 2000000 := by
        have h1 := Hsb.out
        have h2 : ps.length * (1000 + 3) ≤ 1000 * (1000 + 3) := Nat.mul_le_mul_right _ hm
        omega
      have hne := fun W => need_any W p.1 (by omega)
      have hi : IntKind.i64.wrap ((sumK (ps.take j) : Int) + (costK p.1 : Int)) = ((sumK (ps.take (j + 1)) : Nat) : Int) := by rw [IntKind.wrap_i64]; omega
      have Hg := Lib.hid hg
      clear hg
      have Hkb := Lib.hid hkb
      clear hkb
      have Hpl := Lib.hid hpl
      clear hpl
      have Hsk := Lib.hid hsk
      clear hsk
      have Hle := Lib.hid hle
      clear hle
      have Hne := Lib.hid hne
      clear hne
      go_wp2_with (fail)
      (with_reducible refine (Hne.out _).mono ?_)
      rintro e w2 ⟨rfl, rfl⟩
      go_wp2_with (fail)
      go_roundw
      case rel => exact ⟨j + 1, by omega, by go_num, by rw [Hsk.out], ht⟩
      case measure => simp [intOf]; omega
    · obtain rfl : j = ps.length := by omega
      have i1 : ¬ ((ps.length : Nat) : Int) < (ps.length : Int) := by omega
      go_wp2_with (fail)
      go_ret
      exact ⟨rfl, ht⟩

end TreeS
end Go.Proofs.YtclnnkacfanaiaaDoor

/- The laws' own: a put, or a drop, of a tree and of the document's map. -/
namespace Go.Proofs.YtclnnkacfanaiaaDoor
open Go.RowKit
set_option linter.unusedVariables false
set_option linter.unusedSimpArgs false
namespace TreeT
open TreeB TreeP TreeD TreeS ModF RefF
variable {Q : Nat → Prop} {w : World} {t r : Nat} {M : Prs} {most : Int}

def SDone (Q : Nat → Prop) (w : World) (t r : Nat) (M : Prs) (most : Int) (e : Ending) (w' : World) : Prop := e = .returned (.bool true) ∧ Sx Q w' t r M M most ∧ Touch (NQ Q) w w'


set_option maxRecDepth 100000 in
set_option maxHeartbeats 1600000 in
theorem done_drop (h : Sx Q w t r M M most) (kw : Value) (k : List Int) (v : Int) (hk : RB w Q kw k) (kb : KB k) (hl : k.length ≤ 65535) :
    Calls Tryd.prog 40 #[.pointer (some ⟨t, 0, none⟩), .pointer (some ⟨r, 0, none⟩), .agg #[kw, .int .u64 v, .bool true]] w (SDone Q w t r (dropK M k) most) := by
  obtain ⟨ka, kc, rfl, l1, m1, _⟩ := hk.shape
  unfold maxLen at m1
  obtain ⟨wx, hwx⟩ : ∃ wx, wx = w.alloc (.cells #[.slice ka k.length kc, .int .u64 v, .bool true] 65) := ⟨_, rfl⟩
  have xa : Ext w wx := by rw [hwx]; exact (Touch.refl _ _).alloc _
  have h1 : Sx (Q1 Q w.heap.size) wx t r M M most := by rw [hwx]; exact h.q1 _
  have hk1 : RB wx (Q1 Q w.heap.size) (.slice ka k.length kc) k := (hk.ext xa).mono (fun b hb => Or.inl hb)
  have e0 : wx.cell? ⟨w.heap.size, 0, none⟩ = some (.slice ka k.length kc) := by rw [hwx]; simp
  have e1 : wx.cell? ⟨w.heap.size, 1, none⟩ = some (.int .u64 v) := by rw [hwx]; simp
  have e2 : wx.cell? ⟨w.heap.size, 2, none⟩ = some (.bool true) := by rw [hwx]; simp
  have hbx : w.heap.size < wx.heap.size := by rw [hwx]; simp
  have hfew := h.few
  have hd := sdrop h1 _ k hk1 kb hl
  unfold SDrop at hd
  unfold SDone
  have hvv : (valK M k == valK M k) = true := by simp
  have hbb : (hasK M k == hasK M k) = true := by simp
  have Hd := Lib.hid hd
  clear hd
  have H := Lib.hid h
  clear h
  have H1 := Lib.hid h1
  clear h1
  have Hk := Lib.hid hk
  clear hk
  have Hk1 := Lib.hid hk1
  clear hk1
  have Kb := Lib.hid kb
  clear kb
  clear hbx
  go_enter Tryd.func40, Tryd.ntmps40
  go_wp2_with (fail)
  rw [← hwx]
  clear hwx
  go_wp2_with (fail)
  (with_reducible refine Hd.out.mono ?_)
  rintro e w1 ⟨rfl, h2, x2⟩
  have e0 := keepq x2 (Or.inr rfl) e0
  have hrd := srdrop h2 hfew _ k (rbq Hk1.out x2 (fun b hb => hb)) Kb.out
  unfold SRDrop at hrd
  clear e1 e2
  have Hrd := Lib.hid hrd
  clear hrd
  have X2 := Lib.hid x2
  clear x2
  have H2 := Lib.hid h2
  clear h2
  go_wp2_with (fail)
  (with_reducible refine Hrd.out.mono ?_)
  rintro e w2 ⟨rfl, h3, x3⟩
  have H3 := Lib.hid h3
  clear h3
  have X3 := Lib.hid x3
  clear x3
  go_wp2_with (fail)
  go_ret
  exact ⟨rfl, H3.out.less (fun b hb => Or.inl hb), xa.none_to.trans' ((X2.out.trans' X3.out).mono (fun i hi _ hq => hi (Or.inl hq)))⟩


set_option maxRecDepth 100000 in
set_option maxHeartbeats 3200000 in
theorem done_put (h : Sx Q w t r M M most) (hm : M.length < 1000000) (kw : Value) (k : List Int) (v : Int) (hk : RB w Q kw k) (kb : KB k) (hl : k.length ≤ 65535) (hroom : hasK M k = true ∨ (szK (putK M k v) : Int) ≤ most) :
    Calls Tryd.prog 40 #[.pointer (some ⟨t, 0, none⟩), .pointer (some ⟨r, 0, none⟩), .agg #[kw, .int .u64 v, .bool false]] w (SDone Q w t r (putK M k v) most) := by
  obtain ⟨ka, kc, rfl, l1, m1, _⟩ := hk.shape
  unfold maxLen at m1
  obtain ⟨wx, hwx⟩ : ∃ wx, wx = w.alloc (.cells #[.slice ka k.length kc, .int .u64 v, .bool false] 65) := ⟨_, rfl⟩
  have xa : Ext w wx := by rw [hwx]; exact (Touch.refl _ _).alloc _
  have h1 : Sx (Q1 Q w.heap.size) wx t r M M most := by rw [hwx]; exact h.q1 _
  have hk1 : RB wx (Q1 Q w.heap.size) (.slice ka k.length kc) k := (hk.ext xa).mono (fun b hb => Or.inl hb)
  have e0 : wx.cell? ⟨w.heap.size, 0, none⟩ = some (.slice ka k.length kc) := by rw [hwx]; simp
  have e1 : wx.cell? ⟨w.heap.size, 1, none⟩ = some (.int .u64 v) := by rw [hwx]; simp
  have e2 : wx.cell? ⟨w.heap.size, 2, none⟩ = some (.bool false) := by rw [hwx]; simp
  have hbx : w.heap.size < wx.heap.size := by rw [hwx]; simp
  have hfew := h.few
  have hvv : (valK M k == valK M k) = true := by simp
  have hbb : (hasK M k == hasK M k) = true := by simp
  have z0 := e0
  have Hroom := Lib.hid hroom
  clear hroom
  have Z0 := Lib.hid z0
  clear z0
  unfold SDone
  obtain ⟨F0, htp⟩ := h1.tree
  obtain ⟨R0, hrf⟩ := h1.map
  have hfit := htp.fits
  have hmo := TreeB.most_any wx t M most htp
  have hli := TreeB.live_tp wx t M most htp
  have hfi := RefA.find_any wx r _ M k hrf hk1 kb hfew
  have hle := fun W (x : Ext wx W) => SameP.lend_any W _ (.slice ka k.length kc) k (hk1.ext x) (by omega)
  obtain ⟨f1, f2⟩ := hfit
  generalize szK M = sz at *
  have Hmo := Lib.hid hmo
  clear hmo
  have Hli := Lib.hid hli
  clear hli
  have Hfi := Lib.hid hfi
  clear hfi
  have Hle := Lib.hid hle
  clear hle
  have H := Lib.hid h
  clear h
  have H1 := Lib.hid h1
  clear h1
  have Hk := Lib.hid hk
  clear hk
  have Hk1 := Lib.hid hk1
  clear hk1
  have Kb := Lib.hid kb
  clear kb
  have Htp := Lib.hid htp
  clear htp
  have Hrf := Lib.hid hrf
  clear hrf
  clear hbx
  go_enter Tryd.func40, Tryd.ntmps40
  go_wp2_with (fail)
  rw [← hwx]
  clear hwx
  go_wp2_with (fail)
  (with_reducible refine Hmo.out.mono ?_)
  rintro e w1 ⟨rfl, rfl⟩
  go_wp2_with (fail)
  (with_reducible refine Hli.out.mono ?_)
  rintro e w1 ⟨rfl, rfl⟩
  go_wp2_with (fail)
  (with_reducible refine Hfi.out.mono ?_)
  rintro e w2 ⟨rfl, x2⟩
  have e0 := keepc x2 id e0
  have e1 := keepc x2 id e1
  go_wp2_with (fail)
  (with_reducible refine (Hle.out _ x2).mono ?_)
  rintro e w3 ⟨⟨g, rfl, hlent, hg⟩, x3⟩
  have hgl : g < w3.heap.size := hlent.ob.lt g rfl
  have y3 := x2.trans' x3
  have e0 := keepc x3 id e0
  have e1 := keepc x3 id e1
  have h3 : Sx (Q1 (Q1 Q w.heap.size) g) w3 t r M M most := H1.out.kept y3 (fun b hb => hb.imp id (fun e => by subst e; exact ⟨Nat.le_trans x2.size hg, hgl⟩))
  have hpu := sput h3 hm _ k v (hlent.rb.mono (fun b hb => Or.inr hb)) Kb.out hl Hroom.out
  unfold SPut at hpu
  have Hpu := Lib.hid hpu
  clear hpu
  have Hlent := Lib.hid hlent
  clear hlent
  have H3 := Lib.hid h3
  clear h3
  go_wp2_with (fail)
  (with_reducible refine Hpu.out.mono ?_)
  rintro e w4 ⟨rfl, h4, x4⟩
  have e0 := keepq x4 (Or.inl (Or.inr rfl)) e0
  have e1 := keepq x4 (Or.inl (Or.inr rfl)) e1
  have hlent4 := Hlent.out.keep x4 (fun hn => hn (Or.inr rfl))
  have hk4 := rbq (Hk1.out.ext y3) x4 (fun b hb => Or.inl hb)
  have hkp := SameP.kept_any w4 _ (.slice ka k.length kc) g k hlent4 hk4 (by omega)
  have H4 := Lib.hid h4
  clear h4
  have X4 := Lib.hid x4
  clear x4
  have Hlent4 := Lib.hid hlent4
  clear hlent4
  have Hk4 := Lib.hid hk4
  clear hk4
  have Hkp := Lib.hid hkp
  clear hkp
  go_wp2_with (fail)
  (with_reducible refine Hkp.out.mono ?_)
  rintro e w5 ⟨rfl, x5⟩
  have e0 := keepc x5 id e0
  have e1 := keepc x5 id e1
  have hov := SameP.over_bytes w5 _ k (Hlent4.out.ext x5).ob (by omega)
  have Hov := Lib.hid hov
  clear hov
  go_wp2_with (fail)
  (with_reducible refine Hov.out.mono ?_)
  rintro e w6 ⟨rfl, hto⟩
  have hto : Touch (fun b => b = g) w5 w6 := hto.mono (fun i hi _ => by cases hi; rfl)
  have hgb : w.heap.size ≠ g := fun e => by have := xa.size; have := x2.size; have := World.block_lt_of_cell? _ _ Z0.out; simp only at this; omega
  have e0 := keepc hto (fun h => hgb h) e0
  have e1 := keepc hto (fun h => hgb h) e1
  have h6 : Sx (Q1 (Q1 Q w.heap.size) g) w6 t r _ M most := (H4.out.ext x5).over hto (fun b hb => Or.inl (Or.inr hb)) (fun b hb => by have hb : b = g := hb; have h7 := H.out.tabs; have h8 := xa.size; have h9 := x2.size; omega)
  have x6 : Touch (NQ Q) w w6 := (((xa.trans' y3).none_to.trans' (X4.out.mono (fun i hi _ hq => hi (Or.inl (Or.inl hq))))).trans_ext x5).trans' (hto.mono (fun i hi hlt hq => by
    subst hi
    have h7 : i < w.heap.size := H.out.hQ _ hq
    have := xa.size; have := x2.size; omega))
  have hk6 := ((Hk4.out.ext x5).keep hto (fun b hb h7 => by
    have h8 : b = g := h7
    rcases hb with h9 | h9
    · have h7 : b < w.heap.size := H.out.hQ _ h9
      have := xa.size; have := x2.size; omega
    · exact hgb (h9.symm.trans h8)))
  clear hto
  have hrp := srput h6 (by omega) _ k v hk6 Kb.out hl
  unfold SRPut at hrp
  have Hrp := Lib.hid hrp
  clear hrp
  have H6 := Lib.hid h6
  clear h6
  have X6 := Lib.hid x6
  clear x6
  have Hk6 := Lib.hid hk6
  clear hk6
  go_wp2_with (fail)
  (with_reducible refine Hrp.out.mono ?_)
  rintro e w7 ⟨rfl, h7, x7⟩
  have H7 := Lib.hid h7
  clear h7
  have X7 := Lib.hid x7
  clear x7
  go_wp2_with (fail)
  go_ret
  exact ⟨rfl, H7.out.less (fun b hb => Or.inl (Or.inl hb)), X6.out.trans' (X7.out.mono (fun i hi _ hq => hi (Or.inl (Or.inl hq))))⟩

set_option maxRecDepth 100000 in
set_option maxHeartbeats 3200000 in
theorem done_full (h : Sx Q w t r M M most) (hm : M.length < 1000000) (kw : Value) (k : List Int) (v : Int) (hk : RB w Q kw k) (kb : KB k) (hl : k.length ≤ 65535) (hh : hasK M k = false) (hroom : most < (szK (putK M k v) : Int)) :
    Calls Tryd.prog 40 #[.pointer (some ⟨t, 0, none⟩), .pointer (some ⟨r, 0, none⟩), .agg #[kw, .int .u64 v, .bool false]] w (SDone Q w t r M most) := by
  obtain ⟨ka, kc, rfl, l1, m1, _⟩ := hk.shape
  unfold maxLen at m1
  obtain ⟨wx, hwx⟩ : ∃ wx, wx = w.alloc (.cells #[.slice ka k.length kc, .int .u64 v, .bool false] 65) := ⟨_, rfl⟩
  have xa : Ext w wx := by rw [hwx]; exact (Touch.refl _ _).alloc _
  have h1 : Sx (Q1 Q w.heap.size) wx t r M M most := by rw [hwx]; exact h.q1 _
  have hk1 : RB wx (Q1 Q w.heap.size) (.slice ka k.length kc) k := (hk.ext xa).mono (fun b hb => Or.inl hb)
  have e0 : wx.cell? ⟨w.heap.size, 0, none⟩ = some (.slice ka k.length kc) := by rw [hwx]; simp
  have e1 : wx.cell? ⟨w.heap.size, 1, none⟩ = some (.int .u64 v) := by rw [hwx]; simp
  have e2 : wx.cell? ⟨w.heap.size, 2, none⟩ = some (.bool false) := by rw [hwx]; simp
  have hbx : w.heap.size < wx.heap.size := by rw [hwx]; simp
  have hfew := h.few
  have z0 := e0
  have hcost : most - (szK M : Int) < ((costK k : Nat) : Int) := by
    obtain ⟨F0, htp⟩ := h.tree
    have := sz_put_le htp.rises v hh
    omega
  have hne := fun W => need_any W k hl
  have hh2 := hh
  have Hroom := Lib.hid hroom
  clear hroom
  have Z0 := Lib.hid z0
  clear z0
  have Hne := Lib.hid hne
  clear hne
  have Hh2 := Lib.hid hh2
  clear hh2
  unfold SDone
  obtain ⟨F0, htp⟩ := h1.tree
  obtain ⟨R0, hrf⟩ := h1.map
  have hfit := htp.fits
  have hmo := TreeB.most_any wx t M most htp
  have hli := TreeB.live_tp wx t M most htp
  have hfi := RefA.find_any wx r _ M k hrf hk1 kb hfew
  have hle := fun W (x : Ext wx W) => SameP.lend_any W _ (.slice ka k.length kc) k (hk1.ext x) (by omega)
  obtain ⟨f1, f2⟩ := hfit
  generalize szK M = sz at *
  have Hmo := Lib.hid hmo
  clear hmo
  have Hli := Lib.hid hli
  clear hli
  have Hfi := Lib.hid hfi
  clear hfi
  have Hle := Lib.hid hle
  clear hle
  have H := Lib.hid h
  clear h
  have H1 := Lib.hid h1
  clear h1
  have Hk := Lib.hid hk
  clear hk
  have Hk1 := Lib.hid hk1
  clear hk1
  have Kb := Lib.hid kb
  clear kb
  have Htp := Lib.hid htp
  clear htp
  have Hrf := Lib.hid hrf
  clear hrf
  clear hbx
  go_enter Tryd.func40, Tryd.ntmps40
  go_wp2_with (fail)
  rw [← hwx]
  clear hwx
  go_wp2_with (fail)
  (with_reducible refine Hmo.out.mono ?_)
  rintro e w1 ⟨rfl, rfl⟩
  go_wp2_with (fail)
  (with_reducible refine Hli.out.mono ?_)
  rintro e w1 ⟨rfl, rfl⟩
  go_wp2_with (fail)
  (with_reducible refine Hfi.out.mono ?_)
  rintro e w2 ⟨rfl, x2⟩
  have e0 := keepc x2 id e0
  have e1 := keepc x2 id e1
  go_wp2_with (fail)
  (with_reducible refine (Hle.out _ x2).mono ?_)
  rintro e w3 ⟨⟨g, rfl, hlent, hg⟩, x3⟩
  have hgl : g < w3.heap.size := hlent.ob.lt g rfl
  have y3 := x2.trans' x3
  have e0 := keepc x3 id e0
  have e1 := keepc x3 id e1
  have h3 : Sx (Q1 (Q1 Q w.heap.size) g) w3 t r M M most := H1.out.kept y3 (fun b hb => hb.imp id (fun e => by subst e; exact ⟨Nat.le_trans x2.size hg, hgl⟩))
  have hpu := sfull h3 hm _ k v (hlent.rb.mono (fun b hb => Or.inr hb)) Kb.out hl Hh2.out Hroom.out
  unfold SFull at hpu
  have Hpu := Lib.hid hpu
  clear hpu
  have Hlent := Lib.hid hlent
  clear hlent
  have H3 := Lib.hid h3
  clear h3
  go_wp2_with (fail)
  (with_reducible refine Hpu.out.mono ?_)
  rintro e w4 ⟨rfl, h4, x4⟩
  have x4 : Touch (NQ (Q1 (Q1 Q w.heap.size) g)) w3 w4 := x4.none_to
  have e0 := keepq x4 (Or.inl (Or.inr rfl)) e0
  have e1 := keepq x4 (Or.inl (Or.inr rfl)) e1
  have hlent4 := Hlent.out.keep x4 (fun hn => hn (Or.inr rfl))
  have hk4 := rbq (Hk1.out.ext y3) x4 (fun b hb => Or.inl hb)
  have hkp := SameP.kept_any w4 _ (.slice ka k.length kc) g k hlent4 hk4 (by omega)
  have H4 := Lib.hid h4
  clear h4
  have X4 := Lib.hid x4
  clear x4
  have Hlent4 := Lib.hid hlent4
  clear hlent4
  have Hk4 := Lib.hid hk4
  clear hk4
  have Hkp := Lib.hid hkp
  clear hkp
  go_wp2_with (fail)
  (with_reducible refine Hkp.out.mono ?_)
  rintro e w5 ⟨rfl, x5⟩
  have e0 := keepc x5 id e0
  have e1 := keepc x5 id e1
  have hov := SameP.over_bytes w5 _ k (Hlent4.out.ext x5).ob (by omega)
  have Hov := Lib.hid hov
  clear hov
  go_wp2_with (fail)
  (with_reducible refine Hov.out.mono ?_)
  rintro e w6 ⟨rfl, hto⟩
  have hto : Touch (fun b => b = g) w5 w6 := hto.mono (fun i hi _ => by cases hi; rfl)
  have hgb : w.heap.size ≠ g := fun e => by have := xa.size; have := x2.size; have := World.block_lt_of_cell? _ _ Z0.out; simp only at this; omega
  have e0 := keepc hto (fun h => hgb h) e0
  have e1 := keepc hto (fun h => hgb h) e1
  have h6 : Sx (Q1 (Q1 Q w.heap.size) g) w6 t r _ M most := (H4.out.ext x5).over hto (fun b hb => Or.inl (Or.inr hb)) (fun b hb => by have hb : b = g := hb; have h7 := H.out.tabs; have h8 := xa.size; have h9 := x2.size; omega)
  have x6 : Touch (NQ Q) w w6 := (((xa.trans' y3).none_to.trans' (X4.out.mono (fun i hi _ hq => hi (Or.inl (Or.inl hq))))).trans_ext x5).trans' (hto.mono (fun i hi hlt hq => by
    subst hi
    have h7 : i < w.heap.size := H.out.hQ _ hq
    have := xa.size; have := x2.size; omega))
  have hk6 := ((Hk4.out.ext x5).keep hto (fun b hb h7 => by
    have h8 : b = g := h7
    rcases hb with h9 | h9
    · have h7 : b < w.heap.size := H.out.hQ _ h9
      have := xa.size; have := x2.size; omega
    · exact hgb (h9.symm.trans h8)))
  clear hto
  have H6 := Lib.hid h6
  clear h6
  have X6 := Lib.hid x6
  clear x6
  have Hk6 := Lib.hid hk6
  clear hk6
  go_wp2_with (fail)
  (with_reducible refine (Hne.out _).mono ?_)
  rintro e w7 ⟨rfl, rfl⟩
  go_wp2_with (fail)
  go_ret
  exact ⟨rfl, H6.out.less (fun b hb => Or.inl (Or.inl hb)), X6.out⟩

/-- what an act makes of pairs -/
def actK (M : Prs) (most : Int) (k : List Int) (v : Int) (d : Bool) : Prs := if d then dropK M k else if hasK M k = true ∨ (szK (putK M k v) : Int) ≤ most then putK M k v else M
theorem actK_length (M : Prs) (most : Int) (k : List Int) (v : Int) (d : Bool) : (actK M most k v d).length ≤ M.length + 1 := by
  unfold actK
  split
  · have := dropK_length M k; omega
  · split
    · exact putK_length_le _ _ _
    · omega
theorem done_any (h : Sx Q w t r M M most) (hm : M.length < 1000000) (kw : Value) (k : List Int) (v : Int) (d : Bool) (hk : RB w Q kw k) (kb : KB k) (hl : k.length ≤ 65535) :
    Calls Tryd.prog 40 #[.pointer (some ⟨t, 0, none⟩), .pointer (some ⟨r, 0, none⟩), .agg #[kw, .int .u64 v, .bool d]] w (SDone Q w t r (actK M most k v d) most) := by
  cases d with
  | true => exact done_drop h kw k v hk kb hl
  | false =>
    by_cases hroom : hasK M k = true ∨ (szK (putK M k v) : Int) ≤ most
    · rw [show actK M most k v false = putK M k v by unfold actK; rw [if_neg (by simp), if_pos hroom]]
      exact done_put h hm kw k v hk kb hl hroom
    · rw [show actK M most k v false = M by unfold actK; rw [if_neg (by simp), if_neg hroom]]
      have hh : hasK M k = false := by cases hh : hasK M k with | true => exact absurd (Or.inl hh) hroom | false => rfl
      exact done_full h hm kw k v hk kb hl hh (by have : ¬ (szK (putK M k v) : Int) ≤ most := fun h => hroom (Or.inr h); omega)
end TreeT
end Go.Proofs.YtclnnkacfanaiaaDoor
