/- A tree and the document's map side by side; what a put, a drop does to both. -/
import Derived.Test.YtmdgmkmddkaadaaTreeP
import Derived.Test.YtmdgmkmddkaadaaTreeD
import Derived.Test.YtmdgmkmddkaadaaRefJ
import Derived.Test.YtmdgmkmddkaadaaCritU
namespace Go.Proofs.Ytmdgmkmddkaadaa
open Go.RowKit
set_option linter.unusedVariables false
set_option linter.unusedSimpArgs false
namespace TreeS
open TreeB TreeP TreeD ModF RefF CritU

abbrev In (w : World) : Nat → Prop := fun b => b < w.heap.size
/-- all but what is kept -/
abbrev NQ (Q : Nat → Prop) : Nat → Prop := fun b => ¬ Q b
abbrev Q1 (Q : Nat → Prop) (n : Nat) : Nat → Prop := fun b => Q b ∨ b = n

/-- a tree of pairs M at t, a map of the document of pairs N at r, each of its own; neither reaches into Q -/
structure St (Q : Nat → Prop) (w : World) (t r : Nat) (F R : Nat → Prop) (M N : Prs) (most : Int) : Prop where
  tp : Tp w t F M most
  rf : Rf w r R N
  hF : ∀ b, F b → ¬ Q b
  hR : ∀ b, R b → ¬ Q b
  hd : ∀ b, F b → ¬ R b
  hQ : ∀ b, Q b → b < w.heap.size
def Sx (Q : Nat → Prop) (w : World) (t r : Nat) (M N : Prs) (most : Int) : Prop := ∃ F R, St Q w t r F R M N most

section
variable {Q Q' S G : Nat → Prop} {w w' : World} {t r : Nat} {M N : Prs} {most : Int}
/-- what lies in Q, or is new, has changed -/
theorem Sx.over (h : Sx Q w t r M N most) (x : Touch S w w') (hS : ∀ b, S b → Q b ∨ w.heap.size ≤ b) : Sx Q w' t r M N most := by
  obtain ⟨F, R, h⟩ := h
  exact ⟨F, R, h.tp.keep x (fun b hb hs => by have := h.tp.lt b hb; rcases hS b hs with h1 | h1; exact h.hF b hb h1; omega), h.rf.keep x (fun b hb hs => by have := h.rf.lt b hb; rcases hS b hs with h1 | h1; exact h.hR b hb h1; omega), h.hF, h.hR, h.hd,
    fun b hb => Nat.lt_of_lt_of_le (h.hQ b hb) x.size⟩
theorem Sx.ext (h : Sx Q w t r M N most) (x : Ext w w') : Sx Q w' t r M N most := h.over x (fun b h => h.elim)
/-- another set is kept -/
theorem Sx.kept (h : Sx Q w t r M N most) (x : Ext w w') (hQ : ∀ b, Q' b → Q b ∨ w.heap.size ≤ b ∧ b < w'.heap.size) : Sx Q' w' t r M N most := by
  obtain ⟨F', R', h'⟩ := h
  refine ⟨F', R', h'.tp.ext x, h'.rf.ext x, fun b hb hq => ?_, fun b hb hq => ?_, h'.hd, fun b hq => ?_⟩
  · rcases hQ b hq with h1 | h1
    · exact h'.hF b hb h1
    · have := h'.tp.lt b hb; omega
  · rcases hQ b hq with h1 | h1
    · exact h'.hR b hb h1
    · have := h'.rf.lt b hb; omega
  · rcases hQ b hq with h1 | h1
    · exact Nat.lt_of_lt_of_le (h'.hQ b h1) x.size
    · exact h1.2
theorem Sx.less (h : Sx Q w t r M N most) (hQ : ∀ b, Q' b → Q b) : Sx Q' w t r M N most := h.kept (Touch.refl _ _) (fun b hb => Or.inl (hQ b hb))
theorem Sx.tree (h : Sx Q w t r M N most) : ∃ F, Tp w t F M most := by obtain ⟨F, R, h⟩ := h; exact ⟨F, h.tp⟩
theorem Sx.map (h : Sx Q w t r M N most) : ∃ R, Rf w r R N := by obtain ⟨F, R, h⟩ := h; exact ⟨R, h.rf⟩
theorem Sx.tq (h : Sx Q w t r M N most) : Tq w (.pointer (some ⟨t, 0, none⟩)) (fun b => b < w.heap.size) M := by obtain ⟨F, R, h⟩ := h; exact h.tp.tq
theorem Sx.hQ (h : Sx Q w t r M N most) : ∀ b, Q b → b < w.heap.size := by obtain ⟨F, R, h⟩ := h; exact h.hQ
theorem Sx.few (h : Sx Q w t r M N most) : M.length ≤ 1000000 := by obtain ⟨F, R, h⟩ := h; exact h.tp.few
theorem Sx.ne (h : Sx Q w t r M N most) : ∀ b, Q b → b ≠ t ∧ b ≠ r := by
  obtain ⟨F, R, h⟩ := h
  exact fun b hb => ⟨fun e => h.hF _ h.tp.self (e ▸ hb), fun e => h.hR _ h.rf.self (e ▸ hb)⟩
/-- what the document's map holds: a row in its first cell -/
theorem Sx.row (h : Sx Q w t r M N most) : ∃ a c, w.cell? ⟨r, 0, none⟩ = some (.slice a N.length c) ∧ RP w (NQ Q) (.slice a N.length c) N := by
  obtain ⟨F, R, h⟩ := h
  obtain ⟨v, h1, h2⟩ := h.rf.row
  obtain ⟨a, c, rfl, _⟩ := h2.shape
  exact ⟨a, c, h1, h2.mono (fun b hb => h.hR b hb)⟩
theorem Touch.nq (x : Touch S w w') (hS : ∀ b, S b → ¬ Q b) : Touch (NQ Q) w w' := x.mono (fun i hi _ => hS i hi)
/-- what is kept: cells, bytes -/
theorem rbq {v : Value} {k : List Int} (h : RB w G v k) (x : Touch (NQ Q) w w') (hG : ∀ b, G b → Q b) : RB w' G v k := h.keep x (fun b hb hn => hn (hG b hb))
theorem keepq {p : Addr} {v : Value} (x : Touch (NQ Q) w w') (hq : Q p.block) (h : w.cell? p = some v) : w'.cell? p = some v := keepc x (fun hn => hn hq) h
theorem extq {w0 : World} (h : Ext w0 w) (x : Touch (NQ Q) w w') (hq : ∀ b, b < w0.heap.size → Q b) : Ext w0 w' := h.trans x (fun i hi hlt => hi (hq i hlt))
theorem Sx.q1 (h : Sx Q w t r M N most) (o : Obj) : Sx (Q1 Q w.heap.size) (w.alloc o) t r M N most := h.kept ((Touch.refl _ _).alloc o) (fun b hb => hb.imp id (fun e => by subst e; exact ⟨Nat.le_refl _, by simp⟩))

/-- the tree has changed -/
theorem St.upd {F R F' : Nat → Prop} {M' : Prs} (h : St Q w t r F R M N most) (h' : Tp w' t F' M' most) (hu : Upd w w' F F') : St Q w' t r F' R M' N most := by
  refine ⟨h', h.rf.keep hu.1 (fun b hb hf => h.hd b hf hb), fun b hb hq => (hu.2 b hb).elim (fun h1 => h.hF b h1 hq) (fun h1 => by have := h.hQ b hq; omega), h.hR, fun b hb hr => ?_, fun b hb => Nat.lt_of_lt_of_le (h.hQ b hb) hu.1.size⟩
  rcases hu.2 b hb with h1 | h1
  · exact h.hd b h1 hr
  · have := h.rf.lt b hr; omega
/-- the document's map has changed -/
theorem St.updR {F R R' : Nat → Prop} {N' : Prs} (h : St Q w t r F R M N most) (h' : Rf w' r R' N') (x : Touch (fun b => b = r) w w') (hs : ∀ b, R' b → R b ∨ w.heap.size ≤ b) : St Q w' t r F R' M N' most := by
  refine ⟨h.tp.keep x (fun b hb e => h.hd b hb (e ▸ h.rf.self)), h', h.hF, fun b hb hq => (hs b hb).elim (fun h1 => h.hR b h1 hq) (fun h1 => by have := h.hQ b hq; omega), fun b hb hr => ?_, fun b hb => Nat.lt_of_lt_of_le (h.hQ b hb) x.size⟩
  rcases hs b hr with h1 | h1
  · exact h.hd b hb h1
  · have := h.tp.lt b hb; omega

/-- a put of the tree alone, where there is room -/
def SPut (Q : Nat → Prop) (w : World) (t r : Nat) (M N : Prs) (most : Int) (k : List Int) (v : Int) (e : Ending) (w' : World) : Prop :=
  e = .returned (.tuple #[.int .u64 (valK M k), .bool (hasK M k), .int .i64 0]) ∧ Sx Q w' t r (putK M k v) N most ∧ Touch (NQ Q) w w'
theorem sput (h : Sx Q w t r M N most) (hm : M.length < 1000000) (kw : Value) (k : List Int) (v : Int) (hk : RB w Q kw k) (kb : KB k) (hl : k.length ≤ 65535) (hroom : hasK M k = true ∨ (szK (putK M k v) : Int) ≤ most) :
    Calls Try.prog 17 #[.pointer (some ⟨t, 0, none⟩), kw, .int .u64 v] w (SPut Q w t r M N most k v) := by
  have hne := h.ne
  obtain ⟨F, R, h⟩ := h
  refine (put_any w t kw M most k v h.tp hm (hk.mono (fun b hb => (hne b hb).1)) kb hl hroom).mono ?_
  rintro e w' ⟨rfl, F', h', hu⟩
  exact ⟨rfl, ⟨F', R, h.upd h' hu⟩, Touch.nq hu.1 h.hF⟩
def SFull (Q : Nat → Prop) (w : World) (t r : Nat) (M N : Prs) (most : Int) (e : Ending) (w' : World) : Prop := e = .returned (.tuple #[.int .u64 0, .bool false, .int .i64 4]) ∧ Sx Q w' t r M N most ∧ Ext w w'
theorem sfull (h : Sx Q w t r M N most) (hm : M.length < 1000000) (kw : Value) (k : List Int) (v : Int) (hk : RB w Q kw k) (kb : KB k) (hl : k.length ≤ 65535) (hh : hasK M k = false) (hroom : most < (szK (putK M k v) : Int)) :
    Calls Try.prog 17 #[.pointer (some ⟨t, 0, none⟩), kw, .int .u64 v] w (SFull Q w t r M N most) := by
  have hne := h.ne
  obtain ⟨F, R, h⟩ := h
  refine (put_full w t kw M most k v h.tp (by omega) (hk.mono (fun b hb => (hne b hb).1)) kb hl hh hroom).mono ?_
  rintro e w' ⟨rfl, x⟩
  exact ⟨rfl, Sx.ext ⟨F, R, h⟩ x, x⟩
def SDrop (Q : Nat → Prop) (w : World) (t r : Nat) (M N : Prs) (most : Int) (k : List Int) (e : Ending) (w' : World) : Prop :=
  e = .returned (.tuple #[.int .u64 (valK M k), .bool (hasK M k)]) ∧ Sx Q w' t r (dropK M k) N most ∧ Touch (NQ Q) w w'
theorem sdrop (h : Sx Q w t r M N most) (kw : Value) (k : List Int) (hk : RB w Q kw k) (kb : KB k) (hl : k.length ≤ 65535) :
    Calls Try.prog 35 #[.pointer (some ⟨t, 0, none⟩), kw] w (SDrop Q w t r M N most k) := by
  have hne := h.ne
  obtain ⟨F, R, h⟩ := h
  refine (drop_any w t kw M most k h.tp (hk.mono (fun b hb => (hne b hb).1)) kb hl).mono ?_
  rintro e w' ⟨rfl, F', h', hu⟩
  exact ⟨rfl, ⟨F', R, h.upd h' hu⟩, Touch.nq hu.1 h.hF⟩
def SRPut (Q : Nat → Prop) (w : World) (t r : Nat) (M N : Prs) (most : Int) (k : List Int) (v : Int) (e : Ending) (w' : World) : Prop :=
  e = .returned (.tuple #[.int .u64 (valK N k), .bool (hasK N k), .int .i64 0]) ∧ Sx Q w' t r M (putK N k v) most ∧ Touch (NQ Q) w w'
theorem srput (h : Sx Q w t r M N most) (hm : N.length ≤ 1000000) (kw : Value) (k : List Int) (v : Int) (hk : RB w G kw k) (kb : KB k) (hl : k.length ≤ 65535) :
    Calls Try.prog 33 #[.pointer (some ⟨r, 0, none⟩), kw, .int .u64 v] w (SRPut Q w t r M N most k v) := by
  obtain ⟨F, R, h⟩ := h
  refine (RefJ.put_any w r kw N k v h.rf hk kb hl hm).mono ?_
  rintro e w' ⟨rfl, R', h', hu, hs⟩
  exact ⟨rfl, ⟨F, R', h.updR h' hu hs⟩, Touch.nq hu (fun b hb => by subst hb; exact h.hR _ h.rf.self)⟩
def SRDrop (Q : Nat → Prop) (w : World) (t r : Nat) (M N : Prs) (most : Int) (k : List Int) (e : Ending) (w' : World) : Prop :=
  e = .returned (.tuple #[.int .u64 (valK N k), .bool (hasK N k)]) ∧ Sx Q w' t r M (dropK N k) most ∧ Touch (NQ Q) w w'
theorem srdrop (h : Sx Q w t r M N most) (hm : N.length ≤ 1000000) (kw : Value) (k : List Int) (hk : RB w G kw k) (kb : KB k) :
    Calls Try.prog 36 #[.pointer (some ⟨r, 0, none⟩), kw] w (SRDrop Q w t r M N most k) := by
  obtain ⟨F, R, h⟩ := h
  refine (RefJ.drop_any w r kw N k h.rf hk kb hm).mono ?_
  rintro e w' ⟨rfl, R', h', hu, hs⟩
  exact ⟨rfl, ⟨F, R', h.updR h' hu hs⟩, Touch.nq hu (fun b hb => by subst hb; exact h.hR _ h.rf.self)⟩
theorem sright (h : Sx Q w t r M M most) :
    Calls Try.prog 34 #[.pointer (some ⟨t, 0, none⟩), .pointer (some ⟨r, 0, none⟩)] w fun e w' => e = .returned (.bool true) ∧ Ext w w' := by
  obtain ⟨F, R, h⟩ := h
  exact right_any w t r M most h.tp h.rf
end
/-- a tree, made; a map of the document, made behind it -/
theorem sx_new {Q : Nat → Prop} {w1 : World} {t : Nat} {F : Nat → Prop} {M : Prs} {most : Int} (hQ : ∀ b, Q b → b < w1.heap.size) (hF : ∀ b, F b → ¬ Q b) (htp : Tp w1 t F M most) : Sx Q (w1.alloc (.cells #[.slice none 0 0] 58)) t w1.heap.size M [] most :=
  ⟨F, fun b => b = w1.heap.size, htp.ext ((Touch.refl _ _).alloc _), RefJ.rf_new w1, hF, fun b hb hq => by have := hQ b hq; omega, fun b hb h => by have := htp.lt b hb; omega, fun b hb => Nat.lt_of_lt_of_le (hQ b hb) (by simp)⟩
variable {G : Nat → Prop}

/-! ### how much room is asked for -/
def costK (k : List Int) : Nat := 2
theorem sz_put_le {M : Prs} (hr : Rises M) {k : List Int} (v : Int) (h : hasK M k = false) : szK (putK M k v) ≤ szK M + costK k := by
  have := putK_length M k v
  rw [h] at this
  simp at this
  unfold szK costK; omega
theorem sz_put_has' {M : Prs} {k : List Int} (v : Int) (h : hasK M k = true) : szK (putK M k v) = szK M := by
  have := putK_length M k v
  rw [h] at this
  simp at this
  unfold szK; omega
theorem sz_drop_le {M : Prs} (hr : Rises M) (k : List Int) : szK (dropK M k) ≤ szK M := by
  have := dropK_length M k
  unfold szK; omega
def sumK (ps : Prs) : Nat := (ps.map fun p => costK p.1).sum
theorem sumK_take (ps : Prs) (j : Nat) (p : List Int × Int) (h : ps[j]? = some p) : sumK (ps.take (j + 1)) = sumK (ps.take j) + costK p.1 := by
  unfold sumK; rw [List.take_add_one, h]; simp
theorem sumK_take_le (ps : Prs) (j : Nat) : sumK (ps.take j) ≤ sumK ps := by
  unfold sumK
  have h : ps = ps.take j ++ ps.drop j := (List.take_append_drop j ps).symm
  conv => rhs; rw [h]
  rw [List.map_append, List.sum_append]; omega
theorem sz_put_any {M : Prs} (hr : Rises M) (k : List Int) (v : Int) : szK (putK M k v) ≤ szK M + costK k := by
  cases h : hasK M k with
  | true => rw [sz_put_has' v h]; omega
  | false => exact sz_put_le hr v h
theorem sz_mk_sum (ps : Prs) : ∀ j, szK (mkK (ps.take j)) ≤ sumK (ps.take j)
  | 0 => by simp [mkK, szK, sumK]
  | j + 1 => by
    have ih := sz_mk_sum ps j
    cases hp : ps[j]? with
    | none =>
      have hl : ps.length ≤ j := by simpa using hp
      rw [List.take_of_length_le (by omega)] at ih
      rw [List.take_of_length_le (by omega)]
      exact ih
    | some p =>
      rw [mkK_take ps j p hp, sumK_take ps j p hp]
      have := sz_put_any (mkK_rises (ps.take j)) p.1 p.2
      omega
theorem costK_le (k : List Int) : costK k ≤ k.length + 2 := by unfold costK; omega
theorem sum_bound (ps : Prs) (L : Nat) (h : ∀ p ∈ ps, p.1.length ≤ L) : sumK ps ≤ ps.length * (L + 2) := by
  induction ps with
  | nil => simp [sumK]
  | cons p ps ih =>
    have h1 := ih (fun q hq => h q (by simp [hq]))
    have h2 := h p (by simp)
    have h3 := costK_le p.1
    have h4 : sumK (p :: ps) = costK p.1 + sumK ps := by simp [sumK]
    rw [h4, List.length_cons, Nat.add_mul]; omega

set_option maxRecDepth 100000 in
set_option maxHeartbeats 800000 in
/-- ref10.Put: how many cells a key may take -/
theorem need_any (w : World) (k : List Int) (hl : k.length ≤ 65535) : Calls Try.prog 68 #[.int .i64 1, .int .i64 k.length] w fun e w' => e = .returned (.int .i64 (costK k : Nat)) ∧ w = w' := by
  have h0 : ¬ (65535 : Int) < (k.length : Int) := by omega
  go_enter Try.func68, Try.ntmps68
  go_wp2_with (fail)
  go_ret
  exact ⟨congrArg (fun z => Ending.returned (.int .i64 z)) (by unfold costK; omega), rfl⟩
set_option maxRecDepth 100000 in
set_option maxHeartbeats 1600000 in
theorem needs_any (w : World) (v : Value) (ps : Prs) (h : RP w G v ps) (hm : ps.length ≤ 1000) (hl : ∀ p ∈ ps, p.1.length ≤ 1000) : Calls Try.prog 32 #[.int .i64 1, v] w fun e w' => e = .returned (.int .i64 (sumK ps : Nat)) ∧ Ext w w' := by
  obtain ⟨a, c, rfl, l1, m1, hn⟩ := h.shape
  unfold maxLen at m1
  have hsb := sum_bound ps 1000 hl
  have H := Lib.hid h
  clear h
  have Hl := Lib.hid hl
  clear hl
  have Hsb := Lib.hid hsb
  clear hsb
  go_enter Try.func32, Try.ntmps32
  go_wp2_with (fail)
  go_loopw [5, 6] (fun s5 s6 wr => ∃ j : Nat, j ≤ ps.length ∧ s6 = .int .i64 j ∧ s5 = .int .i64 (sumK (ps.take j) : Nat) ∧ Ext w wr) (fun s5 s6 _ => ps.length - (intOf s6).toNat)
  case atStart => exact ⟨0, by omega, rfl, rfl, Touch.refl _ _⟩
  case round =>
    obtain ⟨j, hj, rfl, rfl, ht⟩ := hrel
    by_cases hlt : j < ps.length
    · obtain ⟨b, off, rfl, _⟩ := H.out.addr (by omega)
      have hg := List.getElem?_eq_getElem hlt
      obtain ⟨kv, c0, c1, hkb⟩ := (H.out.ext ht).get j _ hg
      have hpl := Hl.out _ (List.mem_of_getElem? hg)
      have hsk := sumK_take ps j _ hg
      have hle := sumK_take_le ps (j + 1)
      generalize ps[j] = p at *
      obtain ⟨ka, kc, rfl, l2, m2, n2⟩ := hkb.shape
      have i0 : (0 : Int) ≤ (j : Int) := by omega
      have i1 : (j : Int) < (ps.length : Int) := by omega
      have hb : sumK (ps.take (j + 1)) ≤ 2000000 := by
        have h1 := Hsb.out
        have h2 : ps.length * (1000 + 2) ≤ 1000 * (1000 + 2) := Nat.mul_le_mul_right _ hm
        omega
      have hne := fun W => need_any W p.1 (by omega)
      have hi : IntKind.i64.wrap ((sumK (ps.take j) : Int) + (costK p.1 : Int)) = ((sumK (ps.take (j + 1)) : Nat) : Int) := by rw [IntKind.wrap_i64]; omega
      have Hg := Lib.hid hg
      clear hg
      have Hkb := Lib.hid hkb
      clear hkb
      have Hpl := Lib.hid hpl
      clear hpl
      have Hsk := Lib.hid hsk
      clear hsk
      have Hle := Lib.hid hle
      clear hle
      have Hne := Lib.hid hne
      clear hne
      go_wp2_with (fail)
      (with_reducible refine (Hne.out _).mono ?_)
      rintro e w2 ⟨rfl, rfl⟩
      go_wp2_with (fail)
      go_roundw
      case rel => exact ⟨j + 1, by omega, by go_num, by rw [Hsk.out], ht⟩
      case measure => simp [intOf]; omega
    · obtain rfl : j = ps.length := by omega
      have i1 : ¬ ((ps.length : Nat) : Int) < (ps.length : Int) := by omega
      go_wp2_with (fail)
      go_ret
      exact ⟨rfl, ht⟩

end TreeS
end Go.Proofs.Ytmdgmkmddkaadaa
