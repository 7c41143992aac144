/- From a law's walk to its row: what every law of this seat shares. -/
import Derived.Test.YtclnnkacfanaiaaDoorBase
import Derived.OpenShut
import Derived.Deep.Slices
import Derived.Deep.Fields
namespace Go.Proofs.YtclnnkacfanaiaaDoor
open Go.ChangeShapes Go.WideShapes Go.ChangeAt Go.RowKit Go.Deep
set_option linter.unusedVariables false
set_option linter.unusedSimpArgs false

theorem Tryd.own : ownKnob Tryd.prog.godebug = none := by kernel_rfl
theorem Tryd.laidOut : laidOutB Tryd.prog = true := by kernel_rfl

section
variable {H : Type} {enc : TypeId × Value → H} {P : Program}

theorem trodAll_below (hl : laidOutB P = true) {W W' : World} (hb : Below W.heap.size W W') : ∀ (ts : List TypeId) (vs : List Value) (ds : List (DataW H)) (ps : List MemPlace),
    (ts.all fun t => P.readableRec t && decide (t < P.types.size)) = true → DataW.TrodAll enc P W 0 (fun _ => true) true ts vs ds ps → (∀ x ∈ ps, x.block < W.heap.size) →
    DataW.TrodAll enc P W' 0 (fun b => decide (b < W.heap.size)) true ts vs ds ps := by
  intro ts
  induction ts with
  | nil => intro vs ds ps _ h _; obtain ⟨rfl, rfl, rfl⟩ := trodAll_nil h; exact trodAll_mk0
  | cons t ts ih =>
    intro vs ds ps hr h hlt
    obtain ⟨v, vs', d, ds', p, q, rfl, rfl, rfl, h1, h2⟩ := trodAll_cons h
    simp only [List.all_cons, Bool.and_eq_true, decide_eq_true_eq] at hr
    exact ⟨p, q, Below.trod hl hr.1.1 hr.1.2 h1 hb (fun x hx => hlt x (by simp [hx])), ih vs' ds' q (by simpa using hr.2) h2 (fun x hx => hlt x (by simp [hx])), rfl⟩

theorem v64_wf {x : Int} (h : (Lit.int .i64 x).wf = true) : V64 x := by
  simp [Lit.wf, IntKind.min, IntKind.max, IntKind.signed, IntKind.bits] at h
  unfold V64; omega

/-- A slice of structs of one-cell fields: where the fields of each element lie, and how each reads. -/
theorem open_structs {r : Reach} {W : World} {base : Nat} {t e : TypeId} {fs : Array Field} {v : Value} {d : DataW H} {ps : List MemPlace} (ht : P.underlying t = some (.slice e)) (he : P.underlying e = some (.struct fs))
    (hone : oneCellFields P fs = true) (hC : P.cellsOf e = fs.size) (hpos : 0 < fs.size) (hv : Value.okWide P W r base t v) (h : DataW.Trod enc P W 0 (fun _ => true) true t v d ps) :
    ∃ (a : Option Addr) (len cap : Nat), v = .slice a len cap ∧ len ≤ maxLen ∧ ∀ k, k < len → ∃ b off, a = some ⟨b, off, none⟩ ∧ b < W.heap.size ∧
      ∀ (j : Nat) (f : Field), fs[j]? = some f → ∃ (c : Value) (y : DataW H × List MemPlace) (n : Nat), W.cell? ⟨b, off + k * fs.size + j, none⟩ = some c ∧ DataW.trod enc P W 0 (fun _ => true) true n f.type [c] = some y := by
  obtain ⟨a0, len, cap, rfl⟩ := okWide_slice ht hv
  obtain ⟨fuel, hf⟩ := h
  refine ⟨a0, len, cap, rfl, ?_⟩
  rcases Deep.open_slice ht hf with ⟨h0, _⟩ | ⟨a, len', cap', m, n, D, Pl, hcs, hb, hl, hm, hmm, hx, hi⟩
  · simp [Value.cells] at h0
    obtain ⟨_, rfl, _⟩ := h0
    exact ⟨by simp, fun k hk => by omega⟩
  · simp only [Value.cells, List.cons.injEq, Value.slice.injEq, and_true] at hcs
    obtain ⟨rfl, rfl, rfl⟩ := hcs
    refine ⟨by omega, fun k hk => ?_⟩
    have hlm : len ≤ m := by rw [hmm]; simp; omega
    obtain ⟨cs', hc, ht'⟩ := hi k (by omega)
    rw [hC] at hc
    obtain ⟨ys, n', hn', hy, hlen, hyl, hff⟩ := DataW.trod_struct he ht'
    obtain ⟨_, hcl, hat⟩ := World.cells?_some hc
    have hspot : a.spot = none := by
      obtain ⟨cs0, hc0, _⟩ := hi 0 (by omega)
      rw [hC] at hc0
      obtain ⟨_, hcl0, hat0⟩ := World.cells?_some hc0
      have h0 := hat0 0 hpos
      have e0 : (a.add (0 * fs.size)).add 0 = a := by simp [Addr.add]
      rw [e0, List.getElem?_eq_getElem (by omega)] at h0
      unfold World.cell? at h0
      split at h0
      · split at h0
        · cases h0
        · rename_i hs; simpa using hs
      · cases h0
    obtain ⟨b, off, sp⟩ := a
    simp only at hspot
    subst hspot
    have hadd : ∀ o n, (⟨b, o, none⟩ : Addr).add n = ⟨b, o + n, none⟩ := by
      intro o n; unfold Addr.add; split <;> simp_all
    refine ⟨b, off, rfl, ?_, fun j f hj => ?_⟩
    · have h0 := hat 0 hpos
      rw [List.getElem?_eq_getElem (by omega), hadd, hadd] at h0
      exact World.block_lt_of_cell? _ _ h0
    · obtain ⟨ho, hk1⟩ := hone_of hone j f hj
      have hjl : j < fs.size := (Array.getElem?_eq_some_iff.1 hj).1
      have hcell := hat j hjl
      rw [hadd, hadd, List.getElem?_eq_getElem (by omega)] at hcell
      have h1 := hff j f hj
      rw [ho, hk1, List.drop_eq_getElem_cons (by omega)] at h1
      have hys : ys[j]? = some (ys[j]'(by omega)) := List.getElem?_eq_getElem (by omega)
      exact ⟨_, _, _, hcell, h1.trans hys⟩

/-- A slice of one-cell elements: where each lies, and how it reads. -/
theorem open_list {r : Reach} {W : World} {base : Nat} {t e : TypeId} {v : Value} {d : DataW H} {ps : List MemPlace} (ht : P.underlying t = some (.slice e)) (hC : P.cellsOf e = 1)
    (hv : Value.okWide P W r base t v) (h : DataW.Trod enc P W 0 (fun _ => true) true t v d ps) :
    ∃ (a : Option Addr) (len cap : Nat), v = .slice a len cap ∧ len ≤ cap ∧ cap ≤ maxLen ∧ (a = none → len = 0 ∧ cap = 0) ∧ (∀ b, a = some b → b.spot = none → b.block < W.heap.size ∨ len = 0) ∧ ∀ k, k < len → ∃ b off, a = some ⟨b, off, none⟩ ∧ b < W.heap.size ∧
      ∃ (c : Value) (y : DataW H × List MemPlace) (n : Nat), W.cell? ⟨b, off + k, none⟩ = some c ∧ DataW.trod enc P W 0 (fun _ => true) true n e [c] = some y := by
  obtain ⟨a0, len, cap, rfl⟩ := okWide_slice ht hv
  obtain ⟨fuel, hf⟩ := h
  refine ⟨a0, len, cap, rfl, ?_⟩
  rcases Deep.open_slice ht hf with ⟨h0, _⟩ | ⟨a, len', cap', m, n, D, Pl, hcs, hb, hl, hm, hmm, hx, hi⟩
  · simp [Value.cells] at h0
    obtain ⟨rfl, rfl, rfl⟩ := h0
    exact ⟨by simp, by simp, fun _ => ⟨rfl, rfl⟩, (fun _ h => by cases h), fun k hk => by omega⟩
  · simp only [Value.cells, List.cons.injEq, Value.slice.injEq, and_true] at hcs
    obtain ⟨rfl, rfl, rfl⟩ := hcs
    have hlm : len ≤ m := by rw [hmm]; simp; omega
    have main : ∀ k, k < len → ∃ b off, some a = some (⟨b, off, none⟩ : Addr) ∧ b < W.heap.size ∧ ∃ (c : Value) (y : DataW H × List MemPlace) (n : Nat), W.cell? ⟨b, off + k, none⟩ = some c ∧ DataW.trod enc P W 0 (fun _ => true) true n e [c] = some y := by
      intro k hk
      obtain ⟨cs', hc, ht'⟩ := hi k (by omega)
      rw [hC, Nat.mul_one] at hc
      obtain ⟨_, hcl, hat⟩ := World.cells?_some hc
      have hspot : a.spot = none := by
        obtain ⟨cs0, hc0, _⟩ := hi 0 (by omega)
        rw [hC] at hc0
        obtain ⟨_, hcl0, hat0⟩ := World.cells?_some hc0
        have h0 := hat0 0 (by omega)
        have e0 : (a.add (0 * 1)).add 0 = a := by simp [Addr.add]
        rw [e0, List.getElem?_eq_getElem (by omega)] at h0
        unfold World.cell? at h0
        split at h0
        · split at h0
          · cases h0
          · rename_i hs; simpa using hs
        · cases h0
      obtain ⟨b, off, sp⟩ := a
      simp only at hspot
      subst hspot
      have hadd : ∀ o n, (⟨b, o, none⟩ : Addr).add n = ⟨b, o + n, none⟩ := by
        intro o n; unfold Addr.add; split <;> simp_all
      have h0 := hat 0 (by omega)
      rw [List.getElem?_eq_getElem (by omega), hadd, hadd, Nat.add_zero] at h0
      refine ⟨b, off, rfl, World.block_lt_of_cell? _ _ h0, cs'[0], (D k, Pl k), n, h0, ?_⟩
      have : cs' = [cs'[0]] := by
        match cs', hcl with
        | [x], _ => rfl
      rw [← this]; exact ht'
    refine ⟨hl, hm, (fun h => by cases h), fun b hb hs => ?_, main⟩
    by_cases h0 : len = 0
    · exact Or.inr h0
    · obtain ⟨b', off, e1, e2, _⟩ := main 0 (by omega)
      cases hb; cases e1; exact Or.inl e2

theorem reads_ints {r : Reach} {W : World} {base : Nat} {t e : TypeId} {κ : IntKind} {v : Value} {d : DataW H} {ps : List MemPlace} (ht : P.underlying t = some (.slice e)) (he : P.underlying e = some (.int κ)) (hC : P.cellsOf e = 1)
    (hv : Value.okWide P W r base t v) (h : DataW.Trod enc P W 0 (fun _ => true) true t v d ps) : ∃ xs : List Int, Reads W v (ivs κ xs) ∧ ∀ x ∈ xs, (Lit.int κ x).wf = true := by
  obtain ⟨a, len, cap, rfl, hl, hm, hn, hb, hc⟩ := open_list ht hC hv h
  have hc' : ∀ k, k < len → ∃ b off x, a = some ⟨b, off, none⟩ ∧ b < W.heap.size ∧ W.cell? ⟨b, off + k, none⟩ = some (.int κ x) ∧ (Lit.int κ x).wf = true := by
    intro k hk
    obtain ⟨b, off, h1, h2, c, y, n, h3, h4⟩ := hc k hk
    obtain ⟨x, e1, _, e3⟩ := DataW.trod_int he h4
    simp only [List.cons.injEq, and_true] at e1
    subst e1
    exact ⟨b, off, x, h1, h2, h3, e3⟩
  obtain ⟨f, hf⟩ := Deep.choose_lt (n := len) (p := fun k x => ∃ b off, a = some ⟨b, off, none⟩ ∧ b < W.heap.size ∧ W.cell? ⟨b, off + k, none⟩ = some (.int κ x) ∧ (Lit.int κ x).wf = true)
    (fun k hk => by obtain ⟨b, off, x, h⟩ := hc' k hk; exact ⟨x, b, off, h⟩)
  refine ⟨(List.range len).map f, ⟨a, cap, by simp [ivs], by simpa [ivs] using hl, hm, fun k hk => ?_⟩, ?_⟩
  · have hk' : k < len := by simpa [ivs] using hk
    obtain ⟨b, off, h1, h2, h3, h4⟩ := hf k hk'
    exact ⟨b, off, h1, h2, by simpa [ivs] using h3⟩
  · intro x hx
    simp only [List.mem_map, List.mem_range] at hx
    obtain ⟨k, hk, rfl⟩ := hx
    obtain ⟨b, off, h1, h2, h3, h4⟩ := hf k hk
    exact h4

/-- THE END OF EVERY LAW: true; the arguments read as they did. -/
theorem law_post {f : Func} {s : ChangeSpec} {W W' : World} {args : Array Value} {ds gs : List (DataW H)} {before : List MemPlace} {tb : TypeId}
    (hl : laidOutB P = true) (hr : (f.params.toList.all fun t => P.readableRec t && decide (t < P.types.size)) = true)
    (hres : f.resultTypes = #[tb]) (htb : P.underlying tb = some .bool) (hvars : s.vars = []) (hgs : gs = [])
    (hfn : (s.fn H (ds ++ [])).results = [.lit (.bool true)] ∧ (s.fn H (ds ++ [])).args = ds ∧ (s.fn H (ds ++ [])).vars = [])
    (hW : DataW.Whole enc P f.params.toList s.vars false W args.toList ds gs before) (hb : Below W.heap.size W W') :
    s.post enc P f false true false false W args (.bool true) W' := by
  subst hgs
  have hlt := fun x hx => hW.lt x hx
  have hW' := hW
  obtain ⟨p, q, hA, hV, rfl, hfz, hnd⟩ := hW
  obtain ⟨h1, h2, h3⟩ := hfn
  have hq : q = [] := by rw [hvars] at hV; simpa [DataW.TrodVars] using hV
  subst hq
  refine ⟨ds, [], p ++ [], [], p, [], hW', ?_, ?_, ?_, hb.frame _, fun h => by cases h⟩
  · rw [h1, hres]
    exact trodAll_mk1 (shut_bool htb true)
  · rw [h2]
    exact trodAll_below hl hb _ _ _ _ hr hA (fun x hx => hlt x (by simp [hx]))
  · rw [h3, hvars]
    simp [DataW.TrodVars]
end
end Go.Proofs.YtclnnkacfanaiaaDoor
