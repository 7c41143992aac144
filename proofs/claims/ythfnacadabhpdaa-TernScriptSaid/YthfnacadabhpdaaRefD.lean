/- The document's own map: Longest, From. -/
import Derived.Test.YthfnacadabhpdaaRefB
import Derived.Test.YthfnacadabhpdaaRefC
import Derived.Test.YthfnacadabhpdaaModI
namespace Go.Proofs.Ythfnacadabhpdaa
open Go.RowKit
set_option linter.unusedVariables false
set_option linter.unusedSimpArgs false
namespace RefD
open ModA ModB ModI
variable {F G : Nat → Prop}

theorem longest_at {ps : Prs} {k : List Int} {j : Nat} {p : List Int × Int} (hj : ps[j]? = some p) (hb : begK k p.1 = true) (hno : ∀ (i : Nat) q, j < i → ps[i]? = some q → begK k q.1 = false) : longestK ps k = some p := by
  have hjl := (List.getElem?_eq_some_iff.1 hj).1
  have hs : ps = ps.take j ++ p :: ps.drop (j + 1) := by
    have h1 := List.take_append_drop j ps
    rw [List.drop_eq_getElem_cons hjl] at h1
    have h2 : ps[j] = p := by rw [List.getElem?_eq_getElem hjl] at hj; exact Option.some.inj hj
    rw [h2] at h1
    exact h1.symm
  unfold longestK
  rw [hs, List.reverse_append, List.reverse_cons, List.append_assoc, List.find?_append]
  have hn : (ps.drop (j + 1)).reverse.find? (fun p => begK k p.1) = none := by
    rw [List.find?_eq_none]
    intro q hq
    obtain ⟨i, hi⟩ := List.mem_iff_getElem?.1 (List.mem_reverse.1 hq)
    rw [List.getElem?_drop] at hi
    simp [hno _ q (by omega) hi]
  rw [hn]
  simp [hb]
theorem longest_no {ps : Prs} {k : List Int} (hno : ∀ (i : Nat) q, ps[i]? = some q → begK k q.1 = false) : longestK ps k = none := by
  unfold longestK
  rw [List.find?_eq_none]
  intro q hq
  obtain ⟨i, hi⟩ := List.mem_iff_getElem?.1 (List.mem_reverse.1 hq)
  simp [hno _ q hi]

set_option maxRecDepth 100000 in
set_option maxHeartbeats 1600000 in
theorem longest_any (w : World) (r0 : Nat) (kw : Value) (ps : Prs) (k : List Int) (h : Rf w r0 F ps) (hk : RB w G kw k) (kb : KB k) (hm : ps.length ≤ 1000000) (hkl : k.length ≤ 1000000) :
    Calls Try.prog 76 #[.pointer (some ⟨r0, 0, none⟩), kw] w (PairRet w (longestK ps k)) := by
  have t0 : Ext w (w.alloc (.cells #[.slice none 0 0, .int .u64 0] 33)) := (Touch.refl _ _).alloc _
  obtain ⟨v, c0, hrp⟩ := h.row
  obtain ⟨a, c, rfl, l1, m1, _⟩ := hrp.shape
  obtain ⟨ka, kc, rfl, _⟩ := hk.shape
  unfold maxLen at m1
  have hsel := fun (W : World) (j : Nat) (t : Ext w W) => RefB.select_any (F := F) W r0 ps j (h.ext t) hm
  have d0 := keepc t0 id c0
  have hat := fun (j : Nat) p (hj : ps[j]? = some p) => longest_at (k := k) hj
  have hno := longest_no (ps := ps) (k := k)
  have hlg := fun p (hp : p ∈ ps) => h.long p hp
  generalize longestK ps k = o at *
  have i9 : IntKind.i64.wrap ((ps.length : Int) - 1) = (ps.length : Int) - 1 := by rw [IntKind.wrap_i64]; omega
  have H := Lib.hid h
  clear h
  have Hrp := Lib.hid hrp
  clear hrp
  have Hk := Lib.hid hk
  clear hk
  have Kb := Lib.hid kb
  clear kb
  have Hsel := Lib.hid hsel
  clear hsel
  have Hat := Lib.hid hat
  clear hat
  have Hno := Lib.hid hno
  clear hno
  have Hlg := Lib.hid hlg
  clear hlg
  clear c0
  obtain ⟨W0, hW0⟩ : ∃ W0, W0 = w.alloc (.cells #[.slice none 0 0, .int .u64 0] 33) := ⟨_, rfl⟩
  go_enter Try.func76, Try.ntmps76
  go_wp2_with (fail)
  go_loopw [6] (fun s6 wr => ∃ j : Int, -1 ≤ j ∧ j < ps.length ∧ s6 = .int .i64 j ∧ (∀ (i : Nat) q, j < i → ps[i]? = some q → begK k q.1 = false) ∧ Ext (w.alloc (.cells #[.slice none 0 0, .int .u64 0] 33)) wr) (fun s6 _ => ((match s6 with | .int _ z => z | _ => 0) + 1).toNat)
  case atStart => exact ⟨(ps.length : Int) - 1, by omega, by omega, rfl, (fun i q hi hq => by have := (List.getElem?_eq_some_iff.1 hq).1; omega), Touch.refl _ _⟩
  case round =>
    clear i9
    obtain ⟨j, hj0, hj, rfl, hall, ht⟩ := hrel
    have y0 := keepc ht id d0
    by_cases hlt : 0 ≤ j
    · obtain ⟨jn, rfl⟩ := Int.eq_ofNat_of_zero_le hlt
      have hjn : jn < ps.length := by omega
      obtain ⟨b, off, rfl, _⟩ := Hrp.out.addr (by omega)
      have hg := List.getElem?_eq_getElem hjn
      have tw := t0.trans' ht
      obtain ⟨kv, e0, e1, hkv⟩ := (Hrp.out.ext tw).get _ _ hg
      have hl := Hlg.out _ (List.mem_of_getElem? hg)
      have hfin := Hat.out jn _ hg
      have hso : selK ps (jn : Int) = some ps[jn] := by unfold selK; rw [if_pos (by omega)]; simp [hjn]
      generalize ps[jn] = p at *
      obtain ⟨qa, qc, rfl, _⟩ := hkv.shape
      have hbg := RefC.rbegins_any wr (.slice ka k.length kc) (.slice qa p.1.length qc) k p.1 (Hk.out.ext tw) hkv (by omega) (by omega)
      cases hbk : begK k p.1 with
      | true =>
        rw [hbk] at hbg
        have hfin := hfin hbk (fun i q hi hq => hall i q (by omega) hq)
        have hse := fun (W : World) (t : Ext w W) => Hsel.out W jn t
        rw [hso, ← hfin] at hse
        have Hbg := Lib.hid hbg
        clear hbg
        have Hkv := Lib.hid hkv
        clear hkv
        have Hg := Lib.hid hg
        clear hg
        have Hfin := Lib.hid hfin
        clear hfin
        have Hso := Lib.hid hso
        clear hso
        have Hall := Lib.hid hall
        clear hall
        have Hbk := Lib.hid hbk
        clear hbk
        have Hse := Lib.hid hse
        clear hse
        go_wp2_with (fail)
        (with_reducible refine Hbg.out.mono ?_)
        rintro e w1 ⟨rfl, ht1⟩
        go_wp2_with (fail)
        (with_reducible refine (Hse.out _ (tw.trans' ht1)).mono ?_)
        rintro e w2 ⟨⟨kv', rfl, hob⟩, ht2⟩
        have tx := ht.trans' ht1
        clear e0 e1 y0 d0
        obtain ⟨va, vc, rfl⟩ := hob.shape
        have e0 := keepc (p := ⟨w.heap.size, 0, none⟩) (v := .slice none 0 0) ((tx).trans' (ht2)) id (by simp)
        have e1 := keepc (p := ⟨w.heap.size, 1, none⟩) (v := .int .u64 0) ((tx).trans' (ht2)) id (by simp)
        have f0 := keepf (p := ⟨w.heap.size, 0, none⟩) ((tx).trans' (ht2)) (by simp) id (by simp)
        have f1 := keepf (p := ⟨w.heap.size, 1, none⟩) ((tx).trans' (ht2)) (by simp) id (by simp)
        have r0 := set2_get0 (u := .slice va (keyO (o)).length vc) (v := .int .u64 (valO (o))) e0
        have r1 := set2_get1 (u := .slice va (keyO (o)).length vc) (v := .int .u64 (valO (o))) e1
        have hend := pair_tail (u := .slice va (keyO (o)).length vc) (v := .int .u64 (valO (o))) (t0.trans' tx) (ht2) (by have := (tx).size; simp at this ⊢ <;> omega) hob
        have Hend := Lib.hid hend
        clear hend hob
        go_wp2_with (fail)
        exact bodyPost_ret (v := .tuple #[.agg #[.slice va (keyO (o)).length vc, .int .u64 (valO (o))], .bool (o).isSome]) (by simp [results, Try.results76, go_sem, r0, r1]) rfl ⟨⟨_, rfl, Hend.out.1⟩, Hend.out.2⟩
      | false =>
        rw [hbk] at hbg
        have Hbg := Lib.hid hbg
        clear hbg
        have Hkv := Lib.hid hkv
        clear hkv
        have Hg := Lib.hid hg
        clear hg
        have Hso := Lib.hid hso
        clear hso
        have Hall := Lib.hid hall
        clear hall
        have Hbk := Lib.hid hbk
        clear hbk
        clear hfin
        go_wp2_with (fail)
        (with_reducible refine Hbg.out.mono ?_)
        rintro e w1 ⟨rfl, ht1⟩
        go_wp2_with (fail)
        go_roundw
        case rel =>
          refine ⟨(jn : Int) - 1, by omega, by omega, by go_num, fun i q hi hq => ?_, ht.trans' ht1⟩
          rcases Nat.lt_or_ge jn i with h1 | h1
          · exact Hall.out i q (by omega) hq
          · obtain rfl : i = jn := by omega
            rw [Hg.out] at hq; cases hq
            exact Hbk.out
        case measure => simp <;> omega
    · obtain rfl : j = -1 := by omega
      have hfin := Hno.out (fun i q hq => hall i q (by omega) hq)
      subst hfin
      have Hall := Lib.hid hall
      clear hall
      have e0 := keepc (p := ⟨w.heap.size, 0, none⟩) (v := .slice none 0 0) ht id (by simp)
      have e1 := keepc (p := ⟨w.heap.size, 1, none⟩) (v := .int .u64 0) ht id (by simp)
      have f0 := keepf (p := ⟨w.heap.size, 0, none⟩) ht (by simp) id (by simp)
      have f1 := keepf (p := ⟨w.heap.size, 1, none⟩) ht (by simp) id (by simp)
      have r0 := set2_get0 (u := .slice none 0 0) (v := .int .u64 0) e0
      have r1 := set2_get1 (u := .slice none 0 0) (v := .int .u64 0) e1
      have tt := touch_set2 wr w.heap.size 0 1 (.slice none 0 0) (.int .u64 0)
      go_wp2_with (fail)
      exact bodyPost_ret (v := .tuple #[.agg #[.slice none 0 0, .int .u64 0], .bool false]) (by simp [results, Try.results76, go_sem, r0, r1]) rfl ⟨⟨_, rfl, OB.nil _ _⟩, (t0.trans' ht).ext_new tt (fun i hi => by omega)⟩
end RefD
end Go.Proofs.Ythfnacadabhpdaa
