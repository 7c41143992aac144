/- The document's own map: From. -/
import Derived.Test.YthfnacadabhpdaaRefB
namespace Go.Proofs.Ythfnacadabhpdaa
open Go.RowKit
set_option linter.unusedVariables false
set_option linter.unusedSimpArgs false
namespace RefE
open ModA ModB
variable {F G : Nat → Prop}
set_option maxRecDepth 100000 in
set_option maxHeartbeats 1600000 in
theorem from_any (w : World) (r0 : Nat) (kw : Value) (ps : Prs) (k : List Int) (most : Int) (h : Rf w r0 F ps) (hk : RB w G kw k) (kb : KB k) (hm : ps.length ≤ 1000000) (hV : V64 most) :
    Calls Try.prog 80 #[.pointer (some ⟨r0, 0, none⟩), kw, .int .i64 most] w fun e w' => (∃ v, e = .returned v ∧ OP w' (Ge w.heap.size) v (fromK ps k most)) ∧ Ext w w' := by
  have hf := RefA.rank_any (F := F) (G := G) _ r0 kw ps k h hk kb hm
  have hend : ∀ j : Nat, ((j : Int) = most ∨ most < j ∧ j = 0 ∨ ps.length ≤ rk ps k + j) → ((j : Int) ≤ most ∨ j = 0) → (ps.drop (rk ps k)).take j = fromK ps k most := fun j h1 h2 => fromN_end ps _ j most h1 h2
  have hrl := rk_le ps k
  generalize fromK ps k most = out at *
  generalize rk ps k = r at *
  unfold V64 at hV
  obtain ⟨v, c0, hrp0⟩ := h.row
  obtain ⟨a, c, rfl, l1, m1, _⟩ := hrp0.shape
  unfold maxLen at m1
  have Hf := Lib.hid hf
  clear hf
  have H := Lib.hid h
  clear h
  have Hend := Lib.hid hend
  clear hend
  have Hrp0 := Lib.hid hrp0
  clear hrp0
  clear hk
  go_enter Try.func80, Try.ntmps80
  go_wp2_with (fail)
  refine Hf.out.mono ?_
  rintro e w1 ⟨rfl, ht1⟩
  go_wp2_with (fail)
  go_loopw [7, 8] (fun s7 s8 wr => ∃ j : Nat, r + j ≤ ps.length ∧ s8 = .int .i64 ((r + j : Nat) : Int) ∧ ((j : Int) ≤ most ∨ j = 0) ∧ OP wr (Ge w.heap.size) s7 ((ps.drop r).take j) ∧ Ext w wr) (fun _ s8 _ => ps.length - (intOf s8).toNat)
  case atStart => exact ⟨0, by omega, rfl, Or.inr rfl, OP.nil _ _, ht1⟩
  case round =>
    obtain ⟨j, hj, rfl, hjm, hop, ht⟩ := hrel
    have y0 := keepc ht id c0
    have hrp := Hrp0.out.ext ht
    obtain ⟨va, vc, hva⟩ : ∃ va vc, u7 = .slice va ((ps.drop r).take j).length vc := by
      obtain ⟨es, hes, ho, _⟩ := hop
      obtain ⟨va, vc, h⟩ := own_len ho
      exact ⟨va, vc, by rw [← hes]; simpa using h⟩
    have hlen : ((ps.drop r).take j).length = j := by simp; omega
    rw [hlen] at hva
    subst hva
    by_cases hlt : r + j < ps.length
    · by_cases hmost : (j : Int) < most
      · obtain ⟨b, off, rfl, _⟩ := hrp.addr (by omega)
        have hg := List.getElem?_eq_getElem hlt
        obtain ⟨kv, c1, c2, hkv⟩ := hrp.get _ _ hg
        have hlong := H.out.long _ (List.mem_of_getElem? hg)
        obtain ⟨ka, kc, rfl, _⟩ := hkv.shape
        generalize ps[r + j] = p at *
        have hstep := fromN_step ps r j p hg
        obtain ⟨es, hes, ho, hF, hks, hd⟩ := hop
        have hel : es.length = j := by have := congrArg List.length hes; rw [hlen] at this; simpa using this
        have Hg := Lib.hid hg
        clear hg
        have Hkv := Lib.hid hkv
        clear hkv
        have Hes := Lib.hid hes
        clear hes
        have Ho := Lib.hid ho
        clear ho
        have HF := Lib.hid hF
        clear hF
        have Hks := Lib.hid hks
        clear hks
        have Hd := Lib.hid hd
        clear hd
        have Hel := Lib.hid hel
        clear hel
        have Hstep := Lib.hid hstep
        clear hstep
        have Hlen := Lib.hid hlen
        clear hlen
        have Hrp := Lib.hid hrp
        clear hrp
        have i0 : (0 : Int) ≤ ((r + j : Nat) : Int) := by omega
        have i1 : ((r + j : Nat) : Int) < (ps.length : Int) := by omega
        go_wp2_with (fail)
        (with_reducible refine (RefB.pair_any (G := F) _ _ p.2 p.1 Hkv.out (by omega)).mono ?_)
        rintro e w2 ⟨⟨kv', rfl, hob⟩, ht2⟩
        obtain ⟨qa, qc, rfl⟩ := hob.shape
        have ho2 := own_keep Ho.out (ht2.alloc (.cells #[.slice qa p.1.length qc, .int .u64 p.2] 33)) (fun _ _ h => h)
        have Hob := Lib.hid hob
        clear hob
        have Ho2 := Lib.hid ho2
        clear ho2
        go_wp2_with (at_builtin; refine wpList_push_any _ rfl _ _ 22 rfl 33 _ 2 32 Try.underlying22 info_pair rfl (by decide) (.slice va j vc) es.length (flat es) rfl Ho2.out (some ⟨w2.heap.size, 0, none⟩) 1 1 rfl (fun h => by cases h) [.slice qa p.1.length qc, .int .u64 p.2] (by omega) rfl (src_pair _ _ _ _) (pair_one Hob.out _) (by simp [maxLen]; have := Hel.out; omega) (by have := Hel.out; omega) ?_; intro v6 w3 hown3 ht3 hb3)
        have hop3 : OP w3 (Ge w.heap.size) v6 (es.map (·.2) ++ [(p.1, p.2)]) := op_append Ho.out HF.out Hks.out Hd.out (ht2.alloc _) (Hob.out.ext ((Touch.refl _ _).alloc _)) (fun b hb => by have := ht.size; unfold Ge; omega) hown3 ht3 hb3
        have e3 : Ext w w3 := (ht.trans' (ht2.alloc _)).ext_new ht3 (fun i hi => HF.out i hi)
        have Hop3 := Lib.hid hop3
        clear hop3 hown3 hb3 ht3
        go_wp2_with (fail)
        go_roundw
        case rel =>
          refine ⟨j + 1, by omega, by go_num, Or.inl (by omega), ?_, e3⟩
          rw [Hstep.out, ← Hes.out]
          exact Hop3.out
        case measure => simp [intOf]; omega
      · have hfin := Hend.out j (by omega) hjm
        rw [hfin] at hop
        have Hop := Lib.hid hop
        clear hop
        have Hfin := Lib.hid hfin
        clear hfin
        have Hlen := Lib.hid hlen
        clear hlen
        have Hrp := Lib.hid hrp
        clear hrp
        go_wp2_with (fail)
        go_ret
        exact ⟨⟨_, rfl, Hop.out⟩, ht⟩
    · have hfin := Hend.out j (by omega) hjm
      rw [hfin] at hop
      have Hop := Lib.hid hop
      clear hop
      have Hfin := Lib.hid hfin
      clear hfin
      have Hlen := Lib.hid hlen
      clear hlen
      have Hrp := Lib.hid hrp
      clear hrp
      go_wp2_with (fail)
      go_ret
      exact ⟨⟨_, rfl, Hop.out⟩, ht⟩
end RefE
end Go.Proofs.Ythfnacadabhpdaa
