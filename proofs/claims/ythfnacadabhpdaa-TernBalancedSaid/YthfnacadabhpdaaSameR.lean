/- bramblelaw0's functions that make bytes and pairs. -/
import Derived.Test.YthfnacadabhpdaaSameQ
namespace Go.Proofs.Ythfnacadabhpdaa
open Go.RowKit
set_option linter.unusedVariables false
set_option linter.unusedSimpArgs false

/-- the cells of a pair that was just laid down -/
theorem src_pair (w : World) (kv : Value) (x : Int) (t : TypeId) : Src (w.alloc (.cells #[kv, .int .u64 x] t)) (some ⟨w.heap.size, 0, none⟩) [kv, .int .u64 x] := by
  intro j u hj
  refine ⟨w.heap.size, 0, rfl, ?_⟩
  rw [World.cell?_alloc_new]
  match j, hj with
  | 0, hj => simpa using hj
  | 1, hj => simpa using hj
theorem pair_one {w : World} {F : Nat → Prop} {kv : Value} {k : List Int} (h : OB w F kv k) (x : Int) : ∀ u ∈ [kv, Value.int .u64 x], u.oneCell' = true := by
  intro u hu
  obtain ⟨a, c, rfl⟩ := h.shape
  simp at hu
  rcases hu with rfl | rfl <;> rfl

namespace SameP
open SameA
set_option maxRecDepth 100000 in
set_option maxHeartbeats 1600000 in
theorem copied_any (w : World) (F : Nat → Prop) (v : Value) (ps : Prs) (h : RP w F v ps) (hm : ps.length ≤ 1000000) (hk : ∀ p ∈ ps, p.1.length ≤ 1000000) :
    Calls Try.prog 44 #[v] w fun e w' => (∃ v', e = .returned v' ∧ OP w' (Ge w.heap.size) v' ps) ∧ Ext w w' := by
  obtain ⟨a, c, rfl, l1, m1, hn⟩ := h.shape
  have H := Lib.hid h
  have Hk := Lib.hid hk
  clear h hk
  unfold maxLen at m1
  go_enter Try.func44, Try.ntmps44
  go_wp2_with (fail)
  go_loopw [3, 4] (fun s3 s4 wr => ∃ j : Nat, j ≤ ps.length ∧ s4 = .int .i64 j ∧ OP wr (Ge w.heap.size) s3 (ps.take j) ∧ Ext w wr) (fun _ s4 _ => ps.length - (intOf s4).toNat)
  case atStart => exact ⟨0, by omega, rfl, OP.nil _ _, Touch.refl _ _⟩
  case round =>
    obtain ⟨j, hj, rfl, hop, ht⟩ := hrel
    by_cases hlt : j < ps.length
    · obtain ⟨b, off, rfl, _⟩ := H.out.addr (by omega)
      have hg := List.getElem?_eq_getElem hlt
      obtain ⟨kv, c0, c1, hkb⟩ := (H.out.ext ht).get j _ hg
      have hkl := Hk.out _ (List.mem_of_getElem? hg)
      generalize ps[j] = p at *
      obtain ⟨ka, kc, rfl, l2, m2, n2⟩ := hkb.shape
      obtain ⟨es, hes, ho, hF, hks, hd⟩ := hop
      have hel : es.length = j := by have := congrArg List.length hes; simp at this; omega
      have Hg := Lib.hid hg
      clear hg
      have Hes := Lib.hid hes
      clear hes
      have Ho := Lib.hid ho
      clear ho
      have HF := Lib.hid hF
      clear hF
      have Hks := Lib.hid hks
      clear hks
      have Hd := Lib.hid hd
      clear hd
      have Hkb := Lib.hid hkb
      clear hkb
      have Hel := Lib.hid hel
      clear hel
      have i0 : (0 : Int) ≤ (j : Int) := by omega
      have i1 : (j : Int) < (ps.length : Int) := by omega
      go_wp2_with (fail)
      refine wp_region_plan (.take 0 (.take 1 (.take 2 (.take 3 (.take 4 (.take 5 (.take 7 (.take 8 (.take 9 (.take 10 (.take 11 (.must 6 (.take 12 (.must 13 (.must 14 (.take 15 .done)))))))))))))))) (fun wy => Ext w wy ∧ wy.cell? ⟨b, off + j * 2, none⟩ = some (.slice ka p.1.length kc) ∧ wy.cell? ⟨b, off + j * 2 + 1, none⟩ = some (.int .u64 p.2)) (by kernel_rfl) (by kernel_rfl) (by kernel_rfl) rfl ?_ (fun KK hKK => ?_)
      · exact ⟨ht.drew, c0, c1⟩
      repeat (first
        | (refine wpPlan_take (v := ?_) rfl (by rfl) (fun W hW => ?_) ?_; rotate_left; (focus ((try dsimp only at hW); go_split_ands; go_simp; (try with_reducible rfl); done)); (try simp only [Act.put, List.setIfInBounds_toArray, List.set_cons_zero, List.set_cons_succ]))
        | (refine wpPlan_skip rfl (by rfl) ?_; (try simp only [Act.put, List.setIfInBounds_toArray, List.set_cons_zero, List.set_cons_succ])))
      refine wpPlan_must rfl (by rfl) (fun K hK => ?_)
      refine wp_push_any _ _ _ 23 rfl 5 (.int .u8 0) 1 1 Try.underlying23 info_u8 rfl (by decide) (.slice none 0 0) 0 [] rfl (World.ownsRow_nil _ _ _ _) ka p.1.length kc rfl n2 (ivs .u8 p.1) l2 (by simp [ivs]) (Hkb.out.ext (Touch.refl _ _).drew).src (ivs_one _ _) (by simp [maxLen]; omega) (by omega) ?_
      intro v5 w1 hown1 ht1 hb1
      obtain ⟨va, vc, rfl⟩ := own_len hown1
      simp only [Nat.zero_add, List.nil_append] at hown1 hb1
      have e1 : Ext wr w1 := (Touch.refl _ _).drew.ext_new ht1 (fun i hi => by cases hi)
      have hob1 : OB w1 (Ge wr.heap.size) (.slice va p.1.length vc) p.1 := ⟨hown1, fun b hb => by rw [hb] at hb1; simp [Value.ownBlock] at hb1; unfold Ge; omega⟩
      refine hK.out _ _ ?_ ?_
      · exact ⟨ht.trans' e1, keepc e1 id c0, keepc e1 id c1⟩
      clear hK K
      (try simp only [Act.put, List.setIfInBounds_toArray, List.set_cons_zero, List.set_cons_succ])
      repeat (first
        | (refine wpPlan_take (v := ?_) rfl (by rfl) (fun W hW => ?_) ?_; rotate_left; (focus ((try dsimp only at hW); go_split_ands; go_simp; (try with_reducible rfl); done)); (try simp only [Act.put, List.setIfInBounds_toArray, List.set_cons_zero, List.set_cons_succ]))
        | (refine wpPlan_skip rfl (by rfl) ?_; (try simp only [Act.put, List.setIfInBounds_toArray, List.set_cons_zero, List.set_cons_succ])))
      refine wpPlan_must rfl (by rfl) (fun K hK => ?_)
      go_simp
      refine hK.out _ _ ?_ ?_
      · exact ⟨(ht.trans' e1).alloc _, keepc (e1.alloc _) id c0, keepc (e1.alloc _) id c1⟩
      clear hK K
      (try simp only [Act.put, List.setIfInBounds_toArray, List.set_cons_zero, List.set_cons_succ])
      refine wpPlan_must rfl (by rfl) (fun K hK => ?_)
      have ho2 := own_keep Ho.out (e1.alloc (.cells #[.slice va p.1.length vc, .int .u64 p.2] 33)) (fun _ _ h => h)
      refine wp_push_any _ _ _ 22 rfl 33 _ 2 32 Try.underlying22 info_pair rfl (by decide) u3 es.length (flat es) rfl ho2 (some ⟨w1.heap.size, 0, none⟩) 1 1 rfl (fun h => by cases h) [.slice va p.1.length vc, .int .u64 p.2] (by omega) rfl (src_pair _ _ _ _) (pair_one hob1 _) (by simp [maxLen]; have := Hel.out; omega) (by have := Hel.out; omega) ?_
      intro v6 w2 hown2 ht2 hb2
      have hop2 : OP w2 (Ge w.heap.size) v6 (es.map (·.2) ++ [(p.1, p.2)]) := op_append Ho.out HF.out Hks.out Hd.out (e1.alloc _) (hob1.ext ((Touch.refl _ _).alloc _)) (fun b hb => by have := ht.size; unfold Ge; omega) hown2 ht2 hb2
      have e2 : Ext w w2 := (ht.trans' (e1.alloc _)).ext_new ht2 (fun i hi => HF.out i hi)
      have hblt : b < w.heap.size := by
        obtain ⟨_, c0', _, _⟩ := H.out.get j _ Hg.out
        exact World.block_lt_of_cell? _ _ c0'
      have hnb : ¬ u3.ownBlock = some b := fun h => by have := HF.out b h; unfold Ge at this; omega
      refine hK.out _ _ ?_ ?_
      · exact ⟨e2, keepc ht2 hnb (keepc (e1.alloc _) id c0), keepc ht2 hnb (keepc (e1.alloc _) id c1)⟩
      clear hK K
      (try simp only [Act.put, List.setIfInBounds_toArray, List.set_cons_zero, List.set_cons_succ])
      repeat (first
        | (refine wpPlan_take (v := ?_) rfl (by rfl) (fun W hW => ?_) ?_; rotate_left; (focus ((try dsimp only at hW); go_split_ands; go_simp; (try with_reducible rfl); done)); (try simp only [Act.put, List.setIfInBounds_toArray, List.set_cons_zero, List.set_cons_succ]))
        | (refine wpPlan_skip rfl (by rfl) ?_; (try simp only [Act.put, List.setIfInBounds_toArray, List.set_cons_zero, List.set_cons_succ])))
      refine wpPlan_done (hKK.out _ _ ?_)
      clear hKK KK
      have Hop2 := Lib.hid hop2
      clear hop2 hown2 ho2 hown1 hob1 hb1 hb2 ht1 ht2 e1
      go_wp2_with (fail)
      go_roundw
      case rel =>
        refine ⟨j + 1, by omega, by go_num, ?_, e2⟩
        rw [List.take_add_one, Hg.out, ← Hes.out]
        exact Hop2.out
      case measure => simp [intOf]; omega
    · have hjl : j = ps.length := by omega
      subst hjl
      rw [List.take_length] at hop
      have Hop := Lib.hid hop
      clear hop
      go_wp2_with (fail)
      go_ret
      exact ⟨⟨_, rfl, Hop.out⟩, ht⟩

/-- a key of a length, of its last byte -/
def longK (n : Nat) (last : Int) : List Int := List.replicate (n - 1) 120 ++ (if n = 0 then [] else [last])
theorem longK_length (n : Nat) (last : Int) : (longK n last).length = n := by
  unfold longK
  split
  · simp; omega
  · simp; omega
theorem longK_kb (n : Nat) (last : Int) (h : 0 ≤ last ∧ last < 256) : KB (longK n last) := by
  intro x hx
  unfold longK at hx
  rw [List.mem_append] at hx
  rcases hx with hx | hx
  · have := List.eq_of_mem_replicate hx; omega
  · split at hx
    · simp at hx
    · simp at hx; omega
theorem longK_set (n : Nat) (last : Int) (hn : 0 < n) : (List.replicate n (120 : Int)).set (n - 1) last = longK n last := by
  obtain ⟨m, rfl⟩ : ∃ m, n = m + 1 := ⟨n - 1, by omega⟩
  unfold longK
  rw [List.replicate_succ', if_neg (by omega)]
  simp [List.set_append]
set_option maxRecDepth 100000 in
set_option maxHeartbeats 800000 in
theorem long_any (w : World) (n : Nat) (last : Int) (hn : n ≤ 70000) (hl : 0 ≤ last ∧ last < 256) :
    Calls Try.prog 47 #[.int .i64 n, .int .u8 last] w fun e w' => (∃ v', e = .returned v' ∧ OB w' (Ge w.heap.size) v' (longK n last)) ∧ Ext w w' := by
  have b0 : decide ((n : Int) ≤ 70000) = true := by simp; omega
  go_enter Try.func47, Try.ntmps47
  go_wp2_with (fail)
  go_loopw [5, 6] (fun s5 s6 wr => ∃ j : Nat, j ≤ n ∧ s6 = .int .i64 j ∧ OB wr (Ge w.heap.size) s5 (List.replicate j 120) ∧ Ext w wr) (fun _ s6 _ => n - (intOf s6).toNat)
  case atStart => exact ⟨0, by omega, rfl, OB.nil _ _, Touch.refl _ _⟩
  case round =>
    obtain ⟨j, hj, rfl, hob, ht⟩ := hrel
    have hlen : (List.replicate j (120 : Int)).length = j := List.length_replicate
    obtain ⟨va, vc, hv⟩ := hob.shape
    rw [hlen] at hv
    subst hv
    by_cases hlt : j < n
    · have Hob := Lib.hid hob
      have Hob := Lib.hid hob
      clear hob
      have Hlen := Lib.hid hlen
      clear hlen
      go_wp2_with (first
        | (at_builtin; refine wpList_push_any _ rfl _ _ 23 rfl 5 (.int .u8 0) 1 1 Try.underlying23 info_u8 rfl (by decide) (.slice va j vc) j (ivs .u8 (List.replicate j 120)) (by first | rfl | (simp; done)) (by have := (Hob.out.1).alloc (.cells #[.int .u8 120] 5); rwa [Hlen.out] at this) (some ⟨wr.heap.size, 0, none⟩) 1 1 rfl (fun h => by cases h) [.int .u8 120] (by omega) rfl (by intro i u hi; refine ⟨_, 0, rfl, ?_⟩; rw [World.cell?_alloc_new]; simpa using hi) (by intro u hu; simp at hu; subst hu; rfl) (by simp [maxLen]; omega) (by omega) ?_; intro v5 w1 hown1 ht1 hb1))
      have e2 : Ext w w1 := (ht.alloc _).ext_new ht1 (fun i hi => Hob.out.2 i hi)
      have hob2 : OB w1 (Ge w.heap.size) v5 (List.replicate (j + 1) 120) := by
        refine ⟨?_, fun b hb => ?_⟩
        · rw [List.length_replicate, List.replicate_succ', ivs_append]
          exact hown1
        · rcases hb1 with h | h
          · exact Hob.out.2 b (h ▸ hb)
          · rw [h] at hb; cases hb; have := ht.size; simp [Ge]; omega
      have Hob2 := Lib.hid hob2
      clear hob2 hown1 hb1 ht1
      go_wp2_with (fail)
      go_roundw
      case rel => exact ⟨j + 1, by omega, by go_num, Hob2.out, e2⟩
      case measure => simp [intOf]; omega
    · have hjn : j = n := by omega
      subst hjn
      by_cases h0 : j = 0
      · subst h0
        have Hob := Lib.hid hob
        clear hob
        go_wp2_with (fail)
        go_ret
        exact ⟨⟨_, rfl, Hob.out⟩, ht⟩
      · obtain ⟨h1, h2⟩ := hob
        rw [hlen] at h1
        obtain ⟨g, rfl⟩ := own_addr h1 (by omega)
        obtain ⟨u, hu⟩ := own_cell h1 (j - 1) (by omega)
        have hf := h1.frozenAt (j - 1)
        obtain ⟨s1, s2⟩ := h1.stored (j - 1) (.int .u8 last)
        have i0 : (0 : Int) ≤ (j : Int) - 1 := by omega
        have i1 : (0 : Int) < (j : Int) := by omega
        have i2 : ((j : Int) - 1).toNat = j - 1 := by omega
        have hown : (wr.setCell ⟨g, j - 1, none⟩ (.int .u8 last)).ownsRow 0 5 1 (.slice (some ⟨g, 0, none⟩) j vc) j (ivs .u8 (longK j last)) := by
          have e : ivs .u8 (longK j last) = (ivs .u8 (List.replicate j 120)).set (j - 1) (.int .u8 last) := by
            rw [← longK_set j last (by omega)]; simp [ivs, List.map_set]
          rw [e]; exact s1
        have e2 : Ext w (wr.setCell ⟨g, j - 1, none⟩ (.int .u8 last)) := ht.ext_new (Touch.grown s2) (fun i hi => by cases hi; exact h2 g rfl)
        have h2' := h2 g rfl
        have H1 := Lib.hid h1
        clear h1
        have H2 := Lib.hid h2
        clear h2
        have Hown := Lib.hid hown
        clear hown
        have S1 := Lib.hid s1
        clear s1
        have Hlen := Lib.hid hlen
        clear hlen
        have H2' := Lib.hid h2'
        clear h2'
        clear s2
        go_wp2_with (fail)
        go_ret
        refine ⟨⟨_, rfl, ?_, fun b hb => ?_⟩, e2⟩
        · rw [longK_length]; exact Hown.out
        · cases hb; exact H2'.out
end SameP
end Go.Proofs.Ythfnacadabhpdaa
