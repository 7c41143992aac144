/- The statement ModelOrder. -/
import Derived.Test.YthannllagabclaaModT
import Derived.Test.YthannllagabclaaSameA
import Derived.Test.YthannllagabclaaRows
namespace Go.Proofs.Ythannllagabclaa
open Go.ChangeShapes Go.WideShapes Go.ChangeAt Go.RowKit Go.Deep
set_option linter.unusedVariables false
set_option linter.unusedSimpArgs false
namespace LawModelOrder
open ModA ModB ModF ModI ModL ModP ModR ModS ModT

set_option maxRecDepth 100000 in
set_option maxHeartbeats 8000000 in
theorem walk_small (v0 : Value) (many : Int) (ps : Prs) (F : Nat → Prop) (w : World) (h0 : RP w F v0 ps) (hV : V64 many) (hpk : PK ps) (hg : SameP.great ps 40 20 = false) (hm : ps.length ≤ 40) :
    Calls Try.prog 5 #[v0, .int .i64 many] w fun e w' => e = .returned (.bool true) ∧ Ext w w' := by
  obtain ⟨a0, c0, rfl, l1, l2⟩ := h0.shape
  unfold maxLen at l2
  have hgr := SameP.great_any w _ _ ps 40 20 h0 (by decide) (by decide) (by decide) (by decide)
  have hnew := new_any w _ ps h0 (by omega) hpk
  rw [hg] at hgr
  have hr := mkK_rises ps
  have hml := mkK_length ps
  have hmm := fun p (hp : p ∈ mkK ps) => hpk p (mkK_mem hp)
  generalize mkK ps = M at *
  have hM : M.length ≤ 40 := by omega
  have hrb : risesB M = true := risesB_step.2 hr
  have hlv := hV
  have Hgr := Lib.hid hgr
  clear hgr
  have Hnew := Lib.hid hnew
  clear hnew
  have Hr := Lib.hid hr
  clear hr
  have Hmm := Lib.hid hmm
  clear hmm
  have H0 := Lib.hid h0
  clear h0
  have Hpk := Lib.hid hpk
  clear hpk
  have Hrb := Lib.hid hrb
  clear hrb
  have HV := Lib.hid hV
  clear hV
  have Hlv := Lib.hid hlv
  clear hlv
  clear hg
  go_enter Try.func5, Try.ntmps5
  go_wp2_with (fail)
  refine Hgr.out.mono ?_
  rintro e w' ⟨rfl, rfl⟩
  go_wp2_with (fail)
  refine Hnew.out.mono ?_
  rintro e w1 ⟨g, Fm, rfl, hmp, hFm, ht1⟩
  have hall := all_any w1 _ M (Mq.of hmp) (by omega)
  have Hmp := Lib.hid hmp
  clear hmp
  have HFm := Lib.hid hFm
  clear hFm
  have Ht1 := Lib.hid ht1
  clear ht1
  have Hall := Lib.hid hall
  clear hall
  go_wp2_with (fail)
  (with_reducible refine Hall.out.mono ?_)
  rintro e w2 ⟨⟨v2, rfl, ho2⟩, ht2⟩
  have ha := ho2.rp.mono (G := Any) (fun _ _ => trivial)
  obtain ⟨aa, ac, rfl, q1, q2⟩ := ha.shape
  unfold maxLen at q2
  have hlen := fun W (t : Ext w1 W) => len_any W _ M (Mq.of (Hmp.out.ext t))
  have hris := rises_any w2 _ M ha (by omega) (fun p hp => (Hmm.out p hp).1)
  rw [Hrb.out] at hris
  have d1 : decide ((ps.length : Int) < (M.length : Int)) = false := by simp; omega
  have Ha := Lib.hid ha
  clear ha
  have Hlen := Lib.hid hlen
  clear hlen
  have Hris := Lib.hid hris
  clear hris
  have Ho2 := Lib.hid ho2
  clear ho2
  have Ht2 := Lib.hid ht2
  clear ht2
  go_wp2_with (fail)
  (with_reducible refine (Hlen.out _ Ht2.out).mono ?_)
  rintro e w2' ⟨rfl, rfl⟩
  go_wp2_with (fail)
  (with_reducible refine Hris.out.mono ?_)
  rintro e w3 ⟨rfl, ht3⟩
  have x3 := Ht2.out.trans' ht3
  have ha3 := Ha.out.ext ht3
  clear ht3
  have X3 := Lib.hid x3
  clear x3
  have Ha3 := Lib.hid ha3
  clear ha3
  go_wp2_with (fail)
  have d2 : decide (ps.length < M.length) = false := by simp; omega
  simp only [d2]
  clear d1 d2 hml
  go_loopw [7] (fun s7 wr => ∃ j : Nat, j ≤ M.length ∧ s7 = .int .i64 j ∧ Ext w3 wr) (fun s7 _ => M.length - (intOf s7).toNat)
  case atStart => exact ⟨0, by omega, rfl, Touch.refl _ _⟩
  case round =>
    obtain ⟨j, hj, rfl, ht⟩ := hrel
    by_cases hjk : j < M.length
    · obtain ⟨b, off, rfl, _⟩ := Ha3.out.addr (by omega)
      have hgj := List.getElem?_eq_getElem hjk
      obtain ⟨kv, d0, d1', hkv⟩ := Ha3.out.get _ _ hgj
      have hpp := Hmm.out _ (List.mem_of_getElem? hgj)
      have s1 := floor_at Hr.out hgj
      have s2 := ceil_at Hr.out hgj
      have s3 := sel_at hgj
      have s4 := (at_rk Hr.out hgj).1
      generalize M[j] = p at *
      obtain ⟨ka, kc, rfl, _⟩ := hkv.shape
      have i1 : (j : Int) < (M.length : Int) := by omega
      have i2 : (0 : Int) ≤ (j : Int) := by omega
      have e0 := keepc ht id d0
      have e1 := keepc ht id d1'
      have hfl := fun W (t : Ext w3 W) => floor_any W _ (.slice ka p.1.length kc) M p.1 (Mq.of (Hmp.out.ext (X3.out.trans' t))) (hkv.ext t) hpp.1 (by omega)
      have hce := fun W (t : Ext w3 W) => ceil_any W _ (.slice ka p.1.length kc) M p.1 (Mq.of (Hmp.out.ext (X3.out.trans' t))) (hkv.ext t) hpp.1 (by omega)
      have hse := fun W (t : Ext w3 W) => select_any W _ M j (Mq.of (Hmp.out.ext (X3.out.trans' t))) (by omega)
      have hrk := fun W (t : Ext w3 W) => rank_any W _ (.slice ka p.1.length kc) M p.1 (Mq.of (Hmp.out.ext (X3.out.trans' t))) (hkv.ext t) hpp.1 (by omega)
      rw [s1] at hfl
      rw [s2] at hce
      rw [s3] at hse
      rw [s4] at hrk
      clear s1 s2 s3 s4
      have Hfl := Lib.hid hfl
      clear hfl
      have Hce := Lib.hid hce
      clear hce
      have Hse := Lib.hid hse
      clear hse
      have Hrk := Lib.hid hrk
      clear hrk
      have Hkv := Lib.hid hkv
      clear hkv
      have Hgj := Lib.hid hgj
      clear hgj
      go_wp2_with (fail)
      (with_reducible refine (Hfl.out _ ht).mono ?_)
      intro e w4 hp
      obtain ⟨fa, fc, rfl, hof, ht4⟩ := pair_some hp
      clear hp
      have x4 := ht4.alloc (.cells #[.slice fa p.1.length fc, .int .u64 p.2] 32)
      have e0 := keepc x4 id e0
      have e1 := keepc x4 id e1
      have x4 := ht.trans' x4
      have f0 : (w4.alloc (.cells #[.slice fa p.1.length fc, .int .u64 p.2] 32)).cell? ⟨w4.heap.size, 0, none⟩ = some (.slice fa p.1.length fc) := by simp
      have f1 : (w4.alloc (.cells #[.slice fa p.1.length fc, .int .u64 p.2] 32)).cell? ⟨w4.heap.size, 1, none⟩ = some (.int .u64 p.2) := by simp
      have hof := rb_any (hof.rb.ext ((Touch.refl _ _).alloc (.cells #[.slice fa p.1.length fc, .int .u64 p.2] 32)))
      clear ht4
      have Hof := Lib.hid hof
      clear hof
      go_wp2_with (fail)
      generalize w4.alloc (.cells #[.slice fa p.1.length fc, .int .u64 p.2] 32) = w4' at *
      generalize w4.heap.size = b4 at *
      go_wp2_with (fail)
      (with_reducible refine (Hce.out _ x4).mono ?_)
      intro e w5 hp
      obtain ⟨ca, cc, rfl, hoc, ht5⟩ := pair_some hp
      clear hp
      have x5 := ht5.alloc (.cells #[.slice ca p.1.length cc, .int .u64 p.2] 32)
      have e0 := keepc x5 id e0
      have e1 := keepc x5 id e1
      have f0 := keepc x5 id f0
      have f1 := keepc x5 id f1
      have hof := Hof.out.ext x5
      have x5 := x4.trans' x5
      have g0 : (w5.alloc (.cells #[.slice ca p.1.length cc, .int .u64 p.2] 32)).cell? ⟨w5.heap.size, 0, none⟩ = some (.slice ca p.1.length cc) := by simp
      have g1 : (w5.alloc (.cells #[.slice ca p.1.length cc, .int .u64 p.2] 32)).cell? ⟨w5.heap.size, 1, none⟩ = some (.int .u64 p.2) := by simp
      have hoc := rb_any (hoc.rb.ext ((Touch.refl _ _).alloc (.cells #[.slice ca p.1.length cc, .int .u64 p.2] 32)))
      clear ht5 Hof
      have Hof := Lib.hid hof
      clear hof
      have Hoc := Lib.hid hoc
      clear hoc
      go_wp2_with (fail)
      generalize w5.alloc (.cells #[.slice ca p.1.length cc, .int .u64 p.2] 32) = w5' at *
      generalize w5.heap.size = b5 at *
      (with_reducible refine (Hse.out _ x5).mono ?_)
      intro e w6 hp
      obtain ⟨sa, sc, rfl, hos, ht6⟩ := pair_some hp
      clear hp
      have x6 := ht6.alloc (.cells #[.slice sa p.1.length sc, .int .u64 p.2] 32)
      have e0 := keepc x6 id e0
      have e1 := keepc x6 id e1
      have f0 := keepc x6 id f0
      have f1 := keepc x6 id f1
      have g0 := keepc x6 id g0
      have g1 := keepc x6 id g1
      have hof := Hof.out.ext x6
      have hoc := Hoc.out.ext x6
      have x6 := x5.trans' x6
      have h0 : (w6.alloc (.cells #[.slice sa p.1.length sc, .int .u64 p.2] 32)).cell? ⟨w6.heap.size, 0, none⟩ = some (.slice sa p.1.length sc) := by simp
      have h1 : (w6.alloc (.cells #[.slice sa p.1.length sc, .int .u64 p.2] 32)).cell? ⟨w6.heap.size, 1, none⟩ = some (.int .u64 p.2) := by simp
      have hos := rb_any (hos.rb.ext ((Touch.refl _ _).alloc (.cells #[.slice sa p.1.length sc, .int .u64 p.2] 32)))
      clear ht6 Hof Hoc
      have Hof := Lib.hid hof
      clear hof
      have Hoc := Lib.hid hoc
      clear hoc
      have Hos := Lib.hid hos
      clear hos
      go_wp2_with (fail)
      generalize w6.alloc (.cells #[.slice sa p.1.length sc, .int .u64 p.2] 32) = w7 at *
      generalize w6.heap.size = b6 at *
      refine wp_region_plan (.take 0 (.take 1 (.take 2 (.take 3 (.take 4 (.take 5 (.take 6 (.take 7 (.take 8 (.take 9 (.take 10 (.take 11 (.take 12 (.take 13 (.take 14 (.take 15 (.take 16 (.take 18 (.must 17 (.take 19 (.take 20 (.take 21 (.take 22 (.take 23 (.take 24 (.take 26 (.take 27 (.take 28 (.take 29 (.take 30 (.take 31 (.take 32 (.take 33 (.take 34 (.take 35 (.take 36 (.take 37 (.two 25 38 (.must 38 (.must 39 (.take 40 (.take 41 .done)))) (.must 25 (.must 39 (.take 40 (.take 41 .done)))))))))))))))))))))))))))))))))))))))))) (fun wy => Ext w7 wy ∧ wy.cell? ⟨b, off + j * 2, none⟩ = some (.slice ka p.1.length kc) ∧ wy.cell? ⟨b, off + j * 2 + 1, none⟩ = some (.int .u64 p.2) ∧ wy.cell? ⟨b4, 0, none⟩ = some (.slice fa p.1.length fc) ∧ wy.cell? ⟨b4, 1, none⟩ = some (.int .u64 p.2) ∧ wy.cell? ⟨b5, 0, none⟩ = some (.slice ca p.1.length cc) ∧ wy.cell? ⟨b5, 1, none⟩ = some (.int .u64 p.2) ∧ wy.cell? ⟨b6, 0, none⟩ = some (.slice sa p.1.length sc) ∧ wy.cell? ⟨b6, 1, none⟩ = some (.int .u64 p.2)) (by kernel_rfl) (by kernel_rfl) (by kernel_rfl) rfl ?_ (fun KK hKK => ?_)
      · exact ⟨(Touch.refl _ _).drew, e0, e1, f0, f1, g0, g1, h0, h1⟩
      repeat (first
        | (refine wpPlan_take (v := ?_) rfl (by rfl) (fun W hW => ?_) ?_; rotate_left; (focus ((try dsimp only at hW); go_split_ands; go_simp; (try with_reducible rfl); done)); (try simp only [Act.put, List.setIfInBounds_toArray, List.set_cons_zero, List.set_cons_succ]))
        | (refine wpPlan_skip rfl (by rfl) ?_; (try simp only [Act.put, List.setIfInBounds_toArray, List.set_cons_zero, List.set_cons_succ])))
      refine wpPlan_must rfl (by rfl) (fun K hK => ?_)
      go_simp
      (with_reducible refine (Hrk.out _ x6.drew).mono ?_)
      rintro e w8 ⟨rfl, ht8⟩
      have x8 : Ext w7 w8 := (Touch.refl _ _).drew.trans' ht8
      refine hK.out _ _ ?_ ?_
      · exact ⟨x8, keepc x8 id e0, keepc x8 id e1, keepc x8 id f0, keepc x8 id f1, keepc x8 id g0, keepc x8 id g1, keepc x8 id h0, keepc x8 id h1⟩
      clear hK K
      (try simp only [Act.put, List.setIfInBounds_toArray, List.set_cons_zero, List.set_cons_succ])
      repeat (first
        | (refine wpPlan_take (v := ?_) rfl (by rfl) (fun W hW => ?_) ?_; rotate_left; (focus ((try dsimp only at hW); go_split_ands; go_simp; (try with_reducible rfl); done)); (try simp only [Act.put, List.setIfInBounds_toArray, List.set_cons_zero, List.set_cons_succ]))
        | (refine wpPlan_skip rfl (by rfl) ?_; (try simp only [Act.put, List.setIfInBounds_toArray, List.set_cons_zero, List.set_cons_succ])))
      obtain ⟨A, hA⟩ : ∃ A : Obj, A = .cells #[.slice fa p.1.length fc, .int .u64 p.2, .slice ca p.1.length cc, .int .u64 p.2, .slice sa p.1.length sc, .int .u64 p.2] 32 := ⟨_, rfl⟩
      obtain ⟨B, hB⟩ : ∃ B : Obj, B = .cells #[.slice ka p.1.length kc, .int .u64 p.2, .slice ka p.1.length kc, .int .u64 p.2, .slice ka p.1.length kc, .int .u64 p.2] 32 := ⟨_, rfl⟩
      have hrpA : ∀ W b, Ext w7 W → b = W.heap.size → RP (W.alloc A) Any (.slice (some ⟨b, 0, none⟩) 3 3) [p, p, p] := fun W b t hb => by
        rw [hA]
        exact rp_new W [(.slice fa p.1.length fc, p), (.slice ca p.1.length cc, p), (.slice sa p.1.length sc, p)] _ b hb (by simp [maxLen]) (fun e he => by
          simp only [List.mem_cons, List.not_mem_nil, or_false] at he
          rcases he with rfl | rfl | rfl
          · exact Hof.out.ext t
          · exact Hoc.out.ext t
          · exact Hos.out.ext t)
      have hrpB : ∀ W b, Ext w7 W → b = W.heap.size → RP (W.alloc B) Any (.slice (some ⟨b, 0, none⟩) 3 3) [p, p, p] := fun W b t hb => by
        rw [hB]
        exact rp_new W [(.slice ka p.1.length kc, p), (.slice ka p.1.length kc, p), (.slice ka p.1.length kc, p)] _ b hb (by simp [maxLen]) (fun e he => by
          simp only [List.mem_cons, List.not_mem_nil, or_false] at he
          rcases he with rfl | rfl | rfl <;> exact (rb_any Hkv.out).ext (x6.trans' t))
      have x10 : Ext w7 ((w8.alloc A).alloc B) := (x8.alloc _).alloc _
      have x11 : Ext w7 ((w8.alloc B).alloc A) := (x8.alloc _).alloc _
      have hs1 := SameP.same_pairs ((w8.alloc A).alloc B) _ _ [p, p, p] ((hrpA w8 w8.heap.size x8 rfl).ext ((Touch.refl _ _).alloc B)) (hrpB (w8.alloc A) (w8.heap.size + 1) (x8.alloc _) (by simp)) (by simp) (fun q hq => by simp at hq; subst hq; have := hpp.2; omega)
      have hs2 := SameP.same_pairs ((w8.alloc B).alloc A) _ _ [p, p, p] (hrpA (w8.alloc B) (w8.heap.size + 1) (x8.alloc _) (by simp)) ((hrpB w8 w8.heap.size x8 rfl).ext ((Touch.refl _ _).alloc A)) (by simp) (fun q hq => by simp at hq; subst hq; have := hpp.2; omega)
      have hSA : ∀ W, Ext w7 W → Ext w7 W ∧ W.cell? ⟨b, off + j * 2, none⟩ = some (.slice ka p.1.length kc) ∧ W.cell? ⟨b, off + j * 2 + 1, none⟩ = some (.int .u64 p.2) ∧ W.cell? ⟨b4, 0, none⟩ = some (.slice fa p.1.length fc) ∧ W.cell? ⟨b4, 1, none⟩ = some (.int .u64 p.2) ∧ W.cell? ⟨b5, 0, none⟩ = some (.slice ca p.1.length cc) ∧ W.cell? ⟨b5, 1, none⟩ = some (.int .u64 p.2) ∧ W.cell? ⟨b6, 0, none⟩ = some (.slice sa p.1.length sc) ∧ W.cell? ⟨b6, 1, none⟩ = some (.int .u64 p.2) :=
        fun W t => ⟨t, keepc t id e0, keepc t id e1, keepc t id f0, keepc t id f1, keepc t id g0, keepc t id g1, keepc t id h0, keepc t id h1⟩
      clear hrpA hrpB
      rw [hA, hB] at x10 x11 hs1 hs2
      clear hA hB A B
      have y8 := x8
      have Hs1 := Lib.hid hs1
      clear hs1
      have Hs2 := Lib.hid hs2
      clear hs2
      have HSA := Lib.hid hSA
      clear hSA
      have Y8 := Lib.hid y8
      clear y8
      clear e0 e1 f0 f1 g0 g1 h0 h1
      refine wpPlan_two ?_ ?_
      · refine wpPlan_must rfl (by rfl) (fun K hK => ?_)
        go_simp
        refine hK.out _ _ ?_ ?_
        · exact HSA.out _ (Y8.out.alloc _)
        clear hK K
        (try simp only [Act.put, List.setIfInBounds_toArray, List.set_cons_zero, List.set_cons_succ])
        refine wpPlan_must rfl (by rfl) (fun K hK => ?_)
        go_simp
        refine hK.out _ _ ?_ ?_
        · exact HSA.out _ x10
        clear hK K
        (try simp only [Act.put, List.setIfInBounds_toArray, List.set_cons_zero, List.set_cons_succ])
        refine wpPlan_must rfl (by rfl) (fun K hK => ?_)
        go_simp
        (with_reducible refine Hs1.out.mono ?_)
        rintro e w9 ⟨rfl, ht9⟩
        have x9 := x10.trans' ht9
        refine hK.out _ _ ?_ ?_
        · exact HSA.out _ x9
        clear hK K
        (try simp only [Act.put, List.setIfInBounds_toArray, List.set_cons_zero, List.set_cons_succ])
        repeat (first
          | (refine wpPlan_take (v := ?_) rfl (by rfl) (fun W hW => ?_) ?_; rotate_left; (focus ((try dsimp only at hW); go_split_ands; go_simp; (try with_reducible rfl); done)); (try simp only [Act.put, List.setIfInBounds_toArray, List.set_cons_zero, List.set_cons_succ]))
          | (refine wpPlan_skip rfl (by rfl) ?_; (try simp only [Act.put, List.setIfInBounds_toArray, List.set_cons_zero, List.set_cons_succ])))
        refine wpPlan_done (hKK.out _ _ ?_)
        clear hKK KK
        go_wp2_with (fail)
        go_roundw
        case rel => exact ⟨j + 1, by omega, by go_num, x6.trans' x9⟩
        case measure => simp [intOf]; omega
      · refine wpPlan_must rfl (by rfl) (fun K hK => ?_)
        go_simp
        refine hK.out _ _ ?_ ?_
        · exact HSA.out _ (Y8.out.alloc _)
        clear hK K
        (try simp only [Act.put, List.setIfInBounds_toArray, List.set_cons_zero, List.set_cons_succ])
        refine wpPlan_must rfl (by rfl) (fun K hK => ?_)
        go_simp
        refine hK.out _ _ ?_ ?_
        · exact HSA.out _ x11
        clear hK K
        (try simp only [Act.put, List.setIfInBounds_toArray, List.set_cons_zero, List.set_cons_succ])
        refine wpPlan_must rfl (by rfl) (fun K hK => ?_)
        go_simp
        (with_reducible refine Hs2.out.mono ?_)
        rintro e w9 ⟨rfl, ht9⟩
        have x9 := x11.trans' ht9
        refine hK.out _ _ ?_ ?_
        · exact HSA.out _ x9
        clear hK K
        (try simp only [Act.put, List.setIfInBounds_toArray, List.set_cons_zero, List.set_cons_succ])
        repeat (first
          | (refine wpPlan_take (v := ?_) rfl (by rfl) (fun W hW => ?_) ?_; rotate_left; (focus ((try dsimp only at hW); go_split_ands; go_simp; (try with_reducible rfl); done)); (try simp only [Act.put, List.setIfInBounds_toArray, List.set_cons_zero, List.set_cons_succ]))
          | (refine wpPlan_skip rfl (by rfl) ?_; (try simp only [Act.put, List.setIfInBounds_toArray, List.set_cons_zero, List.set_cons_succ])))
        refine wpPlan_done (hKK.out _ _ ?_)
        clear hKK KK
        go_wp2_with (fail)
        go_roundw
        case rel => exact ⟨j + 1, by omega, by go_num, x6.trans' x9⟩
        case measure => simp [intOf]; omega
    · obtain rfl : j = M.length := by omega
      have i1 : ¬ ((M.length : Nat) : Int) < (M.length : Int) := by omega
      have hlow := SameA.low_any many 5 wr Hlv.out (by decide) (by decide)
      have hlr := SameA.low_lt many (n := 5) (by decide)
      generalize SameA.low many 5 = lo at *
      obtain ⟨mn, hmn⟩ : ∃ mn : Nat, 1 + lo = (mn : Int) := ⟨(1 + lo).toNat, by omega⟩
      have i2 : IntKind.i64.wrap (1 + lo) = (mn : Int) := by rw [IntKind.wrap_i64]; omega
      have hmn1 : 1 ≤ mn ∧ mn ≤ 5 := by omega
      have Hlow := Lib.hid hlow
      clear hlow
      have Hmn := Lib.hid hmn
      clear hmn
      have Hlr := Lib.hid hlr
      clear hlr
      go_wp2_with (fail)
      (with_reducible refine Hlow.out.mono ?_)
      rintro e w4 ⟨rfl, rfl⟩
      go_wp2_with (fail)
      clear i2
      have Ht := Lib.hid ht
      clear ht
      obtain ⟨wo, rfl⟩ : ∃ wo, wo = wr := ⟨_, rfl⟩
      go_loopw [14, 15, 16] (fun s14 s15 s16 wx => ∃ (i c : Nat) (es : List El) (key : List Int), c = i * mn ∧ c ≤ M.length ∧ s16 = .int .i64 i ∧ Pt wx wo.heap.size s14 es ∧ es.map (·.2) = M.take c ∧ RB wx Any s15 key ∧ KB key ∧ rk M key = c ∧ Ext wo wx) (fun _ _ s16 _ => 50 - (intOf s16).toNat)
      case atStart => exact ⟨0, 0, [], [], by simp, by omega, rfl, Pt.nil _ _, rfl, RB.nil _ _, KB.nil, rk_nil _, Touch.refl _ _⟩
      case round =>
        obtain ⟨i, c, es, key, hc, hcM, rfl, hpt, hes, hkey, kkey, hrkc, htx⟩ := hrel
        have hic : i ≤ c := by rw [hc]; exact Nat.le_mul_of_pos_right _ (by omega)
        have hi50 : (i : Int) < 50 := by omega
        have x4 := X3.out.trans' (Ht.out.trans' htx)
        have hfr := from_any wr _ u15 M key mn (Mq.of (Hmp.out.ext x4)) hkey kkey (by omega) (by unfold V64; omega)
        have hfk : fromK M key mn = (M.drop c).take mn := by unfold fromK fromN; rw [hrkc]; simp
        rw [hfk] at hfr
        obtain ⟨out, hout⟩ : ∃ out, (M.drop c).take mn = out := ⟨_, rfl⟩
        rw [hout] at hfr hfk
        have hol : out.length = min mn (M.length - c) := by rw [← hout]; simp
        have hpl := hpt.1
        obtain ⟨pa, pc, rfl⟩ := own_len hpl
        have hesl : es.length = c := by have := congrArg List.length hes; simp at this; omega
        have hsz := htx.size
        have hol1 : out.length ≤ mn := by omega
        have hol2 : c + out.length ≤ M.length := by omega
        clear hpl
        rw [hesl] at hpt
        have Hol := Lib.hid hol
        clear hol
        have Hfr := Lib.hid hfr
        clear hfr
        have Hfk := Lib.hid hfk
        clear hfk
        have Hout := Lib.hid hout
        clear hout
        have Hpt := Lib.hid hpt
        clear hpt
        have Hes := Lib.hid hes
        clear hes
        have Hkey := Lib.hid hkey
        clear hkey
        have Kkey := Lib.hid kkey
        clear kkey
        have Hrkc := Lib.hid hrkc
        clear hrkc
        have Htx := Lib.hid htx
        clear htx
        have X4 := Lib.hid x4
        clear x4
        have Hesl := Lib.hid hesl
        clear hesl
        have Hc := Lib.hid hc
        clear hc
        rw [Hesl.out]
        go_wp2_with (fail)
        (with_reducible refine Hfr.out.mono ?_)
        rintro e w5 ⟨⟨v5, rfl, ho5⟩, ht5⟩
        obtain ⟨es2, he2, hc2, hk2⟩ := op_keys ho5
        have hel2 : es2.length = out.length := by rw [← he2]; simp
        obtain ⟨xa, xc, rfl, y1, y2, y3⟩ := hc2.shape
        unfold maxLen at y2
        have hp5 := Hpt.out.ext ht5
        have hplt := fun b hb => (Hpt.out.1.lt b hb).2
        rw [hel2] at hc2 y1
        have dl : decide ((mn : Int) < (out.length : Int)) = false := by simp; omega
        rw [hel2]
        have hsz5 := ht5.size
        have Ho5 := Lib.hid ho5
        clear ho5
        have He2 := Lib.hid he2
        clear he2
        have Hc2 := Lib.hid hc2
        clear hc2
        have Hk2 := Lib.hid hk2
        clear hk2
        have Hel2 := Lib.hid hel2
        clear hel2
        have Hp5 := Lib.hid hp5
        clear hp5
        have Hplt := Lib.hid hplt
        clear hplt
        have Ht5 := Lib.hid ht5
        clear ht5
        by_cases hom : out.length = mn
        · subst hom
          obtain ⟨b2, o2, rfl, hb2⟩ := Hc2.out.addr (by have := Hel2.out; omega)
          obtain ⟨p, hp⟩ : ∃ p, out[out.length - 1]? = some p := ⟨_, List.getElem?_eq_getElem (by omega)⟩
          obtain ⟨kv2, hkv2⟩ := es_get He2.out hp
          obtain ⟨c5, _⟩ := Hc2.out.cell _ _ hkv2
          have hpM : M[c + (out.length - 1)]? = some p := by
            have h1 := hp
            rw [← Hout.out] at h1
            rw [List.getElem?_take] at h1
            split at h1
            · rw [List.getElem?_drop] at h1
              have h2 := Hol.out
              rw [Hout.out] at h1
              exact h1
            · cases h1
          have hkb2 := Hk2.out _ (List.mem_of_getElem? hkv2)
          simp only at hkb2 c5
          have hpp := Hmm.out _ (List.mem_of_getElem? hpM)
          have hnx := rk_next Hr.out (fun p hp => (Hmm.out p hp).1) hpM
          obtain ⟨ka, kc, rfl, z1, z2, z3⟩ := hkb2.shape
          unfold maxLen at z2
          have i5 : (0 : Int) ≤ (out.length : Int) - 1 := by omega
          have i6 : (out.length : Int) - 1 < (out.length : Int) := by omega
          have i7 : IntKind.i64.wrap ((out.length : Int) - 1) = (out.length : Int) - 1 := by rw [IntKind.wrap_i64]; omega
          have i8 : ((out.length : Int) - 1).toNat = out.length - 1 := by omega
          have Hp := Lib.hid hp
          clear hp
          have Hkv2 := Lib.hid hkv2
          clear hkv2
          have HpM := Lib.hid hpM
          clear hpM
          have Hnx := Lib.hid hnx
          clear hnx
          have Hkb2 := Lib.hid hkb2
          clear hkb2
          have Hb2 := Lib.hid hb2
          clear hb2
          go_wp2_with (first
            | (at_builtin; (refine wpList_push_any _ rfl _ _ 22 rfl 32 _ 2 32 Try.underlying22 info_pair rfl (by decide) (.slice pa c pc) c (flat es) rfl (by have := Hp5.out.1; rw [Hesl.out] at this; exact this) (some ⟨b2, o2, none⟩) out.length xc rfl (fun h => by cases h) (flat es2) y1 (by rw [flat_length, Hel2.out]) Hc2.out.src (flat_one_cell _ (fun e he => by obtain ⟨a, c, h1, _⟩ := (Hk2.out e he).shape; rw [h1]; rfl)) (by simp [maxLen]; omega) (by omega) ?_); intro v9 w9 hown9 ht9 hb9; (have c9 := keepc ht9 (p := ⟨b2, o2 + (out.length - 1) * 2, none⟩) (fun h => by have h1 : b2 < wr.heap.size := Hplt.out _ h; have h2 : wr.heap.size ≤ b2 := Hb2.out; omega) c5); have hk9 := Hkb2.out.keep ht9 (fun b hb h => by have h1 : b < wr.heap.size := Hplt.out _ h; have h2 : wr.heap.size ≤ b := hb.1; omega))
            | (at_builtin; (refine wpList_push_any _ rfl _ _ 23 rfl 5 (.int .u8 0) 1 1 Try.underlying23 info_u8 rfl (by decide) (.slice none 0 0) 0 [] rfl (World.ownsRow_nil _ _ _ _) ka p.1.length kc rfl z3 (ivs .u8 p.1) z1 (by simp [ivs]) hk9.src (ivs_one _ _) (by simp [maxLen]; have := hpp.2; omega) (by have := hpp.2; omega) ?_); intro v10 w10 hown10 ht10 hb10; rw [Nat.zero_add, List.nil_append] at hown10; obtain ⟨qa, qc, rfl⟩ := own_len hown10)
            | (at_builtin; (refine wpList_push_any _ rfl _ _ 23 rfl 5 (.int .u8 0) 1 1 Try.underlying23 info_u8 rfl (by decide) (.slice qa p.1.length qc) p.1.length (ivs .u8 p.1) rfl (own_keep hown10 ((Touch.refl (fun _ => False) _).alloc _) (fun _ _ h => h)) (some ⟨w10.heap.size, 0, none⟩) 1 1 rfl (fun h => by cases h) (ivs .u8 [0]) (by decide) (by simp [ivs]) (rb_new w10 [0] 5 (0, 0) _ rfl (by decide)).src (ivs_one _ _) (by simp [maxLen]; have := hpp.2; omega) (by have := hpp.2; omega) ?_); intro v11 w11 hown11 ht11 hb11))
          go_roundw
          case rel =>
            have e10 : Ext w9 w10 := ht10.new (fun i hi => by simp [Value.ownBlock] at hi)
            have e11 : Ext w9 w11 := (e10.alloc _).ext_new ht11 (fun i hi => by
              rcases hb10 with h | h
              · rw [h] at hi; simp [Value.ownBlock] at hi
              · rw [h] at hi; cases hi; exact Nat.le_refl _)
            have p9 : Pt w9 wo.heap.size v9 (es ++ es2) := Pt.push (by rw [← Hesl.out] at Hp5; exact Hp5.out) (by omega) (fun e he => (Hk2.out e he).mono (fun b hb => ⟨hb.2, fun h => by have h1 : b < wr.heap.size := Hplt.out _ (by rw [← Hesl.out]; exact h); have h2 : wr.heap.size ≤ b := hb.1; omega⟩)) (by rw [Hesl.out, Hel2.out]; exact hown9) (by rw [Hesl.out]; exact ht9) (by rw [Hesl.out]; exact hb9)
            have h3 : RB w11 Any (.slice qa p.1.length qc) p.1 → True := fun _ => trivial
            have hob : OB w11 (fun _ => True) v11 (p.1 ++ [0]) := ⟨by rw [List.length_append, ivs_append]; exact hown11, fun _ _ => trivial⟩
            refine ⟨i + 1, c + out.length, es ++ es2, p.1 ++ [0], by rw [Nat.succ_mul, Hc.out], by omega, by go_num, p9.ext e11, ?_, hob.rb, hpp.1.append (kb_lit _ (by decide)), by rw [Hnx.out]; omega, ((Htx.out.trans' Ht5.out).ext_new ht9 (fun b hb => Hpt.out.2.1 b hb)).trans' e11⟩
            have h4 := Hout.out
            rw [List.map_append, Hes.out, He2.out]
            conv => lhs; rw [← h4]
            rw [List.take_add]
          case measure => simp [intOf]; omega
        · go_wp2_with (at_builtin; refine wpList_push_any _ rfl _ _ 22 rfl 32 _ 2 32 Try.underlying22 info_pair rfl (by decide) (.slice pa c pc) c (flat es) rfl (by have := Hp5.out.1; rw [Hesl.out] at this; exact this) xa out.length xc rfl y3 (flat es2) y1 (by rw [flat_length, Hel2.out]) Hc2.out.src (flat_one_cell _ (fun e he => by obtain ⟨a, c, h1, _⟩ := (Hk2.out e he).shape; rw [h1]; rfl)) (by simp [maxLen]; omega) (by omega) ?_; intro v9 w9 hown9 ht9 hb9)
          have p9 : Pt w9 wo.heap.size v9 (es ++ es2) := Pt.push (by rw [← Hesl.out] at Hp5; exact Hp5.out) (by omega) (fun e he => (Hk2.out e he).mono (fun b hb => ⟨hb.2, fun h => by have h1 : b < wr.heap.size := Hplt.out _ (by rw [← Hesl.out]; exact h); have h2 : wr.heap.size ≤ b := hb.1; omega⟩)) (by rw [Hesl.out, Hel2.out]; exact hown9) (by rw [Hesl.out]; exact ht9) (by rw [Hesl.out]; exact hb9)
          have x9 : Ext wo w9 := (Htx.out.trans' Ht5.out).ext_new ht9 (fun b hb => Hpt.out.2.1 b hb)
          have hfin : M.take c ++ out = M := by
            rw [← Hout.out]
            have h5 := Hol.out
            have h6 : (M.drop c).take mn = M.drop c := List.take_of_length_le (by rw [List.length_drop]; omega)
            rw [h6]
            exact List.take_append_drop c M
          have hpr : RP w9 Any v9 M := by
            have := p9.rp
            rw [List.map_append, Hes.out, He2.out, hfin] at this
            exact this
          have x9' := X3.out.trans' (Ht.out.trans' x9)
          clear p9 hown9 ht9 hb9 hfin
          have hcp := copy_any w9 g M (Hmp.out.ext x9') (by omega)
          have Hpr := Lib.hid hpr
          clear hpr
          have Hcp := Lib.hid hcp
          clear hcp
          (with_reducible refine Hcp.out.mono ?_)
          rintro e w10 ⟨⟨g3, rfl, hcm⟩, ht10⟩
          have hsp := SameP.same_pairs w10 _ _ M (Hpr.out.ext ht10) (Ha3.out.ext ((Ht.out.trans' x9).trans' ht10)) (by omega) (fun q hq => by have := (Hmm.out q hq).2; omega)
          have x10 := x9'.trans' ht10
          have Hcm := Lib.hid hcm
          clear hcm
          have Hsp := Lib.hid hsp
          clear hsp
          go_wp2_with (fail)
          (with_reducible refine Hsp.out.mono ?_)
          rintro e w11 ⟨rfl, ht11⟩
          have x11 := x10.trans' ht11
          have y11 := (Ht.out.trans' x9).trans' (ht10.trans' ht11)
          have Ht10 := Lib.hid ht10
          clear ht10
          have Ht11 := Lib.hid ht11
          clear ht11
          have X9' := Lib.hid x9'
          clear x9'
          have X10 := Lib.hid x10
          clear x10
          have X9 := Lib.hid x9
          clear x9
          have X11 := Lib.hid x11
          clear x11
          have Y11 := Lib.hid y11
          clear y11
          go_wp2_with (fail)
          have hm11 := Hcm.out.ext Ht11.out
          obtain ⟨wp, hwp⟩ : ∃ wp, wp = w9 := ⟨_, rfl⟩
          obtain ⟨F3, hF3⟩ : ∃ F3 : Nat → Prop, F3 = fun b => w9.heap.size ≤ b ∧ b < w10.heap.size := ⟨_, rfl⟩
          have hF3' : ∀ b, F3 b → w9.heap.size ≤ b := fun b hb => by rw [hF3] at hb; exact hb.1
          rw [← hF3] at hm11
          have Hm11 := Lib.hid hm11
          clear hm11
          have HF3 := Lib.hid hF3
          clear hF3
          have HF3' := Lib.hid hF3'
          clear hF3'
          have Hwp := Lib.hid hwp
          clear hwp
          go_loopw [19] (fun s19 wr => ∃ (i : Nat) (F4 : Nat → Prop), i ≤ M.length ∧ s19 = .int .i64 i ∧ Mp wr g3 F4 (M.drop i) ∧ (∀ b, F4 b → w9.heap.size ≤ b) ∧ Ext w9 wr) (fun s19 _ => M.length - (intOf s19).toNat)
          case atStart => exact ⟨0, F3, by omega, rfl, Hm11.out, HF3'.out, Ht10.out.trans' Ht11.out⟩
          case round =>
            obtain ⟨i, F4, hi, rfl, hm4, hF4, ht4⟩ := hrel
            have z3 : Ext w3 wr := (Ht.out.trans' X9.out).trans' ht4
            by_cases hjk : i < M.length
            · obtain ⟨b, off, rfl, _⟩ := Ha3.out.addr (by omega)
              have hgj := List.getElem?_eq_getElem hjk
              obtain ⟨kv, d0, d1', hkv⟩ := Ha3.out.get _ _ hgj
              have hpp := Hmm.out _ (List.mem_of_getElem? hgj)
              have hdf := drop_first Hr.out hgj
              generalize M[i] = p at *
              obtain ⟨ka, kc, rfl, _⟩ := hkv.shape
              have i1 : (i : Int) < (M.length : Int) := by omega
              have i2 : (0 : Int) ≤ (i : Int) := by omega
              have e0 := keepc z3 id d0
              have hdr := drop_any wr g3 (.slice ka p.1.length kc) (M.drop i) p.1 hm4 (hkv.ext z3) hpp.1 (by rw [List.length_drop]; omega)
              unfold DropRet at hdr
              rw [hdf.1, hdf.2.1, hdf.2.2] at hdr
              have Hdr := Lib.hid hdr
              clear hdr
              have Hdf := Lib.hid hdf
              clear hdf
              have Hm4 := Lib.hid hm4
              clear hm4
              have HF4 := Lib.hid hF4
              clear hF4
              have Hkv := Lib.hid hkv
              clear hkv
              have Hgj := Lib.hid hgj
              clear hgj
              go_wp2_with (fail)
              (with_reducible refine Hdr.out.mono ?_)
              rintro e w12 ⟨rfl, F5, hm5, hu5, hs5⟩
              have t5 : Ext w9 w12 := ht4.ext_new hu5 HF4.out
              have hF5 : ∀ b, F5 b → w9.heap.size ≤ b := fun b hb => by
                rcases hs5 b hb with h | h
                · exact HF4.out b h
                · exact Nat.le_trans ht4.size h
              have e1 := keepc ((Ht.out.trans' X9.out).trans' t5) id d1'
              clear hu5 hs5
              have Hm5 := Lib.hid hm5
              clear hm5
              have HF5 := Lib.hid hF5
              clear hF5
              go_wp2_with (fail)
              go_roundw
              case rel => exact ⟨i + 1, F5, by omega, by go_num, Hm5.out, HF5.out, t5⟩
              case measure => simp [intOf]; omega
            · obtain rfl : i = M.length := by omega
              have i1 : ¬ ((M.length : Nat) : Int) < (M.length : Int) := by omega
              rw [List.drop_length] at hm4
              have hpn := put_nil wr (.slice none 0 0) 1
              have hfn := floor_any (F := Any) (G := Any) wr (.pointer none) (.slice none 0 0) [] [] (Or.inl ⟨rfl, rfl⟩) (RB.nil _ _) KB.nil (by simp)
              rw [show floorK [] [] = none by rfl] at hfn
              have Hpn := Lib.hid hpn
              clear hpn
              have Hfn := Lib.hid hfn
              clear hfn
              have Hm4 := Lib.hid hm4
              clear hm4
              have HF4 := Lib.hid hF4
              clear hF4
              go_wp2_with (fail)
              (with_reducible refine Hpn.out.mono ?_)
              rintro e w12 ⟨rfl, rfl⟩
              go_wp2_with (fail)
              (with_reducible refine Hfn.out.mono ?_)
              intro e w13 hp
              obtain ⟨fa, fc, rfl, hof, ht13⟩ := pair_none hp
              clear hp hof
              have x13 := ht13.alloc (.cells #[.slice fa 0 fc, .int .u64 0] 32)
              clear ht13
              go_wp2_with (fail)
              generalize w13.alloc (.cells #[.slice fa 0 fc, .int .u64 0] 32) = w14 at *
              have hl1 := len_any w14 _ ([] : Prs) (Mq.of (Hm4.out.ext x13))
              have t14 := X9.out.trans' (ht4.trans' x13)
              have ham := all_any w14 _ M (Mq.of (Hmp.out.ext (X3.out.trans' (Ht.out.trans' t14)))) (by omega)
              have Hl1 := Lib.hid hl1
              clear hl1
              have Ham := Lib.hid ham
              clear ham
              (with_reducible refine Hl1.out.mono ?_)
              rintro e w14' ⟨rfl, rfl⟩
              simp only [List.length_nil, Int.ofNat_eq_natCast, Int.natCast_zero]
              go_wp2_with (fail)
              (with_reducible refine Ham.out.mono ?_)
              rintro e w15 ⟨⟨v15, rfl, ho15⟩, ht15⟩
              have hs15 := SameP.same_pairs w15 _ _ M ho15.rp (Ha3.out.ext (Ht.out.trans' (t14.trans' ht15))) (by omega) (fun q hq => by have := (Hmm.out q hq).2; omega)
              clear ho15
              have Hs15 := Lib.hid hs15
              clear hs15
              go_wp2_with (fail)
              (with_reducible refine Hs15.out.mono ?_)
              rintro e w16 ⟨rfl, ht16⟩
              have hl2 := len_any (F := Any) w16 (.pointer none) ([] : Prs) (Or.inl ⟨rfl, rfl⟩)
              have Hl2 := Lib.hid hl2
              clear hl2
              go_wp2_with (fail)
              (with_reducible refine Hl2.out.mono ?_)
              rintro e w16' ⟨rfl, rfl⟩
              simp only [List.length_nil, Int.ofNat_eq_natCast, Int.natCast_zero]
              go_wp2_with (fail)
              refine (all_any (F := Any) w16 (.pointer none) [] (Or.inl ⟨rfl, rfl⟩) (by simp)).mono ?_
              rintro e w17 ⟨⟨v17, rfl, ho17⟩, ht17⟩
              obtain ⟨na, nc, rfl, _⟩ := ho17.rp.shape
              simp only [List.length_nil]
              clear ho17
              go_wp2_with (fail)
              refine (copy_nil _).mono ?_
              rintro e w18 ⟨rfl, rfl⟩
              go_wp2_with (fail)
              refine (awake_any _).mono ?_
              rintro e w19 ⟨rfl, ht19⟩
              have hend := Ht1.out.trans' (X3.out.trans' (Ht.out.trans' (t14.trans' (ht15.trans' (ht16.trans' (ht17.trans' ht19))))))
              have Hend := Lib.hid hend
              clear hend
              go_wp2_with (fail)
              go_ret
              exact ⟨rfl, Hend.out⟩

set_option maxRecDepth 100000 in
set_option maxHeartbeats 1600000 in
theorem walk_great (v0 : Value) (many : Int) (ps : Prs) (F : Nat → Prop) (w : World) (h0 : RP w F v0 ps) (hg : SameP.great ps 40 20 = true) :
    Calls Try.prog 5 #[v0, .int .i64 many] w fun e w' => e = .returned (.bool true) ∧ Ext w w' := by
  obtain ⟨a0, c0, rfl, l1, l2⟩ := h0.shape
  unfold maxLen at l2
  have hgr := SameP.great_any w F _ ps 40 20 h0 (by decide) (by decide) (by decide) (by decide)
  rw [hg] at hgr
  have Hgr := Lib.hid hgr
  clear hgr
  have Hg := Lib.hid hg
  clear hg
  go_enter Try.func5, Try.ntmps5
  go_wp2_with (fail)
  refine Hgr.out.mono ?_
  rintro e w' ⟨rfl, rfl⟩
  go_wp2_with (fail)
  refine (awake_any _).mono ?_
  rintro e w' ⟨rfl, ht⟩
  go_wp2_with (fail)
  go_ret
  exact ⟨rfl, ht⟩

set_option maxRecDepth 100000 in
theorem lifted (os : Os) (started : os.Started) (H : Type) (enc : TypeId × Value → H) :
    ReturnsInHanded {} Try.checked os 5 .any (Rows.modelOrderSpec.pre6 enc Try.prog Try.f5 Rows.modelOrderRow.domain false) (Rows.modelOrderSpec.post enc Try.prog Try.f5 false true false false) := by
  refine returnsInHanded_of_change (C := Try.checked) Try.own started (by kernel_rfl) Try.func5
    (ChangeSpec.witness6 (enc := enc) (C := Try.checked) false ⟨#[], #[.slice none 0 0, .int .i64 0], []⟩ 8 (by kernel_rfl) (by kernel_rfl) (by kernel_rfl) (by kernel_rfl)) ?_
  intro W base args ds gs before hval0 hW hcnd _
  have hval : ∀ (j : Nat) t v, Try.f5.params[j]? = some t → args[j]? = some v → Value.okWide Try.prog W .any base t v := hval0
  have hW' := hW
  obtain ⟨p, q, hA0, hV, rfl, hfz, hnd⟩ := hW
  have hA : DataW.TrodAll enc Try.prog W 0 (fun _ => true) true Try.f5.params.toList args.toList ds p := hA0
  rw [Try.params5] at hA hval
  obtain ⟨v0, v1, d0, d1, p0, p1, rfl, rfl, rfl, h0, h1⟩ := trodAll_two hA
  obtain ⟨rfl, rfl⟩ := trodVars_none hV
  obtain ⟨ps, hps, hpp⟩ := rp_of_arg (hval 0 22 v0 rfl rfl) h0
  obtain ⟨x, rfl, rfl, rfl, hwx⟩ := open_int Try.underlying3 (hval 1 3 v1 rfl rfl) h1
  refine Calls.mono (R := fun e w' => e = .returned (.bool true) ∧ Touch (fun _ => False) W w') ?_ fun e W' ⟨he, hw⟩ => ?_
  · by_cases hg : SameP.great ps 40 20 = true
    · exact walk_great v0 x ps _ W hps hg
    · have hg : SameP.great ps 40 20 = false := by simpa using hg
      have hgn := great_not (most := 40) (long := 20) hg
      exact walk_small v0 x ps _ W hps (v64_wf hwx) (fun p hp => ⟨(hpp p hp).1, by have := hgn.2 p hp; omega⟩) hg hgn.1
  subst he
  exact ⟨_, rfl, law_post Try.laidOut (by kernel_rfl) rfl Try.underlying4 rfl rfl ⟨rfl, rfl, rfl⟩ hW' (hw.below fun _ h _ => h)⟩

theorem modelOrder_holds : Rows.ModelOrderSaid :=
  OpenClaim.holds_of_wide 5 Try.f5 rfl rfl rfl rfl rfl rfl rfl ⟨rfl, rfl, rfl, rfl, rfl⟩ rfl rfl rfl rfl rfl (by kernel_rfl) Try.func5 (by kernel_rfl)
    (of_decide_eq_true (by kernel_rfl)) (by unfold Func.isWrapper; first | (rw [if_pos (by decide +kernel)]; kernel_rfl) | (rw [if_neg (by decide +kernel)]; exact ⟨rfl, rfl⟩))
    (fun os started H enc _ => lifted os started H enc)
end LawModelOrder
end Go.Proofs.Ythannllagabclaa
