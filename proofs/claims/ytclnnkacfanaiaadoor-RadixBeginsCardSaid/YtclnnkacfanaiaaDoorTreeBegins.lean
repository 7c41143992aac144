/- The statement RadixBegins: the longest beginning of a key that a tree finds is one of its beginnings, and no longer one is there; of a key that is there it is that. Conditions: none beyond the statement's own guards. -/
import Derived.Test.YtclnnkacfanaiaaDoorTreeP
import Derived.Test.YtclnnkacfanaiaaDoorArg
import Derived.Test.YtclnnkacfanaiaaDoorRows
import Derived.Test.YtclnnkacfanaiaaDoorKidL
import Derived.Test.YtclnnkacfanaiaaDoorCards
import Derived.Test.YtclnnkacfanaiaaDoorTie
namespace Go.Proofs.YtclnnkacfanaiaaDoor
open Go.ChangeShapes Go.WideShapes Go.ChangeAt Go.RowKit Go.Deep
set_option linter.unusedVariables false
set_option linter.unusedSimpArgs false
namespace LawRadixBegins
open TreeA TreeB TreeW TreeP
open ModL (pair_some)
open ModS (great_not pair_none)

abbrev In (w : World) : Nat → Prop := fun b => b < w.heap.size


set_option maxRecDepth 100000 in
set_option maxHeartbeats 8000000 in
theorem walk_small (v0 v1 : Value) (ps : Prs) (k : List Int) (w : World) (htr : KidA.Tr w) (h0 : RP w (In w) v0 ps) (h1 : RB w (In w) v1 k) (hpk : PK ps) (kb : KB k) (hg : SameP.great ps 30 20 = false) (hm : ps.length ≤ 30) (hL : ∀ p ∈ ps, p.1.length ≤ 20) (hk : k.length ≤ 30) :
    Calls Tryd.prog 3 #[v0, v1] w fun e w' => e = .returned (.bool true) ∧ Ext w w' := by
  obtain ⟨a0, c0, rfl, l1, l2⟩ := h0.shape
  obtain ⟨a1, c1, rfl, l3, l4, _⟩ := h1.shape
  unfold maxLen at l2 l4
  have hgr := SameP.great_any w _ _ ps 30 20 h0 (by decide) (by decide) (by decide) (by decide)
  have hnew := new_yes w htr 5000 (by decide) (by decide)
  unfold TNew at hnew
  rw [hg] at hgr
  have d1 : decide ((30 : Int) < (k.length : Int)) = false := by simp; omega
  have hroom := fun j => sz_mk (m := 5000) hm hL (by decide) j
  have hstep := fun j p (h : ps[j]? = some p) => mkK_take ps j p h
  have hml : (mkK ps).length ≤ 1000000 := Nat.le_trans (mkK_length _) (by omega)
  have hhas := fun i p (h : ps[i]? = some p) => mk_has h
  have hr := mkK_rises ps
  have Htr := Lib.hid htr
  clear htr
  have Hgr := Lib.hid hgr
  clear hgr
  have Hnew := Lib.hid hnew
  clear hnew
  have H0 := Lib.hid h0
  clear h0
  have H1 := Lib.hid h1
  clear h1
  have Hpk := Lib.hid hpk
  clear hpk
  have Kb := Lib.hid kb
  clear kb
  have Hroom := Lib.hid hroom
  clear hroom
  have Hstep := Lib.hid hstep
  clear hstep
  have HL := Lib.hid hL
  clear hL
  have Hhas := Lib.hid hhas
  clear hhas
  have Hr := Lib.hid hr
  clear hr
  clear hg
  go_enter Tryd.func3, Tryd.ntmps3
  go_wp2_with (fail)
  refine Hgr.out.mono ?_
  rintro e w' ⟨rfl, rfl⟩
  go_wp2_with (fail)
  (with_reducible refine Hnew.out.mono ?_)
  rintro e w1 ⟨t, F, rfl, htp, hF, t1⟩
  have Htp := Lib.hid htp
  clear htp
  have HF := Lib.hid hF
  clear hF
  have T1 := Lib.hid t1
  clear t1
  go_wp2_with (fail)
  go_loopw [6] (fun s6 wr => ∃ (j : Nat) (F : Nat → Prop), j ≤ ps.length ∧ s6 = .int .i64 j ∧ Tp wr t F (mkK (ps.take j)) 5000 ∧ (∀ b, F b → w.heap.size ≤ b) ∧ Ext w wr) (fun s6 _ => ps.length - (intOf s6).toNat)
  case atStart => exact ⟨0, F, by omega, rfl, Htp.out, HF.out, T1.out⟩
  case round =>
    obtain ⟨j, F', hj, rfl, htp, hF, ht⟩ := hrel
    clear Htp HF T1
    by_cases hjk : j < ps.length
    · obtain ⟨b, off, rfl, hb⟩ := H0.out.addr (by omega)
      have hgj := List.getElem?_eq_getElem hjk
      obtain ⟨kv, d0, d1', hkv⟩ := (H0.out.ext ht).get _ _ hgj
      have hpp := Hpk.out _ (List.mem_of_getElem? hgj)
      have hst := Hstep.out j _ hgj
      generalize ps[j] = p at *
      obtain ⟨ka, kc, rfl, _⟩ := hkv.shape
      have i1 : (j : Int) < (ps.length : Int) := by omega
      have i2 : (0 : Int) ≤ (j : Int) := by omega
      have hbF : ¬ F' b := fun h => by have h1 : b < w.heap.size := hb; have := hF b h; omega
      have hput := put_any wr.drew t (.slice ka p.1.length kc) (mkK (ps.take j)) 5000 p.1 p.2 (htp.ext (Touch.refl _ _).drew) (by have := mkK_length (ps.take j); simp at this; omega) ((hkv.ext (Touch.refl _ _).drew).mono (fun b hb => aw htp (fun h => by have h1 : b < w.heap.size := hb; have := hF b h; omega))) hpp.1 hpp.2 (Or.inr (by rw [← hst]; exact Hroom.out (j + 1)))
      unfold TPut at hput
      rw [← hst] at hput
      have Hput := Lib.hid hput
      clear hput
      have Hst := Lib.hid hst
      clear hst
      have Hkv := Lib.hid hkv
      clear hkv
      have HF := Lib.hid hF
      clear hF
      have Ht := Lib.hid ht
      clear ht
      have Htp := Lib.hid htp
      clear htp
      have HbF := Lib.hid hbF
      clear hbF
      go_wp2_with (fail)
      refine wp_region_plan (.take 0 (.take 1 (.take 2 (.take 3 (.take 4 (.take 5 (.take 6 (.take 7 (.take 8 (.take 9 (.take 10 (.must 11 .done)))))))))))) (fun wy => wy.cell? ⟨b, off + j * 2, none⟩ = some (.slice ka p.1.length kc) ∧ wy.cell? ⟨b, off + j * 2 + 1, none⟩ = some (.int .u64 p.2)) (by kernel_rfl) (by kernel_rfl) (by kernel_rfl) rfl ?_ (fun KK hKK => ?_)
      · exact ⟨d0, d1'⟩
      repeat (first
        | (refine wpPlan_take (v := ?_) rfl (by rfl) (fun W hW => ?_) ?_; rotate_left; (focus ((try dsimp only at hW); go_split_ands; go_simp; (try with_reducible rfl); done)); (try simp only [Act.put, List.setIfInBounds_toArray, List.set_cons_zero, List.set_cons_succ]))
        | (refine wpPlan_skip rfl (by rfl) ?_; (try simp only [Act.put, List.setIfInBounds_toArray, List.set_cons_zero, List.set_cons_succ])))
      refine wpPlan_must rfl (by rfl) (fun K hK => ?_)
      go_simp
      (with_reducible refine Hput.out.mono ?_)
      rintro e w3 ⟨rfl, F2, htp2, hu, hsub⟩
      have Htp2 := Lib.hid htp2
      clear htp2
      have Hsub := Lib.hid hsub
      clear hsub
      refine hK.out _ _ ?_ ?_
      · exact ⟨keepc hu HbF.out d0, keepc hu HbF.out d1'⟩
      clear hK K
      (try simp only [Act.put, List.setIfInBounds_toArray, List.set_cons_zero, List.set_cons_succ])
      refine wpPlan_done (hKK.out _ _ ?_)
      clear hKK KK
      go_wp2_with (fail)
      go_roundw
      case rel => exact ⟨j + 1, F2, by omega, by go_num, Htp2.out, fun b hb => (Hsub.out b hb).elim (HF.out b) (fun h => Nat.le_trans Ht.out.size h), (Ht.out.drew).ext_new hu (fun i hi => HF.out i hi)⟩
      case measure => simp [intOf]; omega
    · obtain rfl : j = ps.length := by omega
      have i1 : ¬ ((ps.length : Nat) : Int) < (ps.length : Int) := by omega
      rw [List.take_length] at htp
      generalize hMe : mkK ps = M at *
      have hlo := longest_any wr _ (.slice a1 k.length c1) M k htp.tq (H1.out.ext ht) Kb.out (by omega)
      have x := ht
      have Htp := Lib.hid htp
      clear htp
      have HF := Lib.hid hF
      clear hF
      have Ht := Lib.hid ht
      clear ht
      have X := Lib.hid x
      clear x
      have Hlo := Lib.hid hlo
      clear hlo
      clear hMe
      rcases begins_spec Hr.out k with ⟨hnone, hno⟩ | ⟨m, v, hmk, hsome, hno⟩
      · rw [hnone] at Hlo
        have hno : ∀ j, 0 ≤ j → j ≤ k.length → hasK M (k.take j) = false := fun j _ h => hno j h
        have Hno := Lib.hid hno
        clear hno
        have Hnone := Lib.hid hnone
        clear hnone
        go_wp2_with (fail)
        (with_reducible refine Hlo.out.mono ?_)
        intro e w3 hq
        obtain ⟨pa, pc, rfl, hq, t3⟩ := pair_none hq
        have x4 := t3.alloc (.cells #[.slice pa 0 pc, .int .u64 0] 33)
        clear t3 hq
        have X4 := Lib.hid x4
        clear x4
        go_wp2_with (fail)
        generalize w3.alloc (.cells #[.slice pa 0 pc, .int .u64 0] 33) = w4 at *
        go_loopw [10] (fun s10 wr => ∃ j : Nat, 0 ≤ j ∧ j ≤ k.length + 1 ∧ s10 = .int .i64 j ∧ Ext w4 wr) (fun s10 _ => k.length + 1 - (intOf s10).toNat)
        case atStart => exact ⟨0, by omega, by omega, rfl, Touch.refl _ _⟩
        case round =>
          obtain ⟨j, hj1, hj2, rfl, ht⟩ := hrel
          have i2 : (0 : Int) ≤ (j : Int) := by omega
          by_cases hjk : j ≤ k.length
          · have hno := Hno.out j (by omega) (by omega)
            have i1 : (j : Int) ≤ (k.length : Int) := by omega
            have i3 : (j : Int) ≤ (c1 : Int) := by omega
            have hget := get_any wr _ (.slice a1 j c1) M (k.take j) ((Htp.out.ext (X4.out.trans' ht)).tq) ((H1.out.ext (X.out.trans' (X4.out.trans' ht))).take j hjk) (fun x hx => Kb.out x (List.mem_of_mem_take hx)) (by omega)
            rw [hno] at hget
            have Hget := Lib.hid hget
            clear hget
            have Hno := Lib.hid hno
            clear hno
            go_wp2_with (fail)
            (with_reducible refine Hget.out.mono ?_)
            rintro e w5 ⟨rfl, t5⟩
            go_wp2_with (fail)
            go_roundw
            case rel => exact ⟨j + 1, by omega, by omega, by go_num, ht.trans' t5⟩
            case measure => simp [intOf]; omega
          · have i1 : ¬ (j : Int) ≤ (k.length : Int) := by omega
            go_wp2_with (fail)
            obtain ⟨wo, hwo, hx⟩ : ∃ wo, wo = wr ∧ Ext w4 wo := ⟨wr, rfl, ht⟩
            subst hwo
            go_loopw [13] (fun s13 wr => ∃ j : Nat, j ≤ ps.length ∧ s13 = .int .i64 j ∧ Ext w4 wr) (fun s13 _ => ps.length - (intOf s13).toNat)
            case atStart => exact ⟨0, by omega, rfl, ht⟩
            case round =>
              obtain ⟨i, hi, rfl, ht2⟩ := hrel
              by_cases hik : i < ps.length
              · obtain ⟨b, off, rfl, hb⟩ := H0.out.addr (by omega)
                have hgj := List.getElem?_eq_getElem hik
                have ht3 := X.out.trans' (X4.out.trans' ht2)
                obtain ⟨kv, d0, d1, hkv⟩ := (H0.out.ext ht3).get _ _ hgj
                have hpp := Hpk.out _ (List.mem_of_getElem? hgj)
                have hself := longest_self Hr.out (Hhas.out i _ hgj)
                generalize ps[i] = p at *
                obtain ⟨ka, kc, rfl, _⟩ := hkv.shape
                have i1 : (i : Int) < (ps.length : Int) := by omega
                have i2 : (0 : Int) ≤ (i : Int) := by omega
                have hlo := longest_any _ _ (.slice ka p.1.length kc) M p.1 ((Htp.out.ext (X4.out.trans' ht2)).tq) hkv hpp.1 (by omega)
                rw [hself] at hlo
                have Hlo := Lib.hid hlo
                clear hlo
                have Hself := Lib.hid hself
                clear hself
                have Hgj := Lib.hid hgj
                clear hgj
                have Hkv := Lib.hid hkv
                clear hkv
                go_wp2_with (fail)
                (with_reducible refine Hlo.out.mono ?_)
                intro e w5 hq
                obtain ⟨qa, qc, rfl, hq, t5⟩ := pair_some hq
                have t6 := t5.alloc (.cells #[.slice qa p.1.length qc, .int .u64 (valK M p.1)] 33)
                have e0 := keepc t6 id d0
                have g0 : (w5.alloc (.cells #[.slice qa p.1.length qc, .int .u64 (valK M p.1)] 33)).cell? ⟨w5.heap.size, 0, none⟩ = some (.slice qa p.1.length qc) := by simp
                have hsb := fun W (t : Ext (w5.alloc (.cells #[.slice qa p.1.length qc, .int .u64 (valK M p.1)] 33)) W) => SameP.same_bytes_yes W (.slice qa p.1.length qc) (.slice ka p.1.length kc) p.1 ((hq.rb.ext ((Touch.refl _ _).alloc _)).ext t) ((Hkv.out.ext t6).ext t) (by have := hpp.2; omega)
                clear t5 d0 d1
                have Hsb := Lib.hid hsb
                clear hsb
                have Hq := Lib.hid hq
                clear hq
                go_wp2_with (fail)
                refine wp_region_plan (.take 0 (.take 1 (.take 2 (.take 3 (.take 4 (.take 5 (.take 6 (.take 7 (.take 8 (.take 9 (.must 10 (.take 11 (.take 12 .done))))))))))))) (fun wy => wy.cell? ⟨b, off + i * 2, none⟩ = some (.slice ka p.1.length kc) ∧ wy.cell? ⟨w5.heap.size, 0, none⟩ = some (.slice qa p.1.length qc)) (by kernel_rfl) (by kernel_rfl) (by kernel_rfl) rfl ?_ (fun KK hKK => ?_)
                · exact ⟨e0, g0⟩
                repeat (first
                  | (refine wpPlan_take (v := ?_) rfl (by rfl) (fun W hW => ?_) ?_; rotate_left; (focus ((try dsimp only at hW); go_split_ands; go_simp; (try with_reducible rfl); done)); (try simp only [Act.put, List.setIfInBounds_toArray, List.set_cons_zero, List.set_cons_succ]))
                  | (refine wpPlan_skip rfl (by rfl) ?_; (try simp only [Act.put, List.setIfInBounds_toArray, List.set_cons_zero, List.set_cons_succ])))
                refine wpPlan_must rfl (by rfl) (fun K hK => ?_)
                go_simp
                (with_reducible refine (Hsb.out _ (Touch.refl _ _).drew).mono ?_)
                rintro e w7 ⟨rfl, t7⟩
                have t7 := (Touch.refl (fun _ => False) _).drew.trans' t7
                refine hK.out _ _ ?_ ?_
                · exact ⟨keepc t7 id e0, keepc t7 id g0⟩
                clear hK K
                (try simp only [Act.put, List.setIfInBounds_toArray, List.set_cons_zero, List.set_cons_succ])
                repeat (first
                  | (refine wpPlan_take (v := ?_) rfl (by rfl) (fun W hW => ?_) ?_; rotate_left; (focus ((try dsimp only at hW); go_split_ands; go_simp; (try with_reducible rfl); done)); (try simp only [Act.put, List.setIfInBounds_toArray, List.set_cons_zero, List.set_cons_succ]))
                  | (refine wpPlan_skip rfl (by rfl) ?_; (try simp only [Act.put, List.setIfInBounds_toArray, List.set_cons_zero, List.set_cons_succ])))
                refine wpPlan_done (hKK.out _ _ ?_)
                clear hKK KK
                go_wp2_with (fail)
                go_roundw
                case rel => exact ⟨i + 1, by omega, by go_num, ht2.trans' (t6.trans' t7)⟩
                case measure => simp [intOf]; omega
              · have i1 : ¬ (i : Int) < (ps.length : Int) := by omega
                go_wp2_with (fail)
                refine (awake_any _ (Htr.out.ext (X.out.trans' (X4.out.trans' ht2)))).mono ?_
                rintro e w9 ⟨rfl, t9⟩
                go_wp2_with (fail)
                go_ret
                exact ⟨rfl, X.out.trans' (X4.out.trans' (ht2.trans' t9))⟩
      · rw [hsome] at Hlo
        have hml2 : (k.take m).length = m := by simp; omega
        have hbeg := fun W (t : Ext w W) (va vb : Value) (F G : Nat → Prop) (ha : RB W F va (k.take m)) (hb : RB W G vb (k.take m)) => SameP.same_bytes_yes W va vb (k.take m) ha hb (by omega)
        have hk1 := H1.out.take m hmk
        have hm3 : (m : Int) ≤ (k.length : Int) := by omega
        have hm4 : (m : Int) ≤ (c1 : Int) := by omega
        have hm5 : (0 : Int) ≤ (m : Int) := by omega
        have hm6 : decide (k.length < m) = false := by simp; omega
        have hm8 : decide ((k.length : Int) < (m : Int)) = false := by simp; omega
        have hm7 : IntKind.i64.wrap ((m : Int) + 1) = (m : Int) + 1 := by rw [IntKind.wrap_i64]; omega
        have Hno := Lib.hid hno
        clear hno
        have Hsome := Lib.hid hsome
        clear hsome
        have Hbeg := Lib.hid hbeg
        clear hbeg
        have Hk1 := Lib.hid hk1
        clear hk1
        go_wp2_with (fail)
        (with_reducible refine Hlo.out.mono ?_)
        intro e w3 hq
        obtain ⟨pa, pc, rfl, hq, t3⟩ := pair_some hq
        rw [hml2]
        have x4 := t3.alloc (.cells #[.slice pa m pc, .int .u64 v] 33)
        have g0 : (w3.alloc (.cells #[.slice pa m pc, .int .u64 v] 33)).cell? ⟨w3.heap.size, 0, none⟩ = some (.slice pa m pc) := by simp
        have hsb := fun W (t : Ext (w3.alloc (.cells #[.slice pa m pc, .int .u64 v] 33)) W) => Hbeg.out W (X.out.trans' (x4.trans' t)) (.slice a1 m c1) (.slice pa m pc) _ _ (Hk1.out.ext (X.out.trans' (x4.trans' t))) (by rw [hml2] at hq; exact ((hq.rb.ext ((Touch.refl _ _).alloc _)).ext t))
        clear t3
        have Hsb := Lib.hid hsb
        clear hsb
        have X4 := Lib.hid x4
        clear x4
        have Hq := Lib.hid hq
        clear hq
        have Hml2 := Lib.hid hml2
        clear hml2
        go_wp2_with (fail)
        refine wp_region_plan (.take 0 (.take 1 (.take 2 (.take 3 (.take 4 (.take 5 (.take 6 (.take 7 (.take 8 (.take 9 (.take 10 (.take 11 (.take 12 (.take 13 (.must 14 (.take 15 (.take 16 .done))))))))))))))))) (fun wy => wy.cell? ⟨w3.heap.size, 0, none⟩ = some (.slice pa m pc)) (by kernel_rfl) (by kernel_rfl) (by kernel_rfl) rfl ?_ (fun KK hKK => ?_)
        · exact g0
        repeat (first
          | (refine wpPlan_take (v := ?_) rfl (by rfl) (fun W hW => ?_) ?_; rotate_left; (focus ((try dsimp only at hW); go_split_ands; go_simp; (try with_reducible rfl); done)); (try simp only [Act.put, List.setIfInBounds_toArray, List.set_cons_zero, List.set_cons_succ]))
          | (refine wpPlan_skip rfl (by rfl) ?_; (try simp only [Act.put, List.setIfInBounds_toArray, List.set_cons_zero, List.set_cons_succ])))
        refine wpPlan_must rfl (by rfl) (fun K hK => ?_)
        go_simp
        (with_reducible refine (Hsb.out _ (Touch.refl _ _).drew).mono ?_)
        rintro e w4 ⟨rfl, t4⟩
        have t4 := (Touch.refl (fun _ => False) _).drew.trans' t4
        have g1 := keepc t4 id g0
        refine hK.out _ _ ?_ ?_
        · exact g1
        clear hK K
        (try simp only [Act.put, List.setIfInBounds_toArray, List.set_cons_zero, List.set_cons_succ])
        repeat (first
          | (refine wpPlan_take (v := ?_) rfl (by rfl) (fun W hW => ?_) ?_; rotate_left; (focus ((try dsimp only at hW); go_split_ands; go_simp; (try with_reducible rfl); done)); (try simp only [Act.put, List.setIfInBounds_toArray, List.set_cons_zero, List.set_cons_succ]))
          | (refine wpPlan_skip rfl (by rfl) ?_; (try simp only [Act.put, List.setIfInBounds_toArray, List.set_cons_zero, List.set_cons_succ])))
        refine wpPlan_done (hKK.out _ _ ?_)
        clear hKK KK
        have x4 := X4.out.trans' t4
        clear X4 t4 Hsb Hq g0
        have X4 := Lib.hid x4
        clear x4
        go_wp2_with (fail)
        go_loopw [10] (fun s10 wr => ∃ j : Nat, m + 1 ≤ j ∧ j ≤ k.length + 1 ∧ s10 = .int .i64 j ∧ Ext w4 wr) (fun s10 _ => k.length + 1 - (intOf s10).toNat)
        case atStart => exact ⟨m + 1, by omega, by omega, by go_num, Touch.refl _ _⟩
        case round =>
          obtain ⟨j, hj1, hj2, rfl, ht⟩ := hrel
          have i2 : (0 : Int) ≤ (j : Int) := by omega
          by_cases hjk : j ≤ k.length
          · have hno := Hno.out j (by omega) (by omega)
            have i1 : (j : Int) ≤ (k.length : Int) := by omega
            have i3 : (j : Int) ≤ (c1 : Int) := by omega
            have hget := get_any wr _ (.slice a1 j c1) M (k.take j) ((Htp.out.ext (X4.out.trans' ht)).tq) ((H1.out.ext (X.out.trans' (X4.out.trans' ht))).take j hjk) (fun x hx => Kb.out x (List.mem_of_mem_take hx)) (by omega)
            rw [hno] at hget
            have Hget := Lib.hid hget
            clear hget
            have Hno := Lib.hid hno
            clear hno
            go_wp2_with (fail)
            (with_reducible refine Hget.out.mono ?_)
            rintro e w5 ⟨rfl, t5⟩
            go_wp2_with (fail)
            go_roundw
            case rel => exact ⟨j + 1, by omega, by omega, by go_num, ht.trans' t5⟩
            case measure => simp [intOf]; omega
          · have i1 : ¬ (j : Int) ≤ (k.length : Int) := by omega
            go_wp2_with (fail)
            obtain ⟨wo, hwo, hx⟩ : ∃ wo, wo = wr ∧ Ext w4 wo := ⟨wr, rfl, ht⟩
            subst hwo
            go_loopw [13] (fun s13 wr => ∃ j : Nat, j ≤ ps.length ∧ s13 = .int .i64 j ∧ Ext w4 wr) (fun s13 _ => ps.length - (intOf s13).toNat)
            case atStart => exact ⟨0, by omega, rfl, ht⟩
            case round =>
              obtain ⟨i, hi, rfl, ht2⟩ := hrel
              by_cases hik : i < ps.length
              · obtain ⟨b, off, rfl, hb⟩ := H0.out.addr (by omega)
                have hgj := List.getElem?_eq_getElem hik
                have ht3 := X.out.trans' (X4.out.trans' ht2)
                obtain ⟨kv, d0, d1, hkv⟩ := (H0.out.ext ht3).get _ _ hgj
                have hpp := Hpk.out _ (List.mem_of_getElem? hgj)
                have hself := longest_self Hr.out (Hhas.out i _ hgj)
                generalize ps[i] = p at *
                obtain ⟨ka, kc, rfl, _⟩ := hkv.shape
                have i1 : (i : Int) < (ps.length : Int) := by omega
                have i2 : (0 : Int) ≤ (i : Int) := by omega
                have hlo := longest_any _ _ (.slice ka p.1.length kc) M p.1 ((Htp.out.ext (X4.out.trans' ht2)).tq) hkv hpp.1 (by omega)
                rw [hself] at hlo
                have Hlo := Lib.hid hlo
                clear hlo
                have Hself := Lib.hid hself
                clear hself
                have Hgj := Lib.hid hgj
                clear hgj
                have Hkv := Lib.hid hkv
                clear hkv
                go_wp2_with (fail)
                (with_reducible refine Hlo.out.mono ?_)
                intro e w5 hq
                obtain ⟨qa, qc, rfl, hq, t5⟩ := pair_some hq
                have t6 := t5.alloc (.cells #[.slice qa p.1.length qc, .int .u64 (valK M p.1)] 33)
                have e0 := keepc t6 id d0
                have g0 : (w5.alloc (.cells #[.slice qa p.1.length qc, .int .u64 (valK M p.1)] 33)).cell? ⟨w5.heap.size, 0, none⟩ = some (.slice qa p.1.length qc) := by simp
                have hsb := fun W (t : Ext (w5.alloc (.cells #[.slice qa p.1.length qc, .int .u64 (valK M p.1)] 33)) W) => SameP.same_bytes_yes W (.slice qa p.1.length qc) (.slice ka p.1.length kc) p.1 ((hq.rb.ext ((Touch.refl _ _).alloc _)).ext t) ((Hkv.out.ext t6).ext t) (by have := hpp.2; omega)
                clear t5 d0 d1
                have Hsb := Lib.hid hsb
                clear hsb
                have Hq := Lib.hid hq
                clear hq
                go_wp2_with (fail)
                refine wp_region_plan (.take 0 (.take 1 (.take 2 (.take 3 (.take 4 (.take 5 (.take 6 (.take 7 (.take 8 (.take 9 (.must 10 (.take 11 (.take 12 .done))))))))))))) (fun wy => wy.cell? ⟨b, off + i * 2, none⟩ = some (.slice ka p.1.length kc) ∧ wy.cell? ⟨w5.heap.size, 0, none⟩ = some (.slice qa p.1.length qc)) (by kernel_rfl) (by kernel_rfl) (by kernel_rfl) rfl ?_ (fun KK hKK => ?_)
                · exact ⟨e0, g0⟩
                repeat (first
                  | (refine wpPlan_take (v := ?_) rfl (by rfl) (fun W hW => ?_) ?_; rotate_left; (focus ((try dsimp only at hW); go_split_ands; go_simp; (try with_reducible rfl); done)); (try simp only [Act.put, List.setIfInBounds_toArray, List.set_cons_zero, List.set_cons_succ]))
                  | (refine wpPlan_skip rfl (by rfl) ?_; (try simp only [Act.put, List.setIfInBounds_toArray, List.set_cons_zero, List.set_cons_succ])))
                refine wpPlan_must rfl (by rfl) (fun K hK => ?_)
                go_simp
                (with_reducible refine (Hsb.out _ (Touch.refl _ _).drew).mono ?_)
                rintro e w7 ⟨rfl, t7⟩
                have t7 := (Touch.refl (fun _ => False) _).drew.trans' t7
                refine hK.out _ _ ?_ ?_
                · exact ⟨keepc t7 id e0, keepc t7 id g0⟩
                clear hK K
                (try simp only [Act.put, List.setIfInBounds_toArray, List.set_cons_zero, List.set_cons_succ])
                repeat (first
                  | (refine wpPlan_take (v := ?_) rfl (by rfl) (fun W hW => ?_) ?_; rotate_left; (focus ((try dsimp only at hW); go_split_ands; go_simp; (try with_reducible rfl); done)); (try simp only [Act.put, List.setIfInBounds_toArray, List.set_cons_zero, List.set_cons_succ]))
                  | (refine wpPlan_skip rfl (by rfl) ?_; (try simp only [Act.put, List.setIfInBounds_toArray, List.set_cons_zero, List.set_cons_succ])))
                refine wpPlan_done (hKK.out _ _ ?_)
                clear hKK KK
                go_wp2_with (fail)
                go_roundw
                case rel => exact ⟨i + 1, by omega, by go_num, ht2.trans' (t6.trans' t7)⟩
                case measure => simp [intOf]; omega
              · have i1 : ¬ (i : Int) < (ps.length : Int) := by omega
                go_wp2_with (fail)
                refine (awake_any _ (Htr.out.ext (X.out.trans' (X4.out.trans' ht2)))).mono ?_
                rintro e w9 ⟨rfl, t9⟩
                go_wp2_with (fail)
                go_ret
                exact ⟨rfl, X.out.trans' (X4.out.trans' (ht2.trans' t9))⟩

set_option maxRecDepth 100000 in
set_option maxHeartbeats 400000 in
theorem walk_great (v0 v1 : Value) (ps : Prs) (k : List Int) (F : Nat → Prop) (w : World) (htr : KidA.Tr w) (h0 : RP w F v0 ps) (h1 : RB w F v1 k) (h : SameP.great ps 30 20 = true ∨ SameP.great ps 30 20 = false ∧ 30 < k.length) :
    Calls Tryd.prog 3 #[v0, v1] w fun e w' => e = .returned (.bool true) ∧ Ext w w' := by
  obtain ⟨a0, c0, rfl, l1, l2⟩ := h0.shape
  obtain ⟨a1, c1, rfl, l3, l4⟩ := h1.shape
  unfold maxLen at l2 l4
  have hgr := SameP.great_any w F _ ps 30 20 h0 (by decide) (by decide) (by decide) (by decide)
  rcases h with hg | ⟨hg, hk⟩
  · rw [hg] at hgr
    clear hg
    have Hgr := Lib.hid hgr
    clear hgr
    go_enter Tryd.func3, Tryd.ntmps3
    go_wp2_with (fail)
    refine Hgr.out.mono ?_
    rintro e w' ⟨rfl, rfl⟩
    go_wp2_with (fail)
    refine (awake_any _ htr).mono ?_
    rintro e w' ⟨rfl, ht⟩
    go_wp2_with (fail)
    go_ret
    exact ⟨rfl, ht⟩
  · rw [hg] at hgr
    have dk : decide ((30 : Int) < (k.length : Int)) = true := by simp; omega
    clear hg
    have Hgr := Lib.hid hgr
    clear hgr
    go_enter Tryd.func3, Tryd.ntmps3
    go_wp2_with (fail)
    refine Hgr.out.mono ?_
    rintro e w' ⟨rfl, rfl⟩
    go_wp2_with (fail)
    refine (awake_any _ htr).mono ?_
    rintro e w' ⟨rfl, ht⟩
    go_wp2_with (fail)
    go_ret
    exact ⟨rfl, ht⟩

set_option maxRecDepth 100000 in
theorem lifted (os : Os) (started : os.Started) (H : Type) (enc : TypeId × Value → H) :
    ReturnsInHanded {} Tryd.checked os 3 .any (fun w args => (Rows.radixBeginsSpec.pre enc Tryd.prog Tryd.f3 [] false w args ∧ laidMetH Tryd.prog KidL.laidR w) ∧ sizedMet enc Tryd.prog Tryd.f3 (OpenSpec.ofChange Rows.radixBeginsSpec) false w args) (Rows.radixBeginsSpec.post enc Tryd.prog Tryd.f3 false true false false) := by
  refine returnsInHanded_of_change_and (C := Tryd.checked) (X := fun w _ => laidMetH Tryd.prog KidL.laidR w) (fun _ _ _ hh h => h.of_heap hh) Tryd.own started (by kernel_rfl) Tryd.func3
    (ChangeSpec.witness_shaped (enc := enc) (C := Tryd.checked) (os := os) (X := fun w _ => laidMetH Tryd.prog KidL.laidR w) false (World.doorLaid Tryd.prog 400 os) #[.slice none 0 0, .slice none 0 0] 8 rfl (World.shaped_of_RefB (by kernel_rfl) (by kernel_rfl)) (by kernel_rfl) (by kernel_rfl) (by kernel_rfl) (KidL.door_metR os _)) ?_
  intro W base args ds gs before hval0 hW _ _ hL _
  have hval : ∀ (j : Nat) t v, Tryd.f3.params[j]? = some t → args[j]? = some v → Value.okWide Tryd.prog W .any base t v := hval0
  have hW' := hW
  obtain ⟨p, q, hA0, hV, rfl, hfz, hnd⟩ := hW
  have hA : DataW.TrodAll enc Tryd.prog W 0 (fun _ => true) true Tryd.f3.params.toList args.toList ds p := hA0
  rw [Tryd.params3] at hA hval
  obtain ⟨v0, v1, d0, d1, p0, p1, rfl, rfl, rfl, h0, h1⟩ := trodAll_two hA
  obtain ⟨rfl, rfl⟩ := trodVars_none hV
  have htr := KidL.of_laidR hL
  refine Calls.mono (R := fun e w' => e = .returned (.bool true) ∧ Touch (fun _ => False) W w') ?_ fun e W' ⟨he, hw⟩ => (by subst he; exact ⟨_, rfl, law_post Tryd.laidOut (by kernel_rfl) rfl Tryd.underlying4 rfl rfl ⟨rfl, rfl, rfl⟩ hW' (hw.below fun _ h _ => h)⟩)
  obtain ⟨ps, hps, hpp⟩ := rp_of_arg (hval 0 22 v0 rfl rfl) h0
  obtain ⟨k, hk, hkb⟩ := rb_of_arg (hval 1 23 v1 rfl rfl) h1
  by_cases hg : SameP.great ps 30 20 = true
  · exact walk_great v0 v1 ps k _ W htr hps hk (Or.inl hg)
  · have hg : SameP.great ps 30 20 = false := by simpa using hg
    have hgn := great_not (most := 30) (long := 20) hg
    by_cases hl : k.length ≤ 30
    · exact walk_small v0 v1 ps k W htr hps hk (fun p hp => ⟨(hpp p hp).1, by have := hgn.2 p hp; omega⟩) hkb hg hgn.1 hgn.2 hl
    · exact walk_great v0 v1 ps k _ W htr hps hk (Or.inr ⟨hg, by omega⟩)
theorem radixBegins_row : Rows.RadixBeginsSaid :=
  OpenClaim.holds_of_wide 3 Tryd.f3 rfl rfl rfl rfl rfl rfl rfl ⟨rfl, rfl, rfl, rfl, rfl⟩ rfl rfl rfl rfl rfl (by kernel_rfl) Tryd.func3 (by kernel_rfl)
    (of_decide_eq_true (by kernel_rfl)) (by unfold Func.isWrapper; first | (rw [if_pos (by decide +kernel)]; kernel_rfl) | (rw [if_neg (by decide +kernel)]; exact ⟨rfl, rfl⟩))
    (fun os started H enc _ => lifted os started H enc)
theorem radixBegins_holds : Rows.RadixBeginsCardSaid :=
  Claim7.holds_tied_plain_at .later [] [.data] true (true, "ecce178eaad04459afb8ccc92e4d2a22b1e163e47b87319aec7ce6fc9ad3f62b") false
    radixBegins_row (fun _ h => by cases h) (by kernel_rfl) (fun _ h => by cases h) radixBegins_row_tie rfl ⟨rfl, rfl⟩ (by kernel_rfl) rfl
    (fun f fn hf hfn => by
      obtain rfl : f = 3 := Option.some.inj ((show Tryd.prog.funcNamed "bramble/bramblelaw14.RadixBegins" = some 3 by kernel_rfl).symm.trans hf) |>.symm
      obtain rfl : fn = Tryd.f3 := (Option.some.inj (Tryd.func3.symm.trans hfn)).symm
      exact ⟨by kernel_rfl, fun j t ht => by
        rw [Tryd.params3] at ht
        have hm : t ∈ [22, 23] := by simpa using Array.mem_of_getElem? ht
        have hall : ([22, 23].all fun u => !Tryd.prog.wantsStandIn u) = true := by kernel_rfl
        exact (show Tryd.prog.wantsStandIn t = false by simpa using List.all_eq_true.1 hall t hm)⟩)
    (by kernel_rfl)
end LawRadixBegins
end Go.Proofs.YtclnnkacfanaiaaDoor
