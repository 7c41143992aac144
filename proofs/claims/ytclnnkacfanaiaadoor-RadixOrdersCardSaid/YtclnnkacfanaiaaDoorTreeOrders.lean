/- The statement RadixOrders: of a tree's keys each stands at its rank, is its own floor and ceiling; the next one's floor is not ahead of it; lists from place to place make the whole. Conditions: none beyond the statement's own guards. -/
import Derived.Test.YtclnnkacfanaiaaDoorTreeP
import Derived.Test.YtclnnkacfanaiaaDoorArg
import Derived.Test.YtclnnkacfanaiaaDoorRows
import Derived.Test.YtclnnkacfanaiaaDoorKidL
import Derived.Test.YtclnnkacfanaiaaDoorCards
import Derived.Test.YtclnnkacfanaiaaDoorTie
namespace Go.Proofs.YtclnnkacfanaiaaDoor
open Go.ChangeShapes Go.WideShapes Go.ChangeAt Go.RowKit Go.Deep
set_option linter.unusedVariables false
set_option linter.unusedSimpArgs false
namespace LawRadixOrders
open TreeA TreeB TreeP ModL
open ModS (great_not pair_none)
open ModT ModP
open ModB (fromK fromN)
open ModF (risesB risesB_step)

abbrev In (w : World) : Nat → Prop := fun b => b < w.heap.size

set_option maxRecDepth 100000 in
set_option maxHeartbeats 8000000 in
theorem walk_small (v0 : Value) (many : Int) (ps : Prs) (w : World) (htr : KidA.Tr w) (h0 : RP w (In w) v0 ps) (hpk : PK ps) (hV : V64 many) (hg : SameP.great ps 40 30 = false) (hm : ps.length ≤ 40) (hL : ∀ p ∈ ps, p.1.length ≤ 30) :
    Calls Tryd.prog 4 #[v0, .int .i64 many] w fun e w' => e = .returned (.bool true) ∧ Ext w w' := by
  obtain ⟨a0, c0, rfl, l1, l2⟩ := h0.shape
  unfold maxLen at l2
  have hgr := SameP.great_any w _ _ ps 40 30 h0 (by decide) (by decide) (by decide) (by decide)
  have hnew := new_yes w htr 5000 (by decide) (by decide)
  unfold TNew at hnew
  rw [hg] at hgr
  have hroom := fun j => sz_mk (m := 5000) hm hL (by decide) j
  have hstep := fun j p (h : ps[j]? = some p) => mkK_take ps j p h
  have hml : (mkK ps).length ≤ 1000000 := Nat.le_trans (mkK_length _) (by omega)
  have hhas := fun i p (h : ps[i]? = some p) => mk_has h
  have hr := mkK_rises ps
  have Htr := Lib.hid htr
  clear htr
  have Hgr := Lib.hid hgr
  clear hgr
  have Hnew := Lib.hid hnew
  clear hnew
  have H0 := Lib.hid h0
  clear h0
  have Hpk := Lib.hid hpk
  clear hpk
  have HV := Lib.hid hV
  clear hV
  have Hroom := Lib.hid hroom
  clear hroom
  have Hstep := Lib.hid hstep
  clear hstep
  have HL := Lib.hid hL
  clear hL
  have Hhas := Lib.hid hhas
  clear hhas
  have Hr := Lib.hid hr
  clear hr
  clear hg
  go_enter Tryd.func4, Tryd.ntmps4
  go_wp2_with (fail)
  refine Hgr.out.mono ?_
  rintro e w' ⟨rfl, rfl⟩
  go_wp2_with (fail)
  (with_reducible refine Hnew.out.mono ?_)
  rintro e w1 ⟨t, F, rfl, htp, hF, t1⟩
  have Htp := Lib.hid htp
  clear htp
  have HF := Lib.hid hF
  clear hF
  have T1 := Lib.hid t1
  clear t1
  go_wp2_with (fail)
  go_loopw [6] (fun s6 wr => ∃ (j : Nat) (F : Nat → Prop), j ≤ ps.length ∧ s6 = .int .i64 j ∧ Tp wr t F (mkK (ps.take j)) 5000 ∧ (∀ b, F b → w.heap.size ≤ b) ∧ Ext w wr) (fun s6 _ => ps.length - (intOf s6).toNat)
  case atStart => exact ⟨0, F, by omega, rfl, Htp.out, HF.out, T1.out⟩
  case round =>
    obtain ⟨j, F', hj, rfl, htp, hF, ht⟩ := hrel
    clear Htp HF T1
    by_cases hjk : j < ps.length
    · obtain ⟨b, off, rfl, hb⟩ := H0.out.addr (by omega)
      have hgj := List.getElem?_eq_getElem hjk
      obtain ⟨kv, d0, d1', hkv⟩ := (H0.out.ext ht).get _ _ hgj
      have hpp := Hpk.out _ (List.mem_of_getElem? hgj)
      have hst := Hstep.out j _ hgj
      generalize ps[j] = p at *
      obtain ⟨ka, kc, rfl, _⟩ := hkv.shape
      have i1 : (j : Int) < (ps.length : Int) := by omega
      have i2 : (0 : Int) ≤ (j : Int) := by omega
      have hbF : ¬ F' b := fun h => by have h1 : b < w.heap.size := hb; have := hF b h; omega
      have hput := put_any wr.drew t (.slice ka p.1.length kc) (mkK (ps.take j)) 5000 p.1 p.2 (htp.ext (Touch.refl _ _).drew) (by have := mkK_length (ps.take j); simp at this; omega) ((hkv.ext (Touch.refl _ _).drew).mono (fun b hb => aw htp (fun h => by have h1 : b < w.heap.size := hb; have := hF b h; omega))) hpp.1 hpp.2 (Or.inr (by rw [← hst]; exact Hroom.out (j + 1)))
      unfold TPut at hput
      rw [← hst] at hput
      have Hput := Lib.hid hput
      clear hput
      have Hst := Lib.hid hst
      clear hst
      have Hkv := Lib.hid hkv
      clear hkv
      have HF := Lib.hid hF
      clear hF
      have Ht := Lib.hid ht
      clear ht
      have Htp := Lib.hid htp
      clear htp
      have HbF := Lib.hid hbF
      clear hbF
      go_wp2_with (fail)
      refine wp_region_plan (.take 0 (.take 1 (.take 2 (.take 3 (.take 4 (.take 5 (.take 6 (.take 7 (.take 8 (.take 9 (.take 10 (.must 11 (.take 12 (.take 13 (.take 14 (.take 15 (.take 16 (.take 17 (.take 18 .done))))))))))))))))))) (fun wy => wy.cell? ⟨b, off + j * 2, none⟩ = some (.slice ka p.1.length kc) ∧ wy.cell? ⟨b, off + j * 2 + 1, none⟩ = some (.int .u64 p.2)) (by kernel_rfl) (by kernel_rfl) (by kernel_rfl) rfl ?_ (fun KK hKK => ?_)
      · exact ⟨d0, d1'⟩
      repeat (first
        | (refine wpPlan_take (v := ?_) rfl (by rfl) (fun W hW => ?_) ?_; rotate_left; (focus ((try dsimp only at hW); go_split_ands; go_simp; (try with_reducible rfl); done)); (try simp only [Act.put, List.setIfInBounds_toArray, List.set_cons_zero, List.set_cons_succ]))
        | (refine wpPlan_skip rfl (by rfl) ?_; (try simp only [Act.put, List.setIfInBounds_toArray, List.set_cons_zero, List.set_cons_succ])))
      refine wpPlan_must rfl (by rfl) (fun K hK => ?_)
      go_simp
      (with_reducible refine Hput.out.mono ?_)
      rintro e w3 ⟨rfl, F2, htp2, hu, hsub⟩
      have Htp2 := Lib.hid htp2
      clear htp2
      have Hsub := Lib.hid hsub
      clear hsub
      refine hK.out _ _ ?_ ?_
      · exact ⟨keepc hu HbF.out d0, keepc hu HbF.out d1'⟩
      clear hK K
      (try simp only [Act.put, List.setIfInBounds_toArray, List.set_cons_zero, List.set_cons_succ])
      repeat (first
        | (refine wpPlan_take (v := ?_) rfl (by rfl) (fun W hW => ?_) ?_; rotate_left; (focus ((try dsimp only at hW); go_split_ands; go_simp; (try with_reducible rfl); done)); (try simp only [Act.put, List.setIfInBounds_toArray, List.set_cons_zero, List.set_cons_succ]))
        | (refine wpPlan_skip rfl (by rfl) ?_; (try simp only [Act.put, List.setIfInBounds_toArray, List.set_cons_zero, List.set_cons_succ])))
      refine wpPlan_done (hKK.out _ _ ?_)
      clear hKK KK
      go_wp2_with (fail)
      go_roundw
      case rel => exact ⟨j + 1, F2, by omega, by go_num, Htp2.out, fun b hb => (Hsub.out b hb).elim (HF.out b) (fun h => Nat.le_trans Ht.out.size h), (Ht.out.drew).ext_new hu (fun i hi => HF.out i hi)⟩
      case measure => simp [intOf]; omega
    · obtain rfl : j = ps.length := by omega
      have i1 : ¬ ((ps.length : Nat) : Int) < (ps.length : Int) := by omega
      rw [List.take_length] at htp
      have hmm := fun p (hp : p ∈ mkK ps) => Hpk.out p (mkK_mem hp)
      have hml2 := mkK_length ps
      have hrb : risesB (mkK ps) = true := risesB_step.2 Hr.out
      have hml30 : ∀ p ∈ mkK ps, p.1.length ≤ 30 := fun p hp => HL.out p (mkK_mem hp)
      generalize hMe : mkK ps = M at *
      clear hMe
      have hM : M.length ≤ 40 := by omega
      have hQ := fun W (x : Ext wr W) => (htp.ext x).tq
      have x0 := ht
      have hfr := from_any (G := Any) wr _ (.slice none 0 0) M [] 50 htp.tq (RB.nil _ _) KB.nil (by omega) (by unfold V64; omega)
      have hfa : fromK M [] 50 = M := by rw [show (50 : Int) = ((50 : Nat) : Int) from rfl, from_nil]; exact List.take_of_length_le (by omega)
      rw [hfa] at hfr
      have Htp := Lib.hid htp
      clear htp
      have HF := Lib.hid hF
      clear hF
      have Ht := Lib.hid ht
      clear ht
      have X0 := Lib.hid x0
      clear x0
      have Hfr := Lib.hid hfr
      clear hfr
      have HQ := Lib.hid hQ
      clear hQ
      have Hmm := Lib.hid hmm
      clear hmm
      have Hml30 := Lib.hid hml30
      clear hml30
      have Hrb := Lib.hid hrb
      clear hrb
      have Hfa := Lib.hid hfa
      clear hfa
      go_wp2_with (fail)
      (with_reducible refine Hfr.out.mono ?_)
      rintro e w3 ⟨⟨v3, rfl, ho3⟩, t3⟩
      have ha := ho3.rp.mono (G := Any) (fun _ _ => trivial)
      obtain ⟨aa, ac, rfl, q1, q2, _⟩ := ha.shape
      unfold maxLen at q2
      have hln := len_any _ _ M (HQ.out _ t3)
      have hri := RefI.rises_any w3 _ M ha (by omega) (fun p hp => (Hmm.out p hp).1)
      rw [Hrb.out] at hri
      have Ho3 := Lib.hid ho3
      clear ho3
      have Hln := Lib.hid hln
      clear hln
      have Hri := Lib.hid hri
      clear hri
      have Ha := Lib.hid ha
      clear ha
      have T3 := Lib.hid t3
      clear t3
      go_wp2_with (fail)
      (with_reducible refine Hln.out.mono ?_)
      rintro e w3' ⟨rfl, rfl⟩
      go_wp2_with (fail)
      (with_reducible refine Hri.out.mono ?_)
      rintro e w4 ⟨rfl, t4⟩
      have ha4 := Ha.out.ext t4
      have xb := T3.out.trans' t4
      clear Ha t4 T3 Ho3
      have Ha4 := Lib.hid ha4
      clear ha4
      have Xb := Lib.hid xb
      clear xb
      go_wp2_with (fail)
      go_loopw [11] (fun s11 wr => ∃ j : Nat, j ≤ M.length ∧ s11 = .int .i64 j ∧ Ext w4 wr) (fun s11 _ => M.length - (intOf s11).toNat)
      case atStart => exact ⟨0, by omega, rfl, Touch.refl _ _⟩
      case round =>
        obtain ⟨j, hj, rfl, ht⟩ := hrel
        by_cases hjk : j < M.length
        · obtain ⟨b, off, rfl, _⟩ := Ha4.out.addr (by omega)
          have hgj := List.getElem?_eq_getElem hjk
          obtain ⟨kv, d0, d1', hkv⟩ := Ha4.out.get _ _ hgj
          have hpp := Hmm.out _ (List.mem_of_getElem? hgj)
          have hp30 := Hml30.out _ (List.mem_of_getElem? hgj)
          have s1 := floor_at Hr.out hgj
          have s2 := ceil_at Hr.out hgj
          have s3 := sel_at hgj
          have s4 := (at_rk Hr.out hgj).1
          obtain ⟨q, _, hq2, hq3, hq4, hq5⟩ := floor_next Hr.out (fun p hp => (Hmm.out p hp).1) hgj
          generalize M[j] = p at *
          obtain ⟨ka, kc, rfl, z1, z2, z3⟩ := hkv.shape
          unfold maxLen at z2
          have i1 : (j : Int) < (M.length : Int) := by omega
          have i2 : (0 : Int) ≤ (j : Int) := by omega
          have e0 := keepc ht id d0
          have e1 := keepc ht id d1'
          have hfl := fun W (t : Ext w4 W) => floor_any W _ (.slice ka p.1.length kc) M p.1 (HQ.out _ (Xb.out.trans' t)) (hkv.ext t) hpp.1 (by omega)
          have hce := fun W (t : Ext w4 W) => ceil_any W _ (.slice ka p.1.length kc) M p.1 (HQ.out _ (Xb.out.trans' t)) (hkv.ext t) hpp.1 (by omega)
          have hse := fun W (t : Ext w4 W) => select_any W _ M j (HQ.out _ (Xb.out.trans' t)) (by omega)
          have hrk := fun W (t : Ext w4 W) => rank_any W _ (.slice ka p.1.length kc) M p.1 (HQ.out _ (Xb.out.trans' t)) (hkv.ext t) hpp.1 (by omega)
          have hfn := fun W (t : Ext w4 W) (v : Value) (G : Nat → Prop) (hv : RB W G v (p.1 ++ [0])) => floor_any W _ v M (p.1 ++ [0]) (HQ.out _ (Xb.out.trans' t)) hv (hpp.1.append (kb_lit _ (by decide))) (by omega)
          rw [s1] at hfl
          rw [s2] at hce
          rw [s3] at hse
          rw [s4] at hrk
          rw [hq4] at hfn
          have hls := less_str hq3 hpp.1
          rw [hq5] at hls
          clear s1 s2 s3 s4 hq4 hq5
          have Hfl := Lib.hid hfl
          clear hfl
          have Hce := Lib.hid hce
          clear hce
          have Hse := Lib.hid hse
          clear hse
          have Hrk := Lib.hid hrk
          clear hrk
          have Hfn := Lib.hid hfn
          clear hfn
          have Hkv := Lib.hid hkv
          clear hkv
          have Hgj := Lib.hid hgj
          clear hgj
          have Hq3 := Lib.hid hq3
          clear hq3
          go_wp2_with (fail)
          (with_reducible refine (Hfl.out _ ht).mono ?_)
          intro e w5 hp
          obtain ⟨fa, fc, rfl, hof, ht5⟩ := pair_some hp
          clear hp
          have x5 := ht5.alloc (.cells #[.slice fa p.1.length fc, .int .u64 p.2] 33)
          have e0 := keepc x5 id e0
          have e1 := keepc x5 id e1
          have x5 := ht.trans' x5
          have f0 : (w5.alloc (.cells #[.slice fa p.1.length fc, .int .u64 p.2] 33)).cell? ⟨w5.heap.size, 0, none⟩ = some (.slice fa p.1.length fc) := by simp
          have f1 : (w5.alloc (.cells #[.slice fa p.1.length fc, .int .u64 p.2] 33)).cell? ⟨w5.heap.size, 1, none⟩ = some (.int .u64 p.2) := by simp
          have hof := rb_any (hof.rb.ext ((Touch.refl _ _).alloc (.cells #[.slice fa p.1.length fc, .int .u64 p.2] 33)))
          clear ht5 
          have Hof := Lib.hid hof
          clear hof
          go_wp2_with (fail)
          generalize w5.alloc (.cells #[.slice fa p.1.length fc, .int .u64 p.2] 33) = w5' at *
          generalize w5.heap.size = b5 at *
          go_wp2_with (fail)
          (with_reducible refine (Hce.out _ x5).mono ?_)
          intro e w6 hp
          obtain ⟨ca, cc, rfl, hoc, ht6⟩ := pair_some hp
          clear hp
          have x6 := ht6.alloc (.cells #[.slice ca p.1.length cc, .int .u64 p.2] 33)
          have e0 := keepc x6 id e0
          have e1 := keepc x6 id e1
          have f0 := keepc x6 id f0
          have f1 := keepc x6 id f1
          have hof := Hof.out.ext x6
          have x6 := x5.trans' x6
          have g0 : (w6.alloc (.cells #[.slice ca p.1.length cc, .int .u64 p.2] 33)).cell? ⟨w6.heap.size, 0, none⟩ = some (.slice ca p.1.length cc) := by simp
          have g1 : (w6.alloc (.cells #[.slice ca p.1.length cc, .int .u64 p.2] 33)).cell? ⟨w6.heap.size, 1, none⟩ = some (.int .u64 p.2) := by simp
          have hoc := rb_any (hoc.rb.ext ((Touch.refl _ _).alloc (.cells #[.slice ca p.1.length cc, .int .u64 p.2] 33)))
          clear ht6 Hof
          have Hoc := Lib.hid hoc
          clear hoc
          have Hof := Lib.hid hof
          clear hof
          go_wp2_with (fail)
          generalize w6.alloc (.cells #[.slice ca p.1.length cc, .int .u64 p.2] 33) = w6' at *
          generalize w6.heap.size = b6 at *
          go_wp2_with (fail)
          (with_reducible refine (Hse.out _ x6).mono ?_)
          intro e w7 hp
          obtain ⟨sa, sc, rfl, hos, ht7⟩ := pair_some hp
          clear hp
          have x7 := ht7.alloc (.cells #[.slice sa p.1.length sc, .int .u64 p.2] 33)
          have e0 := keepc x7 id e0
          have e1 := keepc x7 id e1
          have f0 := keepc x7 id f0
          have f1 := keepc x7 id f1
          have g0 := keepc x7 id g0
          have g1 := keepc x7 id g1
          have hof := Hof.out.ext x7
          have hoc := Hoc.out.ext x7
          have x7 := x6.trans' x7
          have h0 : (w7.alloc (.cells #[.slice sa p.1.length sc, .int .u64 p.2] 33)).cell? ⟨w7.heap.size, 0, none⟩ = some (.slice sa p.1.length sc) := by simp
          have h1 : (w7.alloc (.cells #[.slice sa p.1.length sc, .int .u64 p.2] 33)).cell? ⟨w7.heap.size, 1, none⟩ = some (.int .u64 p.2) := by simp
          have hos := rb_any (hos.rb.ext ((Touch.refl _ _).alloc (.cells #[.slice sa p.1.length sc, .int .u64 p.2] 33)))
          clear ht7 Hof Hoc
          have Hos := Lib.hid hos
          clear hos
          have Hof := Lib.hid hof
          clear hof
          have Hoc := Lib.hid hoc
          clear hoc
          have hk7 := Hkv.out.ext x7
          have Hk7 := Lib.hid hk7
          clear hk7
          go_wp2_with (first
            | (at_builtin; (refine wpList_push_any _ rfl _ _ 23 rfl 5 (.int .u8 0) 1 1 Tryd.underlying23 info_u8 rfl (by decide) (.slice none 0 0) 0 [] rfl (World.ownsRow_nil _ _ _ _) ka p.1.length kc rfl z3 (ivs .u8 p.1) z1 (by simp [ivs]) Hk7.out.src (ivs_one _ _) (by simp [maxLen]; omega) (by omega) ?_); intro v10 w10 hown10 ht10 hb10; rw [Nat.zero_add, List.nil_append] at hown10; obtain ⟨na, nc, rfl⟩ := own_len hown10)
            | (at_builtin; (refine wpList_push_any _ rfl _ _ 23 rfl 5 (.int .u8 0) 1 1 Tryd.underlying23 info_u8 rfl (by decide) (.slice na p.1.length nc) p.1.length (ivs .u8 p.1) rfl (own_keep hown10 ((Touch.refl (fun _ => False) _).alloc _) (fun _ _ h => h)) (some ⟨w10.heap.size, 0, none⟩) 1 1 rfl (fun h => by cases h) (ivs .u8 [0]) (by decide) (by simp [ivs]) (rb_new w10 [0] 5 (0, 0) _ rfl (by decide)).src (ivs_one _ _) (by simp [maxLen]; omega) (by omega) ?_); intro v11 w11 hown11 ht11 hb11))
          have y10 : Ext (w7.alloc (.cells #[.slice sa p.1.length sc, .int .u64 p.2] 33)) w10 := ht10.new (fun i hi => by simp [Value.ownBlock] at hi)
          have y11 : Ext (w7.alloc (.cells #[.slice sa p.1.length sc, .int .u64 p.2] 33)) w11 := (y10.alloc (.cells #[.int .u8 0] 5)).ext_new ht11 (fun i hi => by
            rcases hb10 with h | h
            · rw [h] at hi; simp [Value.ownBlock] at hi
            · rw [h] at hi; cases hi; exact Nat.le_refl _)
          generalize w7.heap.size = b7 at *
          have hob : OB w11 (fun _ => True) v11 (p.1 ++ [0]) := ⟨by rw [List.length_append, ivs_append]; exact hown11, fun _ _ => trivial⟩
          have hrb11 := hob.rb
          obtain ⟨ra, rc, rfl⟩ := own_len hown11
          have e0 := keepc y11 id e0
          have e1 := keepc y11 id e1
          have f0 := keepc y11 id f0
          have f1 := keepc y11 id f1
          have g0 := keepc y11 id g0
          have g1 := keepc y11 id g1
          have h0 := keepc y11 id h0
          have h1 := keepc y11 id h1
          have hof := Hof.out.ext y11
          have hoc := Hoc.out.ext y11
          have hos := Hos.out.ext y11
          have x11 := x7.trans' y11
          clear y10 y11 hob hown10 hown11 ht10 ht11 hb10 hb11 Hk7 Hof Hoc Hos
          have Hrb11 := Lib.hid hrb11
          clear hrb11
          have Hof := Lib.hid hof
          clear hof
          have Hoc := Lib.hid hoc
          clear hoc
          have Hos := Lib.hid hos
          clear hos
          go_wp2_with (fail)
          (with_reducible refine (Hfn.out _ x11 _ _ Hrb11.out).mono ?_)
          intro e w12 hp
          obtain ⟨da, dc, rfl, hod, ht12⟩ := pair_some hp
          clear hp
          have x12 := ht12.alloc (.cells #[.slice da q.1.length dc, .int .u64 q.2] 33)
          have e0 := keepc x12 id e0
          have e1 := keepc x12 id e1
          have f0 := keepc x12 id f0
          have f1 := keepc x12 id f1
          have g0 := keepc x12 id g0
          have g1 := keepc x12 id g1
          have h0 := keepc x12 id h0
          have h1 := keepc x12 id h1
          have hof := Hof.out.ext x12
          have hoc := Hoc.out.ext x12
          have hos := Hos.out.ext x12
          have x12 := x11.trans' x12
          have k0 : (w12.alloc (.cells #[.slice da q.1.length dc, .int .u64 q.2] 33)).cell? ⟨w12.heap.size, 0, none⟩ = some (.slice da q.1.length dc) := by simp
          have k1 : (w12.alloc (.cells #[.slice da q.1.length dc, .int .u64 q.2] 33)).cell? ⟨w12.heap.size, 1, none⟩ = some (.int .u64 q.2) := by simp
          have hod := rb_any (hod.rb.ext ((Touch.refl _ _).alloc (.cells #[.slice da q.1.length dc, .int .u64 q.2] 33)))
          clear ht12 Hof Hoc Hos
          have Hod := Lib.hid hod
          clear hod
          have Hof := Lib.hid hof
          clear hof
          have Hoc := Lib.hid hoc
          clear hoc
          have Hos := Lib.hid hos
          clear hos
          clear k1
          go_wp2_with (fail)
          generalize w12.alloc (.cells #[.slice da q.1.length dc, .int .u64 q.2] 33) = w7 at *
          generalize w12.heap.size = b12 at *
          have hc1 := fun W (x : Ext w7 W) => conv_any W _ da q.1.length dc q.1 (Hod.out.ext x)
          have hc2 := fun W (x : Ext w7 W) => conv_any W _ ka p.1.length kc p.1 (Hkv.out.ext (x12.trans' x))
          have hc1' := hc1 _ (Touch.refl _ _).drew
          have hc2' := hc2 _ (Touch.refl _ _).drew
          have Hc1 := Lib.hid hc1
          clear hc1
          have Hc2 := Lib.hid hc2
          clear hc2
          refine wp_region_plan (.take 0 (.take 1 (.take 2 (.take 3 (.take 4 (.take 5 (.take 6 (.take 7 (.take 8 (.take 9 (.take 10 (.take 11 (.take 12 (.take 13 (.take 14 (.take 15 (.take 16 (.take 17 (.take 18 (.take 19 (.take 20 (.take 22 (.must 21 (.take 23 (.take 24 (.take 25 (.take 26 (.take 27 (.take 28 (.take 30 (.take 31 (.take 32 (.take 33 (.take 34 (.take 35 (.take 36 (.take 37 (.take 38 (.take 39 (.take 40 (.take 41 (.two 29 42 (.must 42 (.must 43 (.take 44 (.take 45 (.take 46 (.take 47 (.take 48 (.take 49 (.take 50 (.take 51 (.take 52 (.take 53 (.take 54 (.take 55 (.take 56 (.take 57 .done)))))))))))))))) (.must 29 (.must 43 (.take 44 (.take 45 (.take 46 (.take 47 (.take 48 (.take 49 (.take 50 (.take 51 (.take 52 (.take 53 (.take 54 (.take 55 (.take 56 (.take 57 .done)))))))))))))))))))))))))))))))))))))))))))))))))))))))))) (fun wy => Ext w7 wy ∧ wy.cell? ⟨b, off + j * 2, none⟩ = some (.slice ka p.1.length kc) ∧ wy.cell? ⟨b, off + j * 2 + 1, none⟩ = some (.int .u64 p.2) ∧ wy.cell? ⟨b5, 0, none⟩ = some (.slice fa p.1.length fc) ∧ wy.cell? ⟨b5, 1, none⟩ = some (.int .u64 p.2) ∧ wy.cell? ⟨b6, 0, none⟩ = some (.slice ca p.1.length cc) ∧ wy.cell? ⟨b6, 1, none⟩ = some (.int .u64 p.2) ∧ wy.cell? ⟨b7, 0, none⟩ = some (.slice sa p.1.length sc) ∧ wy.cell? ⟨b7, 1, none⟩ = some (.int .u64 p.2) ∧ wy.cell? ⟨b12, 0, none⟩ = some (.slice da q.1.length dc) ∧ (convert 23 9 (.slice da q.1.length dc)).run Tryd.prog wy = .ok (.string (strOfNums q.1)) wy ∧ (convert 23 9 (.slice ka p.1.length kc)).run Tryd.prog wy = .ok (.string (strOfNums p.1)) wy) (by kernel_rfl) (by kernel_rfl) (by kernel_rfl) rfl ?_ (fun KK hKK => ?_)
          · exact ⟨(Touch.refl _ _).drew, e0, e1, f0, f1, g0, g1, h0, h1, k0, hc1', hc2'⟩
          repeat (first
            | (refine wpPlan_take (v := ?_) rfl (by rfl) (fun W hW => ?_) ?_; rotate_left; (focus ((try dsimp only at hW); go_split_ands; go_simp; (try with_reducible rfl); done)); (try simp only [Act.put, List.setIfInBounds_toArray, List.set_cons_zero, List.set_cons_succ]))
            | (refine wpPlan_skip rfl (by rfl) ?_; (try simp only [Act.put, List.setIfInBounds_toArray, List.set_cons_zero, List.set_cons_succ])))
          refine wpPlan_must rfl (by rfl) (fun K hK => ?_)
          go_simp
          (with_reducible refine (Hrk.out _ x12.drew).mono ?_)
          rintro e w8 ⟨rfl, ht8⟩
          have x8 : Ext w7 w8 := (Touch.refl _ _).drew.trans' ht8
          clear hc1' hc2'
          have hSA : ∀ W, Ext w7 W → Ext w7 W ∧ W.cell? ⟨b, off + j * 2, none⟩ = some (.slice ka p.1.length kc) ∧ W.cell? ⟨b, off + j * 2 + 1, none⟩ = some (.int .u64 p.2) ∧ W.cell? ⟨b5, 0, none⟩ = some (.slice fa p.1.length fc) ∧ W.cell? ⟨b5, 1, none⟩ = some (.int .u64 p.2) ∧ W.cell? ⟨b6, 0, none⟩ = some (.slice ca p.1.length cc) ∧ W.cell? ⟨b6, 1, none⟩ = some (.int .u64 p.2) ∧ W.cell? ⟨b7, 0, none⟩ = some (.slice sa p.1.length sc) ∧ W.cell? ⟨b7, 1, none⟩ = some (.int .u64 p.2) ∧ W.cell? ⟨b12, 0, none⟩ = some (.slice da q.1.length dc) ∧ (convert 23 9 (.slice da q.1.length dc)).run Tryd.prog W = .ok (.string (strOfNums q.1)) W ∧ (convert 23 9 (.slice ka p.1.length kc)).run Tryd.prog W = .ok (.string (strOfNums p.1)) W :=
            fun W t => ⟨t, keepc t id e0, keepc t id e1, keepc t id f0, keepc t id f1, keepc t id g0, keepc t id g1, keepc t id h0, keepc t id h1, keepc t id k0, Hc1.out _ t, Hc2.out _ t⟩
          refine hK.out _ _ ?_ ?_
          · exact hSA _ x8
          clear hK K
          (try simp only [Act.put, List.setIfInBounds_toArray, List.set_cons_zero, List.set_cons_succ])
          have HSA := Lib.hid hSA
          clear hSA
          repeat (first
            | (refine wpPlan_take (v := ?_) rfl (by rfl) (fun W hW => ?_) ?_; rotate_left; (focus ((try dsimp only at hW); go_split_ands; go_simp; (try with_reducible rfl); done)); (try simp only [Act.put, List.setIfInBounds_toArray, List.set_cons_zero, List.set_cons_succ]))
            | (refine wpPlan_skip rfl (by rfl) ?_; (try simp only [Act.put, List.setIfInBounds_toArray, List.set_cons_zero, List.set_cons_succ])))
          obtain ⟨A, hA⟩ : ∃ A : Obj, A = .cells #[.slice fa p.1.length fc, .int .u64 p.2, .slice ca p.1.length cc, .int .u64 p.2, .slice sa p.1.length sc, .int .u64 p.2] 33 := ⟨_, rfl⟩
          obtain ⟨B, hB⟩ : ∃ B : Obj, B = .cells #[.slice ka p.1.length kc, .int .u64 p.2, .slice ka p.1.length kc, .int .u64 p.2, .slice ka p.1.length kc, .int .u64 p.2] 33 := ⟨_, rfl⟩
          have hrpA : ∀ W b, Ext w7 W → b = W.heap.size → RP (W.alloc A) Any (.slice (some ⟨b, 0, none⟩) 3 3) [p, p, p] := fun W b t hb => by
            rw [hA]
            exact rp_new W [(.slice fa p.1.length fc, p), (.slice ca p.1.length cc, p), (.slice sa p.1.length sc, p)] _ b hb (by simp [maxLen]) (fun e he => by
              simp only [List.mem_cons, List.not_mem_nil, or_false] at he
              rcases he with rfl | rfl | rfl
              · exact Hof.out.ext t
              · exact Hoc.out.ext t
              · exact Hos.out.ext t)
          have hrpB : ∀ W b, Ext w7 W → b = W.heap.size → RP (W.alloc B) Any (.slice (some ⟨b, 0, none⟩) 3 3) [p, p, p] := fun W b t hb => by
            rw [hB]
            exact rp_new W [(.slice ka p.1.length kc, p), (.slice ka p.1.length kc, p), (.slice ka p.1.length kc, p)] _ b hb (by simp [maxLen]) (fun e he => by
              simp only [List.mem_cons, List.not_mem_nil, or_false] at he
              rcases he with rfl | rfl | rfl <;> exact (rb_any Hkv.out).ext (x12.trans' t))
          have x10 : Ext w7 ((w8.alloc A).alloc B) := (x8.alloc _).alloc _
          have x11 : Ext w7 ((w8.alloc B).alloc A) := (x8.alloc _).alloc _
          have hs1 := SameP.same_pairs ((w8.alloc A).alloc B) _ _ [p, p, p] ((hrpA w8 w8.heap.size x8 rfl).ext ((Touch.refl _ _).alloc B)) (hrpB (w8.alloc A) (w8.heap.size + 1) (x8.alloc _) (by simp)) (by simp) (fun q hq => by simp at hq; subst hq; have := hpp.2; omega)
          have hs2 := SameP.same_pairs ((w8.alloc B).alloc A) _ _ [p, p, p] (hrpA (w8.alloc B) (w8.heap.size + 1) (x8.alloc _) (by simp)) ((hrpB w8 w8.heap.size x8 rfl).ext ((Touch.refl _ _).alloc A)) (by simp) (fun q hq => by simp at hq; subst hq; have := hpp.2; omega)
          clear hrpA hrpB
          rw [hA, hB] at x10 x11 hs1 hs2
          clear hA hB A B
          have y8 := x8
          have Hs1 := Lib.hid hs1
          clear hs1
          have Hs2 := Lib.hid hs2
          clear hs2
          have Y8 := Lib.hid y8
          clear y8
          clear e0 e1 f0 f1 g0 g1 h0 h1 k0
          refine wpPlan_two ?_ ?_
          · refine wpPlan_must rfl (by rfl) (fun K hK => ?_)
            go_simp
            refine hK.out _ _ ?_ ?_
            · exact HSA.out _ (Y8.out.alloc _)
            clear hK K
            (try simp only [Act.put, List.setIfInBounds_toArray, List.set_cons_zero, List.set_cons_succ])
            refine wpPlan_must rfl (by rfl) (fun K hK => ?_)
            go_simp
            refine hK.out _ _ ?_ ?_
            · exact HSA.out _ x10
            clear hK K
            (try simp only [Act.put, List.setIfInBounds_toArray, List.set_cons_zero, List.set_cons_succ])
            refine wpPlan_must rfl (by rfl) (fun K hK => ?_)
            go_simp
            (with_reducible refine Hs1.out.mono ?_)
            rintro e w9 ⟨rfl, ht9⟩
            have x9 := x10.trans' ht9
            refine hK.out _ _ ?_ ?_
            · exact HSA.out _ x9
            clear hK K
            (try simp only [Act.put, List.setIfInBounds_toArray, List.set_cons_zero, List.set_cons_succ])
            repeat (first
              | (refine wpPlan_take (v := ?_) rfl (by rfl) (fun W hW => ?_) ?_; rotate_left; (focus ((try dsimp only at hW); go_split_ands; go_simp; (try with_reducible rfl); done)); (try simp only [Act.put, List.setIfInBounds_toArray, List.set_cons_zero, List.set_cons_succ]))
              | (refine wpPlan_skip rfl (by rfl) ?_; (try simp only [Act.put, List.setIfInBounds_toArray, List.set_cons_zero, List.set_cons_succ])))
            refine wpPlan_done (hKK.out _ _ ?_)
            clear hKK KK
            go_wp2_with (fail)
            go_roundw
            case rel => exact ⟨j + 1, by omega, by go_num, x12.trans' x9⟩
            case measure => simp [intOf]; omega
          · refine wpPlan_must rfl (by rfl) (fun K hK => ?_)
            go_simp
            refine hK.out _ _ ?_ ?_
            · exact HSA.out _ (Y8.out.alloc _)
            clear hK K
            (try simp only [Act.put, List.setIfInBounds_toArray, List.set_cons_zero, List.set_cons_succ])
            refine wpPlan_must rfl (by rfl) (fun K hK => ?_)
            go_simp
            refine hK.out _ _ ?_ ?_
            · exact HSA.out _ x11
            clear hK K
            (try simp only [Act.put, List.setIfInBounds_toArray, List.set_cons_zero, List.set_cons_succ])
            refine wpPlan_must rfl (by rfl) (fun K hK => ?_)
            go_simp
            (with_reducible refine Hs2.out.mono ?_)
            rintro e w9 ⟨rfl, ht9⟩
            have x9 := x11.trans' ht9
            refine hK.out _ _ ?_ ?_
            · exact HSA.out _ x9
            clear hK K
            (try simp only [Act.put, List.setIfInBounds_toArray, List.set_cons_zero, List.set_cons_succ])
            repeat (first
              | (refine wpPlan_take (v := ?_) rfl (by rfl) (fun W hW => ?_) ?_; rotate_left; (focus ((try dsimp only at hW); go_split_ands; go_simp; (try with_reducible rfl); done)); (try simp only [Act.put, List.setIfInBounds_toArray, List.set_cons_zero, List.set_cons_succ]))
              | (refine wpPlan_skip rfl (by rfl) ?_; (try simp only [Act.put, List.setIfInBounds_toArray, List.set_cons_zero, List.set_cons_succ])))
            refine wpPlan_done (hKK.out _ _ ?_)
            clear hKK KK
            go_wp2_with (fail)
            go_roundw
            case rel => exact ⟨j + 1, by omega, by go_num, x12.trans' x9⟩
            case measure => simp [intOf]; omega
        · obtain rfl : j = M.length := by omega
          have i1 : ¬ ((M.length : Nat) : Int) < (M.length : Int) := by omega
          have hlow := SameA.low_any many 6 wr HV.out (by decide) (by decide)
          have hlr := SameA.low_lt many (n := 6) (by decide)
          generalize SameA.low many 6 = lo at *
          obtain ⟨mn, hmn⟩ : ∃ mn : Nat, 1 + lo = (mn : Int) := ⟨(1 + lo).toNat, by omega⟩
          have i2 : IntKind.i64.wrap (1 + lo) = (mn : Int) := by rw [IntKind.wrap_i64]; omega
          have hmn1 : 1 ≤ mn ∧ mn ≤ 6 := by omega
          have Hlow := Lib.hid hlow
          clear hlow
          have Hmn := Lib.hid hmn
          clear hmn
          have Hlr := Lib.hid hlr
          clear hlr
          go_wp2_with (fail)
          (with_reducible refine Hlow.out.mono ?_)
          rintro e w4 ⟨rfl, rfl⟩
          go_wp2_with (fail)
          clear i2
          have Ht := Lib.hid ht
          clear ht
          obtain ⟨wo, rfl⟩ : ∃ wo, wo = wr := ⟨_, rfl⟩
          go_loopw [21, 22, 23] (fun s21 s22 s23 wx => ∃ (i c : Nat) (es : List El) (key : List Int), c = i * mn ∧ c ≤ M.length ∧ s23 = .int .i64 i ∧ Pt wx wo.heap.size s21 es ∧ es.map (·.2) = M.take c ∧ RB wx Any s22 key ∧ KB key ∧ rk M key = c ∧ Ext wo wx) (fun _ _ s23 _ => 50 - (intOf s23).toNat)
          case atStart => exact ⟨0, 0, [], [], by simp, by omega, rfl, Pt.nil _ _, rfl, RB.nil _ _, KB.nil, rk_nil _, Touch.refl _ _⟩
          case round =>
            obtain ⟨i, c, es, key, hc, hcM, rfl, hpt, hes, hkey, kkey, hrkc, htx⟩ := hrel
            have hic : i ≤ c := by rw [hc]; exact Nat.le_mul_of_pos_right _ (by omega)
            have hi50 : (i : Int) < 50 := by omega
            have x4 := Xb.out.trans' (Ht.out.trans' htx)
            have hfr := from_any wr _ u22 M key mn (HQ.out _ x4) hkey kkey (by omega) (by unfold V64; omega)
            have hfk : fromK M key mn = (M.drop c).take mn := by unfold fromK fromN; rw [hrkc]; simp
            rw [hfk] at hfr
            obtain ⟨out, hout⟩ : ∃ out, (M.drop c).take mn = out := ⟨_, rfl⟩
            rw [hout] at hfr hfk
            have hol : out.length = min mn (M.length - c) := by rw [← hout]; simp
            have hpl := hpt.1
            obtain ⟨pa, pc, rfl⟩ := own_len hpl
            have hesl : es.length = c := by have := congrArg List.length hes; simp at this; omega
            have hsz := htx.size
            have hol1 : out.length ≤ mn := by omega
            have hol2 : c + out.length ≤ M.length := by omega
            clear hpl
            rw [hesl] at hpt
            have Hol := Lib.hid hol
            clear hol
            have Hfr := Lib.hid hfr
            clear hfr
            have Hfk := Lib.hid hfk
            clear hfk
            have Hout := Lib.hid hout
            clear hout
            have Hpt := Lib.hid hpt
            clear hpt
            have Hes := Lib.hid hes
            clear hes
            have Hkey := Lib.hid hkey
            clear hkey
            have Kkey := Lib.hid kkey
            clear kkey
            have Hrkc := Lib.hid hrkc
            clear hrkc
            have Htx := Lib.hid htx
            clear htx
            have X4 := Lib.hid x4
            clear x4
            have Hesl := Lib.hid hesl
            clear hesl
            have Hc := Lib.hid hc
            clear hc
            rw [Hesl.out]
            go_wp2_with (fail)
            (with_reducible refine Hfr.out.mono ?_)
            rintro e w5 ⟨⟨v5, rfl, ho5⟩, ht5⟩
            obtain ⟨es2, he2, hc2, hk2⟩ := op_keys ho5
            have hel2 : es2.length = out.length := by rw [← he2]; simp
            obtain ⟨xa, xc, rfl, y1, y2, y3⟩ := hc2.shape
            unfold maxLen at y2
            have hp5 := Hpt.out.ext ht5
            have hplt := fun b hb => (Hpt.out.1.lt b hb).2
            rw [hel2] at hc2 y1
            have dl : decide ((mn : Int) < (out.length : Int)) = false := by simp; omega
            rw [hel2]
            have hsz5 := ht5.size
            have Ho5 := Lib.hid ho5
            clear ho5
            have He2 := Lib.hid he2
            clear he2
            have Hc2 := Lib.hid hc2
            clear hc2
            have Hk2 := Lib.hid hk2
            clear hk2
            have Hel2 := Lib.hid hel2
            clear hel2
            have Hp5 := Lib.hid hp5
            clear hp5
            have Hplt := Lib.hid hplt
            clear hplt
            have Ht5 := Lib.hid ht5
            clear ht5
            by_cases hom : out.length = mn
            · subst hom
              obtain ⟨b2, o2, rfl, hb2⟩ := Hc2.out.addr (by have := Hel2.out; omega)
              obtain ⟨p, hp⟩ : ∃ p, out[out.length - 1]? = some p := ⟨_, List.getElem?_eq_getElem (by omega)⟩
              obtain ⟨kv2, hkv2⟩ := es_get He2.out hp
              obtain ⟨c5, _⟩ := Hc2.out.cell _ _ hkv2
              have hpM : M[c + (out.length - 1)]? = some p := by
                have h1 := hp
                rw [← Hout.out] at h1
                rw [List.getElem?_take] at h1
                split at h1
                · rw [List.getElem?_drop] at h1
                  have h2 := Hol.out
                  rw [Hout.out] at h1
                  exact h1
                · cases h1
              have hkb2 := Hk2.out _ (List.mem_of_getElem? hkv2)
              simp only at hkb2 c5
              have hpp := Hmm.out _ (List.mem_of_getElem? hpM)
              have hnx := rk_next Hr.out (fun p hp => (Hmm.out p hp).1) hpM
              obtain ⟨ka, kc, rfl, z1, z2, z3⟩ := hkb2.shape
              unfold maxLen at z2
              have i5 : (0 : Int) ≤ (out.length : Int) - 1 := by omega
              have i6 : (out.length : Int) - 1 < (out.length : Int) := by omega
              have i7 : IntKind.i64.wrap ((out.length : Int) - 1) = (out.length : Int) - 1 := by rw [IntKind.wrap_i64]; omega
              have i8 : ((out.length : Int) - 1).toNat = out.length - 1 := by omega
              have Hp := Lib.hid hp
              clear hp
              have Hkv2 := Lib.hid hkv2
              clear hkv2
              have HpM := Lib.hid hpM
              clear hpM
              have Hnx := Lib.hid hnx
              clear hnx
              have Hkb2 := Lib.hid hkb2
              clear hkb2
              have Hb2 := Lib.hid hb2
              clear hb2
              go_wp2_with (first
                | (at_builtin; (refine wpList_push_any _ rfl _ _ 22 rfl 33 _ 2 32 Tryd.underlying22 info_pair rfl (by decide) (.slice pa c pc) c (flat es) rfl (by have := Hp5.out.1; rw [Hesl.out] at this; exact this) (some ⟨b2, o2, none⟩) out.length xc rfl (fun h => by cases h) (flat es2) y1 (by rw [flat_length, Hel2.out]) Hc2.out.src (flat_one_cell _ (fun e he => by obtain ⟨a, c, h1, _⟩ := (Hk2.out e he).shape; rw [h1]; rfl)) (by simp [maxLen]; omega) (by omega) ?_); intro v9 w9 hown9 ht9 hb9; (have c9 := keepc ht9 (p := ⟨b2, o2 + (out.length - 1) * 2, none⟩) (fun h => by have h1 : b2 < wr.heap.size := Hplt.out _ h; have h2 : wr.heap.size ≤ b2 := Hb2.out; omega) c5); have hk9 := Hkb2.out.keep ht9 (fun b hb h => by have h1 : b < wr.heap.size := Hplt.out _ h; have h2 : wr.heap.size ≤ b := hb.1; omega))
                | (at_builtin; (refine wpList_push_any _ rfl _ _ 23 rfl 5 (.int .u8 0) 1 1 Tryd.underlying23 info_u8 rfl (by decide) (.slice none 0 0) 0 [] rfl (World.ownsRow_nil _ _ _ _) ka p.1.length kc rfl z3 (ivs .u8 p.1) z1 (by simp [ivs]) hk9.src (ivs_one _ _) (by simp [maxLen]; have := hpp.2; omega) (by have := hpp.2; omega) ?_); intro v10 w10 hown10 ht10 hb10; rw [Nat.zero_add, List.nil_append] at hown10; obtain ⟨qa, qc, rfl⟩ := own_len hown10)
                | (at_builtin; (refine wpList_push_any _ rfl _ _ 23 rfl 5 (.int .u8 0) 1 1 Tryd.underlying23 info_u8 rfl (by decide) (.slice qa p.1.length qc) p.1.length (ivs .u8 p.1) rfl (own_keep hown10 ((Touch.refl (fun _ => False) _).alloc _) (fun _ _ h => h)) (some ⟨w10.heap.size, 0, none⟩) 1 1 rfl (fun h => by cases h) (ivs .u8 [0]) (by decide) (by simp [ivs]) (rb_new w10 [0] 5 (0, 0) _ rfl (by decide)).src (ivs_one _ _) (by simp [maxLen]; have := hpp.2; omega) (by have := hpp.2; omega) ?_); intro v11 w11 hown11 ht11 hb11))
              go_roundw
              case rel =>
                have e10 : Ext w9 w10 := ht10.new (fun i hi => by simp [Value.ownBlock] at hi)
                have e11 : Ext w9 w11 := (e10.alloc _).ext_new ht11 (fun i hi => by
                  rcases hb10 with h | h
                  · rw [h] at hi; simp [Value.ownBlock] at hi
                  · rw [h] at hi; cases hi; exact Nat.le_refl _)
                have p9 : Pt w9 wo.heap.size v9 (es ++ es2) := Pt.push (by rw [← Hesl.out] at Hp5; exact Hp5.out) (by omega) (fun e he => (Hk2.out e he).mono (fun b hb => ⟨hb.2, fun h => by have h1 : b < wr.heap.size := Hplt.out _ (by rw [← Hesl.out]; exact h); have h2 : wr.heap.size ≤ b := hb.1; omega⟩)) (by rw [Hesl.out, Hel2.out]; exact hown9) (by rw [Hesl.out]; exact ht9) (by rw [Hesl.out]; exact hb9)
                have h3 : RB w11 Any (.slice qa p.1.length qc) p.1 → True := fun _ => trivial
                have hob : OB w11 (fun _ => True) v11 (p.1 ++ [0]) := ⟨by rw [List.length_append, ivs_append]; exact hown11, fun _ _ => trivial⟩
                refine ⟨i + 1, c + out.length, es ++ es2, p.1 ++ [0], by rw [Nat.succ_mul, Hc.out], by omega, by go_num, p9.ext e11, ?_, hob.rb, hpp.1.append (kb_lit _ (by decide)), by rw [Hnx.out]; omega, ((Htx.out.trans' Ht5.out).ext_new ht9 (fun b hb => Hpt.out.2.1 b hb)).trans' e11⟩
                have h4 := Hout.out
                rw [List.map_append, Hes.out, He2.out]
                conv => lhs; rw [← h4]
                rw [List.take_add]
              case measure => simp [intOf]; omega
            · have dn : decide (out.length < mn) = true := by simp; omega
              have dn2 : decide ((out.length : Int) < (mn : Int)) = true := by simp; omega
              go_wp2_with (at_builtin; refine wpList_push_any _ rfl _ _ 22 rfl 33 _ 2 32 Tryd.underlying22 info_pair rfl (by decide) (.slice pa c pc) c (flat es) rfl (by have := Hp5.out.1; rw [Hesl.out] at this; exact this) xa out.length xc rfl y3 (flat es2) y1 (by rw [flat_length, Hel2.out]) Hc2.out.src (flat_one_cell _ (fun e he => by obtain ⟨a, c, h1, _⟩ := (Hk2.out e he).shape; rw [h1]; rfl)) (by simp [maxLen]; omega) (by omega) ?_; intro v9 w9 hown9 ht9 hb9)
              have p9 : Pt w9 wo.heap.size v9 (es ++ es2) := Pt.push (by rw [← Hesl.out] at Hp5; exact Hp5.out) (by omega) (fun e he => (Hk2.out e he).mono (fun b hb => ⟨hb.2, fun h => by have h1 : b < wr.heap.size := Hplt.out _ (by rw [← Hesl.out]; exact h); have h2 : wr.heap.size ≤ b := hb.1; omega⟩)) (by rw [Hesl.out, Hel2.out]; exact hown9) (by rw [Hesl.out]; exact ht9) (by rw [Hesl.out]; exact hb9)
              have x9 : Ext wo w9 := (Htx.out.trans' Ht5.out).ext_new ht9 (fun b hb => Hpt.out.2.1 b hb)
              have hfin : M.take c ++ out = M := by
                rw [← Hout.out]
                have h5 := Hol.out
                have h6 : (M.drop c).take mn = M.drop c := List.take_of_length_le (by rw [List.length_drop]; omega)
                rw [h6]
                exact List.take_append_drop c M
              have hpr : RP w9 Any v9 M := by
                have := p9.rp
                rw [List.map_append, Hes.out, He2.out, hfin] at this
                exact this
              have x9' := Xb.out.trans' (Ht.out.trans' x9)
              clear p9 hown9 ht9 hb9 hfin
              have hsp := SameP.same_pairs w9 _ _ M hpr (Ha4.out.ext (Ht.out.trans' x9)) (by omega) (fun q hq => by have := (Hmm.out q hq).2; omega)
              have Hsp := Lib.hid hsp
              clear hsp
              have Hpr := Lib.hid hpr
              clear hpr
              (with_reducible refine Hsp.out.mono ?_)
              rintro e w10 ⟨rfl, ht10⟩
              go_wp2_with (fail)
              refine (TreeW.awake_any _ (Htr.out.ext (X0.out.trans' (x9'.trans' ht10)))).mono ?_
              rintro e w11 ⟨rfl, ht11⟩
              go_wp2_with (fail)
              go_ret
              exact ⟨rfl, X0.out.trans' (x9'.trans' (ht10.trans' ht11))⟩

set_option maxRecDepth 100000 in
set_option maxHeartbeats 400000 in
theorem walk_great (v0 : Value) (many : Int) (ps : Prs) (F : Nat → Prop) (w : World) (htr : KidA.Tr w) (h0 : RP w F v0 ps) (hg : SameP.great ps 40 30 = true) :
    Calls Tryd.prog 4 #[v0, .int .i64 many] w fun e w' => e = .returned (.bool true) ∧ Ext w w' := by
  obtain ⟨a0, c0, rfl, l1, l2⟩ := h0.shape
  unfold maxLen at l2
  have hgr := SameP.great_any w F _ ps 40 30 h0 (by decide) (by decide) (by decide) (by decide)
  rw [hg] at hgr
  have Hgr := Lib.hid hgr
  clear hgr
  have Hg := Lib.hid hg
  clear hg
  go_enter Tryd.func4, Tryd.ntmps4
  go_wp2_with (fail)
  refine Hgr.out.mono ?_
  rintro e w' ⟨rfl, rfl⟩
  go_wp2_with (fail)
  refine (TreeW.awake_any _ htr).mono ?_
  rintro e w' ⟨rfl, ht⟩
  go_wp2_with (fail)
  go_ret
  exact ⟨rfl, ht⟩

set_option maxRecDepth 100000 in
theorem lifted (os : Os) (started : os.Started) (H : Type) (enc : TypeId × Value → H) :
    ReturnsInHanded {} Tryd.checked os 4 .any (fun w args => (Rows.radixOrdersSpec.pre enc Tryd.prog Tryd.f4 [] false w args ∧ laidMetH Tryd.prog KidL.laidR w) ∧ sizedMet enc Tryd.prog Tryd.f4 (OpenSpec.ofChange Rows.radixOrdersSpec) false w args) (Rows.radixOrdersSpec.post enc Tryd.prog Tryd.f4 false true false false) := by
  refine returnsInHanded_of_change_and (C := Tryd.checked) (X := fun w _ => laidMetH Tryd.prog KidL.laidR w) (fun _ _ _ hh h => h.of_heap hh) Tryd.own started (by kernel_rfl) Tryd.func4
    (ChangeSpec.witness_shaped (enc := enc) (C := Tryd.checked) (os := os) (X := fun w _ => laidMetH Tryd.prog KidL.laidR w) false (World.doorLaid Tryd.prog 400 os) #[.slice none 0 0, .int .i64 0] 8 rfl (World.shaped_of_RefB (by kernel_rfl) (by kernel_rfl)) (by kernel_rfl) (by kernel_rfl) (by kernel_rfl) (KidL.door_metR os _)) ?_
  intro W base args ds gs before hval0 hW _ _ hL _
  have hval : ∀ (j : Nat) t v, Tryd.f4.params[j]? = some t → args[j]? = some v → Value.okWide Tryd.prog W .any base t v := hval0
  have hW' := hW
  obtain ⟨p, q, hA0, hV, rfl, hfz, hnd⟩ := hW
  have hA : DataW.TrodAll enc Tryd.prog W 0 (fun _ => true) true Tryd.f4.params.toList args.toList ds p := hA0
  rw [Tryd.params4] at hA hval
  obtain ⟨v0, v1, d0, d1, p0, p1, rfl, rfl, rfl, h0, h1⟩ := trodAll_two hA
  obtain ⟨rfl, rfl⟩ := trodVars_none hV
  have htr := KidL.of_laidR hL
  refine Calls.mono (R := fun e w' => e = .returned (.bool true) ∧ Touch (fun _ => False) W w') ?_ fun e W' ⟨he, hw⟩ => (by subst he; exact ⟨_, rfl, law_post Tryd.laidOut (by kernel_rfl) rfl Tryd.underlying4 rfl rfl ⟨rfl, rfl, rfl⟩ hW' (hw.below fun _ h _ => h)⟩)
  obtain ⟨ps, hps, hpp⟩ := rp_of_arg (hval 0 22 v0 rfl rfl) h0
  obtain ⟨x, rfl, rfl, rfl, hwx⟩ := open_int Tryd.underlying3 (hval 1 3 v1 rfl rfl) h1
  by_cases hg : SameP.great ps 40 30 = true
  · exact walk_great v0 x ps _ W htr hps hg
  · have hg : SameP.great ps 40 30 = false := by simpa using hg
    have hgn := great_not (most := 40) (long := 30) hg
    exact walk_small v0 x ps W htr hps (fun p hp => ⟨(hpp p hp).1, by have := hgn.2 p hp; omega⟩) (v64_wf hwx) hg hgn.1 hgn.2
theorem radixOrders_row : Rows.RadixOrdersSaid :=
  OpenClaim.holds_of_wide 4 Tryd.f4 rfl rfl rfl rfl rfl rfl rfl ⟨rfl, rfl, rfl, rfl, rfl⟩ rfl rfl rfl rfl rfl (by kernel_rfl) Tryd.func4 (by kernel_rfl)
    (of_decide_eq_true (by kernel_rfl)) (by unfold Func.isWrapper; first | (rw [if_pos (by decide +kernel)]; kernel_rfl) | (rw [if_neg (by decide +kernel)]; exact ⟨rfl, rfl⟩))
    (fun os started H enc _ => lifted os started H enc)
theorem radixOrders_holds : Rows.RadixOrdersCardSaid :=
  Claim7.holds_tied_plain_at .later [] [.data] true (true, "ecce178eaad04459afb8ccc92e4d2a22b1e163e47b87319aec7ce6fc9ad3f62b") false
    radixOrders_row (fun _ h => by cases h) (by kernel_rfl) (fun _ h => by cases h) radixOrders_row_tie rfl ⟨rfl, rfl⟩ (by kernel_rfl) rfl
    (fun f fn hf hfn => by
      obtain rfl : f = 4 := Option.some.inj ((show Tryd.prog.funcNamed "bramble/bramblelaw14.RadixOrders" = some 4 by kernel_rfl).symm.trans hf) |>.symm
      obtain rfl : fn = Tryd.f4 := (Option.some.inj (Tryd.func4.symm.trans hfn)).symm
      exact ⟨by kernel_rfl, fun j t ht => by
        rw [Tryd.params4] at ht
        have hm : t ∈ [22, 3] := by simpa using Array.mem_of_getElem? ht
        have hall : ([22, 3].all fun u => !Tryd.prog.wantsStandIn u) = true := by kernel_rfl
        exact (show Tryd.prog.wantsStandIn t = false by simpa using List.all_eq_true.1 hall t hm)⟩)
    (by kernel_rfl)
end LawRadixOrders
end Go.Proofs.YtclnnkacfanaiaaDoor
