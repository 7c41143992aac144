/- The statement RadixAsks: of whatever pairs a tree was built, all questions are answered as of a plain map; so is each key's, and what stands right behind it. Conditions: none beyond the statement's own guards. -/
import Derived.Test.YtclnnkacfanaiaaGreatDoorTreeP
import Derived.Test.YtclnnkacfanaiaaGreatDoorTreeD
import Derived.Test.YtclnnkacfanaiaaGreatDoorAskC
import Derived.Test.YtclnnkacfanaiaaGreatDoorRadU
import Derived.Test.YtclnnkacfanaiaaGreatDoorArg
import Derived.Test.YtclnnkacfanaiaaGreatDoorRows
import Derived.Test.YtclnnkacfanaiaaGreatDoorKidL
import Derived.Test.YtclnnkacfanaiaaGreatDoorCards
import Derived.Test.YtclnnkacfanaiaaGreatDoorTie
namespace Go.Proofs.YtclnnkacfanaiaaGreatDoor
open Go.ChangeShapes Go.WideShapes Go.ChangeAt Go.RowKit Go.Deep
set_option linter.unusedVariables false
set_option linter.unusedSimpArgs false
namespace LawRadixAsks
open TreeB TreeP TreeD AskB RadU
open ModL (rb_new kb_lit conv_lit)
open ModS (great_not)

abbrev In (w : World) : Nat → Prop := fun b => b < w.heap.size

set_option maxRecDepth 100000 in
set_option maxHeartbeats 8000000 in
theorem walk_small (v0 v1 : Value) (n : Int) (ps : Prs) (k : List Int) (w : World) (htr : KidA.Tr w) (h0 : RP w (In w) v0 ps) (h1 : RB w (In w) v1 k) (hpk : PK ps) (kb : KB k) (hg : SameP.great ps 40 30 = false) (hm : ps.length ≤ 40) (hL : ∀ p ∈ ps, p.1.length ≤ 30) (hk : k.length ≤ 40) (hV : V64 n) :
    Calls Tryz.prog 3 #[v0, v1, .int .i64 n] w fun e w' => e = .returned (.bool true) ∧ Ext w w' := by
  obtain ⟨a0, c0, rfl, l1, l2⟩ := h0.shape
  obtain ⟨a1, c1, rfl, l3, l4, _⟩ := h1.shape
  unfold maxLen at l2 l4
  have kc := conv_lit
  have hgr := SameP.great_any w _ _ ps 40 30 h0 (by decide) (by decide) (by decide) (by decide)
  rw [hg] at hgr
  have d1 : decide ((40 : Int) < (k.length : Int)) = false := by simp; omega
  have hrn := RefJ.new_any w _ ps h0 (by omega) hpk
  unfold RefJ.RNew at hrn
  have hroom : (szK (mkK ps) : Int) ≤ 5000 := by have := sz_mk (m := 5000) hm hL (by decide) ps.length; rwa [List.take_length] at this
  have hr := mkK_rises ps
  have hml := mkK_length ps
  have hmm := fun p (hp : p ∈ mkK ps) => hpk p (mkK_mem hp)
  have hmL := fun p (hp : p ∈ mkK ps) => hL p (mkK_mem hp)
  generalize hMe : mkK ps = M at *
  have hM : M.length ≤ 40 := by omega
  have Htr := Lib.hid htr
  clear htr
  have Hgr := Lib.hid hgr
  clear hgr
  have Hrn := Lib.hid hrn
  clear hrn
  have Hroom := Lib.hid hroom
  clear hroom
  have Hr := Lib.hid hr
  clear hr
  have Hmm := Lib.hid hmm
  clear hmm
  have HmL := Lib.hid hmL
  clear hmL
  have H0 := Lib.hid h0
  clear h0
  have H1 := Lib.hid h1
  clear h1
  have Hpk := Lib.hid hpk
  clear hpk
  have Kb := Lib.hid kb
  clear kb
  have HL := Lib.hid hL
  clear hL
  have HMe := Lib.hid hMe
  clear hMe
  have HV := Lib.hid hV
  clear hV
  clear hg hml
  go_enter Tryz.func3, Tryz.ntmps3
  go_wp2_with (fail)
  refine Hgr.out.mono ?_
  rintro e w' ⟨rfl, rfl⟩
  go_wp2_with (fail)
  (with_reducible refine Hrn.out.mono ?_)
  rintro e w1 ⟨r, R, rfl, hrf, hR, t1⟩
  obtain ⟨rv, r0, hrow⟩ := hrf.row
  obtain ⟨ra, rc, rfl, _⟩ := hrow.shape
  have hnew := new_yes w1 (Htr.out.ext t1) 5000 (by decide) (by decide)
  unfold TNew at hnew
  have Hnew := Lib.hid hnew
  clear hnew
  have Hrf := Lib.hid hrf
  clear hrf
  have HR := Lib.hid hR
  clear hR
  have T1 := Lib.hid t1
  clear t1
  have Hrow := Lib.hid hrow
  clear hrow
  go_wp2_with (fail)
  (with_reducible refine Hnew.out.mono ?_)
  rintro e w2 ⟨t, F, rfl, htp, hF, t2⟩
  have r0 := keepc t2 id r0
  have hcp := SameP.copied_any w2 _ _ M (Hrow.out.ext t2) (by omega) (fun p hp => by have := (Hmm.out p hp).2; omega)
  have Htp := Lib.hid htp
  clear htp
  have HF := Lib.hid hF
  clear hF
  have T2 := Lib.hid t2
  clear t2
  have Hcp := Lib.hid hcp
  clear hcp
  go_wp2_with (fail)
  (with_reducible refine Hcp.out.mono ?_)
  rintro e w3 ⟨⟨vi, rfl, ho⟩, t3⟩
  have ho := ho.bound
  obtain ⟨ia, ic, rfl, _⟩ := ho.rp.shape
  have r0 := keepc t3 id r0
  have hb := build_ok w3 t _ [] M 5000 (Htp.out.ext t3) ho.rp (by omega) Hmm.out Hr.out Hroom.out
  unfold TBuild at hb
  have ht2 : t < w2.heap.size := Htp.out.lt _ Htp.out.self
  have ht1 : w1.heap.size ≤ t := HF.out _ Htp.out.self
  have hs1 := T1.out.size
  have hs2 := T2.out.size
  have hs3 := t3.size
  have hrR : ∀ b, R b → b < w1.heap.size := Hrf.out.lt
  have x3 := T2.out.trans' t3
  have Hb := Lib.hid hb
  clear hb
  have Ho := Lib.hid ho
  clear ho
  have X3 := Lib.hid x3
  clear x3
  have HrR := Lib.hid hrR
  clear hrR
  have T3 := Lib.hid t3
  clear t3
  go_wp2_with (fail)
  (with_reducible refine Hb.out.mono ?_)
  rintro e w4 ⟨rfl, F4, htp4, t4, hF4⟩
  have hne : r ≠ t := fun h => by have := HrR.out r Hrf.out.self; omega
  have r0 := keepc t4 (fun h => hne h) r0
  have hrf4 := (Hrf.out.ext X3.out).keep t4 (fun b hb h => by have := HrR.out b hb; omega)
  have ho4 := Ho.out.keep t4 (fun b hb h => by have h1 : w2.heap.size ≤ b := hb.1; omega)
  have hrow4 := hrf4.row
  obtain ⟨rv4, r4, hrow4⟩ := hrow4
  rw [r0] at r4
  cases r4
  have hsp := SameP.same_pairs w4 _ _ M ho4.rp hrow4 (by omega) (fun p hp => by have := (Hmm.out p hp).2; omega)
  have hs4 := t4.size
  have x4 : Ext w w4 := (T1.out.trans' X3.out).ext_new t4 (fun i hi => by omega)
  clear Ho Hb t4
  have Htp4 := Lib.hid htp4
  clear htp4
  have HF4 := Lib.hid hF4
  clear hF4
  have Hrf4 := Lib.hid hrf4
  clear hrf4
  have Ho4 := Lib.hid ho4
  clear ho4
  have Hrow4 := Lib.hid hrow4
  clear hrow4
  have Hsp := Lib.hid hsp
  clear hsp
  have X4 := Lib.hid x4
  clear x4
  go_wp2_with (fail)
  (with_reducible refine Hsp.out.mono ?_)
  rintro e w5 ⟨rfl, t5⟩
  have r0 := keepc t5 id r0
  have hov := SameP.over_pairs w5 _ M (Ho4.out.ext t5) (by omega) (fun p hp => by have := (Hmm.out p hp).2; omega)
  have hs5 := t5.size
  have Hov := Lib.hid hov
  clear hov
  have T5 := Lib.hid t5
  clear t5
  go_wp2_with (fail)
  (with_reducible refine Hov.out.mono ?_)
  rintro e w6 ⟨rfl, t6⟩
  have htp6 := (Htp4.out.ext T5.out).keepR t6 (fun b hb h => by
    have h1 : w2.heap.size ≤ b := h.1
    have h2 := h.2
    rcases HF4.out b hb with h3 | h3 <;> omega) (fun h => by have h9 := World.block_lt_of_cell? _ _ Htr.out.r0; have h1 : w2.heap.size ≤ 1 := h.1; simp only at h9; omega)
  have hrf6 := (Hrf4.out.ext T5.out).keep t6 (fun b hb h => by have h1 : w2.heap.size ≤ b := h.1; have := HrR.out b hb; omega)
  have x6 : Ext w w6 := (X4.out.trans' T5.out).ext_new t6 (fun i hi => by have h1 : w2.heap.size ≤ i := hi.1; omega)
  have r0 := keepc t6 (fun h => by have h1 : w2.heap.size ≤ r := h.1; have := HrR.out r Hrf.out.self; omega) r0
  have hri := right_any w6 t r M 5000 htp6 hrf6
  have hask := fun W (x : Ext w6 W) (v : Value) (G : Nat → Prop) (q : List Int) (m : Int) (hv : RB W G v q) (hq : KB q) (hl : q.length ≤ 1000000) (hm2 : V64 m) => asked_any W _ r v M q m (htp6.ext x).tq (hrf6.ext x) hv hq (by omega) hl (fun p hp => (Hmm.out p hp).2) hm2
  obtain ⟨rv6, r6, hrow6⟩ := hrf6.row
  rw [r0] at r6
  cases r6
  clear Hov Ho4 Hrow4 Hsp Hrf4 Htp4 Hcp Hnew Hrn Hgr t6
  have Hri := Lib.hid hri
  clear hri
  have Hask := Lib.hid hask
  clear hask
  have X6 := Lib.hid x6
  clear x6
  have Hrow6 := Lib.hid hrow6
  clear hrow6
  go_wp2_with (fail)
  (with_reducible refine Hri.out.mono ?_)
  rintro e w7 ⟨rfl, t7⟩
  go_wp2_with (fail)
  (with_reducible refine (Hask.out _ t7 _ _ k n (H1.out.ext (X6.out.trans' t7)) Kb.out (by omega) HV.out).mono ?_)
  rintro e w8 ⟨rfl, t8⟩
  have x8 := t7.trans' t8
  go_wp2_with (fail)
  refine (Hask.out _ x8 _ (fun _ => False) [] 2 (RB.nil _ _) KB.nil (by simp) (by unfold V64; omega)).mono ?_
  rintro e w9 ⟨rfl, t9⟩
  have x9 := x8.trans' t9
  go_wp2_with (fail)
  have ya : Ext w9 (w9.alloc (.cells #[.int .u8 255, .int .u8 255, .int .u8 255] 5 (3, 4))) := (Touch.refl _ _).alloc _
  refine (Hask.out _ (x9.trans' ya) _ _ [255, 255, 255] 1 (rb_new w9 [255, 255, 255] 5 (3, 4) _ rfl (by decide)) (kb_lit _ (by decide)) (by decide) (by unfold V64; omega)).mono ?_
  rintro e w10 ⟨rfl, t10⟩
  have x10 := x9.trans' (ya.trans' t10)
  go_wp2_with (fail)
  have xa := x10
  clear x8 x9 t7 t8 t9 t10 ya Hri
  have Xa := Lib.hid xa
  clear xa
  go_loopw [10] (fun s10 wr => ∃ j : Nat, j ≤ M.length ∧ s10 = .int .i64 j ∧ Ext w6 wr) (fun s10 _ => M.length - (intOf s10).toNat)
  case atStart => exact ⟨0, by omega, rfl, Xa.out⟩
  case round =>
    obtain ⟨j, hj, rfl, ht⟩ := hrel
    have q0 := keepc ht id r0
    by_cases hjk : j < M.length
    · obtain ⟨b, off, rfl, _⟩ := Hrow6.out.addr (by omega)
      have hgj := List.getElem?_eq_getElem hjk
      obtain ⟨kv, d0, _, hkv⟩ := Hrow6.out.get _ _ hgj
      have hpp := Hmm.out _ (List.mem_of_getElem? hgj)
      have hp30 := HmL.out _ (List.mem_of_getElem? hgj)
      generalize M[j] = p at *
      obtain ⟨ka, kc, rfl, z1, z2, z3⟩ := hkv.shape
      unfold maxLen at z2
      have i1 : (j : Int) < (M.length : Int) := by omega
      have i2 : (0 : Int) ≤ (j : Int) := by omega
      have e0 := keepc ht id d0
      have ha1 := Hask.out _ ht _ _ p.1 j (hkv.ext ht) hpp.1 (by omega) (by unfold V64; omega)
      have Hgj := Lib.hid hgj
      clear hgj
      have Hkv := Lib.hid hkv
      clear hkv
      have Ha1 := Lib.hid ha1
      clear ha1
      go_wp2_with (fail)
      (with_reducible refine Ha1.out.mono ?_)
      rintro e u1 ⟨rfl, v1⟩
      have y1 := ht.trans' v1
      have q1 := keepc v1 id q0
      have e1 := keepc v1 id e0
      have hk1 := Hkv.out.ext y1
      have Hk1 := Lib.hid hk1
      clear hk1
      go_wp2_with (first
        | (at_builtin; (refine ModS.wpList_push_if _ rfl _ _ 23 rfl 5 (.int .u8 0) 1 1 Tryz.underlying23 info_u8 rfl (by decide) (.slice none 0 0) 0 [] rfl (World.ownsRow_nil _ _ _ _) ka p.1.length kc rfl z3 (ivs .u8 p.1) z1 (by simp [ivs]) Hk1.out.src (ivs_one _ _) (by simp [maxLen]; omega) (by omega) ?_); intro v10 w10 hown10 ht10 hb10; rw [Nat.zero_add, List.nil_append] at hown10; obtain ⟨na, nc, rfl⟩ := own_len hown10)
        | (at_builtin; (refine ModS.wpList_push_if _ rfl _ _ 23 rfl 5 (.int .u8 0) 1 1 Tryz.underlying23 info_u8 rfl (by decide) (.slice na p.1.length nc) p.1.length (ivs .u8 p.1) rfl (own_keep hown10 ((Touch.refl (fun _ => False) _).alloc _) (fun _ _ h => h)) (some ⟨w10.heap.size, 0, none⟩) 1 1 rfl (fun h => by cases h) (ivs .u8 [0]) (by decide) (by simp [ivs]) (rb_new w10 [0] 5 (0, 0) _ rfl (by decide)).src (ivs_one _ _) (by simp [maxLen]; omega) (by omega) ?_); intro v11 w11 hown11 ht11 hb11))
      have y10 : Ext u1 w10 := ht10.new (fun i hi => by simp [Value.ownBlock] at hi)
      have y11 : Ext u1 w11 := (y10.alloc (.cells #[.int .u8 0] 5)).ext_new ht11 (fun i hi => by
        rcases hb10 with h | h
        · rw [h] at hi; simp [Value.ownBlock] at hi
        · rw [h] at hi; cases hi; exact Nat.le_refl _)
      have hob : OB w11 (fun _ => True) v11 (p.1 ++ [0]) := ⟨by rw [List.length_append, ivs_append]; exact hown11, fun _ _ => trivial⟩
      have y12 := y1.trans' y11
      have ha2 := Hask.out _ y12 _ _ (p.1 ++ [0]) 2 hob.rb (hpp.1.append (kb_lit _ (by decide))) (by simp; omega) (by unfold V64; omega)
      have Ha2 := Lib.hid ha2
      clear ha2
      refine Ha2.out.mono ?_
      rintro e u2 ⟨rfl, v2⟩
      go_wp2_with (fail)
      go_roundw
      case rel => exact ⟨j + 1, by omega, by go_num, y12.trans' v2⟩
      case measure => simp [intOf]; omega
    · obtain rfl : j = M.length := by omega
      have i1 : ¬ ((M.length : Nat) : Int) < (M.length : Int) := by omega
      go_wp2_with (fail)
      refine (TreeW.awake_any _ (Htr.out.ext (X6.out.trans' ht))).mono ?_
      rintro e u3 ⟨rfl, v3⟩
      go_wp2_with (fail)
      go_ret
      exact ⟨rfl, X6.out.trans' (ht.trans' v3)⟩

set_option maxRecDepth 100000 in
set_option maxHeartbeats 400000 in
theorem walk_great (v0 v1 : Value) (n : Int) (ps : Prs) (k : List Int) (F : Nat → Prop) (w : World) (htr : KidA.Tr w) (h0 : RP w F v0 ps) (h1 : RB w F v1 k) (h : SameP.great ps 40 30 = true ∨ SameP.great ps 40 30 = false ∧ 40 < k.length) :
    Calls Tryz.prog 3 #[v0, v1, .int .i64 n] w fun e w' => e = .returned (.bool true) ∧ Ext w w' := by
  obtain ⟨a0, c0, rfl, l1, l2⟩ := h0.shape
  obtain ⟨a1, c1, rfl, l3, l4⟩ := h1.shape
  unfold maxLen at l2 l4
  have hgr := SameP.great_any w F _ ps 40 30 h0 (by decide) (by decide) (by decide) (by decide)
  rcases h with hg | ⟨hg, hk⟩
  · rw [hg] at hgr
    clear hg
    have Hgr := Lib.hid hgr
    clear hgr
    go_enter Tryz.func3, Tryz.ntmps3
    go_wp2_with (fail)
    refine Hgr.out.mono ?_
    rintro e w' ⟨rfl, rfl⟩
    go_wp2_with (fail)
    refine (TreeW.awake_any _ htr).mono ?_
    rintro e w' ⟨rfl, ht⟩
    go_wp2_with (fail)
    go_ret
    exact ⟨rfl, ht⟩
  · rw [hg] at hgr
    have dk : decide ((40 : Int) < (k.length : Int)) = true := by simp; omega
    clear hg
    have Hgr := Lib.hid hgr
    clear hgr
    go_enter Tryz.func3, Tryz.ntmps3
    go_wp2_with (fail)
    refine Hgr.out.mono ?_
    rintro e w' ⟨rfl, rfl⟩
    go_wp2_with (fail)
    refine (TreeW.awake_any _ htr).mono ?_
    rintro e w' ⟨rfl, ht⟩
    go_wp2_with (fail)
    go_ret
    exact ⟨rfl, ht⟩

set_option maxRecDepth 100000 in
theorem lifted (os : Os) (started : os.Started) (H : Type) (enc : TypeId × Value → H) :
    ReturnsInHanded {} Tryz.checked os 3 .any (fun w args => (Rows.radixAsksSpec.pre enc Tryz.prog Tryz.f3 [] false w args ∧ laidMetH Tryz.prog KidL.laidR w) ∧ sizedMet enc Tryz.prog Tryz.f3 (OpenSpec.ofChange Rows.radixAsksSpec) false w args) (Rows.radixAsksSpec.post enc Tryz.prog Tryz.f3 false true false false) := by
  refine returnsInHanded_of_change_and (C := Tryz.checked) (X := fun w _ => laidMetH Tryz.prog KidL.laidR w) (fun _ _ _ hh h => h.of_heap hh) Tryz.own started (by kernel_rfl) Tryz.func3
    (ChangeSpec.witness_shaped (enc := enc) (C := Tryz.checked) (os := os) (X := fun w _ => laidMetH Tryz.prog KidL.laidR w) false (World.doorLaid Tryz.prog 400 os) #[.slice none 0 0, .slice none 0 0, .int .i64 0] 8 rfl (World.shaped_of_RefB (by kernel_rfl) (by kernel_rfl)) (by kernel_rfl) (by kernel_rfl) (by kernel_rfl) (KidL.door_metR os _)) ?_
  intro W base args ds gs before hval0 hW _ _ hL _
  have hval : ∀ (j : Nat) t v, Tryz.f3.params[j]? = some t → args[j]? = some v → Value.okWide Tryz.prog W .any base t v := hval0
  have hW' := hW
  obtain ⟨p, q, hA0, hV, rfl, hfz, hnd⟩ := hW
  have hA : DataW.TrodAll enc Tryz.prog W 0 (fun _ => true) true Tryz.f3.params.toList args.toList ds p := hA0
  rw [Tryz.params3] at hA hval
  obtain ⟨v0, v1, v2, d0, d1, d2, p0, p1, p2, rfl, rfl, rfl, h0, h1, h2⟩ := trodAll_three hA
  obtain ⟨rfl, rfl⟩ := trodVars_none hV
  have htr := KidL.of_laidR hL
  refine Calls.mono (R := fun e w' => e = .returned (.bool true) ∧ Touch (fun _ => False) W w') ?_ fun e W' ⟨he, hw⟩ => (by subst he; exact ⟨_, rfl, law_post Tryz.laidOut (by kernel_rfl) rfl Tryz.underlying4 rfl rfl ⟨rfl, rfl, rfl⟩ hW' (hw.below fun _ h _ => h)⟩)
  obtain ⟨ps, hps, hpp⟩ := rp_of_arg (hval 0 22 v0 rfl rfl) h0
  obtain ⟨k, hk, hkb⟩ := rb_of_arg (hval 1 23 v1 rfl rfl) h1
  obtain ⟨x, rfl, rfl, rfl, hwx⟩ := open_int Tryz.underlying3 (hval 2 3 v2 rfl rfl) h2
  by_cases hg : SameP.great ps 40 30 = true
  · exact walk_great v0 v1 x ps k _ W htr hps hk (Or.inl hg)
  · have hg : SameP.great ps 40 30 = false := by simpa using hg
    have hgn := great_not (most := 40) (long := 30) hg
    by_cases hl : k.length ≤ 40
    · exact walk_small v0 v1 x ps k W htr hps hk (fun p hp => ⟨(hpp p hp).1, by have := hgn.2 p hp; omega⟩) hkb hg hgn.1 hgn.2 hl (v64_wf hwx)
    · exact walk_great v0 v1 x ps k _ W htr hps hk (Or.inr ⟨hg, by omega⟩)
theorem radixAsks_row : Rows.RadixAsksSaid :=
  OpenClaim.holds_of_wide 3 Tryz.f3 rfl rfl rfl rfl rfl rfl rfl ⟨rfl, rfl, rfl, rfl, rfl⟩ rfl rfl rfl rfl rfl (by kernel_rfl) Tryz.func3 (by kernel_rfl)
    (of_decide_eq_true (by kernel_rfl)) (by unfold Func.isWrapper; first | (rw [if_pos (by decide +kernel)]; kernel_rfl) | (rw [if_neg (by decide +kernel)]; exact ⟨rfl, rfl⟩))
    (fun os started H enc _ => lifted os started H enc)
theorem radixAsks_holds : Rows.RadixAsksCardSaid :=
  Claim7.holds_tied_plain_at .later [] [.data] true (true, "fec81622c4641c71c0916e851485add2a65cf6301ffc68b4b030183b341d6a06") false
    radixAsks_row (fun _ h => by cases h) (by kernel_rfl) (fun _ h => by cases h) radixAsks_row_tie rfl ⟨rfl, rfl⟩ (by kernel_rfl) rfl
    (fun f fn hf hfn => by
      obtain rfl : f = 3 := Option.some.inj ((show Tryz.prog.funcNamed "bramble/bramblelaw14.RadixAsks" = some 3 by kernel_rfl).symm.trans hf) |>.symm
      obtain rfl : fn = Tryz.f3 := (Option.some.inj (Tryz.func3.symm.trans hfn)).symm
      exact ⟨by kernel_rfl, fun j t ht => by
        rw [Tryz.params3] at ht
        have hm : t ∈ [22, 23, 3] := by simpa using Array.mem_of_getElem? ht
        have hall : ([22, 23, 3].all fun u => !Tryz.prog.wantsStandIn u) = true := by kernel_rfl
        exact (show Tryz.prog.wantsStandIn t = false by simpa using List.all_eq_true.1 hall t hm)⟩)
    (by kernel_rfl)
end LawRadixAsks
end Go.Proofs.YtclnnkacfanaiaaGreatDoor
