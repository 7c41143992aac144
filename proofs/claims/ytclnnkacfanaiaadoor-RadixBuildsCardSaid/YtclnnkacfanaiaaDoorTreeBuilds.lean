/- The statement RadixBuilds: built of any pairs a tree has just these, or it is refused, and stays as it was; want of room is told only where it may be. Conditions: none beyond the statement's own guards. -/
import Derived.Test.YtclnnkacfanaiaaDoorTreeST
import Derived.Test.YtclnnkacfanaiaaDoorRefX
import Derived.Test.YtclnnkacfanaiaaDoorArg
import Derived.Test.YtclnnkacfanaiaaDoorRows
import Derived.Test.YtclnnkacfanaiaaDoorKidL
import Derived.Test.YtclnnkacfanaiaaDoorCards
import Derived.Test.YtclnnkacfanaiaaDoorTie
namespace Go.Proofs.YtclnnkacfanaiaaDoor
open Go.ChangeShapes Go.WideShapes Go.ChangeAt Go.RowKit Go.Deep
set_option linter.unusedVariables false
set_option linter.unusedSimpArgs false
namespace LawRadixBuilds
open TreeB TreeP TreeD TreeS TreeT ModF RefF
open RadU (right_any)
open ModS (great_not)

theorem sz_self (ps : Prs) (hr : Rises ps) : szK ps ≤ sumK ps := by
  have := sz_mk_sum ps ps.length
  rw [List.take_length, ModR.mk_self hr] at this
  exact this

set_option maxRecDepth 100000 in
set_option maxHeartbeats 8000000 in
theorem walk_small (v1 v2 : Value) (n : Int) (bs ps : Prs) (w : World) (htr : KidA.Tr w) (htl : KidA.Tl w) (h1 : RP w (In w) v1 bs) (h2 : RP w (In w) v2 ps) (hpb : PK bs) (hpk : PK ps) (hgb : SameP.great bs 20 30 = false) (hg : SameP.great ps 30 30 = false)
    (hmb : bs.length ≤ 20) (hm : ps.length ≤ 30) (hLb : ∀ p ∈ bs, p.1.length ≤ 30) (hL : ∀ p ∈ ps, p.1.length ≤ 30) (hV : V64 n) :
    Calls Tryd.prog 9 #[.int .i64 n, v1, v2] w fun e w' => e = .returned (.bool true) ∧ Ext w w' := by
  obtain ⟨a1, c1, rfl, l1, l2, _⟩ := h1.shape
  obtain ⟨a2, c2, rfl, l3, l4, _⟩ := h2.shape
  unfold maxLen at l2 l4
  have hgr1 := SameP.great_any w _ _ bs 20 30 h1 (by decide) (by decide) (by decide) (by decide)
  have hgr2 := SameP.great_any w _ _ ps 30 30 h2 (by decide) (by decide) (by decide) (by decide)
  rw [hgb] at hgr1
  rw [hg] at hgr2
  have hlow := SameA.low_ex n 2001 w hV (by decide) (by decide)
  have Htr := Lib.hid htr
  clear htr
  have Htl := Lib.hid htl
  clear htl
  have Hgr1 := Lib.hid hgr1
  clear hgr1
  have Hgr2 := Lib.hid hgr2
  clear hgr2
  have Hlow := Lib.hid hlow
  clear hlow
  have H1 := Lib.hid h1
  clear h1
  have H2 := Lib.hid h2
  clear h2
  have Hpb := Lib.hid hpb
  clear hpb
  have Hpk := Lib.hid hpk
  clear hpk
  have HLb := Lib.hid hLb
  clear hLb
  have HL := Lib.hid hL
  clear hL
  have HV := Lib.hid hV
  clear hV
  clear hgb hg
  go_enter Tryd.func9, Tryd.ntmps9
  go_wp2_with (fail)
  (with_reducible refine Hgr1.out.mono ?_)
  rintro e w' ⟨rfl, rfl⟩
  go_wp2_with (fail)
  (with_reducible refine Hgr2.out.mono ?_)
  rintro e w' ⟨rfl, rfl⟩
  go_wp2_with (fail)
  (with_reducible refine Hlow.out.mono ?_)
  rintro e w' ⟨m, hm0, hm1, rfl, rfl⟩
  have hnew := new_yes w (Htr.out) m hm0 (by omega)
  unfold TNew at hnew
  have Hnew := Lib.hid hnew
  clear hnew
  go_wp2_with (fail)
  (with_reducible refine Hnew.out.mono ?_)
  rintro e w1 ⟨t, F, rfl, htp, hF, t1⟩
  have hs := sx_new (Q := In w) (fun b hb => Nat.lt_of_lt_of_le hb t1.size) (fun b hb hq => by have h3 := hF b hb; have h4 : b < w.heap.size := hq; omega) htp (Htl.out.ext t1) (fun h8 => by have h9 := World.block_lt_of_cell? _ _ Htl.out.l0; have h7 := hF _ h8; simp only at h9; omega)
  have t2 := t1.alloc (.cells #[.slice none 0 0] 55)
  clear htp hF t1
  have Hs := Lib.hid hs
  clear hs
  have T2 := Lib.hid t2
  clear t2
  go_wp2_with (fail)
  generalize w1.heap.size = r at *
  generalize w1.alloc (.cells #[.slice none 0 0] 55) = w2 at *
  go_loopw [9] (fun s9 wr => ∃ (j : Nat) (M : Prs), j ≤ bs.length ∧ s9 = .int .i64 j ∧ M.length ≤ j ∧ Sx (In w) wr t r M M m ∧ Ext w wr) (fun s9 _ => bs.length - (intOf s9).toNat)
  case atStart => exact ⟨0, [], by omega, rfl, by simp, Hs.out, T2.out⟩
  case round =>
    obtain ⟨j, M, hj, rfl, hl, hs, ht⟩ := hrel
    clear Hs T2
    by_cases hjk : j < bs.length
    · obtain ⟨b, off, rfl, hb⟩ := H1.out.addr (by omega)
      have hbw : b < w.heap.size := hb
      have hgj := List.getElem?_eq_getElem hjk
      have hpp := Hpb.out _ (List.mem_of_getElem? hgj)
      have hp30 := HLb.out _ (List.mem_of_getElem? hgj)
      obtain ⟨kv, d0, d1, hkv⟩ := (H1.out.ext ht).get _ _ hgj
      generalize bs[j] = p at *
      obtain ⟨ka, kc, rfl, y1, y2, y3⟩ := hkv.shape
      unfold maxLen at y2
      have i1 : (j : Int) < (bs.length : Int) := by omega
      have i2 : (0 : Int) ≤ (j : Int) := by omega
      have hdn := done_any (hs.ext (Touch.refl _ _).drew) (by omega) _ p.1 p.2 false (hkv.ext (Touch.refl _ _).drew) hpp.1 (by omega)
      unfold SDone at hdn
      have hal := actK_length M m p.1 p.2 false
      have Hgj := Lib.hid hgj
      clear hgj
      have Hpp := Lib.hid hpp
      clear hpp
      have Hkv := Lib.hid hkv
      clear hkv
      have Hs := Lib.hid hs
      clear hs
      have Ht := Lib.hid ht
      clear ht
      have Hdn := Lib.hid hdn
      clear hdn
      go_wp2_with (fail)
      refine wp_region_plan (.take 0 (.take 1 (.take 2 (.take 3 (.take 4 (.take 5 (.take 6 (.take 7 (.take 8 (.take 9 (.take 10 (.take 11 (.take 12 (.must 13 (.take 14 .done))))))))))))))) (fun wy => wy.cell? ⟨b, off + j * 2, none⟩ = some (.slice ka p.1.length kc) ∧ wy.cell? ⟨b, off + j * 2 + 1, none⟩ = some (.int .u64 p.2)) (by kernel_rfl) (by kernel_rfl) (by kernel_rfl) rfl ?_ (fun KK hKK => ?_)
      · exact ⟨d0, d1⟩
      repeat (first
        | (refine wpPlan_take (v := ?_) rfl (by rfl) (fun W hW => ?_) ?_; rotate_left; (focus ((try dsimp only at hW); go_split_ands; go_simp; (try with_reducible rfl); done)); (try simp only [Act.put, List.setIfInBounds_toArray, List.set_cons_zero, List.set_cons_succ]))
        | (refine wpPlan_skip rfl (by rfl) ?_; (try simp only [Act.put, List.setIfInBounds_toArray, List.set_cons_zero, List.set_cons_succ])))
      refine wpPlan_must rfl (by rfl) (fun K hK => ?_)
      go_simp
      (with_reducible refine Hdn.out.mono ?_)
      rintro e w3 ⟨rfl, hs3, x3⟩
      have d0 := keepq x3 hbw d0
      have d1 := keepq x3 hbw d1
      have t3 := extq Ht.out.drew x3 (fun _ h => h)
      generalize actK M m p.1 p.2 false = M3 at *
      have Hs3 := Lib.hid hs3
      clear hs3
      have T3 := Lib.hid t3
      clear t3
      clear x3
      refine hK.out _ _ ?_ ?_
      · exact ⟨d0, d1⟩
      clear hK K
      (try simp only [Act.put, List.setIfInBounds_toArray, List.set_cons_zero, List.set_cons_succ])
      repeat (first
        | (refine wpPlan_take (v := ?_) rfl (by rfl) (fun W hW => ?_) ?_; rotate_left; (focus ((try dsimp only at hW); go_split_ands; go_simp; (try with_reducible rfl); done)); (try simp only [Act.put, List.setIfInBounds_toArray, List.set_cons_zero, List.set_cons_succ]))
        | (refine wpPlan_skip rfl (by rfl) ?_; (try simp only [Act.put, List.setIfInBounds_toArray, List.set_cons_zero, List.set_cons_succ])))
      refine wpPlan_done (hKK.out _ _ ?_)
      clear hKK KK
      go_wp2_with (fail)
      go_roundw
      case rel => exact ⟨j + 1, M3, by omega, by go_num, by omega, Hs3.out, T3.out⟩
      case measure => simp [intOf]; omega
    · obtain rfl : j = bs.length := by omega
      have i1 : ¬ ((bs.length : Nat) : Int) < (bs.length : Int) := by omega
      obtain ⟨F0, htp⟩ := hs.tree
      obtain ⟨R0, hrf⟩ := hs.map
      have hfit := htp.fits
      have hmo := TreeB.most_any wr t M m htp
      have hli := TreeB.live_tp wr t M m htp
      have h2p := H2.out.ext ht
      have hri := fun W (x : Ext wr W) => sright (hs.ext x)
      have hrr := fun W (x : Ext wr W) => RefI.rises_any W _ ps (h2p.ext x) (by omega) (fun p hp => (Hpk.out p hp).1)
      obtain ⟨f1, f2⟩ := hfit
      have g64 : IntKind.i64.wrap (m - (szK M : Int)) = m - (szK M : Int) := by rw [IntKind.wrap_i64]; omega
      cases hri0 : risesB ps with
      | false =>
        have hbu := build_order wr t _ ps h2p (by omega) Hpk.out hri0
        rw [hri0] at hrr
        generalize szK M = sz at *
        have Hmo := Lib.hid hmo
        clear hmo
        have Hli := Lib.hid hli
        clear hli
        have H2p := Lib.hid h2p
        clear h2p
        have Hri := Lib.hid hri
        clear hri
        have Hrr := Lib.hid hrr
        clear hrr
        have Hbu := Lib.hid hbu
        clear hbu
        have Hs := Lib.hid hs
        clear hs
        have Ht := Lib.hid ht
        clear ht
        have Htp := Lib.hid htp
        clear htp
        have Hrf := Lib.hid hrf
        clear hrf
        clear hri0 g64
        go_wp2_with (fail)
        (with_reducible refine Hmo.out.mono ?_)
        rintro e w3 ⟨rfl, rfl⟩
        go_wp2_with (fail)
        (with_reducible refine Hli.out.mono ?_)
        rintro e w3 ⟨rfl, rfl⟩
        go_wp2_with (fail)
        (with_reducible refine Hbu.out.mono ?_)
        rintro e w3 ⟨rfl, x3⟩
        go_wp2_with (fail)
        (with_reducible refine (Hrr.out _ x3).mono ?_)
        rintro e w4 ⟨rfl, x4⟩
        have y4 := x3.trans' x4
        go_wp2_with (fail)
        (with_reducible refine (Hri.out _ y4).mono ?_)
        rintro e w5 ⟨rfl, x5⟩
        go_wp2_with (fail)
        refine (TreeW.awake_any _ (Htr.out.ext (Ht.out.trans' (y4.trans' x5)))).mono ?_
        rintro e w6 ⟨rfl, x6⟩
        go_wp2_with (fail)
        go_ret
        exact ⟨rfl, Ht.out.trans' (y4.trans' (x5.trans' x6))⟩
      | true =>
        have hrises : Rises ps := risesB_step.1 hri0
        rw [hri0] at hrr
        by_cases hroom : (szK ps : Int) ≤ m
        · have hbu := build_ok wr t _ M ps m htp h2p (by omega) Hpk.out hrises hroom
          unfold TBuild at hbu
          have hne := fun W (x : Ext w W) => RefJ.new_any W _ ps (H2.out.ext x) (by omega) Hpk.out
          rw [ModR.mk_self hrises] at hne
          unfold RefJ.RNew at hne
          have htw : w.heap.size ≤ t := by
            rcases Nat.lt_or_ge t w.heap.size with h | h
            · exact absurd rfl (hs.ne t h).1
            · exact h
          clear f1
          generalize szK M = sz at *
          have Hmo := Lib.hid hmo
          clear hmo
          have Hli := Lib.hid hli
          clear hli
          have H2p := Lib.hid h2p
          clear h2p
          have Hri := Lib.hid hri
          clear hri
          have Hrr := Lib.hid hrr
          clear hrr
          have Hbu := Lib.hid hbu
          clear hbu
          have Hs := Lib.hid hs
          clear hs
          have Ht := Lib.hid ht
          clear ht
          have Htp := Lib.hid htp
          clear htp
          have Hrf := Lib.hid hrf
          clear hrf
          have Hroom := Lib.hid hroom
          clear hroom
          have Hrises := Lib.hid hrises
          clear hrises
          have Hne := Lib.hid hne
          clear hne
          clear hri0 g64
          go_wp2_with (fail)
          (with_reducible refine Hmo.out.mono ?_)
          rintro e w3 ⟨rfl, rfl⟩
          go_wp2_with (fail)
          (with_reducible refine Hli.out.mono ?_)
          rintro e w3 ⟨rfl, rfl⟩
          go_wp2_with (fail)
          (with_reducible refine Hbu.out.mono ?_)
          rintro e w3 ⟨rfl, F3, htp3, x3, hF3⟩
          have t3 : Ext w w3 := Ht.out.ext_new x3 (fun i hi => by subst hi; exact htw)
          have hrr3 := RefI.rises_any w3 _ ps (H2.out.ext t3) (by omega) (fun p hp => (Hpk.out p hp).1)
          rw [risesB_step.2 Hrises.out] at hrr3
          have Htp3 := Lib.hid htp3
          clear htp3
          have HF3 := Lib.hid hF3
          clear hF3
          have Hrr3 := Lib.hid hrr3
          clear hrr3
          have T3 := Lib.hid t3
          clear t3
          go_wp2_with (fail)
          (with_reducible refine Hrr3.out.mono ?_)
          rintro e w4 ⟨rfl, x4⟩
          go_wp2_with (fail)
          (with_reducible refine (Hne.out _ (T3.out.trans' x4)).mono ?_)
          rintro e w5 ⟨r5, R5, rfl, hrf5, hR5, x5⟩
          have y5 := x4.trans' x5
          have hri5 := right_any w5 t r5 ps m (Htp3.out.ext y5) hrf5
          have Hri5 := Lib.hid hri5
          clear hri5
          have Hrf5 := Lib.hid hrf5
          clear hrf5
          have HR5 := Lib.hid hR5
          clear hR5
          go_wp2_with (fail)
          (with_reducible refine Hri5.out.mono ?_)
          rintro e w6 ⟨rfl, x6⟩
          go_wp2_with (fail)
          refine (TreeW.awake_any _ (Htr.out.ext (T3.out.trans' (y5.trans' x6)))).mono ?_
          rintro e w7 ⟨rfl, x7⟩
          go_wp2_with (fail)
          go_ret
          exact ⟨rfl, T3.out.trans' (y5.trans' (x6.trans' x7))⟩
        · have hbu := build_full wr t _ M ps m htp h2p (by omega) Hpk.out hrises (by omega)
          have hnd := fun W (x : Ext wr W) => needs_any W _ ps (h2p.ext x) (by omega) (fun p hp => by have := HL.out p hp; omega)
          have hself := sz_self ps hrises
          have hcmp : m - (szK M : Int) < ((sumK ps : Nat) : Int) := by omega
          generalize szK M = sz at *
          have Hmo := Lib.hid hmo
          clear hmo
          have Hli := Lib.hid hli
          clear hli
          have H2p := Lib.hid h2p
          clear h2p
          have Hri := Lib.hid hri
          clear hri
          have Hrr := Lib.hid hrr
          clear hrr
          have Hbu := Lib.hid hbu
          clear hbu
          have Hs := Lib.hid hs
          clear hs
          have Ht := Lib.hid ht
          clear ht
          have Htp := Lib.hid htp
          clear htp
          have Hrf := Lib.hid hrf
          clear hrf
          have Hroom := Lib.hid hroom
          clear hroom
          have Hrises := Lib.hid hrises
          clear hrises
          have Hnd := Lib.hid hnd
          clear hnd
          have Hself := Lib.hid hself
          clear hself
          clear hri0 g64
          go_wp2_with (fail)
          (with_reducible refine Hmo.out.mono ?_)
          rintro e w3 ⟨rfl, rfl⟩
          go_wp2_with (fail)
          (with_reducible refine Hli.out.mono ?_)
          rintro e w3 ⟨rfl, rfl⟩
          go_wp2_with (fail)
          (with_reducible refine Hbu.out.mono ?_)
          rintro e w3 ⟨rfl, x3⟩
          go_wp2_with (fail)
          (with_reducible refine (Hrr.out _ x3).mono ?_)
          rintro e w4 ⟨rfl, x4⟩
          have y4 := x3.trans' x4
          go_wp2_with (fail)
          (with_reducible refine (Hnd.out _ y4).mono ?_)
          rintro e w5 ⟨rfl, x5⟩
          have y5 := y4.trans' x5
          go_wp2_with (fail)
          (with_reducible refine (Hri.out _ y5).mono ?_)
          rintro e w6 ⟨rfl, x6⟩
          go_wp2_with (fail)
          refine (TreeW.awake_any _ (Htr.out.ext (Ht.out.trans' (y5.trans' x6)))).mono ?_
          rintro e w7 ⟨rfl, x7⟩
          go_wp2_with (fail)
          go_ret
          exact ⟨rfl, Ht.out.trans' (y5.trans' (x6.trans' x7))⟩

set_option maxRecDepth 100000 in
set_option maxHeartbeats 800000 in
theorem walk_great (v1 v2 : Value) (n : Int) (bs ps : Prs) (F : Nat → Prop) (w : World) (htr : KidA.Tr w) (h1 : RP w F v1 bs) (h2 : RP w F v2 ps) (h : SameP.great bs 20 30 = true ∨ SameP.great bs 20 30 = false ∧ SameP.great ps 30 30 = true) :
    Calls Tryd.prog 9 #[.int .i64 n, v1, v2] w fun e w' => e = .returned (.bool true) ∧ Ext w w' := by
  obtain ⟨a1, c1, rfl, l1, l2, _⟩ := h1.shape
  obtain ⟨a2, c2, rfl, l3, l4, _⟩ := h2.shape
  unfold maxLen at l2 l4
  have hgr1 := SameP.great_any w _ _ bs 20 30 h1 (by decide) (by decide) (by decide) (by decide)
  have hgr2 := SameP.great_any w _ _ ps 30 30 h2 (by decide) (by decide) (by decide) (by decide)
  rcases h with hg | ⟨hg, hg2⟩
  · rw [hg] at hgr1
    have Hgr1 := Lib.hid hgr1
    clear hgr1
    have Hgr2 := Lib.hid hgr2
    clear hgr2
    clear hg
    go_enter Tryd.func9, Tryd.ntmps9
    go_wp2_with (fail)
    (with_reducible refine Hgr1.out.mono ?_)
    rintro e w' ⟨rfl, rfl⟩
    go_wp2_with (fail)
    refine (TreeW.awake_any _ htr).mono ?_
    rintro e w' ⟨rfl, ht⟩
    go_wp2_with (fail)
    go_ret
    exact ⟨rfl, ht⟩
  · rw [hg] at hgr1
    rw [hg2] at hgr2
    have Hgr1 := Lib.hid hgr1
    clear hgr1
    have Hgr2 := Lib.hid hgr2
    clear hgr2
    clear hg hg2
    go_enter Tryd.func9, Tryd.ntmps9
    go_wp2_with (fail)
    (with_reducible refine Hgr1.out.mono ?_)
    rintro e w' ⟨rfl, rfl⟩
    go_wp2_with (fail)
    (with_reducible refine Hgr2.out.mono ?_)
    rintro e w' ⟨rfl, rfl⟩
    go_wp2_with (fail)
    refine (TreeW.awake_any _ htr).mono ?_
    rintro e w' ⟨rfl, ht⟩
    go_wp2_with (fail)
    go_ret
    exact ⟨rfl, ht⟩

set_option maxRecDepth 100000 in
theorem lifted (os : Os) (started : os.Started) (H : Type) (enc : TypeId × Value → H) :
    ReturnsInHanded {} Tryd.checked os 9 .any (fun w args => (Rows.radixBuildsSpec.pre enc Tryd.prog Tryd.f9 [] false w args ∧ laidMetH Tryd.prog KidL.laidK w) ∧ sizedMet enc Tryd.prog Tryd.f9 (OpenSpec.ofChange Rows.radixBuildsSpec) false w args) (Rows.radixBuildsSpec.post enc Tryd.prog Tryd.f9 false true false false) := by
  refine returnsInHanded_of_change_and (C := Tryd.checked) (X := fun w _ => laidMetH Tryd.prog KidL.laidK w) (fun _ _ _ hh h => h.of_heap hh) Tryd.own started (by kernel_rfl) Tryd.func9
    (ChangeSpec.witness_shaped (enc := enc) (C := Tryd.checked) (os := os) (X := fun w _ => laidMetH Tryd.prog KidL.laidK w) false (World.doorLaid Tryd.prog 400 os) #[.int .i64 0, .slice none 0 0, .slice none 0 0] 8 rfl (World.shaped_of_RefB (by kernel_rfl) (by kernel_rfl)) (by kernel_rfl) (by kernel_rfl) (by kernel_rfl) (KidL.door_met os _)) ?_
  intro W base args ds gs before hval0 hW _ _ hL _
  have hval : ∀ (j : Nat) t v, Tryd.f9.params[j]? = some t → args[j]? = some v → Value.okWide Tryd.prog W .any base t v := hval0
  have hW' := hW
  obtain ⟨p, q, hA0, hV, rfl, hfz, hnd⟩ := hW
  have hA : DataW.TrodAll enc Tryd.prog W 0 (fun _ => true) true Tryd.f9.params.toList args.toList ds p := hA0
  rw [Tryd.params9] at hA hval
  obtain ⟨v0, v1, v2, d0, d1, d2, p0, p1, p2, rfl, rfl, rfl, h0, h1, h2⟩ := trodAll_three hA
  obtain ⟨rfl, rfl⟩ := trodVars_none hV
  have htr := (KidL.of_laid hL).tr
  have htl := (KidL.of_laid hL).tl
  refine Calls.mono (R := fun e w' => e = .returned (.bool true) ∧ Touch (fun _ => False) W w') ?_ fun e W' ⟨he, hw⟩ => (by subst he; exact ⟨_, rfl, law_post Tryd.laidOut (by kernel_rfl) rfl Tryd.underlying4 rfl rfl ⟨rfl, rfl, rfl⟩ hW' (hw.below fun _ h _ => h)⟩)
  obtain ⟨x, rfl, rfl, rfl, hwx⟩ := open_int Tryd.underlying3 (hval 0 3 v0 rfl rfl) h0
  obtain ⟨bs, hbs, hbp⟩ := rp_of_arg (hval 1 22 v1 rfl rfl) h1
  obtain ⟨ps, hps, hpp⟩ := rp_of_arg (hval 2 22 v2 rfl rfl) h2
  by_cases hgb : SameP.great bs 20 30 = true
  · exact walk_great v1 v2 x bs ps _ W htr hbs hps (Or.inl hgb)
  · have hgb : SameP.great bs 20 30 = false := by simpa using hgb
    by_cases hg : SameP.great ps 30 30 = true
    · exact walk_great v1 v2 x bs ps _ W htr hbs hps (Or.inr ⟨hgb, hg⟩)
    · have hg : SameP.great ps 30 30 = false := by simpa using hg
      have hgn := great_not (most := 30) (long := 30) hg
      have hgm := great_not (most := 20) (long := 30) hgb
      exact walk_small v1 v2 x bs ps W htr htl hbs hps (fun p hp => ⟨(hbp p hp).1, by have := hgm.2 p hp; omega⟩) (fun p hp => ⟨(hpp p hp).1, by have := hgn.2 p hp; omega⟩) hgb hg hgm.1 hgn.1 hgm.2 hgn.2 (v64_wf hwx)
theorem radixBuilds_row : Rows.RadixBuildsSaid :=
  OpenClaim.holds_of_wide 9 Tryd.f9 rfl rfl rfl rfl rfl rfl rfl ⟨rfl, rfl, rfl, rfl, rfl⟩ rfl rfl rfl rfl rfl (by kernel_rfl) Tryd.func9 (by kernel_rfl)
    (of_decide_eq_true (by kernel_rfl)) (by unfold Func.isWrapper; first | (rw [if_pos (by decide +kernel)]; kernel_rfl) | (rw [if_neg (by decide +kernel)]; exact ⟨rfl, rfl⟩))
    (fun os started H enc _ => lifted os started H enc)
theorem radixBuilds_holds : Rows.RadixBuildsCardSaid :=
  Claim7.holds_tied_plain_at .later [] [.data, .data] true (true, "ecce178eaad04459afb8ccc92e4d2a22b1e163e47b87319aec7ce6fc9ad3f62b") false
    radixBuilds_row (fun _ h => by cases h) (by kernel_rfl) (fun _ h => by cases h) radixBuilds_row_tie rfl ⟨rfl, rfl⟩ (by kernel_rfl) rfl
    (fun f fn hf hfn => by
      obtain rfl : f = 9 := Option.some.inj ((show Tryd.prog.funcNamed "bramble/bramblelaw14.RadixBuilds" = some 9 by kernel_rfl).symm.trans hf) |>.symm
      obtain rfl : fn = Tryd.f9 := (Option.some.inj (Tryd.func9.symm.trans hfn)).symm
      exact ⟨by kernel_rfl, fun j t ht => by
        rw [Tryd.params9] at ht
        have hm : t ∈ [3, 22, 22] := by simpa using Array.mem_of_getElem? ht
        have hall : ([3, 22, 22].all fun u => !Tryd.prog.wantsStandIn u) = true := by kernel_rfl
        exact (show Tryd.prog.wantsStandIn t = false by simpa using List.all_eq_true.1 hall t hm)⟩)
    (by kernel_rfl)
end LawRadixBuilds
end Go.Proofs.YtclnnkacfanaiaaDoor
