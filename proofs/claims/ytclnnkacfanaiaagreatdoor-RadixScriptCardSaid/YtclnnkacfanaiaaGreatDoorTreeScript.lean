/- The statement RadixScript: whatever is put into a tree and dropped, each call answers as a plain map does, or that there is no room, where it may; the tree is well built behind each, and has the same pairs. Conditions: none beyond the statement's own guards. -/
import Derived.Test.YtclnnkacfanaiaaGreatDoorTreeST
import Derived.Test.YtclnnkacfanaiaaGreatDoorAskC
import Derived.Test.YtclnnkacfanaiaaGreatDoorRows
import Derived.Test.YtclnnkacfanaiaaGreatDoorKidL
import Derived.Test.YtclnnkacfanaiaaGreatDoorCards
import Derived.Test.YtclnnkacfanaiaaGreatDoorTie
namespace Go.Proofs.YtclnnkacfanaiaaGreatDoor
open Go.ChangeShapes Go.WideShapes Go.ChangeAt Go.RowKit Go.Deep
set_option linter.unusedVariables false
set_option linter.unusedSimpArgs false
namespace LawRadixScript
open TreeB TreeP TreeD TreeS TreeT AskB ModF RefF

set_option maxRecDepth 100000 in
set_option maxHeartbeats 8000000 in
theorem walk_small (v1 v2 : Value) (most : Int) (xs : Acts) (k : List Int) (w : World) (htr : KidA.Tr w) (htl : KidA.Tl w) (h1 : RAct w (In w) v1 xs) (h2 : RB w (In w) v2 k) (kb : KB k) (hxs : ∀ x ∈ xs, KB x.1 ∧ 0 ≤ x.2.1 ∧ x.2.1 < 18446744073709551616)
    (hx : xs.length ≤ 60) (hk : k.length ≤ 30) (hm0 : 0 ≤ most) (hm1 : most ≤ 2000) :
    Calls Tryz.prog 4 #[.int .i64 most, v1, v2] w fun e w' => e = .returned (.bool true) ∧ Ext w w' := by
  obtain ⟨a1, c1, rfl, l3, l4⟩ := h1.shape
  obtain ⟨a2, c2, rfl, l5, l6, _⟩ := h2.shape
  unfold maxLen at l4 l6
  have d1 : decide ((60 : Int) < (xs.length : Int)) = false := by simp; omega
  have d2 : decide ((30 : Int) < (k.length : Int)) = false := by simp; omega
  have d3 : decide ((2000 : Int) < most) = false := by simp; omega
  have d4 : decide (most < 0) = false := by simp; omega
  have hnew := new_yes w htr most hm0 (by omega)
  unfold TNew at hnew
  have Htr := Lib.hid htr
  clear htr
  have Htl := Lib.hid htl
  clear htl
  have H1 := Lib.hid h1
  clear h1
  have H2 := Lib.hid h2
  clear h2
  have Kb := Lib.hid kb
  clear kb
  have Hxs := Lib.hid hxs
  clear hxs
  have Hnew := Lib.hid hnew
  clear hnew
  go_enter Tryz.func4, Tryz.ntmps4
  go_wp2_with (fail)
  (with_reducible refine Hnew.out.mono ?_)
  rintro e w1 ⟨t, F, rfl, htp, hF, t1⟩
  have hs := sx_new (Q := In w) (fun b hb => Nat.lt_of_lt_of_le hb t1.size) (fun b hb hq => by have h3 := hF b hb; have h4 : b < w.heap.size := hq; omega) htp (Htl.out.ext t1) (fun h8 => by have h9 := World.block_lt_of_cell? _ _ Htl.out.l0; have h7 := hF _ h8; simp only at h9; omega)
  have t2 := t1.alloc (.cells #[.slice none 0 0] 32)
  clear htp hF t1
  have Hs := Lib.hid hs
  clear hs
  have T2 := Lib.hid t2
  clear t2
  go_wp2_with (fail)
  generalize w1.heap.size = r at *
  generalize w1.alloc (.cells #[.slice none 0 0] 32) = w2 at *
  go_loopw [9] (fun s9 wr => ∃ (j : Nat) (M : Prs), j ≤ xs.length ∧ s9 = .int .i64 j ∧ M.length ≤ j ∧ Sx (In w) wr t r M M most ∧ Ext w wr) (fun s9 _ => xs.length - (intOf s9).toNat)
  case atStart => exact ⟨0, [], by omega, rfl, by simp, Hs.out, T2.out⟩
  case round =>
    obtain ⟨j, M, hj, rfl, hl, hs, ht⟩ := hrel
    clear Hs T2
    by_cases hjk : j < xs.length
    · obtain ⟨b, off, rfl⟩ := H1.out.addr (by omega)
      have hgj := List.getElem?_eq_getElem hjk
      have hxx := Hxs.out _ (List.mem_of_getElem? hgj)
      obtain ⟨kv0, zz, _⟩ := H1.out.get _ _ hgj
      have hbw : b < w.heap.size := World.block_lt_of_cell? _ _ zz
      clear zz
      obtain ⟨kv, z0, z1, z2, hkv⟩ := (H1.out.ext ht).get _ _ hgj
      generalize xs[j] = x at *
      obtain ⟨xk, xv, xd⟩ := x
      simp only at hxx z1 z2 hkv
      obtain ⟨ka, kc, rfl, y1, y2, y3⟩ := hkv.shape
      unfold maxLen at y2
      have i1 : (j : Int) < (xs.length : Int) := by omega
      have i2 : (0 : Int) ≤ (j : Int) := by omega
      by_cases h30 : xk.length ≤ 30
      · have d5 : decide ((30 : Int) < (xk.length : Int)) = false := by simp; omega
        have hdn := done_any hs (by omega) _ xk xv xd hkv hxx.1 (by omega)
        unfold SDone at hdn
        have hal := actK_length M most xk xv xd
        have Hgj := Lib.hid hgj
        clear hgj
        have Hxx := Lib.hid hxx
        clear hxx
        have Hkv := Lib.hid hkv
        clear hkv
        have Hs := Lib.hid hs
        clear hs
        have Ht := Lib.hid ht
        clear ht
        have Hdn := Lib.hid hdn
        clear hdn
        go_wp2_with (fail)
        (with_reducible refine Hdn.out.mono ?_)
        rintro e w3 ⟨rfl, hs3, x3⟩
        generalize actK M most xk xv xd = M3 at *
        have z0 := keepq x3 hbw z0
        have t3 := extq Ht.out x3 (fun _ h => h)
        have hkv3 := rbq Hkv.out x3 (fun b hb => hb)
        obtain ⟨R3, hrf3⟩ := hs3.map
        have htq3 := hs3.tq
        have hlong := hrf3.long
        have hri := sright hs3
        have hq1 := fun W (x : Ext w3 W) => asked_any W _ r (.slice a2 k.length c2) M3 k j (htq3.ext x) (hrf3.ext x) (H2.out.ext (t3.trans' x)) Kb.out (by omega) (by omega) hlong (by unfold V64; omega)
        have hq2 := fun W (x : Ext w3 W) => asked_any W _ r (.slice ka xk.length kc) M3 xk 3 (htq3.ext x) (hrf3.ext x) (hkv3.ext x) Hxx.out.1 (by omega) (by omega) hlong (by unfold V64; omega)
        clear x3 hrf3 htq3 hlong hkv3 z1 z2 Hdn Ht Hs
        have Hs3 := Lib.hid hs3
        clear hs3
        have T3 := Lib.hid t3
        clear t3
        have Hri := Lib.hid hri
        clear hri
        have Hq1 := Lib.hid hq1
        clear hq1
        have Hq2 := Lib.hid hq2
        clear hq2
        go_wp2_with (fail)
        (with_reducible refine Hri.out.mono ?_)
        rintro e w4 ⟨rfl, x4⟩
        have z0 := keepc x4 id z0
        go_wp2_with (fail)
        (with_reducible refine (Hq1.out _ x4).mono ?_)
        rintro e w5 ⟨rfl, x5⟩
        have z0 := keepc x5 id z0
        have y5 := x4.trans' x5
        clear x4 x5
        go_wp2_with (fail)
        (with_reducible refine (Hq2.out _ y5).mono ?_)
        rintro e w6 ⟨rfl, x6⟩
        have y6 := y5.trans' x6
        go_wp2_with (fail)
        go_roundw
        case rel => exact ⟨j + 1, M3, by omega, by go_num, by omega, Hs3.out.ext y6, T3.out.trans' y6⟩
        case measure => simp [intOf]; omega
      · have d5 : decide ((30 : Int) < (xk.length : Int)) = true := by simp; omega
        have Hgj := Lib.hid hgj
        clear hgj
        have Hxx := Lib.hid hxx
        clear hxx
        have Hkv := Lib.hid hkv
        clear hkv
        have Hs := Lib.hid hs
        clear hs
        have Ht := Lib.hid ht
        clear ht
        go_wp2_with (fail)
        refine (TreeW.awake_any _ (Htr.out.ext Ht.out)).mono ?_
        rintro e w7 ⟨rfl, t7⟩
        go_wp2_with (fail)
        go_ret
        exact ⟨rfl, Ht.out.trans' t7⟩
    · obtain rfl : j = xs.length := by omega
      have i1 : ¬ ((xs.length : Nat) : Int) < (xs.length : Int) := by omega
      have Hs := Lib.hid hs
      clear hs
      have Ht := Lib.hid ht
      clear ht
      go_wp2_with (fail)
      refine (TreeW.awake_any _ (Htr.out.ext Ht.out)).mono ?_
      rintro e w7 ⟨rfl, t7⟩
      go_wp2_with (fail)
      go_ret
      exact ⟨rfl, Ht.out.trans' t7⟩

set_option maxRecDepth 100000 in
set_option maxHeartbeats 800000 in
/-- of fewer cells than none there is no tree -/
theorem walk_neg (v1 v2 : Value) (most : Int) (xs : Acts) (k : List Int) (F : Nat → Prop) (w : World) (htr : KidA.Tr w) (h1 : RAct w F v1 xs) (h2 : RB w F v2 k) (hx : xs.length ≤ 60) (hk : k.length ≤ 30) (hm0 : most < 0) :
    Calls Tryz.prog 4 #[.int .i64 most, v1, v2] w fun e w' => e = .returned (.bool true) ∧ Ext w w' := by
  obtain ⟨a1, c1, rfl, l3, l4⟩ := h1.shape
  obtain ⟨a2, c2, rfl, l5, l6, _⟩ := h2.shape
  unfold maxLen at l4 l6
  have d1 : decide ((60 : Int) < (xs.length : Int)) = false := by simp; omega
  have d2 : decide ((30 : Int) < (k.length : Int)) = false := by simp; omega
  have d3 : decide ((2000 : Int) < most) = false := by simp; omega
  have d4 : decide (most < 0) = true := by simp; omega
  have hnew := new_no w most (Or.inl hm0)
  have x1 : Ext w (w.alloc (.cells #[.slice none 0 0] 32)) := (Touch.refl _ _).alloc _
  by_cases h0 : 0 < xs.length
  · have i1 : (0 : Int) < (xs.length : Int) := by omega
    have Htr := Lib.hid htr
    clear htr
    have H1 := Lib.hid h1
    clear h1
    have H2 := Lib.hid h2
    clear h2
    have Hnew := Lib.hid hnew
    clear hnew
    go_enter Tryz.func4, Tryz.ntmps4
    go_wp2_with (fail)
    (with_reducible refine Hnew.out.mono ?_)
    rintro e w1 ⟨rfl, rfl⟩
    go_wp2_with (fail)
    refine wp_loop_rounds 1 ?_
    rw [rounds_succ]
    go_wp2_with (fail)
    refine (TreeW.awake_any _ (Htr.out.ext x1)).mono ?_
    rintro e w7 ⟨rfl, t7⟩
    go_wp2_with (fail)
    go_ret
    exact ⟨rfl, x1.trans' t7⟩
  · have i1 : ¬ (0 : Int) < (xs.length : Int) := by omega
    have Htr := Lib.hid htr
    clear htr
    have H1 := Lib.hid h1
    clear h1
    have H2 := Lib.hid h2
    clear h2
    have Hnew := Lib.hid hnew
    clear hnew
    go_enter Tryz.func4, Tryz.ntmps4
    go_wp2_with (fail)
    (with_reducible refine Hnew.out.mono ?_)
    rintro e w1 ⟨rfl, rfl⟩
    go_wp2_with (fail)
    refine wp_loop_rounds 1 ?_
    rw [rounds_succ]
    go_wp2_with (fail)
    refine (TreeW.awake_any _ (Htr.out.ext x1)).mono ?_
    rintro e w7 ⟨rfl, t7⟩
    go_wp2_with (fail)
    go_ret
    exact ⟨rfl, x1.trans' t7⟩

set_option maxRecDepth 100000 in
set_option maxHeartbeats 800000 in
theorem walk_great (v1 v2 : Value) (most : Int) (xs : Acts) (k : List Int) (F : Nat → Prop) (w : World) (htr : KidA.Tr w) (h1 : RAct w F v1 xs) (h2 : RB w F v2 k) (h : 60 < xs.length ∨ xs.length ≤ 60 ∧ 30 < k.length ∨ xs.length ≤ 60 ∧ k.length ≤ 30 ∧ 2000 < most) :
    Calls Tryz.prog 4 #[.int .i64 most, v1, v2] w fun e w' => e = .returned (.bool true) ∧ Ext w w' := by
  obtain ⟨a1, c1, rfl, l3, l4⟩ := h1.shape
  obtain ⟨a2, c2, rfl, l5, l6, _⟩ := h2.shape
  unfold maxLen at l4 l6
  clear h1 h2
  rcases h with h | ⟨g1, h⟩ | ⟨g1, g2, h⟩
  · have d1 : decide ((60 : Int) < (xs.length : Int)) = true := by simp; omega
    clear h
    go_enter Tryz.func4, Tryz.ntmps4
    go_wp2_with (fail)
    refine (TreeW.awake_any _ htr).mono ?_
    rintro e w' ⟨rfl, ht⟩
    go_wp2_with (fail)
    go_ret
    exact ⟨rfl, ht⟩
  · have d1 : decide ((60 : Int) < (xs.length : Int)) = false := by simp; omega
    have d2 : decide ((30 : Int) < (k.length : Int)) = true := by simp; omega
    clear h
    go_enter Tryz.func4, Tryz.ntmps4
    go_wp2_with (fail)
    refine (TreeW.awake_any _ htr).mono ?_
    rintro e w' ⟨rfl, ht⟩
    go_wp2_with (fail)
    go_ret
    exact ⟨rfl, ht⟩
  · have d1 : decide ((60 : Int) < (xs.length : Int)) = false := by simp; omega
    have d2 : decide ((30 : Int) < (k.length : Int)) = false := by simp; omega
    have d3 : decide ((2000 : Int) < most) = true := by simp; omega
    clear h
    go_enter Tryz.func4, Tryz.ntmps4
    go_wp2_with (fail)
    refine (TreeW.awake_any _ htr).mono ?_
    rintro e w' ⟨rfl, ht⟩
    go_wp2_with (fail)
    go_ret
    exact ⟨rfl, ht⟩

set_option maxRecDepth 100000 in
theorem lifted (os : Os) (started : os.Started) (H : Type) (enc : TypeId × Value → H) :
    ReturnsInHanded {} Tryz.checked os 4 .any (fun w args => (Rows.radixScriptSpec.pre enc Tryz.prog Tryz.f4 [] false w args ∧ laidMetH Tryz.prog KidL.laidK w) ∧ sizedMet enc Tryz.prog Tryz.f4 (OpenSpec.ofChange Rows.radixScriptSpec) false w args) (Rows.radixScriptSpec.post enc Tryz.prog Tryz.f4 false true false false) := by
  refine returnsInHanded_of_change_and (C := Tryz.checked) (X := fun w _ => laidMetH Tryz.prog KidL.laidK w) (fun _ _ _ hh h => h.of_heap hh) Tryz.own started (by kernel_rfl) Tryz.func4
    (ChangeSpec.witness_shaped (enc := enc) (C := Tryz.checked) (os := os) (X := fun w _ => laidMetH Tryz.prog KidL.laidK w) false (World.doorLaid Tryz.prog 400 os) #[.int .i64 0, .slice none 0 0, .slice none 0 0] 8 rfl (World.shaped_of_RefB (by kernel_rfl) (by kernel_rfl)) (by kernel_rfl) (by kernel_rfl) (by kernel_rfl) (KidL.door_met os _)) ?_
  intro W base args ds gs before hval0 hW _ _ hL _
  have hval : ∀ (j : Nat) t v, Tryz.f4.params[j]? = some t → args[j]? = some v → Value.okWide Tryz.prog W .any base t v := hval0
  have hW' := hW
  obtain ⟨p, q, hA0, hV, rfl, hfz, hnd⟩ := hW
  have hA : DataW.TrodAll enc Tryz.prog W 0 (fun _ => true) true Tryz.f4.params.toList args.toList ds p := hA0
  rw [Tryz.params4] at hA hval
  obtain ⟨v0, v1, v2, d0, d1, d2, p0, p1, p2, rfl, rfl, rfl, h0, h1, h2⟩ := trodAll_three hA
  obtain ⟨rfl, rfl⟩ := trodVars_none hV
  have htr := (KidL.of_laid hL).tr
  have htl := (KidL.of_laid hL).tl
  refine Calls.mono (R := fun e w' => e = .returned (.bool true) ∧ Touch (fun _ => False) W w') ?_ fun e W' ⟨he, hw⟩ => (by subst he; exact ⟨_, rfl, law_post Tryz.laidOut (by kernel_rfl) rfl Tryz.underlying4 rfl rfl ⟨rfl, rfl, rfl⟩ hW' (hw.below fun _ h _ => h)⟩)
  obtain ⟨x, rfl, rfl, rfl, hwx⟩ := open_int Tryz.underlying3 (hval 0 3 v0 rfl rfl) h0
  obtain ⟨xs, hxs, hxp⟩ := racts_of_arg (hval 1 43 v1 rfl rfl) h1
  obtain ⟨k, hk, hkb⟩ := rb_of_arg (hval 2 23 v2 rfl rfl) h2
  by_cases hx : xs.length ≤ 60
  · by_cases hl : k.length ≤ 30
    · by_cases hm : x ≤ 2000
      · by_cases h0 : x < 0
        · exact walk_neg v1 v2 x xs k _ W htr hxs hk hx hl h0
        · exact walk_small v1 v2 x xs k W htr htl hxs hk hkb hxp hx hl (by omega) hm
      · exact walk_great v1 v2 x xs k _ W htr hxs hk (Or.inr (Or.inr ⟨hx, hl, by omega⟩))
    · exact walk_great v1 v2 x xs k _ W htr hxs hk (Or.inr (Or.inl ⟨hx, by omega⟩))
  · exact walk_great v1 v2 x xs k _ W htr hxs hk (Or.inl (by omega))
theorem radixScript_row : Rows.RadixScriptSaid :=
  OpenClaim.holds_of_wide 4 Tryz.f4 rfl rfl rfl rfl rfl rfl rfl ⟨rfl, rfl, rfl, rfl, rfl⟩ rfl rfl rfl rfl rfl (by kernel_rfl) Tryz.func4 (by kernel_rfl)
    (of_decide_eq_true (by kernel_rfl)) (by unfold Func.isWrapper; first | (rw [if_pos (by decide +kernel)]; kernel_rfl) | (rw [if_neg (by decide +kernel)]; exact ⟨rfl, rfl⟩))
    (fun os started H enc _ => lifted os started H enc)
theorem radixScript_holds : Rows.RadixScriptCardSaid :=
  Claim7.holds_tied_plain_at .later [] [.data, .data] true (true, "fec81622c4641c71c0916e851485add2a65cf6301ffc68b4b030183b341d6a06") false
    radixScript_row (fun _ h => by cases h) (by kernel_rfl) (fun _ h => by cases h) radixScript_row_tie rfl ⟨rfl, rfl⟩ (by kernel_rfl) rfl
    (fun f fn hf hfn => by
      obtain rfl : f = 4 := Option.some.inj ((show Tryz.prog.funcNamed "bramble/bramblelaw14.RadixScript" = some 4 by kernel_rfl).symm.trans hf) |>.symm
      obtain rfl : fn = Tryz.f4 := (Option.some.inj (Tryz.func4.symm.trans hfn)).symm
      exact ⟨by kernel_rfl, fun j t ht => by
        rw [Tryz.params4] at ht
        have hm : t ∈ [3, 43, 23] := by simpa using Array.mem_of_getElem? ht
        have hall : ([3, 43, 23].all fun u => !Tryz.prog.wantsStandIn u) = true := by kernel_rfl
        exact (show Tryz.prog.wantsStandIn t = false by simpa using List.all_eq_true.1 hall t hm)⟩)
    (by kernel_rfl)
end LawRadixScript
end Go.Proofs.YtclnnkacfanaiaaGreatDoor
