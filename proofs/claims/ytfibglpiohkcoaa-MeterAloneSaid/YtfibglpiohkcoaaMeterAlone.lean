/- The statement MeterAlone: counters do not mind one another: each is the sum of what was added to it, the most that was told of one is the greatest: for every two lists of numbers the law returns true, and the arguments read as they did. No condition. -/
import Derived.Test.YtfibglpiohkcoaaMeterD
import Derived.Test.YtfibglpiohkcoaaMeterE
import Derived.Test.YtfibglpiohkcoaaSameA
import Derived.Test.YtfibglpiohkcoaaLaw
import Derived.Deep.DeepCutAuto
import Derived.Deep.CutBlock
namespace Go.Proofs.Ytfibglpiohkcoaa
open Go.ChangeShapes Go.WideShapes Go.ChangeAt Go.RowKit
set_option linter.unusedVariables false
set_option linter.unusedSimpArgs false

namespace LawMeterAlone
open MeterA SameA

set_option maxRecDepth 100000 in
set_option maxHeartbeats 1600000 in
theorem walk_small (v0 v1 : Value) (xs ys : List Int) (w : World) (h0 : Reads w v0 (ivs .i64 xs)) (h1 : Reads w v1 (ivs .i64 ys)) (l0 : xs.length ≤ 60) (l1 : ys.length ≤ 60) (b0 : ∀ x ∈ xs, V64 x) (b1 : ∀ x ∈ ys, V64 x) :
    Calls Try.prog 5 #[v0, v1] w fun e w' => e = .returned (.bool true) ∧ Touch (fun _ => False) w w' := by
  obtain ⟨a0, c0, rfl, _, _⟩ := h0.shape
  obtain ⟨a1, c1, rfl, _, _⟩ := h1.shape
  simp only [ivs_length] at h0 h1 ⊢
  have B0 := Lib.hid b0
  have B1 := Lib.hid b1
  clear b0 b1
  go_enter Try.func5, Try.ntmps5
  go_wp2_with (fail)
  refine (new_met _).mono ?_
  rintro e w1 ⟨rfl, hm1, ht1⟩
  go_wp2_with (fail)
  refine (new_met _).mono ?_
  rintro e w2 ⟨rfl, hm2, ht2⟩
  have Hm1 := Lib.hid (hm1.keep ht2 id)
  have Hm2 := Lib.hid hm2
  have h12 : w.heap.size < w1.heap.size := by have := hm1.lt; omega
  have h23 : w1.heap.size < w2.heap.size := by have := hm2.lt; omega
  have Ht := Lib.hid (ht1.trans ht2 (fun _ h _ => h))
  clear hm1 hm2 ht1 ht2
  go_wp2_with (fail)
  go_loopw [9] (fun s9 wr => ∃ (k : Nat) (c1 c2 : Nat → Int), k ≤ xs.length ∧ k ≤ ys.length ∧ s9 = .int .i64 k ∧ Cnt wr w.heap.size c1 ∧ Cnt wr w1.heap.size c2 ∧ Cnt wr w2.heap.size c1 ∧ Cnt wr (w2.heap.size + 1) c2 ∧ Touch (fun _ => False) w wr) (fun s9 _ => xs.length - (intOf s9).toNat)
  case atStart =>
    refine ⟨0, fun _ => 0, fun _ => 0, by omega, by omega, rfl, ?_, ?_, ?_, ?_, (Ht.out.alloc _).alloc _⟩
    · exact Hm1.out.keep (S := fun _ => False) (((Touch.refl _ _).alloc _).alloc _) id
    · exact Hm2.out.keep (S := fun _ => False) (((Touch.refl _ _).alloc _).alloc _) id
    · exact (cnt_new _ _).keep (S := fun _ => False) ((Touch.refl _ _).alloc _) id
    · have h := cnt_new (w2.alloc (.cells #[.int .i64 0, .int .i64 0, .int .i64 0, .int .i64 0, .int .i64 0, .int .i64 0, .int .i64 0, .int .i64 0, .int .i64 0, .int .i64 0, .int .i64 0, .int .i64 0] 27)) 27
      rw [World.size_alloc] at h
      exact h
  case round =>
    clear Hm1 Hm2 Ht
    obtain ⟨k, c1, c2, hkx, hky, rfl, hm, hg, hs, ht, htt⟩ := hrel
    have hsz := htt.size
    by_cases hlt : k < xs.length ∧ k < ys.length
    · obtain ⟨hlx, hly⟩ := hlt
      obtain ⟨b0, o0, rfl⟩ := h0.addr (by simpa using (by omega : 0 < xs.length))
      obtain ⟨b1, o1, rfl⟩ := h1.addr (by simpa using (by omega : 0 < ys.length))
      obtain ⟨x, hx, y0⟩ := reads_cell (h0.keep htt (fun _ _ h => h)) k hlx
      obtain ⟨y, hy, y1⟩ := reads_cell (h1.keep htt (fun _ _ h => h)) k hly
      have bx : V64 x := B0.out x (List.mem_of_getElem? hx)
      have by' : V64 y := B1.out y (List.mem_of_getElem? hy)
      have BX := Lib.hid bx
      have BY := Lib.hid by'
      clear hx hy bx by'
      have Hm := Lib.hid hm
      have Hg := Lib.hid hg
      have Hs := Lib.hid hs
      have Htc := Lib.hid ht
      clear hm hg hs ht
      go_wp2_with (fail)
      go_region_held3 (fun wy => wy.cell? ⟨b0, o0 + k, none⟩ = some (.int .i64 x) ∧ wy.cell? ⟨b1, o1 + k, none⟩ = some (.int .i64 y)) (first | exact ⟨y0, y1⟩ | assumption)
        (first
          | (go_at_call_of 24 (Value.int IntKind.i64 x); (with_reducible refine (low_ex x 12 _ BX.out (by omega) (by omega)).mono ?_); rintro e w3 ⟨p, hp0, hp1, rfl, rfl⟩)
          | (go_at_call_of 24 (Value.int IntKind.i64 y); (with_reducible refine (low_ex y 1000 _ BY.out (by omega) (by omega)).mono ?_); rintro e w3 ⟨q, hq0, hq1, rfl, rfl⟩))
      obtain ⟨cs, fs⟩ := Hs.out p.toNat (by omega)
      obtain ⟨ct, ft⟩ := Htc.out p.toNat (by omega)
      clear y0 y1
      go_upto_region 12 with (fail)
      have Hs2 := Lib.hid (Hs.out.set (o := p.toNat) (by omega) (wrap64 (c1 p.toNat + q)))
      have Hm2 := Lib.hid (Hm.out.keep1 (touch_set (b := w2.heap.size) (p := ⟨w2.heap.size, p.toNat, none⟩) rfl (.int .i64 (wrap64 (c1 p.toNat + q)))) (by omega))
      have Hg2 := Lib.hid (Hg.out.keep1 (touch_set (b := w2.heap.size) (p := ⟨w2.heap.size, p.toNat, none⟩) rfl (.int .i64 (wrap64 (c1 p.toNat + q)))) (by omega))
      have Ht2 := Lib.hid (Htc.out.keep1 (touch_set (b := w2.heap.size) (p := ⟨w2.heap.size, p.toNat, none⟩) rfl (.int .i64 (wrap64 (c1 p.toNat + q)))) (by omega))
      go_cut [10] (fun s10 wx => s10 = .int .i64 p ∧ Cnt wx w.heap.size c1 ∧ Cnt wx w1.heap.size c2 ∧ Cnt wx w2.heap.size (upd c1 p.toNat (wrap64 (c1 p.toNat + q))) ∧ Cnt wx (w2.heap.size + 1) (upd c2 p.toNat (max (c2 p.toNat) q)) ∧ Touch (fun _ => False) w wx)
      case first =>
        by_cases hle : c2 p.toNat < q
        · have em : Hid (max (c2 p.toNat) q = q) := Lib.hid (by omega)
          go_wp2_with (fail)
          all_goals
            go_meet
            case rel =>
              rw [em.out]
              refine ⟨rfl, Hm2.out.keep1 (b' := w2.heap.size + 1) (touch_set (b := w2.heap.size + 1) rfl _).drew (by omega), Hg2.out.keep1 (b' := w2.heap.size + 1) (touch_set (b := w2.heap.size + 1) rfl _).drew (by omega), Hs2.out.keep1 (b' := w2.heap.size + 1) (touch_set (b := w2.heap.size + 1) rfl _).drew (by omega), Ht2.out.set (by omega) _, ?_⟩
              exact ((htt.trans (touch_set (b := w2.heap.size) rfl _) (fun j hj hlt => by omega)).trans (touch_set (b := w2.heap.size + 1) rfl _) (fun j hj hlt => by omega)).drew
        · have em : Hid (max (c2 p.toNat) q = c2 p.toNat) := Lib.hid (by omega)
          go_wp2_with (fail)
          all_goals
            go_meet
            case rel =>
              rw [em.out]
              refine ⟨rfl, Hm2.out.keep1 (b' := w2.heap.size + 1) (touch_set (b := w2.heap.size + 1) rfl _).drew (by omega), Hg2.out.keep1 (b' := w2.heap.size + 1) (touch_set (b := w2.heap.size + 1) rfl _).drew (by omega), Hs2.out.keep1 (b' := w2.heap.size + 1) (touch_set (b := w2.heap.size + 1) rfl _).drew (by omega), Ht2.out.set (by omega) _, ?_⟩
              exact ((htt.trans (touch_set (b := w2.heap.size) rfl _) (fun j hj hlt => by omega)).trans (touch_set (b := w2.heap.size + 1) rfl _) (fun j hj hlt => by omega)).drew
      case rest =>
        obtain ⟨rfl, hm, hg, hs, ht, htt⟩ := hcut
        clear Hm Hg Hs Htc Hm2 Hg2 Hs2 Ht2 cs ct fs ft hsz
        have Hm := Lib.hid hm
        have Hg := Lib.hid hg
        have Hs := Lib.hid hs
        have Htc := Lib.hid ht
        have ys := (hs p.toNat (by omega)).1
        have yt := (ht p.toNat (by omega)).1
        simp only [upd, if_true] at ys yt
        clear hm hg hs ht
        go_wp2_with (fail)
        go_region_held3 (fun wy => wy.cell? ⟨w2.heap.size, p.toNat, none⟩ = some (.int .i64 (wrap64 (c1 p.toNat + q))) ∧ wy.cell? ⟨w2.heap.size + 1, p.toNat, none⟩ = some (.int .i64 (max (c2 p.toNat) q))) (first | exact ⟨ys, yt⟩ | exact keep22 ‹Touch _ _ _› (fun h => by have h : _ = _ := h; omega) (fun h => by have h : _ = _ := h; omega) (by assumption))
          (first
            | (go_at_call 13; (with_reducible refine (add_in _ c1 _ _ _ ?_ ?_ ?_).mono ?_); omega; omega; exact Hm.out; rintro e w3 ⟨rfl, hm3, ht3⟩)
            | (go_at_call 15; (with_reducible refine (most_in _ c2 _ _ _ ?_ ?_ ?_).mono ?_); omega; omega; exact Hg.out.keep1 (b' := w.heap.size) ht3.undrew (by omega); rintro e w4 ⟨rfl, hm4, ht4⟩))
        have hs3 := Hs.out.keep1 (b' := w.heap.size) ht3.undrew (by omega)
        have ht3' := Htc.out.keep1 (b' := w.heap.size) ht3.undrew (by omega)
        go_wp2_with (fail)
        go_roundw
        case rel =>
          refine ⟨k + 1, upd c1 p.toNat (wrap64 (c1 p.toNat + q)), upd c2 p.toNat (max (c2 p.toNat) q), by omega, by omega, by go_num, hm3.keep1 (b' := w1.heap.size) ht4 (by omega), hm4, hs3.keep1 (b' := w1.heap.size) ht4 (by omega), ht3'.keep1 (b' := w1.heap.size) ht4 (by omega), ?_⟩
          exact (htt.trans ht3.undrew (fun j hj hlt => by omega)).trans ht4 (fun j hj hlt => by omega)
        case measure => simp [intOf]; omega
    · have Hm := Lib.hid hm
      have Hg := Lib.hid hg
      have Hs := Lib.hid hs
      have Htc := Lib.hid ht
      clear hm hg hs ht
      by_cases hlx : k < xs.length
      all_goals
        go_wp2_with (fail)
        refine (all_in _ c1 _ Hm.out).mono ?_
        rintro e w3 ⟨va, rfl, hva, ht3⟩
        have Hva := Lib.hid hva
        clear hva
        go_wp2_with (fail)
        refine (all_in _ c2 _ (Hg.out.keep ht3 id)).mono ?_
        rintro e w4 ⟨vb, rfl, hvb, ht4⟩
        have Hvb := Lib.hid hvb
        clear hvb
        go_wp2_with (fail)
        refine (reset_in _ c1 _ ((Hm.out.keep ht3 id).keep ht4 id)).mono ?_
        rintro e w5 ⟨rfl, hm5, ht5⟩
        have Hm5 := Lib.hid hm5
        clear hm5
        go_wp2_with (fail)
        have hz3 := ht3.size
        have hz4 := ht4.size
        have hz5 := ht5.size
        have hlm := Hm.out.lt
        have hlg := Hg.out.lt
        have hls := Hs.out.lt
        have hlt2 := Htc.out.lt
        have oa : ∀ j, va.ownBlock = some j → wr.heap.size ≤ j := fun j hj => (Hva.out.lt j hj).1
        have ob : ∀ j, vb.ownBlock = some j → w3.heap.size ≤ j := fun j hj => (Hvb.out.lt j hj).1
        have Ra := Lib.hid (((reads_all Hva.out).keep ht4 (fun _ _ h => h)).keep ht5 (fun j hj h => by have := oa j hj; omega))
        have Rb := Lib.hid ((reads_all Hvb.out).keep ht5 (fun j hj h => by have := ob j hj; omega))
        have hs5 := Lib.hid (((Hs.out.keep ht3 id).keep ht4 id).keep1 ht5 (by omega))
        have ht5c := Lib.hid (((Htc.out.keep ht3 id).keep ht4 id).keep1 ht5 (by omega))
        have hg5 := Lib.hid (((Hg.out.keep ht3 id).keep ht4 id).keep1 ht5 (by omega))
        have T5 := Lib.hid ((((htt.trans ht3 (fun _ h _ => h)).trans ht4 (fun _ h _ => h)).trans ht5 (fun j hj hlt => by omega)))
        have hmk : ∀ W : World, (Instr.makeSlice 35 (.int .i64 12) (.int .i64 12)).run Try.prog W = .ok (.slice (some ⟨W.heap.size, 0, none⟩) 12 12) (W.alloc (.cells #[.int .i64 0, .int .i64 0, .int .i64 0, .int .i64 0, .int .i64 0, .int .i64 0, .int .i64 0, .int .i64 0, .int .i64 0, .int .i64 0, .int .i64 0, .int .i64 0] 2)) := fun _ => by kernel_rfl
        clear ht3 ht4 ht5 Hva Hvb Hm Hg Hs Htc htt oa ob
        go_wp2_with (fail)
        go_region_held3 (fun wy => Touch (fun _ => False) w5 wy) (first | exact (Touch.refl _ _).drew | exact (Touch.trans ‹Touch _ w5 _› ‹Touch _ _ _› (fun _ h _ => h)) | exact (Touch.alloc ‹Touch _ w5 _› _))
          (first
            | (go_at_call_of 22 va; (with_reducible refine (sameLongs_same _ _ (vals c1) _ ?_ ?_ ?_).mono ?_); exact Ra.out; exact hs5.out.reads; simp [vals]; rintro e w6 ⟨rfl, ht6⟩)
            | (go_at_call_of 22 vb; (with_reducible refine (sameLongs_same _ _ (vals c2) _ ?_ ?_ ?_).mono ?_); exact Rb.out.keep ‹Touch _ w5 _› (fun _ _ h => h); exact (ht5c.out.keep ‹Touch _ w5 _› id).reads; simp [vals]; rintro e w6 ⟨rfl, ht6⟩)
            | (go_at_call_of 20 (Value.pointer (some ⟨w.heap.size, 0, none⟩)); (with_reducible refine (all_in _ (fun _ => 0) _ ?_).mono ?_); exact Hm5.out.keep ‹Touch _ w5 _› id; rintro e w7 ⟨v3, rfl, hv3, ht7⟩)
            | (go_at_call_of 20 (Value.pointer (some ⟨w1.heap.size, 0, none⟩)); (with_reducible refine (all_in _ c2 _ ?_).mono ?_); exact hg5.out.keep ‹Touch _ w5 _› id; rintro e w8 ⟨v4, rfl, hv4, ht8⟩)
            | (go_at_call_of 22 v4; (with_reducible refine (sameLongs_same _ _ (vals c2) _ ?_ ?_ ?_).mono ?_); exact reads_all hv4; exact (ht5c.out.keep ‹Touch _ w5 _› id).reads; simp [vals]; rintro e w10 ⟨rfl, ht10⟩)
            | (go_at_call_of 22 v3; (with_reducible refine (sameLongs_same _ _ (vals fun _ => 0) _ ?_ ?_ ?_).mono ?_); (first | exact reads_all hv3 | exact (reads_all hv3).keep (S := fun _ => False) ((Touch.refl _ _).alloc _) (fun _ _ h => h)); (first | exact reads_zeros _ _ | exact (reads_zeros _ _).keep ht7 (fun _ _ h => h)); simp [vals]; rintro e w9 ⟨rfl, ht9⟩)
            | (go_at_call 10; (with_reducible refine (awake_any _).mono ?_); rintro e w11 ⟨rfl, ht11⟩))
        all_goals
          have hT := T5.out.trans ‹Touch _ w5 _› (fun _ h _ => h)
          go_wp2_with (fail)
          go_ret
          exact ⟨rfl, hT⟩

set_option maxHeartbeats 400000 in
theorem walk_great (v0 v1 : Value) (xs ys : List Int) (w : World) (h0 : Reads w v0 (ivs .i64 xs)) (h1 : Reads w v1 (ivs .i64 ys)) (h : 60 < xs.length ∨ 60 < ys.length) :
    Calls Try.prog 5 #[v0, v1] w fun e w' => e = .returned (.bool true) ∧ Touch (fun _ => False) w w' := by
  obtain ⟨a0, c0, rfl, l1, l2⟩ := h0.shape
  obtain ⟨a1, c1, rfl, l3, l4⟩ := h1.shape
  simp only [ivs_length] at h0 h1 l1 l3 ⊢
  unfold maxLen at l2 l4
  clear h0 h1
  by_cases hx : 60 < xs.length
  · go_enter Try.func5, Try.ntmps5
    go_wp2_with (go_at_call 10; refine (awake_any _).mono ?_; rintro e w' ⟨rfl, ht⟩)
    go_ret
    exact ⟨rfl, ht⟩
  · have hy : 60 < ys.length := by omega
    clear h
    go_enter Try.func5, Try.ntmps5
    go_wp2_with (go_at_call 10; refine (awake_any _).mono ?_; rintro e w' ⟨rfl, ht⟩)
    go_ret
    exact ⟨rfl, ht⟩

set_option maxRecDepth 100000 in
theorem lifted (os : Os) (started : os.Started) (H : Type) (enc : TypeId × Value → H) :
    ReturnsInHanded {} Try.checked os 5 .any (Rows.meterAloneSpec.pre6 enc Try.prog Try.f5 Rows.meterAloneRow.domain false) (Rows.meterAloneSpec.post enc Try.prog Try.f5 false true false false) := by
  refine returnsInHanded_of_change (C := Try.checked) Try.own started (by kernel_rfl) Try.func5
    (ChangeSpec.witness6 (enc := enc) (C := Try.checked) false ⟨#[], #[.slice none 0 0, .slice none 0 0], []⟩ 8 (by kernel_rfl) (by kernel_rfl) (by kernel_rfl) (by kernel_rfl)) ?_
  intro W base args ds gs before hval0 hW hcnd _
  have hval : ∀ (j : Nat) t v, Try.f5.params[j]? = some t → args[j]? = some v → Value.okWide Try.prog W .any base t v := hval0
  have hW' := hW
  obtain ⟨p, q, hA0, hV, rfl, hfz, hnd⟩ := hW
  have hA : DataW.TrodAll enc Try.prog W 0 (fun _ => true) true Try.f5.params.toList args.toList ds p := hA0
  rw [Try.params5] at hA hval
  obtain ⟨v0, v1, d0, d1, p0, p1, rfl, rfl, rfl, h0, h1⟩ := trodAll_two hA
  obtain ⟨rfl, rfl⟩ := trodVars_none hV
  obtain ⟨xs, hx, bx⟩ := reads_ints Try.underlying41 Try.underlying3 (by kernel_rfl) (hval 0 41 v0 rfl rfl) h0
  obtain ⟨ys, hy, bys⟩ := reads_ints Try.underlying41 Try.underlying3 (by kernel_rfl) (hval 1 41 v1 rfl rfl) h1
  refine Calls.mono (R := fun e w' => e = .returned (.bool true) ∧ Touch (fun _ => False) W w') ?_ fun e W' ⟨he, hw⟩ => ?_
  · by_cases hl : xs.length ≤ 60 ∧ ys.length ≤ 60
    · exact walk_small v0 v1 xs ys W hx hy hl.1 hl.2 (fun x h => v64_wf (bx x h)) (fun x h => v64_wf (bys x h))
    · exact walk_great v0 v1 xs ys W hx hy (by omega)
  subst he
  exact ⟨_, rfl, law_post Try.laidOut (by kernel_rfl) rfl Try.underlying4 rfl rfl ⟨rfl, rfl, rfl⟩ hW' (hw.below fun _ h _ => h)⟩

theorem meterAlone_holds : Rows.MeterAloneSaid :=
  OpenClaim.holds_of_wide 5 Try.f5 rfl rfl rfl rfl rfl rfl rfl ⟨rfl, rfl, rfl, rfl, rfl⟩ rfl rfl rfl rfl rfl (by kernel_rfl) Try.func5 (by kernel_rfl)
    (of_decide_eq_true (by kernel_rfl)) (by unfold Func.isWrapper; first | (rw [if_pos (by decide +kernel)]; kernel_rfl) | (rw [if_neg (by decide +kernel)]; exact ⟨rfl, rfl⟩))
    (fun os started H enc _ => lifted os started H enc)
end LawMeterAlone
end Go.Proofs.Ytfibglpiohkcoaa
