/- The statement MaskBack. -/
import Derived.Test.YtfibglpiohkcoaaMaskQ
import Derived.Test.YtfibglpiohkcoaaSameBytes
import Derived.Test.YtfibglpiohkcoaaLaw
import Derived.Test.YtfibglpiohkcoaaPlan
import Derived.Deep.DeepCutAuto
import Derived.Deep.CutBlock
namespace Go.Proofs.Ytfibglpiohkcoaa
open Go.ChangeShapes Go.WideShapes Go.ChangeAt Go.RowKit
set_option linter.unusedVariables false
set_option linter.unusedSimpArgs false

namespace LawMaskBack
open MaskA MaskP SameA

set_option maxRecDepth 100000 in
set_option maxHeartbeats 8000000 in
theorem walk_small (v0 : Value) (xs : List Int) (w : World) (h0 : Reads w v0 (ivs .u8 xs)) (l0 : xs.length ≤ 40) (b0 : ∀ x ∈ xs, 0 ≤ x ∧ x < 256) :
    Calls Try.prog 7 #[v0] w fun e w' => e = .returned (.bool true) ∧ Touch (fun _ => False) w w' := by
  have H0 := Lib.hid h0
  obtain ⟨a0, c0, rfl, _, _⟩ := h0.shape
  simp only [ivs_length] at h0 H0 ⊢
  have B0 := Lib.hid b0
  clear b0
  go_enter Try.func7, Try.ntmps7
  go_wp2_with (fail)
  refine (of_any' _ xs _ H0.out B0.out).mono ?_
  rintro e w1 ⟨rfl, ht1⟩
  have Ht1 := Lib.hid ht1
  have hsz1 := ht1.size
  clear ht1 h0
  go_wp2_with (fail)
  go_loopw [5] (fun s5 wr => ∃ t : Nat, t ≤ xs.length ∧ s5 = .int .i64 ((xs.length : Int) - 1 - t) ∧ MAt wr w1.heap.size (ofF xs) ∧ MAt wr (w1.heap.size + 1) (ofF (xs.reverse.take t)) ∧ (∀ i, i < 4 → wr.frozen? ⟨w1.heap.size + 1, i, none⟩ = false) ∧ Touch (fun _ => False) w wr) (fun s5 _ => (intOf s5 + 1).toNat)
  case atStart =>
    have h1 := mat_zero (w1.alloc (.cells #[.int .u64 (word (ofF xs) 0 : Nat), .int .u64 (word (ofF xs) 1 : Nat), .int .u64 (word (ofF xs) 2 : Nat), .int .u64 (word (ofF xs) 3 : Nat)] 46)) 46
    rw [World.size_alloc] at h1
    refine ⟨0, by omega, by simp, (mat_new w1 _ _).keep (S := fun _ => False) ((Touch.refl _ _).alloc _) id, h1, fun i _ => ?_, (Ht1.out.alloc _).alloc _⟩
    have := World.frozen?_alloc_new (w1.alloc (.cells #[.int .u64 (word (ofF xs) 0 : Nat), .int .u64 (word (ofF xs) 1 : Nat), .int .u64 (word (ofF xs) 2 : Nat), .int .u64 (word (ofF xs) 3 : Nat)] 46)) #[.int .u64 0, .int .u64 0, .int .u64 0, .int .u64 0] 46 i
    rw [World.size_alloc] at this
    exact this
  case round =>
    obtain ⟨t, ht, rfl, hm, hone, hfz, htt⟩ := hrel
    have hsz := htt.size
    by_cases hlt : t < xs.length
    · obtain ⟨b0, o0, rfl⟩ := H0.out.addr (by simpa using (by omega : 0 < xs.length))
      obtain ⟨x, hxk, y⟩ := reads_cell (H0.out.keep htt (fun _ _ h => h)) (xs.length - 1 - t) (by omega)
      have hb := B0.out x (List.mem_of_getElem? hxk)
      obtain ⟨x, rfl⟩ : ∃ m : Nat, x = (m : Int) := ⟨x.toNat, by omega⟩
      have hx256 : Hid (x < 256) := Lib.hid (by omega)
      have HXK := Lib.hid hxk
      clear hxk hb
      obtain ⟨y0, y1, y2, y3⟩ := hone
      have f0 := hfz 0 (by omega)
      have f1 := hfz 1 (by omega)
      have f2 := hfz 2 (by omega)
      have f3 := hfz 3 (by omega)
      have Hm := Lib.hid hm
      clear hm hfz
      obtain ⟨j, hj⟩ : ∃ j : Nat, (xs.length : Int) - 1 - t = j := ⟨xs.length - 1 - t, by omega⟩
      have hj' : xs.length - 1 - t = j := by omega
      rw [hj'] at y HXK
      rw [hj]
      have hjl : j < xs.length := by omega
      have hjI : (0 : Int) ≤ (j : Int) ∧ (j : Int) < xs.length := by omega
      have hbne : b0 ≠ w1.heap.size + 1 := by
        have := H0.out.lt (by simpa using (by omega : 0 < xs.length))
        omega
      go_wp2_with (fail)
      refine wp_region_plan [(1, true), (2, true), (3, true), (4, true), (0, false), (5, false), (6, false)] (fun wy => wy.cell? ⟨b0, o0 + j, none⟩ = some (.int .u8 x)) (by kernel_rfl) (by kernel_rfl) (by kernel_rfl) rfl ?_ (fun KK hKK => ?_)
      · exact y
      repeat (first
        | (refine wpPlan_take (v := ?_) rfl (by rfl) (fun W hW => ?_) ?_; rotate_left; (focus ((try dsimp only at hW); go_split_ands; go_simp; (try with_reducible rfl); done)); (try simp only [Act.put, List.setIfInBounds_toArray, List.set_cons_zero, List.set_cons_succ]))
        | (refine wpPlan_skip rfl (by rfl) ?_; (try simp only [Act.put, List.setIfInBounds_toArray, List.set_cons_zero, List.set_cons_succ])))
      refine wpPlan_must rfl (by rfl) (fun K hK => ?_)
      go_simp
      refine hK.out _ _ ?_ ?_
      · exact y
      clear hK K
      (try simp only [Act.put, List.setIfInBounds_toArray, List.set_cons_zero, List.set_cons_succ])
      refine wpPlan_must rfl (by rfl) (fun K hK => ?_)
      go_simp
      refine (with_any' (ofF (xs.reverse.take t)) x hx256.out _).mono ?_
      rintro e w3 ⟨rfl, ht3⟩
      refine hK.out _ _ ?_ ?_
      · exact keepc ht3 id y
      clear hK K
      (try simp only [Act.put, List.setIfInBounds_toArray, List.set_cons_zero, List.set_cons_succ])
      have z0 := keepc ht3.undrew id y0
      have z1 := keepc ht3.undrew id y1
      have z2 := keepc ht3.undrew id y2
      have z3 := keepc ht3.undrew id y3
      have g0 := keepf ht3.undrew (by simpa using World.block_lt_of_cell? _ _ y0) id f0
      have g1 := keepf ht3.undrew (by simpa using World.block_lt_of_cell? _ _ y0) id f1
      have g2 := keepf ht3.undrew (by simpa using World.block_lt_of_cell? _ _ y0) id f2
      have g3 := keepf ht3.undrew (by simpa using World.block_lt_of_cell? _ _ y0) id f3
      have yx := keepc ht3 id y
      clear y0 y1 y2 y3 f0 f1 f2 f3 y
      refine wpPlan_must rfl (by rfl) (fun K hK => ?_)
      go_simp
      refine hK.out _ _ ?_ ?_
      · simp [World.cell?_setCell_other, hbne, Ne.symm hbne, yx]
      clear hK K
      (try simp only [Act.put, List.setIfInBounds_toArray, List.set_cons_zero, List.set_cons_succ])
      refine wpPlan_done (hKK.out _ _ ?_)
      clear hKK KK
      go_wp2_with (fail)
      go_roundw
      case rel =>
        have e : ofF (xs.reverse.take (t + 1)) = setb (ofF (xs.reverse.take t)) x true := by
          have hx := HXK.out
          rw [List.take_add_one, List.getElem?_reverse (by omega), show xs.length - 1 - t = j by omega, hx]
          exact ofF_snoc _ _
        refine ⟨t + 1, by omega, by go_num, (Hm.out.keep ht3.undrew id).keep (touch_set4 w3 (w1.heap.size + 1) _ _ _ _) (by omega), by rw [e]; exact mat_set ⟨z0, z1, z2, z3⟩ _, ?_, (htt.trans ht3.undrew (fun _ h _ => h)).trans (touch_set4 w3 (w1.heap.size + 1) _ _ _ _) (fun k hk hlt => by omega)⟩
        intro i hi
        simp only [World.frozen?_setCell]
        match i, hi with
        | 0, _ => exact g0
        | 1, _ => exact g1
        | 2, _ => exact g2
        | 3, _ => exact g3
      case measure => simp [intOf]
    · obtain rfl : t = xs.length := by omega
      rw [show xs.reverse.take xs.length = xs.reverse from List.take_of_length_le (by simp), ofF_reverse] at hone
      have Hone := Lib.hid hone
      have Hm := Lib.hid hm
      have htt' := Lib.hid htt
      clear hone hfz htt
      obtain ⟨y0, y1, y2, y3⟩ := hm
      go_wp2_with (fail)
      refine (all_any' (ofF xs) _).mono ?_
      rintro e w2 ⟨v, n, rfl, hown, ht2⟩
      have hlen : n = cnt (ofF xs) 256 := by have := hown.1; rw [ivs_length, allF_length] at this; omega
      subst hlen
      have Rv := Lib.hid (Reads.of_own hown)
      obtain ⟨av, cv, rfl⟩ := own_len hown
      have Hm2 := Lib.hid (Hm.out.keep ht2 id)
      have Hone2 := Lib.hid (Hone.out.keep ht2 id)
      have T2 := Lib.hid (htt'.out.trans ht2 (fun _ h _ => h))
      clear Hm Hone htt' hown ht2 y0 y1 y2 y3
      go_wp2_with (fail)
      have hb1 : cnt (ofF xs) 256 ≤ 256 := cnt_le _ _
      go_loopw [7] (fun s7 wr => ∃ k : Nat, k ≤ cnt (ofF xs) 256 ∧ s7 = .int .i64 k ∧ Touch (fun _ => False) w2 wr) (fun s7 _ => cnt (ofF xs) 256 - (intOf s7).toNat)
      case atStart => exact ⟨0, by omega, rfl, Touch.refl _ _⟩
      case round =>
        obtain ⟨k, hk, rfl, ht3⟩ := hrel
        by_cases hlt : k < cnt (ofF xs) 256
        · have hl : (ivs .u8 (allF (ofF xs) 256)).length = cnt (ofF xs) 256 := by rw [ivs_length, allF_length]
          obtain ⟨b1, o1, rfl⟩ := Rv.out.addr (by omega)
          have R3 := Rv.out.keep ht3 (fun _ _ h => h)
          obtain ⟨i, hi, yi⟩ := reads_cell R3 k (by rw [allF_length]; exact hlt)
          obtain ⟨i, rfl, hi256, hfi, hci⟩ := allF_get _ _ _ _ hi
          obtain ⟨y0, y1, y2, y3⟩ := Hm2.out.keep ht3 id
          have hVi : V64 i := by unfold V64; omega
          have hR : Hid (rankF (ofF xs) i = k) := Lib.hid (by rw [rank_nat _ (by omega), hci])
          have hN : Hid (nextF (ofF xs) i = i) := Lib.hid (next_self _ hi256 hfi)
          have hP : Hid (prevF (ofF xs) i = i) := Lib.hid (prev_self _ hi256 hfi)
          have hiI : (i : Int) < 256 := by omega
          have hwr : IntKind.i64.wrap (i : Int) = i := wrap_byte hi256
          rcases Nat.eq_zero_or_pos k with rfl | hk0
          · clear hi hfi hci R3
            go_wp2_with (fail)
            refine wp_region_plan [(0, true), (1, true), (2, true), (3, true), (4, true), (5, true), (6, true), (7, true), (8, true), (9, true), (10, true), (11, true), (12, true), (13, true), (14, true), (15, true), (16, true), (17, true), (18, true), (19, true), (20, true), (22, true), (21, false), (23, true), (24, true), (25, true), (26, true), (27, true), (28, true), (29, true), (30, true), (31, true), (33, true), (34, true), (35, true), (36, true), (37, true), (32, false), (38, true), (39, true), (40, true), (41, true), (42, true), (43, true), (44, true), (45, true), (46, true), (48, true), (49, true), (50, true), (51, true), (52, true), (47, false), (53, true), (54, true)] (fun wy => wy.cell? ⟨w1.heap.size, 0, none⟩ = some (.int .u64 (word (ofF xs) 0 : Nat)) ∧ wy.cell? ⟨w1.heap.size, 1, none⟩ = some (.int .u64 (word (ofF xs) 1 : Nat)) ∧ wy.cell? ⟨w1.heap.size, 2, none⟩ = some (.int .u64 (word (ofF xs) 2 : Nat)) ∧ wy.cell? ⟨w1.heap.size, 3, none⟩ = some (.int .u64 (word (ofF xs) 3 : Nat)) ∧ wy.cell? ⟨b1, o1, none⟩ = some (.int .u8 i) ∧ Touch (fun _ => False) wr wy) (by kernel_rfl) (by kernel_rfl) (by kernel_rfl) rfl ?_ (fun KK hKK => ?_)
            · exact ⟨y0, y1, y2, y3, yi, (Touch.refl _ _).drew⟩
            repeat (first
              | (refine wpPlan_take (v := ?_) rfl (by rfl) (fun W hW => ?_) ?_; rotate_left; (focus ((try dsimp only at hW); go_split_ands; go_simp; (try with_reducible rfl); done)); (try simp only [Act.put, List.setIfInBounds_toArray, List.set_cons_zero, List.set_cons_succ]))
              | (refine wpPlan_skip rfl (by rfl) ?_; (try simp only [Act.put, List.setIfInBounds_toArray, List.set_cons_zero, List.set_cons_succ])))
            refine wpPlan_must rfl (by rfl) (fun K hK => ?_)
            go_simp
            with_reducible refine (rank_any' (ofF xs) i _ hVi).mono ?_
            rw [hR.out]
            rintro e u0 ⟨rfl, hu0⟩
            have hv0 := ((Touch.refl (fun _ => False) wr).drew).trans hu0 (fun _ h _ => h)
            refine hK.out _ _ ?_ ?_
            · exact ⟨keepc hv0 id y0, keepc hv0 id y1, keepc hv0 id y2, keepc hv0 id y3, keepc hv0 id yi, hv0⟩
            clear hK K
            (try simp only [Act.put, List.setIfInBounds_toArray, List.set_cons_zero, List.set_cons_succ])
            repeat (first
              | (refine wpPlan_take (v := ?_) rfl (by rfl) (fun W hW => ?_) ?_; rotate_left; (focus ((try dsimp only at hW); go_split_ands; go_simp; (try with_reducible rfl); done)); (try simp only [Act.put, List.setIfInBounds_toArray, List.set_cons_zero, List.set_cons_succ]))
              | (refine wpPlan_skip rfl (by rfl) ?_; (try simp only [Act.put, List.setIfInBounds_toArray, List.set_cons_zero, List.set_cons_succ])))
            refine wpPlan_must rfl (by rfl) (fun K hK => ?_)
            go_simp
            with_reducible refine (next_any' (ofF xs) i _ hVi).mono ?_
            rw [hN.out]
            rintro e u1 ⟨rfl, hu1⟩
            have hv1 := (hv0).trans hu1 (fun _ h _ => h)
            refine hK.out _ _ ?_ ?_
            · exact ⟨keepc hv1 id y0, keepc hv1 id y1, keepc hv1 id y2, keepc hv1 id y3, keepc hv1 id yi, hv1⟩
            clear hK K
            (try simp only [Act.put, List.setIfInBounds_toArray, List.set_cons_zero, List.set_cons_succ])
            repeat (first
              | (refine wpPlan_take (v := ?_) rfl (by rfl) (fun W hW => ?_) ?_; rotate_left; (focus ((try dsimp only at hW); go_split_ands; go_simp; (try with_reducible rfl); done)); (try simp only [Act.put, List.setIfInBounds_toArray, List.set_cons_zero, List.set_cons_succ]))
              | (refine wpPlan_skip rfl (by rfl) ?_; (try simp only [Act.put, List.setIfInBounds_toArray, List.set_cons_zero, List.set_cons_succ])))
            refine wpPlan_must rfl (by rfl) (fun K hK => ?_)
            go_simp
            with_reducible refine (prev_any' (ofF xs) i _ hVi).mono ?_
            rw [hP.out]
            rintro e u2 ⟨rfl, hu2⟩
            have hv2 := (hv1).trans hu2 (fun _ h _ => h)
            refine hK.out _ _ ?_ ?_
            · exact ⟨keepc hv2 id y0, keepc hv2 id y1, keepc hv2 id y2, keepc hv2 id y3, keepc hv2 id yi, hv2⟩
            clear hK K
            (try simp only [Act.put, List.setIfInBounds_toArray, List.set_cons_zero, List.set_cons_succ])
            repeat (first
              | (refine wpPlan_take (v := ?_) rfl (by rfl) (fun W hW => ?_) ?_; rotate_left; (focus ((try dsimp only at hW); go_split_ands; go_simp; (try with_reducible rfl); done)); (try simp only [Act.put, List.setIfInBounds_toArray, List.set_cons_zero, List.set_cons_succ]))
              | (refine wpPlan_skip rfl (by rfl) ?_; (try simp only [Act.put, List.setIfInBounds_toArray, List.set_cons_zero, List.set_cons_succ])))
            refine wpPlan_done (hKK.out _ _ ?_)
            clear hKK KK
            go_wp2_with (fail)
            go_roundw
            case rel => exact ⟨1, by omega, by go_num, ht3.trans hv2 (fun _ h _ => h)⟩
            case measure => simp [intOf]; omega
          · obtain ⟨m, hm⟩ : ∃ m, k = m + 1 := ⟨k - 1, by omega⟩
            obtain ⟨p, hp, yp⟩ := reads_cell R3 m (by rw [allF_length]; omega)
            obtain ⟨p, rfl, hp256, hfp, hcp⟩ := allF_get _ _ _ _ hp
            have hip : ¬ (i : Int) ≤ p := fun h => by
              have := cnt_mono (ofF xs) (show i ≤ p by omega)
              omega
            have hipI : Hid (¬ (i : Int) ≤ p) := Lib.hid hip
            have hmI : (k : Int) - 1 = m := by omega
            have hmI2 : (0 : Int) < k := by omega
            have hmW : IntKind.i64.wrap (m : Int) = m := wrap_byte (by omega)
            have hmI3 : (0 : Int) ≤ k ∧ (k : Int) < cnt (ofF xs) 256 ∧ (0 : Int) ≤ m ∧ (m : Int) < cnt (ofF xs) 256 := by omega
            clear hi hfi hci hp hfp hcp R3 hip hm
            have hipN : ¬ i ≤ p := by have := hipI.out; omega
            go_wp2_with (fail)
            refine wp_region_plan [(0, true), (1, true), (2, true), (3, true), (4, true), (5, true), (6, true), (7, true), (8, true), (9, true), (10, true), (11, true), (12, true), (13, true), (14, true), (15, true), (16, true), (17, true), (18, true), (19, true), (20, true), (22, true), (21, false), (23, true), (24, true), (25, true), (26, true), (27, true), (28, true), (29, true), (30, true), (31, true), (33, true), (34, true), (35, true), (36, true), (37, true), (32, false), (38, true), (39, true), (40, true), (41, true), (42, true), (43, true), (44, true), (45, true), (46, true), (48, true), (49, true), (50, true), (51, true), (52, true), (47, false), (53, true), (54, true)] (fun wy => wy.cell? ⟨w1.heap.size, 0, none⟩ = some (.int .u64 (word (ofF xs) 0 : Nat)) ∧ wy.cell? ⟨w1.heap.size, 1, none⟩ = some (.int .u64 (word (ofF xs) 1 : Nat)) ∧ wy.cell? ⟨w1.heap.size, 2, none⟩ = some (.int .u64 (word (ofF xs) 2 : Nat)) ∧ wy.cell? ⟨w1.heap.size, 3, none⟩ = some (.int .u64 (word (ofF xs) 3 : Nat)) ∧ wy.cell? ⟨b1, o1 + k, none⟩ = some (.int .u8 i) ∧ wy.cell? ⟨b1, o1 + m, none⟩ = some (.int .u8 p) ∧ Touch (fun _ => False) wr wy) (by kernel_rfl) (by kernel_rfl) (by kernel_rfl) rfl ?_ (fun KK hKK => ?_)
            · exact ⟨y0, y1, y2, y3, yi, yp, (Touch.refl _ _).drew⟩
            repeat (first
              | (refine wpPlan_take (v := ?_) rfl (by rfl) (fun W hW => ?_) ?_; rotate_left; (focus ((try dsimp only at hW); go_split_ands; go_simp; (try with_reducible rfl); done)); (try simp only [Act.put, List.setIfInBounds_toArray, List.set_cons_zero, List.set_cons_succ]))
              | (refine wpPlan_skip rfl (by rfl) ?_; (try simp only [Act.put, List.setIfInBounds_toArray, List.set_cons_zero, List.set_cons_succ])))
            refine wpPlan_must rfl (by rfl) (fun K hK => ?_)
            go_simp
            with_reducible refine (rank_any' (ofF xs) i _ hVi).mono ?_
            rw [hR.out]
            rintro e u0 ⟨rfl, hu0⟩
            have hv0 := ((Touch.refl (fun _ => False) wr).drew).trans hu0 (fun _ h _ => h)
            refine hK.out _ _ ?_ ?_
            · exact ⟨keepc hv0 id y0, keepc hv0 id y1, keepc hv0 id y2, keepc hv0 id y3, keepc hv0 id yi, keepc hv0 id yp, hv0⟩
            clear hK K
            (try simp only [Act.put, List.setIfInBounds_toArray, List.set_cons_zero, List.set_cons_succ])
            repeat (first
              | (refine wpPlan_take (v := ?_) rfl (by rfl) (fun W hW => ?_) ?_; rotate_left; (focus ((try dsimp only at hW); go_split_ands; go_simp; (try with_reducible rfl); done)); (try simp only [Act.put, List.setIfInBounds_toArray, List.set_cons_zero, List.set_cons_succ]))
              | (refine wpPlan_skip rfl (by rfl) ?_; (try simp only [Act.put, List.setIfInBounds_toArray, List.set_cons_zero, List.set_cons_succ])))
            refine wpPlan_must rfl (by rfl) (fun K hK => ?_)
            go_simp
            with_reducible refine (next_any' (ofF xs) i _ hVi).mono ?_
            rw [hN.out]
            rintro e u1 ⟨rfl, hu1⟩
            have hv1 := (hv0).trans hu1 (fun _ h _ => h)
            refine hK.out _ _ ?_ ?_
            · exact ⟨keepc hv1 id y0, keepc hv1 id y1, keepc hv1 id y2, keepc hv1 id y3, keepc hv1 id yi, keepc hv1 id yp, hv1⟩
            clear hK K
            (try simp only [Act.put, List.setIfInBounds_toArray, List.set_cons_zero, List.set_cons_succ])
            repeat (first
              | (refine wpPlan_take (v := ?_) rfl (by rfl) (fun W hW => ?_) ?_; rotate_left; (focus ((try dsimp only at hW); go_split_ands; go_simp; (try with_reducible rfl); done)); (try simp only [Act.put, List.setIfInBounds_toArray, List.set_cons_zero, List.set_cons_succ]))
              | (refine wpPlan_skip rfl (by rfl) ?_; (try simp only [Act.put, List.setIfInBounds_toArray, List.set_cons_zero, List.set_cons_succ])))
            refine wpPlan_must rfl (by rfl) (fun K hK => ?_)
            go_simp
            with_reducible refine (prev_any' (ofF xs) i _ hVi).mono ?_
            rw [hP.out]
            rintro e u2 ⟨rfl, hu2⟩
            have hv2 := (hv1).trans hu2 (fun _ h _ => h)
            refine hK.out _ _ ?_ ?_
            · exact ⟨keepc hv2 id y0, keepc hv2 id y1, keepc hv2 id y2, keepc hv2 id y3, keepc hv2 id yi, keepc hv2 id yp, hv2⟩
            clear hK K
            (try simp only [Act.put, List.setIfInBounds_toArray, List.set_cons_zero, List.set_cons_succ])
            repeat (first
              | (refine wpPlan_take (v := ?_) rfl (by rfl) (fun W hW => ?_) ?_; rotate_left; (focus ((try dsimp only at hW); go_split_ands; go_simp; (try with_reducible rfl); done)); (try simp only [Act.put, List.setIfInBounds_toArray, List.set_cons_zero, List.set_cons_succ]))
              | (refine wpPlan_skip rfl (by rfl) ?_; (try simp only [Act.put, List.setIfInBounds_toArray, List.set_cons_zero, List.set_cons_succ])))
            refine wpPlan_done (hKK.out _ _ ?_)
            clear hKK KK
            go_wp2_with (fail)
            go_roundw
            case rel => exact ⟨k + 1, by omega, by go_num, ht3.trans hv2 (fun _ h _ => h)⟩
            case measure => simp [intOf]; omega
        · go_wp2_with (fail)
          go_loopw [8] (fun s8 wr => ∃ k : Nat, k ≤ xs.length ∧ s8 = .int .i64 k ∧ Touch (fun _ => False) w2 wr) (fun s8 _ => xs.length - (intOf s8).toNat)
          case atStart => exact ⟨0, by omega, rfl, ht3⟩
          case round =>
            clear ht3
            obtain ⟨j, hj, rfl, ht3⟩ := hrel
            by_cases hlt : j < xs.length
            · obtain ⟨b0, o0, rfl⟩ := H0.out.addr (by simpa using (by omega : 0 < xs.length))
              obtain ⟨x, hxk, yx⟩ := reads_cell ((H0.out.keep T2.out (fun _ _ h => h)).keep ht3 (fun _ _ h => h)) j hlt
              have hmem := List.mem_of_getElem? hxk
              have hb := B0.out x hmem
              obtain ⟨x, rfl⟩ : ∃ m : Nat, x = (m : Int) := ⟨x.toNat, by omega⟩
              have hx256 : x < 256 := by omega
              have hF : Hid (ofF xs x = true) := Lib.hid (ofF_mem hmem)
              obtain ⟨y0, y1, y2, y3⟩ := Hm2.out.keep ht3 id
              clear hxk hmem hb
              have hjI : (0 : Int) ≤ j ∧ (j : Int) < xs.length := by omega
              go_wp2_with (fail)
              refine wp_region_plan [(0, true), (1, true), (2, true), (3, true), (4, true), (5, false), (6, true)] (fun wy => wy.cell? ⟨w1.heap.size, 0, none⟩ = some (.int .u64 (word (ofF xs) 0 : Nat)) ∧ wy.cell? ⟨w1.heap.size, 1, none⟩ = some (.int .u64 (word (ofF xs) 1 : Nat)) ∧ wy.cell? ⟨w1.heap.size, 2, none⟩ = some (.int .u64 (word (ofF xs) 2 : Nat)) ∧ wy.cell? ⟨w1.heap.size, 3, none⟩ = some (.int .u64 (word (ofF xs) 3 : Nat)) ∧ wy.cell? ⟨b0, o0 + j, none⟩ = some (.int .u8 x) ∧ Touch (fun _ => False) w2 wy) (by kernel_rfl) (by kernel_rfl) (by kernel_rfl) rfl ?_ (fun KK hKK => ?_)
              · exact ⟨y0, y1, y2, y3, yx, ht3.drew⟩
              repeat (first
                | (refine wpPlan_take (v := ?_) rfl (by rfl) (fun W hW => ?_) ?_; rotate_left; (focus ((try dsimp only at hW); go_split_ands; go_simp; (try with_reducible rfl); done)); (try simp only [Act.put, List.setIfInBounds_toArray, List.set_cons_zero, List.set_cons_succ]))
                | (refine wpPlan_skip rfl (by rfl) ?_; (try simp only [Act.put, List.setIfInBounds_toArray, List.set_cons_zero, List.set_cons_succ])))
              refine wpPlan_must rfl (by rfl) (fun K hK => ?_)
              go_simp
              with_reducible refine (has_any' (ofF xs) x hx256 _).mono ?_
              rw [hF.out]
              rintro e u0 ⟨rfl, hu0⟩
              have hv0 := ((Touch.refl (fun _ => False) wr).drew).trans hu0 (fun _ h _ => h)
              have hv1 := ht3.trans hv0 (fun _ h _ => h)
              refine hK.out _ _ ?_ ?_
              · exact ⟨keepc hv0 id y0, keepc hv0 id y1, keepc hv0 id y2, keepc hv0 id y3, keepc hv0 id yx, hv1⟩
              clear hK K
              (try simp only [Act.put, List.setIfInBounds_toArray, List.set_cons_zero, List.set_cons_succ])
              repeat (first
                | (refine wpPlan_take (v := ?_) rfl (by rfl) (fun W hW => ?_) ?_; rotate_left; (focus ((try dsimp only at hW); go_split_ands; go_simp; (try with_reducible rfl); done)); (try simp only [Act.put, List.setIfInBounds_toArray, List.set_cons_zero, List.set_cons_succ]))
                | (refine wpPlan_skip rfl (by rfl) ?_; (try simp only [Act.put, List.setIfInBounds_toArray, List.set_cons_zero, List.set_cons_succ])))
              refine wpPlan_done (hKK.out _ _ ?_)
              clear hKK KK
              go_wp2_with (fail)
              go_roundw
              case rel => exact ⟨j + 1, by omega, by go_num, hv1⟩
              case measure => simp [intOf]; omega
            · obtain ⟨y0, y1, y2, y3⟩ := Hm2.out.keep ht3 id
              obtain ⟨z0, z1, z2, z3⟩ := Hone2.out.keep ht3 id
              have he := fun a b c d a' b' c' d' W => eql_mask a b c d a' b' c' d' W
              have hle : cnt (ofF xs) 256 ≤ xs.length := cnt_ofF_le _ _
              have hleI : ((cnt (ofF xs) 256 : Nat) : Int) ≤ xs.length := by omega
              have hex : ∀ i, i < 256 → ofF (allF (ofF xs) 256) i = ofF xs i := fun i hi => ofF_allF _ i hi
              have e0 := Lib.hid (word_ext hex 0 (by omega))
              have e1 := Lib.hid (word_ext hex 1 (by omega))
              have e2 := Lib.hid (word_ext hex 2 (by omega))
              have e3 := Lib.hid (word_ext hex 3 (by omega))
              clear hex
              go_wp2_with (fail)
              refine wp_region_plan [(0, true), (1, true), (2, true), (3, true), (4, true), (6, true), (5, false), (7, true), (8, true), (9, true), (10, true), (12, true), (13, true), (11, false), (14, true), (15, true), (16, true), (17, true), (18, true), (19, true), (20, true), (21, true), (22, true), (23, true), (24, false), (25, true), (26, true)] (fun wy => wy.cell? ⟨w1.heap.size, 0, none⟩ = some (.int .u64 (word (ofF xs) 0 : Nat)) ∧ wy.cell? ⟨w1.heap.size, 1, none⟩ = some (.int .u64 (word (ofF xs) 1 : Nat)) ∧ wy.cell? ⟨w1.heap.size, 2, none⟩ = some (.int .u64 (word (ofF xs) 2 : Nat)) ∧ wy.cell? ⟨w1.heap.size, 3, none⟩ = some (.int .u64 (word (ofF xs) 3 : Nat)) ∧ wy.cell? ⟨w1.heap.size + 1, 0, none⟩ = some (.int .u64 (word (ofF xs) 0 : Nat)) ∧ wy.cell? ⟨w1.heap.size + 1, 1, none⟩ = some (.int .u64 (word (ofF xs) 1 : Nat)) ∧ wy.cell? ⟨w1.heap.size + 1, 2, none⟩ = some (.int .u64 (word (ofF xs) 2 : Nat)) ∧ wy.cell? ⟨w1.heap.size + 1, 3, none⟩ = some (.int .u64 (word (ofF xs) 3 : Nat)) ∧ Touch (fun _ => False) w2 wy) (by kernel_rfl) (by kernel_rfl) (by kernel_rfl) rfl ?_ (fun KK hKK => ?_)
              · exact ⟨y0, y1, y2, y3, z0, z1, z2, z3, ht3.drew⟩
              repeat (first
                | (refine wpPlan_take (v := ?_) rfl (by rfl) (fun W hW => ?_) ?_; rotate_left; (focus ((try dsimp only at hW); go_split_ands; go_simp; (try with_reducible rfl); done)); (try simp only [Act.put, List.setIfInBounds_toArray, List.set_cons_zero, List.set_cons_succ]))
                | (refine wpPlan_skip rfl (by rfl) ?_; (try simp only [Act.put, List.setIfInBounds_toArray, List.set_cons_zero, List.set_cons_succ])))
              refine wpPlan_must rfl (by rfl) (fun K hK => ?_)
              go_simp
              have R4 := Rv.out.keep ht3.drew (fun _ _ h => h)
              with_reducible refine (of_any' _ (allF (ofF xs) 256) _ R4 allF_bytes).mono ?_
              rw [e0.out, e1.out, e2.out, e3.out]
              rintro e u0 ⟨rfl, hu0⟩
              have hv0 := ((Touch.refl (fun _ => False) wr).drew).trans hu0 (fun _ h _ => h)
              refine hK.out _ _ ?_ ?_
              · exact ⟨keepc hv0 id y0, keepc hv0 id y1, keepc hv0 id y2, keepc hv0 id y3, keepc hv0 id z0, keepc hv0 id z1, keepc hv0 id z2, keepc hv0 id z3, ht3.trans hv0 (fun _ h _ => h)⟩
              clear hK K
              (try simp only [Act.put, List.setIfInBounds_toArray, List.set_cons_zero, List.set_cons_succ])
              repeat (first
                | (refine wpPlan_take (v := ?_) rfl (by rfl) (fun W hW => ?_) ?_; rotate_left; (focus ((try dsimp only at hW); go_split_ands; go_simp; (try with_reducible rfl); done)); (try simp only [Act.put, List.setIfInBounds_toArray, List.set_cons_zero, List.set_cons_succ]))
                | (refine wpPlan_skip rfl (by rfl) ?_; (try simp only [Act.put, List.setIfInBounds_toArray, List.set_cons_zero, List.set_cons_succ])))
              refine wpPlan_must rfl (by rfl) (fun K hK => ?_)
              go_simp
              with_reducible refine (count_any' (ofF xs) _).mono ?_
              rintro e u1 ⟨rfl, hu1⟩
              have hv1 := hv0.trans hu1 (fun _ h _ => h)
              refine hK.out _ _ ?_ ?_
              · exact ⟨keepc hv1 id y0, keepc hv1 id y1, keepc hv1 id y2, keepc hv1 id y3, keepc hv1 id z0, keepc hv1 id z1, keepc hv1 id z2, keepc hv1 id z3, ht3.trans hv1 (fun _ h _ => h)⟩
              clear hK K
              (try simp only [Act.put, List.setIfInBounds_toArray, List.set_cons_zero, List.set_cons_succ])
              repeat (first
                | (refine wpPlan_take (v := ?_) rfl (by rfl) (fun W hW => ?_) ?_; rotate_left; (focus ((try dsimp only at hW); go_split_ands; go_simp; (try with_reducible rfl); done)); (try simp only [Act.put, List.setIfInBounds_toArray, List.set_cons_zero, List.set_cons_succ]))
                | (refine wpPlan_skip rfl (by rfl) ?_; (try simp only [Act.put, List.setIfInBounds_toArray, List.set_cons_zero, List.set_cons_succ])))
              refine wpPlan_must rfl (by rfl) (fun K hK => ?_)
              go_simp
              with_reducible refine (awake_any _).mono ?_
              rintro e u2 ⟨rfl, hu2⟩
              have hv2 := hv1.trans hu2 (fun _ h _ => h)
              refine hK.out _ _ ?_ ?_
              · exact ⟨keepc hv2 id y0, keepc hv2 id y1, keepc hv2 id y2, keepc hv2 id y3, keepc hv2 id z0, keepc hv2 id z1, keepc hv2 id z2, keepc hv2 id z3, ht3.trans hv2 (fun _ h _ => h)⟩
              clear hK K
              (try simp only [Act.put, List.setIfInBounds_toArray, List.set_cons_zero, List.set_cons_succ])
              repeat (first
                | (refine wpPlan_take (v := ?_) rfl (by rfl) (fun W hW => ?_) ?_; rotate_left; (focus ((try dsimp only at hW); go_split_ands; go_simp; (try with_reducible rfl); done)); (try simp only [Act.put, List.setIfInBounds_toArray, List.set_cons_zero, List.set_cons_succ]))
                | (refine wpPlan_skip rfl (by rfl) ?_; (try simp only [Act.put, List.setIfInBounds_toArray, List.set_cons_zero, List.set_cons_succ])))
              refine wpPlan_done (hKK.out _ _ ?_)
              clear hKK KK
              go_wp2_with (fail)
              go_ret
              exact ⟨rfl, (T2.out.trans ht3 (fun _ h _ => h)).trans hv2 (fun _ h _ => h)⟩

set_option maxHeartbeats 400000 in
theorem walk_great (v0 : Value) (xs : List Int) (w : World) (h0 : Reads w v0 (ivs .u8 xs)) (h : 40 < xs.length) :
    Calls Try.prog 7 #[v0] w fun e w' => e = .returned (.bool true) ∧ Touch (fun _ => False) w w' := by
  obtain ⟨a0, c0, rfl, l1, l2⟩ := h0.shape
  simp only [ivs_length] at h0 l1 ⊢
  unfold maxLen at l2
  clear h0
  go_enter Try.func7, Try.ntmps7
  go_wp2_with (go_at_call 41; refine (awake_any _).mono ?_; rintro e w' ⟨rfl, ht⟩)
  go_ret
  exact ⟨rfl, ht⟩

set_option maxRecDepth 100000 in
theorem lifted (os : Os) (started : os.Started) (H : Type) (enc : TypeId × Value → H) :
    ReturnsInHanded {} Try.checked os 7 .any (Rows.maskBackSpec.pre6 enc Try.prog Try.f7 Rows.maskBackRow.domain false) (Rows.maskBackSpec.post enc Try.prog Try.f7 false true false false) := by
  refine returnsInHanded_of_change (C := Try.checked) Try.own started (by kernel_rfl) Try.func7
    (ChangeSpec.witness6 (enc := enc) (C := Try.checked) false ⟨#[], #[.slice none 0 0], []⟩ 8 (by kernel_rfl) (by kernel_rfl) (by kernel_rfl) (by kernel_rfl)) ?_
  intro W base args ds gs before hval0 hW hcnd _
  have hval : ∀ (j : Nat) t v, Try.f7.params[j]? = some t → args[j]? = some v → Value.okWide Try.prog W .any base t v := hval0
  have hW' := hW
  obtain ⟨p, q, hA0, hV, rfl, hfz, hnd⟩ := hW
  have hA : DataW.TrodAll enc Try.prog W 0 (fun _ => true) true Try.f7.params.toList args.toList ds p := hA0
  rw [Try.params7] at hA hval
  obtain ⟨v0, d0, rfl, rfl, h0⟩ := trodAll_one hA
  obtain ⟨rfl, rfl⟩ := trodVars_none hV
  obtain ⟨xs, hx, bx⟩ := reads_ints Try.underlying50 Try.underlying5 (by kernel_rfl) (hval 0 50 v0 rfl rfl) h0
  refine Calls.mono (R := fun e w' => e = .returned (.bool true) ∧ Touch (fun _ => False) W w') ?_ fun e W' ⟨he, hw⟩ => ?_
  · by_cases hl : xs.length ≤ 40
    · exact walk_small v0 xs W hx hl (fun x h => u8_wf (bx x h))
    · exact walk_great v0 xs W hx (by omega)
  subst he
  exact ⟨_, rfl, law_post Try.laidOut (by kernel_rfl) rfl Try.underlying4 rfl rfl ⟨rfl, rfl, rfl⟩ hW' (hw.below fun _ h _ => h)⟩

theorem maskBack_holds : Rows.MaskBackSaid :=
  OpenClaim.holds_of_wide 7 Try.f7 rfl rfl rfl rfl rfl rfl rfl ⟨rfl, rfl, rfl, rfl, rfl⟩ rfl rfl rfl rfl rfl (by kernel_rfl) Try.func7 (by kernel_rfl)
    (of_decide_eq_true (by kernel_rfl)) (by unfold Func.isWrapper; first | (rw [if_pos (by decide +kernel)]; kernel_rfl) | (rw [if_neg (by decide +kernel)]; exact ⟨rfl, rfl⟩))
    (fun os started H enc _ => lifted os started H enc)
end LawMaskBack
end Go.Proofs.Ytfibglpiohkcoaa
