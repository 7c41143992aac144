/- The statement MaskSteps: from each byte to the next one, and back, all are met, rising and falling; ranks rise by one. Conditions: none beyond the statement's own guards. -/
import Derived.Test.YtfibglpiohkcoaaMaskR
import Derived.Test.YtfibglpiohkcoaaRows
namespace Go.Proofs.Ytfibglpiohkcoaa
open Go.ChangeShapes Go.WideShapes Go.ChangeAt Go.RowKit
set_option linter.unusedVariables false
set_option linter.unusedSimpArgs false
namespace LawMaskSteps
open MaskA MaskP MaskR SameA

set_option maxRecDepth 100000 in
set_option maxHeartbeats 1600000 in
theorem walk (f : Nat → Bool) (w : World) :
    Calls Try.prog 8 #[.agg #[.int .u64 (word f 0 : Nat), .int .u64 (word f 1 : Nat), .int .u64 (word f 2 : Nat), .int .u64 (word f 3 : Nat)]] w fun e w' => e = .returned (.bool true) ∧ Ext w w' := by
  have hn5 : nextF f (-5) = nextF f ((0 : Nat) : Int) := rfl
  have hp300 : prevF f 300 = scanD f 256 := congrArg (scanD f) (by decide : (min (300 : Int) 255 + 1).toNat = 256)
  have hr999 : rankF f 999 = cnt f 256 := congrArg (cnt f) (by decide : (min (999 : Int) 256).toNat = 256)
  have hNx := fun (b : Int) (hV : V64 b) W => next_any' f b W hV
  have hPv := fun (b : Int) (hV : V64 b) W => prev_any' f b W hV
  have hR9 := fun W => rank_any' f 999 W (by unfold V64; omega)
  rw [hr999] at hR9
  have hN0 := hNx (-5) (by unfold V64; omega)
  rw [hn5] at hN0
  have hP0 := hPv 300 (by unfold V64; omega)
  rw [hp300] at hP0
  have hc256 := cnt_le f 256
  have hal := allF_length f 256
  have Hn5 := Lib.hid hn5
  clear hn5
  have Hp300 := Lib.hid hp300
  clear hp300
  have Hr999 := Lib.hid hr999
  clear hr999
  have HNx := Lib.hid hNx
  clear hNx
  have HPv := Lib.hid hPv
  clear hPv
  have HR9 := Lib.hid hR9
  clear hR9
  have HN0 := Lib.hid hN0
  clear hN0
  have HP0 := Lib.hid hP0
  clear hP0
  have Hal := Lib.hid hal
  clear hal
  go_enter Try.func8, Try.ntmps8
  go_wp2_with (fail)
  have m1 := mat_new (w.alloc (.cells #[.int .u64 (word f 0 : Nat), .int .u64 (word f 1 : Nat), .int .u64 (word f 2 : Nat), .int .u64 (word f 3 : Nat)] 45)) f 46
  rw [World.size_alloc] at m1
  have x1 : Ext w ((w.alloc (.cells #[.int .u64 (word f 0 : Nat), .int .u64 (word f 1 : Nat), .int .u64 (word f 2 : Nat), .int .u64 (word f 3 : Nat)] 45)).alloc (.cells #[.int .u64 (word f 0 : Nat), .int .u64 (word f 1 : Nat), .int .u64 (word f 2 : Nat), .int .u64 (word f 3 : Nat)] 46)) := ((Touch.refl _ _).alloc _).alloc _
  generalize (w.alloc (.cells #[.int .u64 (word f 0 : Nat), .int .u64 (word f 1 : Nat), .int .u64 (word f 2 : Nat), .int .u64 (word f 3 : Nat)] 45)).alloc (.cells #[.int .u64 (word f 0 : Nat), .int .u64 (word f 1 : Nat), .int .u64 (word f 2 : Nat), .int .u64 (word f 3 : Nat)] 46) = w1 at *
  obtain ⟨mb, hmb⟩ : ∃ mb, mb = w.heap.size + 1 := ⟨_, rfl⟩
  rw [← hmb] at m1 ⊢
  clear hmb
  (with_reducible refine (HN0.out _).mono ?_)
  rintro e w2 ⟨rfl, t2⟩
  have m2 := m1.keep t2 id
  have x2 := x1.trans' t2
  clear m1 x1 t2
  have M2 := Lib.hid m2
  clear m2
  have X2 := Lib.hid x2
  clear x2
  go_wp2_with (fail)
  go_loopw [4, 6] (fun v s6 wr => ∃ k : Nat, k ≤ 256 ∧ s6 = .int .i64 (nextF f (k : Int)) ∧ wr.ownsRow 0 5 1 v (cnt f k) (ivs .u8 (allF f k)) ∧ (∀ b, v.ownBlock = some b → w.heap.size ≤ b ∧ b ≠ mb) ∧ MAt wr mb f ∧ Ext w wr) (fun _ s6 _ => match s6 with | .int _ n => if n < 0 then 0 else 257 - n.toNat | _ => 0)
  case atStart => exact ⟨0, by omega, rfl, World.ownsRow_nil _ _ _ _, (fun b h => by cases h), M2.out, X2.out⟩
  case round =>
    obtain ⟨k, hk, rfl, hown, hob, hmat, ht⟩ := hrel
    clear M2 X2
    have hck := cnt_le f k
    have hlen := allF_length f k
    obtain ⟨a4, c4, rfl⟩ := own_len hown
    rcases next_cases f hk with ⟨h1, h2⟩ | ⟨i, h1, h2, h3, h4, h5⟩
    · obtain ⟨d, hd⟩ : ∃ d, 256 = k + d := ⟨256 - k, by omega⟩
      obtain ⟨e1, e2⟩ := allF_gap f k d fun j h6 h7 => h2 j h6 (by omega)
      rw [← hd] at e1 e2
      rw [h1]
      rw [← e1, ← e2] at hown
      rw [← e2]
      clear e1 e2 h1 h2 hd hlen hck
      obtain ⟨y0, y1, y2, y3⟩ := hmat
      have hmat : MAt wr mb f := ⟨y0, y1, y2, y3⟩
      have hup := Reads.of_own hown
      obtain ⟨wu, rfl⟩ : ∃ wu, wu = wr := ⟨_, rfl⟩
      have Hown := Lib.hid hown
      clear hown
      have Hob := Lib.hid hob
      clear hob
      have Ht := Lib.hid ht
      clear ht
      have Hmat := Lib.hid hmat
      clear hmat
      have Hup := Lib.hid hup
      clear hup
      go_wp2_with (fail)
      (with_reducible refine (HP0.out _).mono ?_)
      rintro e w3 ⟨rfl, t3⟩
      clear y0 y1 y2 y3
      have T3 := Lib.hid t3
      clear t3
      go_wp2_with (fail)
      go_loopw [5, 7] (fun v s7 wr => ∃ (k : Nat) (R : List Int), k ≤ 256 ∧ s7 = .int .i64 (scanD f k) ∧ RB wr (fun _ => True) v R ∧ allF f 256 = allF f k ++ R ∧ Ext wu wr) (fun _ s7 _ => match s7 with | .int _ n => if n < 0 then 0 else n.toNat + 1 | _ => 0)
      case atStart => exact ⟨256, [], by omega, rfl, RB.nil _ _, by simp, T3.out⟩
      case round =>
        obtain ⟨k, R, hk, rfl, hR, hall, hx⟩ := hrel
        clear T3
        obtain ⟨y0, y1, y2, y3⟩ := Hmat.out.keep hx id
        have hRl : R.length ≤ 256 := by
          have h6 := congrArg List.length hall
          rw [Hal.out, List.length_append] at h6
          omega
        obtain ⟨a5, c5, rfl, l5, l6, l7⟩ := hR.shape
        unfold maxLen at l6
        rcases scanD_cases f k with ⟨h1, h2⟩ | ⟨i, h1, h2, h3, h4⟩
        · rw [h1]
          have hRR : R = allF f 256 := by rw [hall, allF_none f k h2]; rfl
          subst hRR
          have hdn := hR.reads
          have hlu := Hal.out
          rw [hlu]
          obtain ⟨wz, rfl⟩ : ∃ wz, wz = wr := ⟨_, rfl⟩
          have haq := all_any' f wz
          rw [hlu] at hdn
          clear hall hR h1 h2 l5 hRl
          have Hdn := Lib.hid hdn
          clear hdn
          have Hlu := Lib.hid hlu
          clear hlu
          have Haq := Lib.hid haq
          clear haq
          have Hx := Lib.hid hx
          clear hx
          go_wp2_with (fail)
          (with_reducible refine Haq.out.mono ?_)
          rintro e w5 ⟨v5, n5, rfl, ho5, t5⟩
          have hr5 := Reads.of_own ho5
          obtain ⟨a6, c6, rfl⟩ := own_len ho5
          have hsb := sameBytes_same _ _ (allF f 256) w5 ((Hup.out.keep Hx.out (fun _ _ h => h)).keep t5 (fun _ _ h => h)) hr5 (by rw [Hlu.out]; omega)
          have z0 := keepc t5 id y0
          have z1 := keepc t5 id y1
          have z2 := keepc t5 id y2
          have z3 := keepc t5 id y3
          clear y0 y1 y2 y3
          have Hsb := Lib.hid hsb
          clear hsb
          have Ho5 := Lib.hid ho5
          clear ho5
          have Hr5 := Lib.hid hr5
          clear hr5
          have T5 := Lib.hid t5
          clear t5
          go_wp2_with (fail)
          (with_reducible refine Hsb.out.mono ?_)
          rintro e w6 ⟨rfl, t6⟩
          have hsb2 := sameBytes_same _ _ (allF f 256) w6 ((Hdn.out.keep T5.out (fun _ _ h => h)).keep t6 (fun _ _ h => h)) (((Hup.out.keep Hx.out (fun _ _ h => h)).keep T5.out (fun _ _ h => h)).keep t6 (fun _ _ h => h)) (by rw [Hlu.out]; omega)
          have y0 := keepc t6 id z0
          have y1 := keepc t6 id z1
          have y2 := keepc t6 id z2
          have y3 := keepc t6 id z3
          clear z0 z1 z2 z3
          have Hsb2 := Lib.hid hsb2
          clear hsb2
          have T6 := Lib.hid t6
          clear t6
          go_wp2_with (fail)
          (with_reducible refine Hsb2.out.mono ?_)
          rintro e w7 ⟨rfl, t7⟩
          have z0 := keepc t7 id y0
          have z1 := keepc t7 id y1
          have z2 := keepc t7 id y2
          have z3 := keepc t7 id y3
          have hcn := count_any' f w7
          clear y0 y1 y2 y3
          have T7 := Lib.hid t7
          clear t7
          have Hcn := Lib.hid hcn
          clear hcn
          go_wp2_with (fail)
          (with_reducible refine Hcn.out.mono ?_)
          rintro e w8 ⟨rfl, t8⟩
          have y0 := keepc t8 id z0
          have y1 := keepc t8 id z1
          have y2 := keepc t8 id z2
          have y3 := keepc t8 id z3
          clear z0 z1 z2 z3
          have T8 := Lib.hid t8
          clear t8
          go_wp2_with (fail)
          (with_reducible refine (HR9.out _).mono ?_)
          rintro e w9 ⟨rfl, t9⟩
          have T9 := Lib.hid t9
          clear t9
          go_wp2_with (fail)
          refine (awake_any _).mono ?_
          rintro e w10 ⟨rfl, t10⟩
          go_wp2_with (fail)
          go_ret
          exact ⟨rfl, Ht.out.trans' (Hx.out.trans' (T5.out.trans' (T6.out.trans' (T7.out.trans' (T8.out.trans' (T9.out.trans' t10))))))⟩
        · rw [h2]
          have hla := allF_last f h1 h3 h4
          have hall2 : allF f 256 = allF f i ++ ((i : Int) :: R) := by rw [hall, hla]; simp
          have hwr : IntKind.u8.wrap (i : Int) = i := wrap_u8 (by omega)
          have hp := HPv.out ((i : Int) - 1) (by unfold V64; omega)
          rw [prev_scan f i (by omega)] at hp
          have hi256 : i < 256 := by omega
          obtain ⟨wz, rfl⟩ : ∃ wz, wz = wr := ⟨_, rfl⟩
          clear h1 h2 h3 h4 hla
          have Hall := Lib.hid hall
          clear hall
          have Hall2 := Lib.hid hall2
          clear hall2
          have Hp := Lib.hid hp
          clear hp
          have HR := Lib.hid hR
          clear hR
          have Hx := Lib.hid hx
          clear hx
          go_wp2_with (first
            | (at_builtin; (refine wpList_push_any _ rfl _ _ 50 rfl 5 (.int .u8 0) 1 1 Try.underlying50 info_b8 rfl (by decide) (.slice (some ⟨wz.heap.size, 0, none⟩) 1 1) 1 (ivs .u8 [(i : Int)]) rfl (own_b8 _ _) a5 R.length c5 rfl l7 (ivs .u8 R) l5 (by simp [ivs]) (HR.out.ext ((Touch.refl _ _).alloc _)).src (ivs_one _ _) (by simp [maxLen]; omega) (by omega) ?_); intro v10 w10 hown10 ht10 hb10; have yy : Ext wz w10 := ((Touch.refl (fun _ => False) wz).alloc (.cells #[.int .u8 (i : Int)] 5)).ext_new ht10 (fun j hj => by have hj : some wz.heap.size = some j := hj; cases hj; exact Nat.le_refl _); have z0 := keepc yy id y0; have z1 := keepc yy id y1; have z2 := keepc yy id y2; have z3 := keepc yy id y3; clear y0 y1 y2 y3 ht10 hb10; skip))
          have Hown10 := Lib.hid hown10
          clear hown10
          have Yy := Lib.hid yy
          clear yy
          (with_reducible refine (Hp.out _).mono ?_)
          rintro e w11 ⟨rfl, t11⟩
          go_wp2_with (fail)
          go_roundw
          case rel =>
            have hrb : RB w10 (fun _ => True) v10 ((i : Int) :: R) := OB.rb (k := (i : Int) :: R) ⟨by rw [show ((i : Int) :: R).length = 1 + R.length by simp; omega, show ivs .u8 ((i : Int) :: R) = ivs .u8 [(i : Int)] ++ ivs .u8 R from rfl]; exact Hown10.out, fun _ _ => trivial⟩
            exact ⟨i, (i : Int) :: R, by omega, rfl, hrb.ext t11, Hall2.out, Hx.out.trans' (Yy.out.trans' t11)⟩
          case measure =>
            simp only [intOf]
            rw [if_neg (by omega : ¬ (i : Int) < 0)]
            rcases scanD_cases f i with ⟨h6, _⟩ | ⟨i', h6, h7, _⟩
            · rw [h6]; simp
            · rw [h7, if_neg (by omega)]; simp; omega
    · obtain ⟨e1, e2⟩ := allF_next f h1 h4 h5
      have hrk : rankF f (i : Int) = cnt f k := by
        rw [rank_nat f (by omega)]
        obtain ⟨d, rfl⟩ : ∃ d, i = k + d := ⟨i - k, by omega⟩
        exact (allF_gap f k d h5).2
      rw [h3]
      have hRk := fun W => rank_any' f (i : Int) W (by unfold V64; omega)
      rw [hrk] at hRk
      have hHs := fun W => has_any' f i h2 W
      rw [h4] at hHs
      have hNi := HNx.out ((i : Int) + 1) (by unfold V64; omega)
      have hwr : IntKind.u8.wrap (i : Int) = i := wrap_u8 h2
      obtain ⟨y0, y1, y2, y3⟩ := hmat
      have hrw : ∀ b, (Value.slice a4 (cnt f k) c4).ownBlock = some b → b < wr.heap.size := fun b hb => (hown.lt b hb).2
      clear h3 h4 h5 hrk hlen h1
      generalize hcm : cnt f k = m at *
      obtain ⟨wz, rfl⟩ : ∃ wz, wz = wr := ⟨_, rfl⟩
      have Hown := Lib.hid hown
      clear hown
      have Hob := Lib.hid hob
      clear hob
      have Ht := Lib.hid ht
      clear ht
      have E1 := Lib.hid e1
      clear e1
      have E2 := Lib.hid e2
      clear e2
      have HRk := Lib.hid hRk
      clear hRk
      have HHs := Lib.hid hHs
      clear hHs
      have HNi := Lib.hid hNi
      clear hNi
      have Hrw := Lib.hid hrw
      clear hrw
      have Hcm := Lib.hid hcm
      clear hcm
      go_wp2_with (fail)
      (with_reducible refine (HRk.out _).mono ?_)
      rintro e w3 ⟨rfl, t3⟩
      have z0 := keepc t3 id y0
      have z1 := keepc t3 id y1
      have z2 := keepc t3 id y2
      have z3 := keepc t3 id y3
      clear y0 y1 y2 y3
      have T3 := Lib.hid t3
      clear t3
      go_wp2_with (fail)
      (with_reducible refine (HHs.out _).mono ?_)
      rintro e w4 ⟨rfl, t4⟩
      have y0 := keepc t4 id z0
      have y1 := keepc t4 id z1
      have y2 := keepc t4 id z2
      have y3 := keepc t4 id z3
      have x4 : Ext wz w4 := T3.out.trans' t4
      have hown4 := own_keep Hown.out x4 (fun _ _ h => h)
      have hmw : mb < w4.heap.size := World.block_lt_of_cell? _ _ y0
      clear z0 z1 z2 z3 t4
      have X4 := Lib.hid x4
      clear x4
      have Hown4 := Lib.hid hown4
      clear hown4
      go_wp2_with (first
        | (at_builtin; (refine wpList_push_any _ rfl _ _ 50 rfl 5 (.int .u8 0) 1 1 Try.underlying50 info_b8 rfl (by decide) (.slice a4 m c4) m (ivs .u8 (allF f k)) rfl (own_keep Hown4.out ((Touch.refl (fun _ => False) _).alloc _) (fun _ _ h => h)) (some ⟨w4.heap.size, 0, none⟩) 1 1 rfl (fun h => by cases h) (ivs .u8 [(i : Int)]) (by decide) (by simp [ivs]) (src_b8 _ _ _) (ivs_one _ _) (by simp [maxLen]; omega) (by omega) ?_); intro v10 w10 hown10 ht10 hb10; have hn := (fun h => (Hob.out mb h).2 rfl : ¬ (Value.slice a4 m c4).ownBlock = some mb); have yy := Touch.ext_trans ((Touch.refl (fun _ => False) w4).alloc (.cells #[.int .u8 (i : Int)] 5)) ht10; have z0 := keepc yy hn y0; have z1 := keepc yy hn y1; have z2 := keepc yy hn y2; have z3 := keepc yy hn y3; clear y0 y1 y2 y3 ht10 hn; skip))
      have hmat : MAt w10 mb f := ⟨z0, z1, z2, z3⟩
      have Hown10 := Lib.hid hown10
      clear hown10
      have Yy := Lib.hid yy
      clear yy
      have Hb10 := Lib.hid hb10
      clear hb10
      have Hmat := Lib.hid hmat
      clear hmat
      (with_reducible refine (HNi.out _).mono ?_)
      rintro e w11 ⟨rfl, t11⟩
      go_wp2_with (fail)
      go_roundw
      case rel =>
        refine ⟨i + 1, by omega, rfl, ?_, fun b hb => ?_, Hmat.out.keep t11 id, ((Ht.out.trans' X4.out).ext_new Yy.out (fun j hj => (Hob.out j hj).1)).trans' t11⟩
        · rw [E1.out, E2.out, ivs_append]
          exact own_keep Hown10.out t11 (fun _ _ h => h)
        · rcases Hb10.out with h | h
          · exact Hob.out b (h ▸ hb)
          · rw [h] at hb
            have hb : some (w4.alloc (.cells #[.int .u8 (i : Int)] 5)).heap.size = some b := hb
            cases hb
            have h8 := (Ht.out.trans' X4.out).size
            simp; omega
      case measure =>
        have hn := next_cases f (k := i + 1) (by omega)
        simp only [intOf]
        rw [if_neg (by omega : ¬ (i : Int) < 0)]
        rcases hn with ⟨h6, _⟩ | ⟨i', h6, h7, h8, _⟩
        · have h6 : nextF f ((i : Int) + 1) = -1 := h6
          rw [h6]; simp; omega
        · have h8 : nextF f ((i : Int) + 1) = i' := h8
          rw [h8, if_neg (by omega)]; simp; omega

set_option maxRecDepth 100000 in
theorem lifted (os : Os) (started : os.Started) (H : Type) (enc : TypeId × Value → H) :
    ReturnsInHanded {} Try.checked os 8 .any (Rows.maskStepsSpec.pre6 enc Try.prog Try.f8 Rows.maskStepsRow.domain false) (Rows.maskStepsSpec.post enc Try.prog Try.f8 false true false false) := by
  refine returnsInHanded_of_change (C := Try.checked) Try.own started (by kernel_rfl) Try.func8
    (ChangeSpec.witness6 (enc := enc) (C := Try.checked) false ⟨#[], #[.agg #[.int .u64 0, .int .u64 0, .int .u64 0, .int .u64 0]], []⟩ 8 (by kernel_rfl) (by kernel_rfl) (by kernel_rfl) (by kernel_rfl)) ?_
  intro W base args ds gs before hval0 hW hcnd _
  have hval : ∀ (j : Nat) t v, Try.f8.params[j]? = some t → args[j]? = some v → Value.okWide Try.prog W .any base t v := hval0
  have hW' := hW
  obtain ⟨p, q, hA0, hV, rfl, hfz, hnd⟩ := hW
  have hA : DataW.TrodAll enc Try.prog W 0 (fun _ => true) true Try.f8.params.toList args.toList ds p := hA0
  rw [Try.params8] at hA hval
  obtain ⟨v0, d0, rfl, rfl, h0⟩ := trodAll_one hA
  obtain ⟨rfl, rfl⟩ := trodVars_none hV
  refine Calls.mono (R := fun e w' => e = .returned (.bool true) ∧ Touch (fun _ => False) W w') ?_ fun e W' ⟨he, hw⟩ => (by subst he; exact ⟨_, rfl, law_post Try.laidOut (by kernel_rfl) rfl Try.underlying4 rfl rfl ⟨rfl, rfl, rfl⟩ hW' (hw.below fun _ h _ => h)⟩)
  obtain ⟨f, rfl⟩ := open_words (hval 0 45 v0 rfl rfl) h0
  exact walk f W
theorem maskSteps_holds : Rows.MaskStepsSaid :=
  OpenClaim.holds_of_wide 8 Try.f8 rfl rfl rfl rfl rfl rfl rfl ⟨rfl, rfl, rfl, rfl, rfl⟩ rfl rfl rfl rfl rfl (by kernel_rfl) Try.func8 (by kernel_rfl)
    (of_decide_eq_true (by kernel_rfl)) (by unfold Func.isWrapper; first | (rw [if_pos (by decide +kernel)]; kernel_rfl) | (rw [if_neg (by decide +kernel)]; exact ⟨rfl, rfl⟩))
    (fun os started H enc _ => lifted os started H enc)
end LawMaskSteps
end Go.Proofs.Ytfibglpiohkcoaa
