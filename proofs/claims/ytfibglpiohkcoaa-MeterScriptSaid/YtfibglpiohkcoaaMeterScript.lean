/- The statement MeterScript: whatever is counted, each call answers as the document says, and leaves the same counters: for every list of acts the law returns true, and the argument reads as it did. No condition. -/
import Derived.Test.YtfibglpiohkcoaaMeterD
import Derived.Test.YtfibglpiohkcoaaMeterE
import Derived.Test.YtfibglpiohkcoaaSameA
import Derived.Test.YtfibglpiohkcoaaLaw
import Derived.Deep.DeepCutAuto
import Derived.Deep.CutBlock
namespace Go.Proofs.Ytfibglpiohkcoaa
open Go.ChangeShapes Go.WideShapes Go.ChangeAt Go.RowKit
set_option linter.unusedVariables false
set_option linter.unusedSimpArgs false

namespace LawMeterScript
open MeterA SameA

def Acts (w : World) (a : Option Addr) (len : Nat) : Prop := ∀ k, k < len → ∃ (b off : Nat) (d i o n : Int) (r : Bool), a = some ⟨b, off, none⟩ ∧ b < w.heap.size ∧ V64 o ∧ V64 n ∧
  w.cell? ⟨b, off + k * 5, none⟩ = some (.int .i64 d) ∧ w.cell? ⟨b, off + k * 5 + 1, none⟩ = some (.int .i64 i) ∧ w.cell? ⟨b, off + k * 5 + 2, none⟩ = some (.int .i64 o) ∧
  w.cell? ⟨b, off + k * 5 + 3, none⟩ = some (.int .i64 n) ∧ w.cell? ⟨b, off + k * 5 + 4, none⟩ = some (.bool r)

/-- block bx holds an act -/
def XAt (w : World) (bx : Nat) (d i o n : Int) : Prop := w.cell? ⟨bx, 0, none⟩ = some (.int .i64 d) ∧ w.cell? ⟨bx, 1, none⟩ = some (.int .i64 i) ∧ w.cell? ⟨bx, 2, none⟩ = some (.int .i64 o) ∧
  w.cell? ⟨bx, 3, none⟩ = some (.int .i64 n)
theorem xat_new (w : World) (d i o n : Int) (r : Bool) (t : Nat) : XAt (w.alloc (.cells #[.int .i64 d, .int .i64 i, .int .i64 o, .int .i64 n, .bool r] t)) w.heap.size d i o n :=
  ⟨World.cell?_alloc_new _ _ _ _, World.cell?_alloc_new _ _ _ _, World.cell?_alloc_new _ _ _ _, World.cell?_alloc_new _ _ _ _⟩

theorem xat_keep {S : Nat → Prop} {w w' : World} {bx : Nat} {d i o n : Int} (ht : Touch S w w') (hn : ¬ S bx) (h : XAt w bx d i o n) : XAt w' bx d i o n :=
  ⟨keepc ht hn h.1, keepc ht hn h.2.1, keepc ht hn h.2.2.1, keepc ht hn h.2.2.2⟩
theorem xat_set {w : World} {bx : Nat} {d i o n v : Int} (h : XAt w bx d i o n) : XAt (w.setCell ⟨bx, 2, none⟩ (.int .i64 v)) bx d i v n := by
  obtain ⟨h0, h1, h2, h3⟩ := h
  refine ⟨?_, ?_, World.cell?_setCell_same _ _ _ h2, ?_⟩
  all_goals rw [World.cell?_setCell_other _ _ _ _ (by simp)]; assumption

def vals (c : Nat → Int) : List Int := (List.range 12).map c
theorem firsts_vals (c : Nat → Int) : firsts c 12 = ivs .i64 (vals c) := by simp [firsts, ivs, vals]
theorem reads_all {w : World} {base e : Nat} {v : Value} {c : Nat → Int} (h : w.ownsRow base e 1 v 12 (firsts c 12)) : Reads w v (ivs .i64 (vals c)) := by
  rw [← firsts_vals]; exact Reads.of_own h
theorem _root_.Go.Proofs.Ytfibglpiohkcoaa.MeterA.Cnt.reads {w : World} {b : Nat} {c : Nat → Int} (h : Cnt w b c) : Reads w (.slice (some ⟨b, 0, none⟩) 12 12) (ivs .i64 (vals c)) := by
  refine Or.inr ⟨b, 0, 12, by simp [ivs, vals], by simp [ivs, vals], by simp [maxLen], h.lt, fun i hi => ?_⟩
  have hi' : i < 12 := by simpa [ivs, vals] using hi
  rw [Nat.zero_add, (h i hi').1]
  simp [ivs, vals]

set_option maxRecDepth 100000 in
set_option maxHeartbeats 1600000 in
theorem walk_small (a : Option Addr) (len cap : Nat) (w : World) (hl : len ≤ 80) (ha : Acts w a len) :
    Calls Try.prog 3 #[.slice a len cap] w fun e w' => e = .returned (.bool true) ∧ Touch (fun _ => False) w w' := by
  have Ha := Lib.hid ha
  clear ha
  go_enter Try.func3, Try.ntmps3
  go_wp2_with (first
    | (go_at_call 11; refine (new_met _).mono ?_; rintro e w1 ⟨rfl, hm1, ht1⟩))
  have hm1' := hm1.keep (S := fun _ => False) ((Touch.refl _ _).alloc (.cells (Array.replicate 12 (.int .i64 0)) 29)) id
  go_loopw [4, 5] (fun s4 s5 wr => ∃ (k r : Nat) (c : Nat → Int), k ≤ len ∧ s5 = .int .i64 k ∧ s4 = .pointer (some ⟨r, 0, none⟩) ∧ w.heap.size < r ∧ Cnt wr w.heap.size c ∧ Cnt wr r c ∧ In64 c ∧ Touch (fun _ => False) w wr) (fun _ s5 _ => len - (intOf s5).toNat)
  case atStart =>
    refine ⟨0, w1.heap.size, fun _ => 0, by omega, rfl, rfl, by have := hm1.lt; omega, ?_, ?_, fun _ => ⟨by simp, by simp⟩, ht1.alloc _⟩
    · exact hm1.keep (S := fun _ => False) ((Touch.refl _ _).alloc _) id
    · intro i hi
      refine ⟨?_, World.frozen?_alloc_new _ _ _ _⟩
      rw [World.cell?_alloc_new]
      match i, hi with
      | 0, _ | 1, _ | 2, _ | 3, _ | 4, _ | 5, _ | 6, _ | 7, _ | 8, _ | 9, _ | 10, _ | 11, _ => rfl
      | n + 12, h => omega
  case round =>
    clear hm1 ht1
    obtain ⟨k, r, c, hk, rfl, rfl, hr, hcm, hcr, hc64, ht⟩ := hrel
    by_cases hlt : k < len
    · obtain ⟨b, off, d, i, o, n, rt, rfl, hb, ho64, hn64, x0, x1, x2, x3, x4⟩ := Ha.out k hlt
      have y0 := keepc ht id x0
      have y1 := keepc ht id x1
      have y2 := keepc ht id x2
      have y3 := keepc ht id x3
      have y4 := keepc ht id x4
      clear x0 x1 x2 x3 x4
      have Hcm := Lib.hid hcm
      have Hcr := Lib.hid hcr
      have H64 := Lib.hid hc64
      clear hcm hcr hc64
      go_upto_if 29 with (fail)
      have hrlt := Hcr.out.lt
      have hmlt := Hcm.out.lt
      have hsz := ht.size
      have Hcm2 := Lib.hid (Hcm.out.keep (S := fun _ => False) ((Touch.refl _ _).alloc (.cells #[.int .i64 d, .int .i64 i, .int .i64 o, .int .i64 n, .bool rt] 31)) id)
      have Hcr2 := Lib.hid (Hcr.out.keep (S := fun _ => False) ((Touch.refl _ _).alloc (.cells #[.int .i64 d, .int .i64 i, .int .i64 o, .int .i64 n, .bool rt] 31)) id)
      go_cut [6] (fun s6 wx => s6 = .pointer (some ⟨wr.heap.size, 0, none⟩) ∧ ∃ o' : Int, XAt wx wr.heap.size d i o' n ∧ Cnt wx w.heap.size c ∧ Cnt wx r c ∧ Touch (fun _ => False) w wx)
      case first =>
        cases rt with
        | false =>
          go_wp2_with (fail)
          go_meet
          case rel => exact ⟨rfl, o, xat_new _ _ _ _ _ _ _, Hcm2.out, Hcr2.out, ht.alloc _⟩
        | true =>
          go_wp2_with (fail)
          refine (rget_any _ _ _ _ Hcr2.out H64.out).mono ?_
          rintro e w2 ⟨rfl, hm2, ht2⟩
          obtain ⟨z0, z1, z2, z3⟩ := xat_keep ht2 (fun h => by omega) (xat_new wr d i o n true 31)
          have zf := keepf (p := ⟨wr.heap.size, 2, none⟩) ht2 (by simp) (fun h => by simp at h; omega) (World.frozen?_alloc_new _ _ _ _)
          have Hm2 := Lib.hid hm2
          have Hk := Lib.hid (Hcm2.out.keep ht2 (fun h => by omega))
          clear hm2
          go_wp2_with (fail)
          go_meet
          case rel =>
            refine ⟨rfl, _, xat_set ⟨z0, z1, z2, z3⟩, Hk.out.keep (touch_set (b := wr.heap.size) rfl _) (fun h => by omega), Hm2.out.keep (touch_set (b := wr.heap.size) rfl _) (fun h => by omega), ?_⟩
            refine (((ht.alloc _).trans ht2 (fun j hj hlt => by omega)).trans (touch_set (b := wr.heap.size) rfl _) (fun j hj hlt => by omega))
      case rest =>
        obtain ⟨rfl, o', hx, hcm, hcr, ht3⟩ := hcut
        clear ht Hcm Hcr Hcm2 Hcr2 y0 y1 y2 y3 y4
        obtain ⟨bx, hbx⟩ : ∃ bx, bx = wr.heap.size := ⟨_, rfl⟩
        have hbm : w.heap.size < bx := by omega
        have hbr : r < bx := by omega
        rw [← hbx] at hx
        rw [← hbx]
        clear hbx hsz hmlt hrlt
        have hrm : r ≠ w.heap.size := by omega
        have hmx : bx ≠ w.heap.size := by omega
        have hrx : bx ≠ r := by omega
        have Hcm := Lib.hid hcm
        have Hcr := Lib.hid hcr
        obtain ⟨x0, x1, x2, x3⟩ := hx
        clear hcm hcr
        go_upto_block 2 with (fail)
        go_cut [4, 7] (fun s4 s7 wx => s7 = .bool true ∧ ∃ (r' : Nat) (c' : Nat → Int), s4 = .pointer (some ⟨r', 0, none⟩) ∧ w.heap.size < r' ∧ bx ≠ r' ∧ XAt wx bx d i o' n ∧ Cnt wx w.heap.size c' ∧ Cnt wx r' c' ∧ In64 c' ∧ Touch (fun _ => False) w wx)
        case first =>
          by_cases h0 : d = 0
          · subst h0
            go_wp2_with (fail)
            go_region_held3 (fun wy => wy.cell? ⟨bx, 1, none⟩ = some (.int .i64 i) ∧ wy.cell? ⟨bx, 3, none⟩ = some (.int .i64 n)) (first | exact ⟨x1, x3⟩ | exact keep2 ‹Touch _ _ _› (by assumption) (by assumption))
              (first
                | (go_at_call 13; (with_reducible refine (add_any _ c _ _ _ ?_).mono ?_); exact Hcm.out; rintro e w2 ⟨rfl, hm2, ht2⟩)
                | (go_at_call 14; (with_reducible refine (radd_any _ c _ _ _ ?_).mono ?_); exact Hcr.out.keep ht2.undrew hrm; rintro e w3 ⟨rfl, hm3, ht4⟩))
            go_wp2_with (fail)
            go_meet
            case rel =>
              refine ⟨by simp, r, _, rfl, hr, hrx, xat_keep ht4 hrx (xat_keep ht2.undrew hmx ⟨x0, x1, x2, x3⟩), hm2.keep ht4 (Ne.symm hrm), hm3, in64_addC H64.out _ _, ?_⟩
              exact (ht3.trans ht2.undrew (fun j hj hlt => by omega)).trans ht4 (fun j hj hlt => by omega)
          by_cases h1 : d = 1
          · subst h1
            go_wp2_with (fail)
            go_region_held3 (fun wy => wy.cell? ⟨bx, 1, none⟩ = some (.int .i64 i) ∧ wy.cell? ⟨bx, 3, none⟩ = some (.int .i64 n)) (first | exact ⟨x1, x3⟩ | exact keep2 ‹Touch _ _ _› (by assumption) (by assumption))
              (first
                | (go_at_call 15; (with_reducible refine (most_any _ c _ _ _ ?_).mono ?_); exact Hcm.out; rintro e w2 ⟨rfl, hm2, ht2⟩)
                | (go_at_call 16; (with_reducible refine (rmost_any _ c _ _ _ ?_ ?_ ?_).mono ?_); exact Hcr.out.keep ht2.undrew hrm; exact H64.out; exact hn64; rintro e w3 ⟨rfl, hm3, ht4⟩))
            go_wp2_with (fail)
            go_meet
            case rel =>
              refine ⟨by simp, r, _, rfl, hr, hrx, xat_keep ht4 hrx (xat_keep ht2.undrew hmx ⟨x0, x1, x2, x3⟩), hm2.keep ht4 (Ne.symm hrm), hm3, in64_mostC H64.out _ _ hn64, ?_⟩
              exact (ht3.trans ht2.undrew (fun j hj hlt => by omega)).trans ht4 (fun j hj hlt => by omega)
          by_cases h2 : d = 2
          · subst h2
            go_wp2_with (fail)
            go_region_held3 (fun wy => wy.cell? ⟨bx, 1, none⟩ = some (.int .i64 i) ∧ wy.cell? ⟨bx, 2, none⟩ = some (.int .i64 o') ∧ wy.cell? ⟨bx, 3, none⟩ = some (.int .i64 n)) (first | exact ⟨x1, x2, x3⟩ | exact keep3 ‹Touch _ _ _› (by assumption) (by assumption))
              (first
                | (go_at_call 17; (with_reducible refine (swap_any _ c _ _ _ _ ?_).mono ?_); exact Hcm.out; rintro e w2 ⟨rfl, hm2, ht2⟩)
                | (go_at_call 18; (with_reducible refine (rswap_any _ c _ _ _ _ ?_).mono ?_); exact Hcr.out.keep ht2.undrew hrm; rintro e w3 ⟨rfl, hm3, ht4⟩))
            go_wp2_with (fail)
            go_meet
            case rel =>
              refine ⟨by simp, r, _, rfl, hr, hrx, xat_keep ht4 hrx (xat_keep ht2.undrew hmx ⟨x0, x1, x2, x3⟩), hm2.keep ht4 (Ne.symm hrm), hm3, in64_swapC H64.out _ _ _ hn64, ?_⟩
              exact (ht3.trans ht2.undrew (fun j hj hlt => by omega)).trans ht4 (fun j hj hlt => by omega)
          by_cases h3 : d = 3
          · subst h3
            go_wp2_with (fail)
            refine (reset_in _ c _ Hcm.out).mono ?_
            rintro e w2 ⟨rfl, hm2, ht2⟩
            have Hm2 := Lib.hid hm2
            have hsz2 := ht2.size
            have hlt2 := hm2.lt
            clear hm2
            go_wp2_with (fail)
            go_meet
            case rel =>
              refine ⟨rfl, w2.heap.size, fun _ => 0, rfl, by omega, by have := ht3.size; have := World.block_lt_of_cell? _ _ x0; simp at this; omega, ?_, Hm2.out.keep (S := fun _ => False) ((Touch.refl _ _).alloc _) id, cnt_new _ _, fun _ => ⟨by simp, by simp⟩, ?_⟩
              · exact xat_keep (S := fun _ => False) ((Touch.refl _ _).alloc _) id (xat_keep ht2 hmx ⟨x0, x1, x2, x3⟩)
              · exact (ht3.trans ht2 (fun j hj hlt => by omega)).alloc _
          · have e0 : (d == 0) = false := by simpa using h0
            have e1 : (d == 1) = false := by simpa using h1
            have e2 : (d == 2) = false := by simpa using h2
            have e3 : (d == 3) = false := by simpa using h3
            clear h0 h1 h2 h3
            go_wp2_with (fail)
            go_meet
            case rel =>
              exact ⟨rfl, r, c, rfl, hr, hrx, ⟨x0, x1, x2, x3⟩, Hcm.out, Hcr.out, H64.out, ht3⟩
        case rest =>
          obtain ⟨rfl, r', c', rfl, hr', hxr', hx', hcm', hcr', h64', ht4⟩ := hcut
          clear x0 x1 x2 x3 Hcm Hcr hrm hrx hr H64 ht3
          obtain ⟨x0, x1, x2, x3⟩ := hx'
          have Hcm := Lib.hid hcm'
          have Hcr := Lib.hid hcr'
          have H64 := Lib.hid h64'
          clear hcm' hcr' h64'
          go_wp2_with (fail)
          refine (all_in _ c' _ Hcm.out).mono ?_
          rintro e w2 ⟨v, rfl, hown, ht2⟩
          have hlc := Hcm.out.lt
          have hlr := Hcr.out.lt
          have Hown := Lib.hid hown
          have y1 := keepc ht2 id x1
          have Hcm2 := Lib.hid (Hcm.out.keep ht2 id)
          have Hcr2 := Lib.hid (Hcr.out.keep ht2 id)
          have hob : ∀ j, v.ownBlock = some j → j ≠ r' ∧ j ≠ bx ∧ w.heap.size ≤ j := fun j hj => by
            have h1 := hown.lt j hj
            have h2 := World.block_lt_of_cell? _ _ x1
            have h3 := ht4.size
            simp only at h2
            omega
          clear hown Hcm Hcr x0 x1 x2 x3
          go_wp2_with (fail)
          go_region_held3 (fun wy => wy.cell? ⟨bx, 1, none⟩ = some (.int .i64 i)) (first | exact y1 | exact keepc ‹Touch _ _ _› (by first | assumption | exact id) (by assumption) | assumption)
            (first
              | (go_at_call 21; (with_reducible refine (get_any _ c' _ _ ?_).mono ?_); exact Hcm2.out; rintro e w3 ⟨rfl, rfl⟩)
              | (go_at_call 12; (with_reducible refine (rget_any _ c' _ _ ?_ ?_).mono ?_); exact Hcr2.out; exact H64.out; rintro e w3 ⟨rfl, hm3, ht3⟩)
              | (go_at_call 22; (with_reducible refine (sameLongs_same _ _ (vals c') _ ?_ ?_ ?_).mono ?_); exact (reads_all Hown.out).keep ht3.undrew (fun j hj e => (hob j hj).1 e); exact hm3.reads; simp [vals]; rintro e w5 ⟨rfl, ht5⟩))
          have hsz3 := ht3.undrew.size
          have hsz4 := ht4.size
          have hsz5 := ht5.size
          have hsz2 := ht2.size
          have hown5 := own_keep (own_keep Hown.out ht3.undrew (fun j hj e => (hob j hj).1 e)) ht5 (fun _ _ h => h)
          have Hr5 := Lib.hid (hm3.keep ht5 id)
          have Hm5 := Lib.hid ((Hcm2.out.keep ht3.undrew (by omega)).keep ht5 id)
          have Ht5 := Lib.hid ((((ht4.trans ht2 (fun j h _ => h)).trans ht3.undrew (fun j hj hlt => by omega))).trans ht5 (fun j h _ => h))
          clear ht3 ht5 hm3
          go_wp2_with (fail)
          refine (overLongs_any _ 12 _ _ _ hown5 (by omega) (by omega)).mono ?_
          rintro e w6 ⟨rfl, ht6⟩
          go_wp2_with (fail)
          go_roundw
          case rel =>
            refine ⟨k + 1, r', c', by omega, by go_num, rfl, hr', Hm5.out.keep ht6 (fun e => ?_), Hr5.out.keep ht6 (fun e => (hob _ e).1 rfl), H64.out, Ht5.out.trans ht6 (fun j hj hlt => by have := (hob j hj).2.2; omega)⟩
            have := Hown.out.lt _ e
            have := Hcm2.out.lt
            omega
          case measure => simp [intOf]; omega
    · go_wp2_with (fail)
      refine (awake_any _).mono ?_
      rintro e w2 ⟨rfl, ht2⟩
      go_wp2_with (fail)
      go_ret
      exact ⟨rfl, ht.trans ht2 (fun _ h _ => h)⟩

set_option maxHeartbeats 400000 in
theorem walk_great (a : Option Addr) (len cap : Nat) (w : World) (hl : 80 < len) (hm : len ≤ maxLen) :
    Calls Try.prog 3 #[.slice a len cap] w fun e w' => e = .returned (.bool true) ∧ Touch (fun _ => False) w w' := by
  unfold maxLen at hm
  go_enter Try.func3, Try.ntmps3
  go_wp2_with (go_at_call 10; refine (awake_any _).mono ?_; rintro e w' ⟨rfl, ht⟩)
  go_ret
  exact ⟨rfl, ht⟩

theorem Try.infoAct : (Try.prog.info? 31).map (·.size) = some 5 := by kernel_rfl

set_option maxRecDepth 100000 in
theorem lifted (os : Os) (started : os.Started) (H : Type) (enc : TypeId × Value → H) :
    ReturnsInHanded {} Try.checked os 3 .any (Rows.meterScriptSpec.pre6 enc Try.prog Try.f3 Rows.meterScriptRow.domain false) (Rows.meterScriptSpec.post enc Try.prog Try.f3 false true false false) := by
  refine returnsInHanded_of_change (C := Try.checked) Try.own started (by kernel_rfl) Try.func3
    (ChangeSpec.witness6 (enc := enc) (C := Try.checked) false ⟨#[], #[.slice none 0 0], []⟩ 8 (by kernel_rfl) (by kernel_rfl) (by kernel_rfl) (by kernel_rfl)) ?_
  intro W base args ds gs before hval0 hW hcnd _
  have hval : ∀ (j : Nat) t v, Try.f3.params[j]? = some t → args[j]? = some v → Value.okWide Try.prog W .any base t v := hval0
  have hW' := hW
  obtain ⟨p, q, hA0, hV, rfl, hfz, hnd⟩ := hW
  have hA : DataW.TrodAll enc Try.prog W 0 (fun _ => true) true Try.f3.params.toList args.toList ds p := hA0
  rw [Try.params3] at hA hval
  obtain ⟨v0, d0, rfl, rfl, h0⟩ := trodAll_one hA
  obtain ⟨rfl, rfl⟩ := trodVars_none hV
  obtain ⟨a, len, cap, rfl, hm, hc⟩ := open_structs Try.underlying22 Try.underlying31 (by kernel_rfl) (by kernel_rfl) (by decide) (hval 0 22 v0 rfl rfl) h0
  have hacts : Acts W a len := by
    intro k hk
    obtain ⟨b, off, rfl, hb, hf⟩ := hc k hk
    obtain ⟨c0, y0, m0, e0, h0⟩ := hf 0 _ rfl
    obtain ⟨c1, y1, m1, e1, h1⟩ := hf 1 _ rfl
    obtain ⟨c2, y2, m2, e2, h2⟩ := hf 2 _ rfl
    obtain ⟨c3, y3, m3, e3, h3⟩ := hf 3 _ rfl
    obtain ⟨c4, y4, m4, e4, h4⟩ := hf 4 _ rfl
    obtain ⟨x0, g0, _, u0⟩ := DataW.trod_int Try.underlying3 h0
    obtain ⟨x1, g1, _, u1⟩ := DataW.trod_int Try.underlying3 h1
    obtain ⟨x2, g2, _, u2⟩ := DataW.trod_int Try.underlying2 h2
    obtain ⟨x3, g3, _, u3⟩ := DataW.trod_int Try.underlying2 h3
    obtain ⟨x4, g4, _⟩ := DataW.trod_bool Try.underlying4 h4
    simp only [List.cons.injEq, and_true] at g0 g1 g2 g3 g4
    subst g0 g1 g2 g3 g4
    exact ⟨b, off, x0, x1, x2, x3, x4, rfl, hb, v64_wf u2, v64_wf u3, e0, e1, e2, e3, e4⟩
  refine Calls.mono (R := fun e w' => e = .returned (.bool true) ∧ Touch (fun _ => False) W w') ?_ fun e W' ⟨he, hw⟩ => ?_
  · by_cases hl : len ≤ 80
    · exact walk_small a len cap W hl hacts
    · exact walk_great a len cap W (by omega) hm
  subst he
  exact ⟨_, rfl, law_post Try.laidOut (by kernel_rfl) rfl Try.underlying4 rfl rfl ⟨rfl, rfl, rfl⟩ hW' (hw.below fun _ h _ => h)⟩

theorem meterScript_holds : Rows.MeterScriptSaid :=
  OpenClaim.holds_of_wide 3 Try.f3 rfl rfl rfl rfl rfl rfl rfl ⟨rfl, rfl, rfl, rfl, rfl⟩ rfl rfl rfl rfl rfl (by kernel_rfl) Try.func3 (by kernel_rfl)
    (of_decide_eq_true (by kernel_rfl)) (by unfold Func.isWrapper; first | (rw [if_pos (by decide +kernel)]; kernel_rfl) | (rw [if_neg (by decide +kernel)]; exact ⟨rfl, rfl⟩))
    (fun os started H enc _ => lifted os started H enc)
end LawMeterScript
end Go.Proofs.Ytfibglpiohkcoaa
