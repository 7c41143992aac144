/- Texts of one chain, in one file. -/
import Derived.Test.YtclnnkacfanaiaaDoorBase
import Derived.Test.YtclnnkacfanaiaaDoorKeyW
import Derived.Test.YtclnnkacfanaiaaDoorPlan
/- bramblelaw0's small functions. -/
namespace Go.Proofs.YtclnnkacfanaiaaDoor
open Go.RowKit
set_option linter.unusedVariables false
set_option linter.unusedSimpArgs false

namespace SameA
theorem take_succ_eq {α : Type} {xs ys : List α} {k : Nat} {d : α} (h : xs.take k = ys.take k) (h1 : xs[k]? = some d) (h2 : ys[k]? = some d) : xs.take (k + 1) = ys.take (k + 1) := by
  rw [List.take_add_one, List.take_add_one, h, h1, h2]

/-- Low: a number from 0 to below n -/
def low (x n : Int) : Int := x % 18446744073709551616 % n
theorem low_lt (x : Int) {n : Int} (hn : 0 < n) : 0 ≤ low x n ∧ low x n < n := by unfold low; exact ⟨Int.emod_nonneg _ (by omega), Int.emod_lt_of_pos _ hn⟩
theorem low_eq (x : Int) {n : Int} (hn : 0 < n) (hn2 : n < 1000000) : wrap64 ((IntKind.u64.wrap x).tmod n) = low x n := by
  have e : IntKind.u64.wrap x = x % 18446744073709551616 := by simp [IntKind.wrap, IntKind.signed, IntKind.bits]
  have h0 : 0 ≤ x % 18446744073709551616 := Int.emod_nonneg _ (by omega)
  rw [e, Int.tmod_eq_emod_of_nonneg h0]
  have := low_lt x hn
  unfold low at this ⊢
  exact w64 (by omega) (by omega)
theorem ret_int {k : IntKind} {a b : Int} (h : a = b) : Ending.returned (.int k a) = .returned (.int k b) := by rw [h]
theorem low_any (x n : Int) (w : World) (hx : V64 x) (hn : 0 < n) (hn2 : n < 1000000) :
    Calls Tryd.prog 27 #[.int .i64 x, .int .i64 n] w fun e w' => e = .returned (.int .i64 (low x n)) ∧ w = w' := by
  go_enter Tryd.func27, Tryd.ntmps27
  go_wp2
  go_ret
  exact ⟨ret_int (low_eq x hn hn2), rfl⟩
theorem low_ex (x n : Int) (w : World) (hx : V64 x) (hn : 0 < n) (hn2 : n < 1000000) :
    Calls Tryd.prog 27 #[.int .i64 x, .int .i64 n] w fun e w' => ∃ p : Int, 0 ≤ p ∧ p < n ∧ e = .returned (.int .i64 p) ∧ w = w' :=
  (low_any x n w hx hn hn2).mono fun e w' ⟨h1, h2⟩ => ⟨_, (low_lt x hn).1, (low_lt x hn).2, h1, h2⟩
end SameA
end Go.Proofs.YtclnnkacfanaiaaDoor

/- bramblelaw0's functions over lists of bytes. -/
namespace Go.Proofs.YtclnnkacfanaiaaDoor
open Go.RowKit
set_option linter.unusedVariables false
set_option linter.unusedSimpArgs false

namespace SameA
set_option maxRecDepth 100000 in
set_option maxHeartbeats 400000 in
theorem sameBytes_any (va vb : Value) (xs ys : List Int) (w : World) (ha : Reads w va (ivs .u8 xs)) (hb : Reads w vb (ivs .u8 ys)) (hm : xs.length ≤ 1000000) (hm2 : ys.length ≤ 1000000) :
    Calls Tryd.prog 17 #[va, vb] w fun e w' => e = .returned (.bool (decide (xs = ys))) ∧ Touch (fun _ => False) w w' := by
  obtain ⟨aa, ca, rfl, _, _⟩ := ha.shape
  obtain ⟨ab, cb, rfl, _, _⟩ := hb.shape
  simp only [ivs_length] at ha hb ⊢
  by_cases hl : xs.length = ys.length
  · have hl1 : ((xs.length : Int) != ys.length) = false := by simp [hl]
    have Hl := Lib.hid hl
    clear hl
    go_enter Tryd.func17, Tryd.ntmps17
    go_wp2
    go_loopw [5] (fun i5 wr => ∃ k : Nat, k ≤ xs.length ∧ i5 = .int .i64 k ∧ xs.take k = ys.take k ∧ Touch (fun _ => False) w wr) (fun i5 _ => xs.length - (intOf i5).toNat)
    case atStart => exact ⟨0, by omega, rfl, by simp, Touch.refl _ _⟩
    case round =>
      obtain ⟨k, hk, rfl, htake, ht⟩ := hrel
      have Ht := Lib.hid htake
      clear htake
      by_cases hlt : k < xs.length
      · obtain ⟨ba, oa, rfl⟩ := ha.addr (by simpa using (by omega : 0 < xs.length))
        obtain ⟨bb, ob, rfl⟩ := hb.addr (by have := Hl.out; simp; omega)
        obtain ⟨x, hx, h1⟩ := reads_cell (ha.keep ht (fun _ _ h => h)) k hlt
        obtain ⟨y, hy, h2⟩ := reads_cell (hb.keep ht (fun _ _ h => h)) k (by have := Hl.out; omega)
        have hltb : (k : Int) < (ys.length : Int) := by have := Hl.out; omega
        have Hx := Lib.hid hx
        have Hy := Lib.hid hy
        clear hx hy
        by_cases he : x = y
        · subst he
          go_wp2
          go_quiet (fail)
          go_wp2
          go_roundw
          case rel => exact ⟨k + 1, by omega, by go_num, take_succ_eq Ht.out Hx.out Hy.out, ht.drewN _⟩
          case measure => simp [intOf]; omega
        · have hne : (x != y) = true := by simpa using he
          have hfin : decide (xs = ys) = false := by
            rw [decide_eq_false_iff_not]; rintro rfl
            have h1 := Hx.out; have h2 := Hy.out
            rw [h1] at h2; exact he (Option.some.inj h2)
          have Hfin := Lib.hid hfin
          clear hfin he
          go_wp2
          go_quiet (fail)
          go_wp2
          go_ret
          rw [Hfin.out]
          exact ⟨rfl, ht.drewN _⟩
      · have hfin : decide (xs = ys) = true := by
          rw [decide_eq_true_iff]
          have h1 := Ht.out
          have h2 := Hl.out
          rwa [List.take_of_length_le (by omega), List.take_of_length_le (by omega)] at h1
        have Hfin := Lib.hid hfin
        clear hfin
        go_wp2
        go_ret
        rw [Hfin.out]
        exact ⟨rfl, ht⟩
  · have hl1 : ((xs.length : Int) != ys.length) = true := by simpa using (by omega : ¬ (xs.length : Int) = ys.length)
    have hfin : decide (xs = ys) = false := by rw [decide_eq_false_iff_not]; rintro rfl; exact hl rfl
    have Hfin := Lib.hid hfin
    clear hfin hl
    go_enter Tryd.func17, Tryd.ntmps17
    go_wp2
    go_ret
    rw [Hfin.out]
    exact ⟨rfl, Touch.refl _ _⟩

theorem sameBytes_same (va vb : Value) (xs : List Int) (w : World) (ha : Reads w va (ivs .u8 xs)) (hb : Reads w vb (ivs .u8 xs)) (hm : xs.length ≤ 1000000) :
    Calls Tryd.prog 17 #[va, vb] w fun e w' => e = .returned (.bool true) ∧ Touch (fun _ => False) w w' := by
  have h := sameBytes_any va vb xs xs w ha hb hm hm
  simpa using h

set_option maxRecDepth 100000 in
set_option maxHeartbeats 400000 in
theorem overBytes_any (v : Value) (n : Nat) (xs : List Value) (w : World) (base : Nat) (ho : w.ownsRow base 5 1 v n xs) (hn : n ≤ 1000000) (hbase : base ≤ w.heap.size) :
    Calls Tryd.prog 67 #[v] w fun e w' => e = .returned (.tuple #[]) ∧ Touch (fun k => v.ownBlock = some k) w w' := by
  obtain ⟨a, cap, rfl⟩ := own_len ho
  go_enter Tryd.func67, Tryd.ntmps67
  go_wp2
  go_loopw [2] (fun i2 wr => ∃ k : Nat, k ≤ n ∧ i2 = .int .i64 k ∧ (∃ xs', wr.ownsRow base 5 1 (.slice a n cap) n xs') ∧ Touch (fun k => (Value.slice a n cap).ownBlock = some k) w wr) (fun i2 _ => n - (intOf i2).toNat)
  case atStart => exact ⟨0, by omega, rfl, ⟨xs, ho⟩, Touch.refl _ _⟩
  case round =>
    obtain ⟨k, hk, rfl, ⟨xs', ho'⟩, ht⟩ := hrel
    have Ho := Lib.hid ho
    clear ho
    by_cases hlt : k < n
    · obtain ⟨g, rfl⟩ := own_addr ho' (by omega)
      obtain ⟨u, hu⟩ := own_cell ho' k hlt
      have hf := ho'.frozenAt k
      go_wp2
      go_roundw
      case rel =>
        obtain ⟨h1, h2⟩ := ho'.stored k (.int .u8 238)
        exact ⟨k + 1, by omega, by go_num, ⟨_, h1⟩, ht.trans' ((Touch.grown h2).mono (by intro i hi _; simpa [Value.ownBlock] using hi))⟩
      case measure => simp [intOf]; omega
    · have hsz := ht.size
      go_wp2_with (first
        | (at_builtin; refine wpList_push rfl _ _ 23 rfl base 5 (.int .u8 0) 1 Tryd.underlying23 (by kernel_rfl) rfl _ n _ rfl ho' _ rfl rfl ?c1 ?c2 ?c3 ?_; rotate_left 3; intro v' w1 hown1 ht1))
      case c1 => omega
      case c2 => simp [maxLen]; omega
      case c3 => omega
      go_end0
      exact ⟨rfl, ht.trans' ht1⟩

end SameA
end Go.Proofs.YtclnnkacfanaiaaDoor

/- bramblelaw0's functions over bytes and pairs. -/
namespace Go.Proofs.YtclnnkacfanaiaaDoor
open Go.RowKit
set_option linter.unusedVariables false
set_option linter.unusedSimpArgs false

namespace SameP
open SameA
variable {F G : Nat → Prop}
theorem same_bytes (w : World) (va vb : Value) (k l : List Int) (ha : RB w F va k) (hb : RB w G vb l) (hm : k.length ≤ 1000000) (hn : l.length ≤ 1000000) :
    Calls Tryd.prog 17 #[va, vb] w fun e w' => e = .returned (.bool (decide (k = l))) ∧ Ext w w' := sameBytes_any va vb k l w ha.reads hb.reads hm hn
theorem same_bytes_yes (w : World) (va vb : Value) (k : List Int) (ha : RB w F va k) (hb : RB w G vb k) (hm : k.length ≤ 1000000) :
    Calls Tryd.prog 17 #[va, vb] w fun e w' => e = .returned (.bool true) ∧ Ext w w' := sameBytes_same va vb k w ha.reads hb.reads hm
theorem over_bytes (w : World) (v : Value) (k : List Int) (h : OB w F v k) (hm : k.length ≤ 1000000) :
    Calls Tryd.prog 67 #[v] w fun e w' => e = .returned (.tuple #[]) ∧ Touch (fun b => v.ownBlock = some b) w w' := overBytes_any v _ _ w 0 h.1 hm (Nat.zero_le _)

set_option maxRecDepth 100000 in
set_option maxHeartbeats 800000 in
theorem same_pairs (w : World) (va vb : Value) (ps : Prs) (ha : RP w F va ps) (hb : RP w G vb ps) (hm : ps.length ≤ 1000000) (hk : ∀ p ∈ ps, p.1.length ≤ 1000000) :
    Calls Tryd.prog 26 #[va, vb] w fun e w' => e = .returned (.bool true) ∧ Ext w w' := by
  obtain ⟨aa, ca, rfl, _, _, _⟩ := ha.shape
  obtain ⟨ab, cb, rfl, _, _, _⟩ := hb.shape
  have Hk := Lib.hid hk
  clear hk
  go_enter Tryd.func26, Tryd.ntmps26
  go_wp2
  go_loopw [5] (fun i5 wr => ∃ k : Nat, k ≤ ps.length ∧ i5 = .int .i64 k ∧ Ext w wr) (fun i5 _ => ps.length - (intOf i5).toNat)
  case atStart => exact ⟨0, by omega, rfl, Touch.refl _ _⟩
  case round =>
    obtain ⟨k, hk, rfl, ht⟩ := hrel
    by_cases hlt : k < ps.length
    · obtain ⟨ba, oa, rfl, _⟩ := ha.addr (by omega)
      obtain ⟨bb, ob, rfl, _⟩ := hb.addr (by omega)
      have hg := List.getElem?_eq_getElem hlt
      obtain ⟨ka, a0, a1, a2⟩ := (ha.ext ht).get k _ hg
      obtain ⟨kb, b0, b1, b2⟩ := (hb.ext ht).get k _ hg
      have hkl := Hk.out _ (List.mem_of_getElem? hg)
      generalize ps[k] = p at *
      have hva : (p.2 != p.2) = false := by simp
      have Hg := Lib.hid hg
      clear hg
      have A2 := Lib.hid a2
      clear a2
      have B2 := Lib.hid b2
      clear b2
      have Hkl := Lib.hid hkl
      clear hkl
      have i0 : (0 : Int) ≤ (k : Int) := by omega
      have i1 : (k : Int) < (ps.length : Int) := by omega
      go_wp2
      refine wp_region_plan (.take 0 (.take 1 (.take 2 (.take 3 (.take 4 (.take 5 (.take 6 (.take 7 (.take 8 (.take 9 (.take 10 (.take 11 (.take 12 (.take 13 (.take 14 (.take 15 (.take 16 (.take 17 (.take 18 (.take 19 (.take 20 (.take 21 (.must 22 (.take 23 (.take 24 .done))))))))))))))))))))))))) (fun wy => Touch (fun _ => False) wr wy ∧ wy.cell? ⟨ba, oa + k * 2, none⟩ = some ka ∧ wy.cell? ⟨ba, oa + k * 2 + 1, none⟩ = some (.int .u64 p.2) ∧ wy.cell? ⟨bb, ob + k * 2, none⟩ = some kb ∧ wy.cell? ⟨bb, ob + k * 2 + 1, none⟩ = some (.int .u64 p.2)) (by kernel_rfl) (by kernel_rfl) (by kernel_rfl) rfl ?_ (fun KK hKK => ?_)
      · exact ⟨(Touch.refl _ _).drew, a0, a1, b0, b1⟩
      repeat (first
        | (refine wpPlan_take (v := ?_) rfl (by rfl) (fun W hW => ?_) ?_; rotate_left; (focus ((try dsimp only at hW); go_split_ands; go_simp; (try with_reducible rfl); done)); (try simp only [Act.put, List.setIfInBounds_toArray, List.set_cons_zero, List.set_cons_succ]))
        | (refine wpPlan_skip rfl (by rfl) ?_; (try simp only [Act.put, List.setIfInBounds_toArray, List.set_cons_zero, List.set_cons_succ])))
      refine wpPlan_must rfl (by rfl) (fun K hK => ?_)
      go_simp
      (with_reducible refine (same_bytes_yes _ _ _ p.1 (A2.out.ext (Touch.refl _ _).drew) (B2.out.ext (Touch.refl _ _).drew) Hkl.out).mono ?_)
      rintro e w1 ⟨rfl, ht1⟩
      refine hK.out _ _ ?_ ?_
      · exact ⟨(Touch.refl _ _).drew.trans' ht1, keepc ht1 id a0, keepc ht1 id a1, keepc ht1 id b0, keepc ht1 id b1⟩
      clear hK K
      (try simp only [Act.put, List.setIfInBounds_toArray, List.set_cons_zero, List.set_cons_succ])
      repeat (first
        | (refine wpPlan_take (v := ?_) rfl (by rfl) (fun W hW => ?_) ?_; rotate_left; (focus ((try dsimp only at hW); go_split_ands; go_simp; (try with_reducible rfl); done)); (try simp only [Act.put, List.setIfInBounds_toArray, List.set_cons_zero, List.set_cons_succ]))
        | (refine wpPlan_skip rfl (by rfl) ?_; (try simp only [Act.put, List.setIfInBounds_toArray, List.set_cons_zero, List.set_cons_succ])))
      refine wpPlan_done (hKK.out _ _ ?_)
      clear hKK KK
      go_wp2
      go_roundw
      case rel => exact ⟨k + 1, by omega, by go_num, ht.trans' ((Touch.refl _ _).drew.trans' ht1)⟩
      case measure => simp [intOf]; omega
    · go_wp2
      go_ret
      exact ⟨rfl, ht⟩

/-! ### what was answered is written over -/
theorem get_drop_set {es : List El} {k : Nat} {e : El} {x : El} (j : Nat) (hj : k < j) : (es.set k x)[j]? = es[j]? := by
  rw [List.getElem?_set]; simp; omega
theorem flat_set (es : List El) (k : Nat) (x : El) (hk : k < es.length) : flat (es.set k x) = ((flat es).set (k * 2) x.1).set (k * 2 + 1) (.int .u64 x.2.2) := by
  induction es generalizing k with
  | nil => simp at hk
  | cons e es ih =>
    cases k with
    | zero => rfl
    | succ k =>
      rw [List.set_cons_succ, flat_cons, flat_cons, ih k (by simpa using hk), show (k + 1) * 2 = k * 2 + 1 + 1 by omega]
      rfl

end SameP
end Go.Proofs.YtclnnkacfanaiaaDoor

/- bramblelaw0's functions that lend and copy. -/
namespace Go.Proofs.YtclnnkacfanaiaaDoor
open Go.RowKit
set_option linter.unusedVariables false
set_option linter.unusedSimpArgs false

/-- what was lent: the bytes, and three marked places behind them -/
def Lent (w : World) (g : Nat) (k : List Int) : Prop := w.ownsRow 0 5 1 (.slice (some ⟨g, 0, none⟩) k.length (k.length + 3)) k.length (ivs .u8 k) ∧ ∀ j, j < 3 → w.cell? ⟨g, k.length + j, none⟩ = some (.int .u8 119)
namespace Lent
variable {w w' : World} {g : Nat} {k : List Int} {S : Nat → Prop}
theorem keep (h : Lent w g k) (t : Touch S w w') (hn : ¬ S g) : Lent w' g k := ⟨own_keep h.1 t fun b hb => by cases hb; exact hn, fun j hj => keepc t hn (h.2 j hj)⟩
theorem ext (h : Lent w g k) (t : Ext w w') : Lent w' g k := h.keep t id
theorem ob (h : Lent w g k) : OB w (fun b => b = g) (.slice (some ⟨g, 0, none⟩) k.length (k.length + 3)) k := ⟨h.1, fun b hb => by cases hb; rfl⟩
theorem rb (h : Lent w g k) : RB w (fun b => b = g) (.slice (some ⟨g, 0, none⟩) k.length (k.length + 3)) k := h.ob.rb
end Lent

namespace SameP
open SameA
set_option maxRecDepth 100000 in
set_option maxHeartbeats 800000 in
theorem lend_any (w : World) (F : Nat → Prop) (v : Value) (k : List Int) (h : RB w F v k) (hm : k.length ≤ 1000000) :
    Calls Tryd.prog 65 #[v] w fun e w' => (∃ g, e = .returned (.slice (some ⟨g, 0, none⟩) k.length (k.length + 3)) ∧ Lent w' g k ∧ w.heap.size ≤ g) ∧ Ext w w' := by
  obtain ⟨a, c, rfl, l1, m1, hn⟩ := h.shape
  obtain ⟨i0, hi0, hz0, hz1, hz2⟩ := info_parts info_u8
  have e3 : k.length + 3 - k.length = 3 := by omega
  go_enter Tryd.func65, Tryd.ntmps65
  go_wp2_with (first
    | (at_make; refine wpList_make_own _ rfl _ _ 23 rfl 0 5 i0 (.int .u8 0) 1 Tryd.underlying23 hi0 hz0 hz1 .i64 .i64 _ (k.length + 3) rfl rfl (by first | rfl | omega | (simp; done)) (by rw [hz2]; omega) (by unfold maxLen; omega) (Nat.zero_le _) ?_; intro w1 hown1 hgrow1)
    | (at_builtin; refine wpList_push_room _ rfl _ _ 23 rfl 5 (.int .u8 0) 1 1 Tryd.underlying23 info_u8 (by decide) w.heap.size 0 (k.length + 3) [] rfl hown1 a k.length c rfl hn (ivs .u8 k) l1 (by simp [ivs]) (h.src.ext ((Touch.grown hgrow1).mono (by intro i hi _; cases hi))) (ivs_one _ _) (by omega) ?_; intro w2 hown2 ht2; simp only [Nat.zero_add, List.nil_append] at hown2))
  have ht0 : Ext w w2 := ((Touch.grown hgrow1).mono (fun i hi _ => by cases hi)).ext_new ht2 (fun i hi => by omega)
  clear hgrow1 hown1 ht2 e3
  have H := Lib.hid h
  clear h
  go_loopw [5] (fun i5 wr => ∃ j : Nat, j ≤ 3 ∧ i5 = .int .i64 j ∧ wr.ownsRow 0 5 1 (.slice (some ⟨w.heap.size, 0, none⟩) k.length (k.length + 3)) k.length (ivs .u8 k) ∧ (∀ i, i < j → wr.cell? ⟨w.heap.size, k.length + i, none⟩ = some (.int .u8 119)) ∧ Ext w wr) (fun i5 _ => 3 - (intOf i5).toNat)
  case atStart => exact ⟨0, by omega, rfl, hown2, fun i hi => by omega, ht0⟩
  case round =>
    clear hown2 ht0
    obtain ⟨j, hj, rfl, hown, hmark, ht⟩ := hrel
    have Hown := Lib.hid hown
    have Hmark := Lib.hid hmark
    clear hmark
    by_cases hlt : j < 3
    · obtain ⟨u, hu⟩ := own_spare hown (k.length + j) (by omega)
      have hf := hown.frozenAt (k.length + j)
      clear hown
      have j0 : (0 : Int) ≤ (j : Int) := by omega
      have j1 : (j : Int) < 3 := by omega
      go_wp2
      go_roundw
      case rel =>
        obtain ⟨h1, h2⟩ := Hown.out.stored (k.length + j) (.int .u8 119)
        rw [List.set_eq_of_length_le (by simp [ivs])] at h1
        refine ⟨j + 1, by omega, by go_num, h1, ?_, ht.ext_new (Touch.grown h2) (fun i hi => by have := Option.some.inj hi; omega)⟩
        intro i hi
        by_cases hij : i = j
        · subst hij
          exact World.cell?_setCell_same _ _ _ hu
        · rw [World.cell?_setCell_other _ _ _ _ (by simp <;> omega)]
          exact Hmark.out i (by omega)
      case measure => simp [intOf]; omega
    · clear hown
      have hj3 : j = 3 := by omega
      subst hj3
      go_wp2
      go_ret
      exact ⟨⟨w.heap.size, rfl, ⟨Hown.out, fun i hi => Hmark.out i hi⟩, Nat.le_refl _⟩, ht⟩

set_option maxRecDepth 100000 in
set_option maxHeartbeats 800000 in
theorem kept_any (w : World) (F : Nat → Prop) (v : Value) (g : Nat) (k : List Int) (h : Lent w g k) (hv : RB w F v k) (hm : k.length ≤ 1000000) :
    Calls Tryd.prog 66 #[.slice (some ⟨g, 0, none⟩) k.length (k.length + 3), v] w fun e w' => e = .returned (.bool true) ∧ Ext w w' := by
  have e3 : k.length + 3 - k.length = 3 := by omega
  have H := Lib.hid h
  have HV := Lib.hid hv
  clear h hv
  go_enter Tryd.func66, Tryd.ntmps66
  go_wp2_with (fail)
  clear e3
  go_loopw [6] (fun i6 wr => ∃ j : Nat, j ≤ 3 ∧ i6 = .int .i64 j ∧ Ext w wr) (fun i6 _ => 3 - (intOf i6).toNat)
  case atStart => exact ⟨0, by omega, rfl, Touch.refl _ _⟩
  case round =>
    obtain ⟨j, hj, rfl, ht⟩ := hrel
    by_cases hlt : j < 3
    · have hc := (H.out.ext ht).2 j hlt
      have j0 : (0 : Int) ≤ (j : Int) := by omega
      have j1 : (j : Int) < 3 := by omega
      go_wp2
      go_roundw
      case rel => exact ⟨j + 1, by omega, by go_num, ht⟩
      case measure => simp [intOf]; omega
    · have hj3 : j = 3 := by omega
      subst hj3
      go_wp2_with (fail)
      (with_reducible refine (same_bytes_yes _ _ _ k (H.out.ext ht).rb (HV.out.ext ht) hm).mono ?_)
      rintro e w1 ⟨rfl, ht1⟩
      go_wp2_with (fail)
      go_ret
      exact ⟨rfl, ht.trans' ht1⟩

/-- are pairs more than are gone through? -/
def great (ps : Prs) (most long : Int) : Bool := decide (most < ps.length) || ps.any fun p => decide (long < p.1.length)
set_option maxRecDepth 100000 in
set_option maxHeartbeats 800000 in
theorem great_any (w : World) (F : Nat → Prop) (v : Value) (ps : Prs) (most long : Int) (h : RP w F v ps) (hm : 0 ≤ most) (hm2 : most ≤ 1000000) (hl : 0 ≤ long) (hl2 : long ≤ 1000000) :
    Calls Tryd.prog 12 #[v, .int .i64 most, .int .i64 long] w fun e w' => e = .returned (.bool (great ps most long)) ∧ w = w' := by
  obtain ⟨a, c, rfl, l1, m1, hn⟩ := h.shape
  have H := Lib.hid h
  clear h
  unfold maxLen at m1
  by_cases hmost : (ps.length : Int) ≤ most
  · have hb : decide ((ps.length : Int) ≤ most) = true := by simpa using hmost
    go_enter Tryd.func12, Tryd.ntmps12
    go_wp2_with (fail)
    go_loop [7] (fun i7 => ∃ j : Nat, j ≤ ps.length ∧ i7 = .int .i64 j ∧ ∀ i p, i < j → ps[i]? = some p → (p.1.length : Int) ≤ long) (fun i7 => ps.length - (intOf i7).toNat)
    case atStart => exact ⟨0, by omega, rfl, fun i p hi => by omega⟩
    case round =>
      obtain ⟨j, hj, rfl, hall⟩ := hrel
      have Hall := Lib.hid hall
      clear hall
      by_cases hlt : j < ps.length
      · obtain ⟨b, off, rfl, _⟩ := H.out.addr (by omega)
        have hg := List.getElem?_eq_getElem hlt
        obtain ⟨kv, c0, c1, hk⟩ := H.out.get j _ hg
        generalize ps[j] = p at *
        obtain ⟨ka, kc, rfl, l2, m2, _⟩ := hk.shape
        have Hg := Lib.hid hg
        clear hg hk
        unfold maxLen at m2
        by_cases hlong : long < (p.1.length : Int)
        · have hfin : great ps most long = true := by
            unfold great
            rw [Bool.or_eq_true]
            exact Or.inr (List.any_eq_true.2 ⟨p, List.mem_of_getElem? Hg.out, by simpa using hlong⟩)
          have Hfin := Lib.hid hfin
          clear hfin
          go_wp2_with (fail)
          go_ret
          rw [Hfin.out]
          exact ⟨rfl, rfl⟩
        · go_wp2_with (fail)
          go_round
          case rel =>
            refine ⟨j + 1, by omega, by go_num, fun i q hi hq => ?_⟩
            by_cases hij : i = j
            · subst hij
              rw [Hg.out] at hq
              cases hq
              omega
            · exact Hall.out i q (by omega) hq
          case measure => simp [intOf]; omega
      · have hfin : great ps most long = false := by
          unfold great
          rw [Bool.or_eq_false_iff]
          refine ⟨by simpa using hmost, ?_⟩
          rw [List.any_eq_false]
          intro p hp
          obtain ⟨i, hi⟩ := List.mem_iff_getElem?.1 hp
          have := Hall.out i p (by have := (List.getElem?_eq_some_iff.1 hi).1; omega) hi
          simpa using this
        have hfin2 : decide (most < (ps.length : Int)) = false := by simpa using hmost
        have Hfin := Lib.hid hfin
        clear hfin
        go_wp2_with (fail)
        go_ret
        rw [Hfin.out]
        exact ⟨rfl, rfl⟩
  · have hb : decide ((ps.length : Int) ≤ most) = false := by simpa using hmost
    have hfin : great ps most long = true := by
      unfold great
      rw [Bool.or_eq_true]
      exact Or.inl (by simpa using hmost)
    have hb2 : decide (most < (ps.length : Int)) = true := by simpa using hmost
    have hpos : 0 < ps.length := by omega
    have Hfin := Lib.hid hfin
    clear hfin
    go_enter Tryd.func12, Tryd.ntmps12
    go_wp2_with (fail)
    go_loop [7] (fun i7 => i7 = .int .i64 0) (fun i7 => 0)
    case atStart => rfl
    case round =>
      subst hrel
      go_wp2_with (fail)
      go_ret
      rw [Hfin.out]
      exact ⟨rfl, rfl⟩
end SameP
end Go.Proofs.YtclnnkacfanaiaaDoor

/- bramblelaw0's functions that make bytes and pairs. -/
namespace Go.Proofs.YtclnnkacfanaiaaDoor
open Go.RowKit
set_option linter.unusedVariables false
set_option linter.unusedSimpArgs false

/-- the cells of a pair that was just laid down -/
theorem src_pair (w : World) (kv : Value) (x : Int) (t : TypeId) : Src (w.alloc (.cells #[kv, .int .u64 x] t)) (some ⟨w.heap.size, 0, none⟩) [kv, .int .u64 x] := by
  intro j u hj
  refine ⟨w.heap.size, 0, rfl, ?_⟩
  rw [World.cell?_alloc_new]
  match j, hj with
  | 0, hj => simpa using hj
  | 1, hj => simpa using hj
theorem pair_one {w : World} {F : Nat → Prop} {kv : Value} {k : List Int} (h : OB w F kv k) (x : Int) : ∀ u ∈ [kv, Value.int .u64 x], u.oneCell' = true := by
  intro u hu
  obtain ⟨a, c, rfl⟩ := h.shape
  simp at hu
  rcases hu with rfl | rfl <;> rfl

namespace SameP
open SameA
def longK (n : Nat) (last : Int) : List Int := List.replicate (n - 1) 120 ++ (if n = 0 then [] else [last])
theorem longK_length (n : Nat) (last : Int) : (longK n last).length = n := by
  unfold longK
  split
  · simp; omega
  · simp; omega
theorem longK_kb (n : Nat) (last : Int) (h : 0 ≤ last ∧ last < 256) : KB (longK n last) := by
  intro x hx
  unfold longK at hx
  rw [List.mem_append] at hx
  rcases hx with hx | hx
  · have := List.eq_of_mem_replicate hx; omega
  · split at hx
    · simp at hx
    · simp at hx; omega
theorem longK_set (n : Nat) (last : Int) (hn : 0 < n) : (List.replicate n (120 : Int)).set (n - 1) last = longK n last := by
  obtain ⟨m, rfl⟩ : ∃ m, n = m + 1 := ⟨n - 1, by omega⟩
  unfold longK
  rw [List.replicate_succ', if_neg (by omega)]
  simp [List.set_append]
set_option maxRecDepth 100000 in
set_option maxHeartbeats 800000 in
theorem long_any (w : World) (n : Nat) (last : Int) (hn : n ≤ 70000) (hl : 0 ≤ last ∧ last < 256) :
    Calls Tryd.prog 43 #[.int .i64 n, .int .u8 last] w fun e w' => (∃ v', e = .returned v' ∧ OB w' (Ge w.heap.size) v' (longK n last)) ∧ Ext w w' := by
  have b0 : decide ((n : Int) ≤ 70000) = true := by simp; omega
  go_enter Tryd.func43, Tryd.ntmps43
  go_wp2_with (fail)
  go_loopw [5, 6] (fun s5 s6 wr => ∃ j : Nat, j ≤ n ∧ s6 = .int .i64 j ∧ OB wr (Ge w.heap.size) s5 (List.replicate j 120) ∧ Ext w wr) (fun _ s6 _ => n - (intOf s6).toNat)
  case atStart => exact ⟨0, by omega, rfl, OB.nil _ _, Touch.refl _ _⟩
  case round =>
    obtain ⟨j, hj, rfl, hob, ht⟩ := hrel
    have hlen : (List.replicate j (120 : Int)).length = j := List.length_replicate
    obtain ⟨va, vc, hv⟩ := hob.shape
    rw [hlen] at hv
    subst hv
    by_cases hlt : j < n
    · have Hob := Lib.hid hob
      have Hob := Lib.hid hob
      clear hob
      have Hlen := Lib.hid hlen
      clear hlen
      go_wp2_with (first
        | (at_builtin; refine wpList_push_any _ rfl _ _ 23 rfl 5 (.int .u8 0) 1 1 Tryd.underlying23 info_u8 rfl (by decide) (.slice va j vc) j (ivs .u8 (List.replicate j 120)) (by first | rfl | (simp; done)) (by have := (Hob.out.1).alloc (.cells #[.int .u8 120] 5); rwa [Hlen.out] at this) (some ⟨wr.heap.size, 0, none⟩) 1 1 rfl (fun h => by cases h) [.int .u8 120] (by omega) rfl (by intro i u hi; refine ⟨_, 0, rfl, ?_⟩; rw [World.cell?_alloc_new]; simpa using hi) (by intro u hu; simp at hu; subst hu; rfl) (by simp [maxLen]; omega) (by omega) ?_; intro v5 w1 hown1 ht1 hb1))
      have e2 : Ext w w1 := (ht.alloc _).ext_new ht1 (fun i hi => Hob.out.2 i hi)
      have hob2 : OB w1 (Ge w.heap.size) v5 (List.replicate (j + 1) 120) := by
        refine ⟨?_, fun b hb => ?_⟩
        · rw [List.length_replicate, List.replicate_succ', ivs_append]
          exact hown1
        · rcases hb1 with h | h
          · exact Hob.out.2 b (h ▸ hb)
          · rw [h] at hb; cases hb; have := ht.size; simp [Ge]; omega
      have Hob2 := Lib.hid hob2
      clear hob2 hown1 hb1 ht1
      go_wp2_with (fail)
      go_roundw
      case rel => exact ⟨j + 1, by omega, by go_num, Hob2.out, e2⟩
      case measure => simp [intOf]; omega
    · have hjn : j = n := by omega
      subst hjn
      by_cases h0 : j = 0
      · subst h0
        have Hob := Lib.hid hob
        clear hob
        go_wp2_with (fail)
        go_ret
        exact ⟨⟨_, rfl, Hob.out⟩, ht⟩
      · obtain ⟨h1, h2⟩ := hob
        rw [hlen] at h1
        obtain ⟨g, rfl⟩ := own_addr h1 (by omega)
        obtain ⟨u, hu⟩ := own_cell h1 (j - 1) (by omega)
        have hf := h1.frozenAt (j - 1)
        obtain ⟨s1, s2⟩ := h1.stored (j - 1) (.int .u8 last)
        have i0 : (0 : Int) ≤ (j : Int) - 1 := by omega
        have i1 : (0 : Int) < (j : Int) := by omega
        have i2 : ((j : Int) - 1).toNat = j - 1 := by omega
        have hown : (wr.setCell ⟨g, j - 1, none⟩ (.int .u8 last)).ownsRow 0 5 1 (.slice (some ⟨g, 0, none⟩) j vc) j (ivs .u8 (longK j last)) := by
          have e : ivs .u8 (longK j last) = (ivs .u8 (List.replicate j 120)).set (j - 1) (.int .u8 last) := by
            rw [← longK_set j last (by omega)]; simp [ivs, List.map_set]
          rw [e]; exact s1
        have e2 : Ext w (wr.setCell ⟨g, j - 1, none⟩ (.int .u8 last)) := ht.ext_new (Touch.grown s2) (fun i hi => by cases hi; exact h2 g rfl)
        have h2' := h2 g rfl
        have H1 := Lib.hid h1
        clear h1
        have H2 := Lib.hid h2
        clear h2
        have Hown := Lib.hid hown
        clear hown
        have S1 := Lib.hid s1
        clear s1
        have Hlen := Lib.hid hlen
        clear hlen
        have H2' := Lib.hid h2'
        clear h2'
        clear s2
        go_wp2_with (fail)
        go_ret
        refine ⟨⟨_, rfl, ?_, fun b hb => ?_⟩, e2⟩
        · rw [longK_length]; exact Hown.out
        · cases hb; exact H2'.out
end SameP
end Go.Proofs.YtclnnkacfanaiaaDoor
