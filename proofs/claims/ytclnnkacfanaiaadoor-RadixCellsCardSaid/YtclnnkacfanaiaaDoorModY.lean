/- Texts of one chain, in one file. -/
import Derived.Test.YtclnnkacfanaiaaDoorSameX
/- Contracts of package model: what is asked of a map. -/
namespace Go.Proofs.YtclnnkacfanaiaaDoor
open Go.RowKit
set_option linter.unusedVariables false
set_option linter.unusedSimpArgs false

/-- block g holds a map of pairs by rising keys; all that it holds lies in F -/
def Mp (w : World) (g : Nat) (F : Nat → Prop) (ps : Prs) : Prop :=
  ∃ (v : Value) (es : List El), es.map (·.2) = ps ∧ w.cell? ⟨g, 0, none⟩ = some v ∧ w.frozen? ⟨g, 0, none⟩ = false ∧ F g ∧ w.ownsRow 0 33 2 v es.length (flat es) ∧
    (∀ b, v.ownBlock = some b → F b ∧ b ≠ g) ∧ (∀ e ∈ es, RB w (fun b => F b ∧ b ≠ g ∧ v.ownBlock ≠ some b) e.1 e.2.1) ∧ (∀ b, F b → b < w.heap.size) ∧ Rises ps ∧ (∀ p ∈ ps, KB p.1 ∧ p.1.length ≤ 65535)
namespace Mp
variable {w w' : World} {g : Nat} {F S : Nat → Prop} {ps : Prs}
theorem keep (h : Mp w g F ps) (t : Touch S w w') (hd : ∀ b, F b → ¬ S b) : Mp w' g F ps := by
  obtain ⟨v, es, h1, h2, h3, h4, h5, h6, h7, h8, h9, h10⟩ := h
  exact ⟨v, es, h1, keepc t (hd g h4) h2, keepf (p := ⟨g, 0, none⟩) t (World.block_lt_of_cell? _ _ h2) (hd g h4) h3, h4, own_keep h5 t fun b hb => hd b (h6 b hb).1, h6, fun e he => (h7 e he).keep t fun b hb => hd b hb.1,
    fun b hb => Nat.lt_of_lt_of_le (h8 b hb) t.size, h9, h10⟩
theorem ext (h : Mp w g F ps) (t : Ext w w') : Mp w' g F ps := h.keep t fun _ _ h => h
theorem rises (h : Mp w g F ps) : Rises ps := by obtain ⟨v, es, _, _, _, _, _, _, _, _, h9, _⟩ := h; exact h9
theorem kb (h : Mp w g F ps) : ∀ p ∈ ps, KB p.1 := by obtain ⟨v, es, _, _, _, _, _, _, _, _, _, h10⟩ := h; exact fun p hp => (h10 p hp).1
theorem long (h : Mp w g F ps) : ∀ p ∈ ps, p.1.length ≤ 65535 := by obtain ⟨v, es, _, _, _, _, _, _, _, _, _, h10⟩ := h; exact fun p hp => (h10 p hp).2
theorem lt (h : Mp w g F ps) : ∀ b, F b → b < w.heap.size := by obtain ⟨v, es, _, _, _, _, _, _, _, h8, _⟩ := h; exact h8
theorem self (h : Mp w g F ps) : F g := by obtain ⟨v, es, _, _, _, h4, _⟩ := h; exact h4
theorem row (h : Mp w g F ps) : ∃ v, w.cell? ⟨g, 0, none⟩ = some v ∧ RP w F v ps := by
  obtain ⟨v, es, h1, h2, h3, h4, h5, h6, h7, h8, _⟩ := h
  exact ⟨v, h2, es, h1, Cells2.of_own h5 (fun b hb => (h6 b hb).1), fun e he => (h7 e he).mono fun b hb => hb.1⟩
end Mp

/-- two cells of a block are stored -/
abbrev set2 (w : World) (b o : Nat) (u v : Value) : World := (w.setCell ⟨b, o, none⟩ u).setCell ⟨b, o + 1, none⟩ v
theorem touch_set2 (w : World) (b o o' : Nat) (u v : Value) : Touch (fun i => i = b) w ((w.setCell ⟨b, o, none⟩ u).setCell ⟨b, o', none⟩ v) :=
  Touch.setCell (S := fun i => i = b) (Touch.setCell (S := fun i => i = b) (Touch.refl _ _) (p := ⟨b, o, none⟩) (Or.inl rfl) _) (p := ⟨b, o', none⟩) (Or.inl rfl) _
theorem set2_get0 {w : World} {b : Nat} {u v u0 : Value} (h0 : w.cell? ⟨b, 0, none⟩ = some u0) : ((w.setCell ⟨b, 0, none⟩ u).setCell ⟨b, 1, none⟩ v).cell? ⟨b, 0, none⟩ = some u := by
  rw [World.cell?_setCell_other _ _ _ _ (by simp)]; exact World.cell?_setCell_same _ _ _ h0
theorem set2_get1 {w : World} {b : Nat} {u v v0 : Value} (h1 : w.cell? ⟨b, 1, none⟩ = some v0) : ((w.setCell ⟨b, 0, none⟩ u).setCell ⟨b, 1, none⟩ v).cell? ⟨b, 1, none⟩ = some v :=
  World.cell?_setCell_same _ _ _ (by rw [World.cell?_setCell_other _ _ _ _ (by simp)]; exact h1)

namespace ModA
variable {F G : Nat → Prop}
theorem cmp_any (w : World) (kv kw : Value) (x : Int) (a b : List Int) (ha : RB w F kv a) (hb : RB w G kw b) (ka : KB a) (kb : KB b) :
    Calls Tryd.prog 92 #[.agg #[kv, .int .u64 x], kw] w fun e w' => e = .returned (.int .i64 (cmpK a b)) ∧ Ext w w' := by
  obtain ⟨a0, c0, rfl, _⟩ := ha.shape
  obtain ⟨b0, d0, rfl, _⟩ := hb.shape
  go_enter Tryd.func92, Tryd.ntmps92
  go_wp2_with (fail)
  have t := (Touch.refl (fun _ => False) w).alloc (.cells #[.slice a0 a.length c0, .int .u64 x] 33)
  (with_reducible refine (keyCompare_any _ F G _ _ a b (ha.ext t) (hb.ext t) ka kb).mono ?_)
  rintro e w' ⟨rfl, rfl⟩
  go_wp2_with (fail)
  go_ret
  exact ⟨rfl, t⟩

theorem search_end {ps : Prs} {k : List Int} {i : Nat} (hr : Rises ps) (hi : i ≤ ps.length) (h1 : ∀ j p, j < i → ps[j]? = some p → cmpK p.1 k < 0) (h2 : ∀ j p, i ≤ j → ps[j]? = some p → ¬ cmpK p.1 k < 0) : rk ps k = i :=
  rk_eq hi (fun j p hj hp => ltK_iff.2 (h1 j p hj hp)) (fun p hp => ltK_false.2 (h2 i p (Nat.le_refl _) hp))

set_option maxRecDepth 100000 in
set_option maxHeartbeats 1600000 in
theorem search_any (w : World) (v kw : Value) (ps : Prs) (k : List Int) (h : RP w F v ps) (hk : RB w G kw k) (hr : Rises ps) (hps : ∀ p ∈ ps, KB p.1) (kb : KB k) (hm : ps.length ≤ 1000000) :
    Calls Tryd.prog 91 #[v, kw, .func (.func 92) #[] #[]] w fun e w' => e = .returned (.tuple #[.int .i64 (rk ps k), .bool (hasK ps k)]) ∧ Ext w w' := by
  obtain ⟨a, c, rfl, l1, m1, hn⟩ := h.shape
  obtain ⟨kb0, kc, rfl, l2, m2, n2⟩ := hk.shape
  have H := Lib.hid h
  clear h
  have Hk := Lib.hid hk
  clear hk
  have Hr := Lib.hid hr
  clear hr
  have Hps := Lib.hid hps
  clear hps
  have Kb := Lib.hid kb
  clear kb
  go_enter Tryd.func91, Tryd.ntmps91
  go_wp2_with (fail)
  go_loopw [9, 10] (fun s9 s10 wr => ∃ i j : Nat, i ≤ j ∧ j ≤ ps.length ∧ s9 = .int .i64 i ∧ s10 = .int .i64 j ∧ (∀ x p, x < i → ps[x]? = some p → cmpK p.1 k < 0) ∧ (∀ x p, j ≤ x → ps[x]? = some p → ¬ cmpK p.1 k < 0) ∧ Ext w wr) (fun s9 s10 _ => (intOf s10).toNat - (intOf s9).toNat)
  case atStart => exact ⟨0, ps.length, by omega, by omega, rfl, rfl, fun x p hx => by omega, (fun x p hx hp => by have := (List.getElem?_eq_some_iff.1 hp).1; omega), Touch.refl _ _⟩
  case round =>
    obtain ⟨i, j, hij, hj, rfl, rfl, hlo, hhi, ht⟩ := hrel
    have Hlo := Lib.hid hlo
    clear hlo
    have Hhi := Lib.hid hhi
    clear hhi
    by_cases hlt : i < j
    · obtain ⟨b, off, rfl, _⟩ := H.out.addr (by omega)
      have hml : (i + j) / 2 < ps.length := by omega
      have hg := List.getElem?_eq_getElem hml
      obtain ⟨kv, c0, c1, hkv⟩ := (H.out.ext ht).get _ _ hg
      have hkp := Hps.out _ (List.mem_of_getElem? hg)
      generalize ps[(i + j) / 2] = p at *
      obtain ⟨ka, kd, rfl, _⟩ := hkv.shape
      have Hg := Lib.hid hg
      clear hg
      have Hkv := Lib.hid hkv
      clear hkv
      have Hkp := Lib.hid hkp
      clear hkp
      by_cases hcmp : cmpK p.1 k < 0
      · go_wp2_with (fail)
        (with_reducible refine (cmp_any _ _ _ _ p.1 k Hkv.out (Hk.out.ext ht) Hkp.out Kb.out).mono ?_)
        rintro e w1 ⟨rfl, ht1⟩
        go_wp2_with (fail)
        go_roundw
        case rel =>
          refine ⟨(i + j) / 2 + 1, j, by omega, by omega, by go_num, rfl, fun x q hx hq => ?_, (fun x q hx hq => by have := Hhi.out x q hx hq; omega), ht.trans' ht1⟩
          rcases Nat.eq_or_lt_of_le (Nat.le_of_lt_succ hx) with he | hl
          · rw [he, Hg.out] at hq; cases hq; exact hcmp
          · exact cmpK_trans (Hr.out.get hq Hg.out hl) hcmp
        case measure => simp [intOf]; omega
      · go_wp2_with (fail)
        (with_reducible refine (cmp_any _ _ _ _ p.1 k Hkv.out (Hk.out.ext ht) Hkp.out Kb.out).mono ?_)
        rintro e w1 ⟨rfl, ht1⟩
        go_wp2_with (fail)
        go_roundw
        case rel =>
          refine ⟨i, (i + j) / 2, by omega, by omega, rfl, by go_num, Hlo.out, fun x q hx hq => ?_, ht.trans' ht1⟩
          rcases Nat.eq_or_lt_of_le hx with he | hl
          · rw [← he, Hg.out] at hq; cases hq; omega
          · intro h'
            have := cmpK_trans (Hr.out.get Hg.out hq hl) h'
            omega
        case measure => simp [intOf]; omega
    · have hij' : i = j := by omega
      subst hij'
      have hrk := search_end Hr.out (by omega) Hlo.out Hhi.out
      by_cases hil : i < ps.length
      · obtain ⟨b, off, rfl, _⟩ := H.out.addr (by omega)
        have hg := List.getElem?_eq_getElem hil
        obtain ⟨kv, c0, c1, hkv⟩ := (H.out.ext ht).get _ _ hg
        have hkp := Hps.out _ (List.mem_of_getElem? hg)
        have hnl := Hhi.out i _ (Nat.le_refl _) hg
        generalize ps[i] = p at *
        obtain ⟨ka, kd, rfl, _⟩ := hkv.shape
        have hfin : hasK ps k = (cmpK p.1 k == 0) := by
          unfold hasK
          rw [hrk, hg, Bool.eq_iff_iff]
          simp [cmpK_iff]
        have Hg := Lib.hid hg
        clear hg
        have Hkv := Lib.hid hkv
        clear hkv
        have Hkp := Lib.hid hkp
        clear hkp
        have Hfin := Lib.hid hfin
        clear hfin
        have Hrk := Lib.hid hrk
        clear hrk
        go_wp2_with (fail)
        (with_reducible refine (cmp_any _ _ _ _ p.1 k Hkv.out (Hk.out.ext ht) Hkp.out Kb.out).mono ?_)
        rintro e w1 ⟨rfl, ht1⟩
        go_wp2_with (fail)
        go_ret2
        rw [Hfin.out, Hrk.out]
        exact ⟨rfl, ht.trans' ht1⟩
      · have hfin : hasK ps k = false := by
          unfold hasK
          rw [hrk, List.getElem?_eq_none (by omega)]
        have Hfin := Lib.hid hfin
        clear hfin
        have Hrk := Lib.hid hrk
        clear hrk
        have b1 : decide ((i : Int) < (ps.length : Int)) = false := by simp; omega
        go_wp2_with (fail)
        go_ret2
        rw [Hfin.out, Hrk.out]
        exact ⟨rfl, ht⟩

/-! ### what is asked of a map; nil: there is none -/
/-- m is nil, or a map -/
def Mq (w : World) (m : Value) (F : Nat → Prop) (ps : Prs) : Prop := (m = .pointer none ∧ ps = []) ∨ ∃ g, m = .pointer (some ⟨g, 0, none⟩) ∧ Mp w g F ps
theorem Mq.ext {w w' : World} {m : Value} {F : Nat → Prop} {ps : Prs} (h : Mq w m F ps) (t : Ext w w') : Mq w' m F ps := by
  rcases h with h | ⟨g, h1, h2⟩
  · exact Or.inl h
  · exact Or.inr ⟨g, h1, h2.ext t⟩
theorem Mq.keep {w w' : World} {m : Value} {F S : Nat → Prop} {ps : Prs} (h : Mq w m F ps) (t : Touch S w w') (hd : ∀ b, F b → ¬ S b) : Mq w' m F ps := by
  rcases h with h | ⟨g, h1, h2⟩
  · exact Or.inl h
  · exact Or.inr ⟨g, h1, h2.keep t hd⟩
theorem Mq.of {w : World} {g : Nat} {F : Nat → Prop} {ps : Prs} (h : Mp w g F ps) : Mq w (.pointer (some ⟨g, 0, none⟩)) F ps := Or.inr ⟨g, rfl, h⟩
theorem Mq.rises {w : World} {m : Value} {F : Nat → Prop} {ps : Prs} (h : Mq w m F ps) : Rises ps := by
  rcases h with ⟨_, rfl⟩ | ⟨g, _, h⟩
  · exact List.Pairwise.nil
  · exact h.rises

theorem find_any (w : World) (m kw : Value) (ps : Prs) (k : List Int) (h : Mq w m F ps) (hk : RB w G kw k) (kb : KB k) (hm : ps.length ≤ 1000000) :
    Calls Tryd.prog 69 #[m, kw] w fun e w' => e = .returned (.tuple #[.int .i64 (rk ps k), .bool (hasK ps k)]) ∧ Ext w w' := by
  rcases h with ⟨rfl, rfl⟩ | ⟨g, rfl, h⟩
  · go_enter Tryd.func69, Tryd.ntmps69
    go_wp2
    go_ret2
    exact ⟨rfl, Touch.refl _ _⟩
  · obtain ⟨v, hv, hrp⟩ := h.row
    have hr := h.rises
    have hps := h.kb
    have H := Lib.hid h
    clear h
    have Hrp := Lib.hid hrp
    clear hrp
    have Hr := Lib.hid hr
    clear hr
    have Hps := Lib.hid hps
    clear hps
    go_enter Tryd.func69, Tryd.ntmps69
    go_wp2_with (fail)
    (with_reducible refine (search_any _ v kw ps k Hrp.out hk Hr.out Hps.out kb hm).mono ?_)
    rintro e w1 ⟨rfl, ht1⟩
    go_wp2_with (fail)
    go_ret2
    exact ⟨rfl, ht1⟩

theorem len_any (w : World) (m : Value) (ps : Prs) (h : Mq w m F ps) :
    Calls Tryd.prog 53 #[m] w fun e w' => e = .returned (.int .i64 ps.length) ∧ w = w' := by
  rcases h with ⟨rfl, rfl⟩ | ⟨g, rfl, h⟩
  · go_enter Tryd.func53, Tryd.ntmps53
    go_wp2
    go_ret
    exact ⟨rfl, rfl⟩
  · obtain ⟨v, hv, hrp⟩ := h.row
    obtain ⟨a, c, rfl, _⟩ := hrp.shape
    have H := Lib.hid h
    clear h
    have Hrp := Lib.hid hrp
    clear hrp
    go_enter Tryd.func53, Tryd.ntmps53
    go_wp2
    go_ret
    exact ⟨rfl, rfl⟩

theorem rank_any (w : World) (m kw : Value) (ps : Prs) (k : List Int) (h : Mq w m F ps) (hk : RB w G kw k) (kb : KB k) (hm : ps.length ≤ 1000000) :
    Calls Tryd.prog 57 #[m, kw] w fun e w' => e = .returned (.int .i64 (rk ps k)) ∧ Ext w w' := by
  go_enter Tryd.func57, Tryd.ntmps57
  go_wp2_with (fail)
  (with_reducible refine (find_any _ m kw ps k h hk kb hm).mono ?_)
  rintro e w1 ⟨rfl, ht1⟩
  go_wp2_with (fail)
  go_ret
  exact ⟨rfl, ht1⟩

theorem get_any (w : World) (m kw : Value) (ps : Prs) (k : List Int) (h : Mq w m F ps) (hk : RB w G kw k) (kb : KB k) (hm : ps.length ≤ 1000000) :
    Calls Tryd.prog 46 #[m, kw] w fun e w' => e = .returned (.tuple #[.int .u64 (valK ps k), .bool (hasK ps k)]) ∧ Ext w w' := by
  by_cases hh : hasK ps k = true
  · obtain ⟨x, hx, hv⟩ := hasK_some hh
    rcases h with ⟨rfl, rfl⟩ | ⟨g, rfl, h⟩
    · simp at hx
    · obtain ⟨v, c0, hrp⟩ := h.row
      obtain ⟨a, c, rfl, _⟩ := hrp.shape
      have hlt := hasK_lt hh
      obtain ⟨b, off, rfl, _⟩ := hrp.addr (by omega)
      obtain ⟨kv, c1, c2, _⟩ := hrp.get _ _ hx
      have hf := find_any (F := F) (G := G) w _ kw ps k (Mq.of h) hk kb hm
      rw [hh] at hf
      generalize rk ps k = r at *
      have i1 : (r : Int) < (ps.length : Int) := by omega
      have i0 : (0 : Int) ≤ (r : Int) := by omega
      have H := Lib.hid h
      clear h
      have Hrp := Lib.hid hrp
      clear hrp
      have Hf := Lib.hid hf
      clear hf
      have Hh := Lib.hid hh
      clear hh
      have Hx := Lib.hid hx
      clear hx
      have Hv := Lib.hid hv
      clear hv
      clear hk
      go_enter Tryd.func46, Tryd.ntmps46
      go_wp2_with (fail)
      refine Hf.out.mono ?_
      rintro e w1 ⟨rfl, ht1⟩
      have d0 := keepc ht1 id c0
      have d1 := keepc ht1 id c2
      clear c0 c1 c2
      go_wp2_with (fail)
      go_ret2
      rw [Hh.out, Hv.out]
      exact ⟨rfl, ht1⟩
  · have hh' : hasK ps k = false := by simpa using hh
    have hv := valK_none hh'
    have hf := find_any (F := F) (G := G) w _ kw ps k h hk kb hm
    rw [hh'] at hf
    have H := Lib.hid h
    clear h
    have Hf := Lib.hid hf
    clear hf
    have Hv := Lib.hid hv
    clear hv
    have Hh' := Lib.hid hh'
    clear hh'
    clear hh
    go_enter Tryd.func46, Tryd.ntmps46
    go_wp2_with (fail)
    refine Hf.out.mono ?_
    rintro e w1 ⟨rfl, ht1⟩
    go_wp2_with (fail)
    go_ret2
    rw [Hh'.out, Hv.out]
    exact ⟨rfl, ht1⟩

/-- a pair by itself -/
theorem pcopied_any (w : World) (kv : Value) (x : Int) (k : List Int) (hk : RB w G kv k) (hl : k.length ≤ 1000000) :
    Calls Tryd.prog 80 #[.agg #[kv, .int .u64 x]] w fun e w' => (∃ kv', e = .returned (.agg #[kv', .int .u64 x]) ∧ OB w' (Ge w.heap.size) kv' k) ∧ Ext w w' := by
  obtain ⟨ka, kc, rfl, _⟩ := hk.shape
  go_enter Tryd.func80, Tryd.ntmps80
  go_wp2_with (fail)
  obtain ⟨W, hW⟩ : ∃ W, W = (w.alloc (.cells #[.slice ka k.length kc, .int .u64 x] 33)).alloc (.cells #[.slice none 0 0, .int .u64 0] 33) := ⟨_, rfl⟩
  have t0 : Ext w W := by rw [hW]; exact ((Touch.refl _ _).alloc _).alloc _
  have hsz : W.heap.size = w.heap.size + 2 := by rw [hW]; simp
  have c0 : W.cell? ⟨w.heap.size, 0, none⟩ = some (.slice ka k.length kc) := by rw [hW]; simp
  have c1 : W.cell? ⟨w.heap.size, 1, none⟩ = some (.int .u64 x) := by rw [hW]; simp
  have d0 : W.cell? ⟨w.heap.size + 1, 0, none⟩ = some (.slice none 0 0) := by rw [hW]; simp
  have d1 : W.cell? ⟨w.heap.size + 1, 1, none⟩ = some (.int .u64 0) := by rw [hW]; simp
  have f0 : W.frozen? ⟨w.heap.size + 1, 0, none⟩ = false := by rw [hW]; simp
  have f1 : W.frozen? ⟨w.heap.size + 1, 1, none⟩ = false := by rw [hW]; simp
  rw [← hW]
  have Hsz := Lib.hid hsz
  clear hsz hW
  refine wp_region_plan (.take 0 (.take 1 (.take 3 (.take 4 (.must 2 (.take 5 (.must 6 .done))))))) (fun wy => Ext w wy ∧ wy.cell? ⟨w.heap.size, 0, none⟩ = some (.slice ka k.length kc) ∧ wy.cell? ⟨w.heap.size, 1, none⟩ = some (.int .u64 x)) (by kernel_rfl) (by kernel_rfl) (by kernel_rfl) rfl ?_ (fun KK hKK => ?_)
  · exact ⟨t0.drew, c0, c1⟩
  repeat (first
    | (refine wpPlan_take (v := ?_) rfl (by rfl) (fun W hW => ?_) ?_; rotate_left; (focus ((try dsimp only at hW); go_split_ands; go_simp; (try with_reducible rfl); done)); (try simp only [Act.put, List.setIfInBounds_toArray, List.set_cons_zero, List.set_cons_succ]))
    | (refine wpPlan_skip rfl (by rfl) ?_; (try simp only [Act.put, List.setIfInBounds_toArray, List.set_cons_zero, List.set_cons_succ])))
  refine wpPlan_must rfl (by rfl) (fun K hK => ?_)
  go_simp
  (with_reducible refine (clone_any _ G _ k (hk.ext t0.drew) hl).mono ?_)
  rintro e w1 ⟨⟨v', rfl, hob⟩, ht1⟩
  have t1 : Ext W w1 := (Touch.refl _ _).drew.trans' ht1
  refine hK.out _ _ ?_ ?_
  · exact ⟨t0.trans' t1, keepc t1 id c0, keepc t1 id c1⟩
  clear hK K
  (try simp only [Act.put, List.setIfInBounds_toArray, List.set_cons_zero, List.set_cons_succ])
  obtain ⟨va, vc, rfl⟩ := hob.shape
  have e0 := keepc t1 id d0
  have e1 := keepc t1 id d1
  have g0 := keepf (p := ⟨w.heap.size + 1, 0, none⟩) t1 (World.block_lt_of_cell? _ _ d0) id f0
  have g1 := keepf (p := ⟨w.heap.size + 1, 1, none⟩) t1 (World.block_lt_of_cell? _ _ d1) id f1
  have c0' := keepc t1 id c0
  have c1' := keepc t1 id c1
  clear c0 c1 d0 d1 f0 f1
  have Hob := Lib.hid hob
  clear hob
  repeat (first
    | (refine wpPlan_take (v := ?_) rfl (by rfl) (fun W hW => ?_) ?_; rotate_left; (focus ((try dsimp only at hW); go_split_ands; go_simp; (try with_reducible rfl); done)); (try simp only [Act.put, List.setIfInBounds_toArray, List.set_cons_zero, List.set_cons_succ]))
    | (refine wpPlan_skip rfl (by rfl) ?_; (try simp only [Act.put, List.setIfInBounds_toArray, List.set_cons_zero, List.set_cons_succ])))
  refine wpPlan_must rfl (by rfl) (fun K hK => ?_)
  go_simp
  have tt : Touch (fun b => b = w.heap.size + 1) w1 ((w1.setCell ⟨w.heap.size + 1, 0, none⟩ (.slice va k.length vc)).setCell ⟨w.heap.size + 1, 1, none⟩ (.int .u64 x)) := touch_set2 _ _ _ _ _ _
  have hbl : w.heap.size + 1 < w1.heap.size := World.block_lt_of_cell? _ _ e0
  refine hK.out _ _ ?_ ?_
  · exact ⟨(t0.trans' t1).ext_new tt (fun i hi => by omega), keepc tt (by simp) c0', keepc tt (by simp) c1'⟩
  clear hK K
  (try simp only [Act.put, List.setIfInBounds_toArray, List.set_cons_zero, List.set_cons_succ])
  refine wpPlan_done (hKK.out _ _ ?_)
  clear hKK KK
  have r0 := set2_get0 (u := .slice va k.length vc) (v := .int .u64 x) e0
  have r1 := set2_get1 (u := .slice va k.length vc) (v := .int .u64 x) e1
  go_wp2_with (fail)
  refine bodyPost_ret (v := .agg #[.slice va k.length vc, .int .u64 x]) (by simp [results, Tryd.results80, go_sem, r0, r1]) rfl ⟨⟨_, rfl, ?_⟩, (t0.trans' t1).ext_new tt (fun i hi => by omega)⟩
  have hob2 := (Hob.out.mono (fun b hb => hb)).keep' tt (fun b hb hb' => by
    have h1 : W.heap.size ≤ b := Hob.out.2 b hb
    have h2 := Hsz.out
    omega)
  exact hob2.mono (fun b hb => by have h1 : W.heap.size ≤ b := hb; have := Hsz.out; unfold Ge; omega)
end ModA
end Go.Proofs.YtclnnkacfanaiaaDoor

/- Contracts of package model: a pair of a map, its pairs. -/
namespace Go.Proofs.YtclnnkacfanaiaaDoor
open Go.RowKit
set_option linter.unusedVariables false
set_option linter.unusedSimpArgs false

def keyO (o : Option (List Int × Int)) : List Int := match o with | some p => p.1 | none => []
def valO (o : Option (List Int × Int)) : Int := match o with | some p => p.2 | none => 0
/-- a pair that may be there is returned, its key one's own -/
def PairRet (w : World) (o : Option (List Int × Int)) (e : Ending) (w' : World) : Prop :=
  (∃ kv, e = .returned (.tuple #[.agg #[kv, .int .u64 (valO o)], .bool o.isSome]) ∧ OB w' (Ge w.heap.size) kv (keyO o)) ∧ Ext w w'
def selK (ps : Prs) (i : Int) : Option (List Int × Int) := if 0 ≤ i then ps[i.toNat]? else none
def floorK (ps : Prs) (k : List Int) : Option (List Int × Int) := selK ps (if hasK ps k then rk ps k else (rk ps k : Int) - 1)
def ceilK (ps : Prs) (k : List Int) : Option (List Int × Int) := selK ps (rk ps k)

theorem PairRet.after {w w1 : World} {o : Option (List Int × Int)} {e : Ending} {w' : World} (h : PairRet w1 o e w') (t : Ext w w1) : PairRet w o e w' := by
  obtain ⟨⟨kv, h1, h2⟩, h3⟩ := h
  exact ⟨⟨kv, h1, h2.mono fun b hb => Nat.le_trans t.size hb⟩, t.trans' h3⟩

/-- the end of a function that hands a pair on -/
theorem pair_tail {w W w2 : World} {kv u v : Value} {k : List Int} (t : Ext w W) (ht : Ext W w2) (hlt : w.heap.size < W.heap.size) (hob : OB w2 (Ge W.heap.size) kv k) :
    OB ((w2.setCell ⟨w.heap.size, 0, none⟩ u).setCell ⟨w.heap.size, 1, none⟩ v) (Ge w.heap.size) kv k ∧ Ext w ((w2.setCell ⟨w.heap.size, 0, none⟩ u).setCell ⟨w.heap.size, 1, none⟩ v) := by
  have tt := touch_set2 w2 w.heap.size 0 1 u v
  refine ⟨(hob.keep' tt (fun b hb hb' => ?_)).mono (fun b hb => Nat.le_trans t.size hb), (t.trans' ht).ext_new tt (fun i hi => by omega)⟩
  have h1 : W.heap.size ≤ b := hob.2 b hb
  omega

namespace ModB
open ModA
variable {F G : Nat → Prop}
theorem select_none (w : World) (m : Value) (ps : Prs) (i : Int) (h : Mq w m F ps) (hm : ps.length ≤ 1000000) (hi : i < 0 ∨ ps.length ≤ i) :
    Calls Tryd.prog 56 #[m, .int .i64 i] w (PairRet w none) := by
  rcases hi with hi | hi
  · have b0 : decide (i < 0) = true := by simpa using hi
    go_enter Tryd.func56, Tryd.ntmps56
    go_wp2_with (fail)
    refine bodyPost_ret (v := .tuple #[.agg #[.slice none 0 0, .int .u64 0], .bool false]) (by simp [results, Tryd.results56, go_sem]) rfl ⟨⟨_, rfl, OB.nil _ _⟩, ?_⟩
    exact (((Touch.refl _ _).alloc _))
  · have b0 : decide (i < 0) = false := by simp; omega
    have b1 : decide ((ps.length : Int) ≤ i) = true := by simpa using hi
    go_enter Tryd.func56, Tryd.ntmps56
    go_wp2_with (fail)
    (with_reducible refine (len_any (F := F) _ m ps (h.ext ((Touch.refl _ _).alloc _))).mono ?_)
    rintro e w1 ⟨rfl, rfl⟩
    go_wp2_with (fail)
    refine bodyPost_ret (v := .tuple #[.agg #[.slice none 0 0, .int .u64 0], .bool false]) (by simp [results, Tryd.results56, go_sem]) rfl ⟨⟨_, rfl, OB.nil _ _⟩, ?_⟩
    exact (((Touch.refl _ _).alloc _))

set_option maxRecDepth 100000 in
set_option maxHeartbeats 800000 in
theorem select_some (w : World) (m : Value) (ps : Prs) (i : Nat) (h : Mq w m F ps) (hm : ps.length ≤ 1000000) (p : List Int × Int) (hp : ps[i]? = some p) :
    Calls Tryd.prog 56 #[m, .int .i64 i] w (PairRet w (some p)) := by
  have hlt := (List.getElem?_eq_some_iff.1 hp).1
  rcases h with ⟨rfl, rfl⟩ | ⟨g, rfl, h⟩
  · simp at hp
  · obtain ⟨v, c0, hrp⟩ := h.row
    have hlong := h.long p (List.mem_of_getElem? hp)
    obtain ⟨a, c, rfl, _⟩ := hrp.shape
    obtain ⟨b, off, rfl, _⟩ := hrp.addr (by omega)
    obtain ⟨kv, c1, c2, hkv⟩ := hrp.get _ _ hp
    obtain ⟨ka, kc, rfl, _⟩ := hkv.shape
    have b0 : decide ((i : Int) < 0) = false := by simp
    have b1 : decide ((ps.length : Int) ≤ (i : Int)) = false := by simp; omega
    have t0 : Ext w (w.alloc (.cells #[.slice none 0 0, .int .u64 0] 33)) := (Touch.refl _ _).alloc _
    have hl := len_any (F := F) _ _ ps (Mq.of (h.ext t0))
    have d0 := keepc t0 id c0
    have d1 := keepc t0 id c1
    have d2 := keepc t0 id c2
    have H := Lib.hid h
    clear h
    have Hrp := Lib.hid hrp
    clear hrp
    have Hp := Lib.hid hp
    clear hp
    have Hkv := Lib.hid hkv
    clear hkv
    have Hl := Lib.hid hl
    clear hl
    clear c0 c1 c2
    have i0 : (0 : Int) ≤ (i : Int) := by omega
    have i1 : (i : Int) < (ps.length : Int) := by omega
    go_enter Tryd.func56, Tryd.ntmps56
    go_wp2_with (fail)
    refine Hl.out.mono ?_
    rintro e w1 ⟨rfl, rfl⟩
    go_wp2_with (fail)
    (with_reducible refine (pcopied_any (G := F) _ _ p.2 p.1 (Hkv.out.ext t0) (by omega)).mono ?_)
    rintro e w1 ⟨⟨kv', rfl, hob⟩, ht1⟩
    obtain ⟨va, vc, rfl⟩ := hob.shape
    have e0 := keepc (p := ⟨w.heap.size, 0, none⟩) (v := .slice none 0 0) ht1 id (by simp)
    have e1 := keepc (p := ⟨w.heap.size, 1, none⟩) (v := .int .u64 0) ht1 id (by simp)
    have f0 := keepf (p := ⟨w.heap.size, 0, none⟩) ht1 (by simp) id (by simp)
    have f1 := keepf (p := ⟨w.heap.size, 1, none⟩) ht1 (by simp) id (by simp)
    have tt := touch_set2 w1 w.heap.size 0 1 (.slice va p.1.length vc) (.int .u64 p.2)
    have r0 := set2_get0 (u := .slice va p.1.length vc) (v := .int .u64 p.2) e0
    have r1 := set2_get1 (u := .slice va p.1.length vc) (v := .int .u64 p.2) e1
    have Hob := Lib.hid hob
    clear hob
    go_wp2_with (fail)
    refine bodyPost_ret (v := .tuple #[.agg #[.slice va p.1.length vc, .int .u64 p.2], .bool true]) (by simp [results, Tryd.results56, go_sem, r0, r1]) rfl ⟨⟨_, rfl, ?_⟩, (t0.trans' ht1).ext_new tt (fun i hi => by omega)⟩
    refine (Hob.out.keep' tt (fun b hb hb' => ?_)).mono (fun b hb => ?_)
    · have h1 : (w.alloc (.cells #[.slice none 0 0, .int .u64 0] 33)).heap.size ≤ b := Hob.out.2 b hb
      simp at h1; omega
    · have h1 : (w.alloc (.cells #[.slice none 0 0, .int .u64 0] 33)).heap.size ≤ b := hb
      simp at h1; unfold Ge; omega

theorem select_any (w : World) (m : Value) (ps : Prs) (i : Int) (h : Mq w m F ps) (hm : ps.length ≤ 1000000) :
    Calls Tryd.prog 56 #[m, .int .i64 i] w (PairRet w (selK ps i)) := by
  unfold selK
  by_cases h0 : 0 ≤ i
  · rw [if_pos h0]
    by_cases h1 : i.toNat < ps.length
    · obtain ⟨n, rfl⟩ := Int.eq_ofNat_of_zero_le h0
      rw [Int.toNat_natCast] at *
      have hg := List.getElem?_eq_getElem h1
      rw [hg]
      exact select_some w m ps n h hm _ hg
    · rw [List.getElem?_eq_none (by omega)]
      exact select_none w m ps i h hm (Or.inr (by omega))
  · rw [if_neg h0]
    exact select_none w m ps i h hm (Or.inl (by omega))

set_option maxRecDepth 100000 in
set_option maxHeartbeats 800000 in
theorem ceil_any (w : World) (m kw : Value) (ps : Prs) (k : List Int) (h : Mq w m F ps) (hk : RB w G kw k) (kb : KB k) (hm : ps.length ≤ 1000000) :
    Calls Tryd.prog 55 #[m, kw] w (PairRet w (ceilK ps k)) := by
  have t0 : Ext w (w.alloc (.cells #[.slice none 0 0, .int .u64 0] 33)) := (Touch.refl _ _).alloc _
  have hf := find_any (F := F) (G := G) _ m kw ps k (h.ext t0) (hk.ext t0) kb hm
  have hs := fun (W : World) (t : Ext w W) => select_any (F := F) W m ps (rk ps k) (h.ext t) hm
  have H := Lib.hid h
  have Hf := Lib.hid hf
  clear hf
  have Hs := Lib.hid hs
  clear hs
  clear h hk
  go_enter Tryd.func55, Tryd.ntmps55
  go_wp2_with (fail)
  refine Hf.out.mono ?_
  rintro e w1 ⟨rfl, ht1⟩
  go_wp2_with (fail)
  refine (Hs.out _ (t0.trans' ht1)).mono ?_
  rintro e w2 ⟨⟨kv, rfl, hob⟩, ht2⟩
  have hce : selK ps (rk ps k) = ceilK ps k := rfl
  rw [hce] at hob ⊢
  generalize ceilK ps k = o at *
  obtain ⟨va, vc, rfl⟩ := hob.shape
  have e0 := keepc (p := ⟨w.heap.size, 0, none⟩) (v := .slice none 0 0) ((ht1).trans' (ht2)) id (by simp)
  have e1 := keepc (p := ⟨w.heap.size, 1, none⟩) (v := .int .u64 0) ((ht1).trans' (ht2)) id (by simp)
  have f0 := keepf (p := ⟨w.heap.size, 0, none⟩) ((ht1).trans' (ht2)) (by simp) id (by simp)
  have f1 := keepf (p := ⟨w.heap.size, 1, none⟩) ((ht1).trans' (ht2)) (by simp) id (by simp)
  have r0 := set2_get0 (u := .slice va (keyO (o)).length vc) (v := .int .u64 (valO (o))) e0
  have r1 := set2_get1 (u := .slice va (keyO (o)).length vc) (v := .int .u64 (valO (o))) e1
  have hend := pair_tail (u := .slice va (keyO (o)).length vc) (v := .int .u64 (valO (o))) (t0.trans' ht1) (ht2) (by have := (ht1).size; simp at this ⊢ <;> omega) hob
  have Hend := Lib.hid hend
  clear hend hob
  go_wp2_with (fail)
  exact bodyPost_ret (v := .tuple #[.agg #[.slice va (keyO (o)).length vc, .int .u64 (valO (o))], .bool (o).isSome]) (by simp [results, Tryd.results55, go_sem, r0, r1]) rfl ⟨⟨_, rfl, Hend.out.1⟩, Hend.out.2⟩

set_option maxRecDepth 100000 in
set_option maxHeartbeats 800000 in
theorem floor_any (w : World) (m kw : Value) (ps : Prs) (k : List Int) (h : Mq w m F ps) (hk : RB w G kw k) (kb : KB k) (hm : ps.length ≤ 1000000) :
    Calls Tryd.prog 54 #[m, kw] w (PairRet w (floorK ps k)) := by
  have t0 : Ext w (w.alloc (.cells #[.slice none 0 0, .int .u64 0] 33)) := (Touch.refl _ _).alloc _
  have hf := find_any (F := F) (G := G) _ m kw ps k (h.ext t0) (hk.ext t0) kb hm
  have hle := rk_le ps k
  cases hh : hasK ps k with
  | true =>
    have hce : selK ps (rk ps k) = floorK ps k := by unfold floorK; rw [if_pos hh]
    have hs := fun (W : World) (t : Ext w W) => select_any (F := F) W m ps (rk ps k) (h.ext t) hm
    rw [hce] at hs
    rw [hh] at hf
    generalize floorK ps k = o at *
    generalize rk ps k = r at *
    have Hf := Lib.hid hf
    clear hf
    have Hs := Lib.hid hs
    clear hs
    have Hce := Lib.hid hce
    clear hce
    have Hh := Lib.hid hh
    clear hh
    clear h hk
    go_enter Tryd.func54, Tryd.ntmps54
    go_wp2_with (fail)
    refine Hf.out.mono ?_
    rintro e w1 ⟨rfl, ht1⟩
    go_wp2_with (fail)
    refine (Hs.out _ (t0.trans' ht1)).mono ?_
    rintro e w2 ⟨⟨kv, rfl, hob⟩, ht2⟩
    obtain ⟨va, vc, rfl⟩ := hob.shape
    have e0 := keepc (p := ⟨w.heap.size, 0, none⟩) (v := .slice none 0 0) ((ht1).trans' (ht2)) id (by simp)
    have e1 := keepc (p := ⟨w.heap.size, 1, none⟩) (v := .int .u64 0) ((ht1).trans' (ht2)) id (by simp)
    have f0 := keepf (p := ⟨w.heap.size, 0, none⟩) ((ht1).trans' (ht2)) (by simp) id (by simp)
    have f1 := keepf (p := ⟨w.heap.size, 1, none⟩) ((ht1).trans' (ht2)) (by simp) id (by simp)
    have r0 := set2_get0 (u := .slice va (keyO (o)).length vc) (v := .int .u64 (valO (o))) e0
    have r1 := set2_get1 (u := .slice va (keyO (o)).length vc) (v := .int .u64 (valO (o))) e1
    have hend := pair_tail (u := .slice va (keyO (o)).length vc) (v := .int .u64 (valO (o))) (t0.trans' ht1) (ht2) (by have := (ht1).size; simp at this ⊢ <;> omega) hob
    have Hend := Lib.hid hend
    clear hend hob
    go_wp2_with (fail)
    exact bodyPost_ret (v := .tuple #[.agg #[.slice va (keyO (o)).length vc, .int .u64 (valO (o))], .bool (o).isSome]) (by simp [results, Tryd.results54, go_sem, r0, r1]) rfl ⟨⟨_, rfl, Hend.out.1⟩, Hend.out.2⟩
  | false =>
    have hce : selK ps ((rk ps k : Int) - 1) = floorK ps k := by unfold floorK; rw [if_neg (by simp [hh])]
    have hs := fun (W : World) (t : Ext w W) => select_any (F := F) W m ps ((rk ps k : Int) - 1) (h.ext t) hm
    rw [hce] at hs
    rw [hh] at hf
    generalize floorK ps k = o at *
    generalize rk ps k = r at *
    have Hf := Lib.hid hf
    clear hf
    have Hs := Lib.hid hs
    clear hs
    have Hce := Lib.hid hce
    clear hce
    have Hh := Lib.hid hh
    clear hh
    clear h hk
    go_enter Tryd.func54, Tryd.ntmps54
    go_wp2_with (fail)
    refine Hf.out.mono ?_
    rintro e w1 ⟨rfl, ht1⟩
    go_wp2_with (fail)
    refine (Hs.out _ (t0.trans' ht1)).mono ?_
    rintro e w2 ⟨⟨kv, rfl, hob⟩, ht2⟩
    obtain ⟨va, vc, rfl⟩ := hob.shape
    have e0 := keepc (p := ⟨w.heap.size, 0, none⟩) (v := .slice none 0 0) ((ht1).trans' (ht2)) id (by simp)
    have e1 := keepc (p := ⟨w.heap.size, 1, none⟩) (v := .int .u64 0) ((ht1).trans' (ht2)) id (by simp)
    have f0 := keepf (p := ⟨w.heap.size, 0, none⟩) ((ht1).trans' (ht2)) (by simp) id (by simp)
    have f1 := keepf (p := ⟨w.heap.size, 1, none⟩) ((ht1).trans' (ht2)) (by simp) id (by simp)
    have r0 := set2_get0 (u := .slice va (keyO (o)).length vc) (v := .int .u64 (valO (o))) e0
    have r1 := set2_get1 (u := .slice va (keyO (o)).length vc) (v := .int .u64 (valO (o))) e1
    have hend := pair_tail (u := .slice va (keyO (o)).length vc) (v := .int .u64 (valO (o))) (t0.trans' ht1) (ht2) (by have := (ht1).size; simp at this ⊢ <;> omega) hob
    have Hend := Lib.hid hend
    clear hend hob
    go_wp2_with (fail)
    exact bodyPost_ret (v := .tuple #[.agg #[.slice va (keyO (o)).length vc, .int .u64 (valO (o))], .bool (o).isSome]) (by simp [results, Tryd.results54, go_sem, r0, r1]) rfl ⟨⟨_, rfl, Hend.out.1⟩, Hend.out.2⟩

/-! ### the first pairs from a key on -/
def fromN (ps : Prs) (r : Nat) (most : Int) : Prs := (ps.drop r).take most.toNat
def fromK (ps : Prs) (k : List Int) (most : Int) : Prs := fromN ps (rk ps k) most
theorem fromN_step (ps : Prs) (r j : Nat) (p : List Int × Int) (h : ps[r + j]? = some p) : (ps.drop r).take (j + 1) = (ps.drop r).take j ++ [p] := by
  rw [List.take_add_one, List.getElem?_drop, h]; rfl
theorem fromN_end (ps : Prs) (r j : Nat) (most : Int) (h : (j : Int) = most ∨ most < j ∧ j = 0 ∨ ps.length ≤ r + j) (hj : (j : Int) ≤ most ∨ j = 0) : (ps.drop r).take j = fromN ps r most := by
  unfold fromN
  rcases h with h | h | h
  · rw [← h]; simp
  · obtain ⟨h1, rfl⟩ := h
    have : most.toNat = 0 := by omega
    rw [this]
  · rw [List.take_of_length_le (by simp; omega), List.take_of_length_le (by simp; omega)]

set_option maxRecDepth 100000 in
set_option maxHeartbeats 1600000 in
theorem from_any (w : World) (m kw : Value) (ps : Prs) (k : List Int) (most : Int) (h : Mq w m F ps) (hk : RB w G kw k) (kb : KB k) (hm : ps.length ≤ 1000000) (hV : V64 most) :
    Calls Tryd.prog 52 #[m, kw, .int .i64 most] w fun e w' => (∃ v, e = .returned v ∧ OP w' (Ge w.heap.size) v (fromK ps k most)) ∧ Ext w w' := by
  have hf := find_any (F := F) (G := G) _ m kw ps k h hk kb hm
  have hend : ∀ j : Nat, ((j : Int) = most ∨ most < j ∧ j = 0 ∨ ps.length ≤ rk ps k + j) → ((j : Int) ≤ most ∨ j = 0) → (ps.drop (rk ps k)).take j = fromK ps k most := fun j h1 h2 => fromN_end ps _ j most h1 h2
  have hrl := rk_le ps k
  generalize fromK ps k most = out at *
  generalize rk ps k = r at *
  unfold V64 at hV
  have Hf := Lib.hid hf
  clear hf
  have H := Lib.hid h
  clear h
  have Hend := Lib.hid hend
  clear hend
  clear hk
  go_enter Tryd.func52, Tryd.ntmps52
  go_wp2_with (fail)
  refine Hf.out.mono ?_
  rintro e w1 ⟨rfl, ht1⟩
  go_wp2_with (fail)
  go_loopw [7, 9] (fun s7 s9 wr => ∃ j : Nat, r + j ≤ ps.length ∧ s7 = .int .i64 ((r + j : Nat) : Int) ∧ ((j : Int) ≤ most ∨ j = 0) ∧ OP wr (Ge w.heap.size) s9 ((ps.drop r).take j) ∧ Ext w wr) (fun s7 _ _ => ps.length - (intOf s7).toNat)
  case atStart => exact ⟨0, by omega, rfl, Or.inr rfl, OP.nil _ _, ht1⟩
  case round =>
    obtain ⟨j, hj, rfl, hjm, hop, ht⟩ := hrel
    rcases h0 : H.out with ⟨rfl, rfl⟩ | ⟨g, rfl, hmp⟩
    · clear h0
      have hl := len_any (F := F) wr (.pointer none) [] (Or.inl ⟨rfl, rfl⟩)
      have hr0 : r = 0 ∧ j = 0 := by simp at hj; omega
      obtain ⟨rfl, rfl⟩ := hr0
      have hfin := Hend.out 0 (Or.inr (Or.inr (by simp))) (Or.inr rfl)
      simp only [List.take_zero] at hop hfin
      subst hfin
      have Hl := Lib.hid hl
      clear hl
      have Hop := Lib.hid hop
      clear hop
      go_wp2_with (fail)
      refine Hl.out.mono ?_
      rintro e w2 ⟨rfl, rfl⟩
      go_wp2_with (fail)
      go_ret
      exact ⟨⟨_, rfl, Hop.out⟩, ht⟩
    · clear h0
      have hl := len_any (F := F) wr _ ps (Mq.of (hmp.ext ht))
      obtain ⟨v, c0, hrp⟩ := (hmp.ext ht).row
      obtain ⟨a, c, rfl, _⟩ := hrp.shape
      obtain ⟨va, vc, hva⟩ : ∃ va vc, u9 = .slice va ((ps.drop r).take j).length vc := by
        obtain ⟨es, hes, ho, _⟩ := hop
        obtain ⟨va, vc, h⟩ := own_len ho
        exact ⟨va, vc, by rw [← hes]; simpa using h⟩
      have hlen : ((ps.drop r).take j).length = j := by simp; omega
      rw [hlen] at hva
      subst hva
      by_cases hlt : r + j < ps.length
      · by_cases hmost : (j : Int) < most
        · obtain ⟨b, off, rfl, _⟩ := hrp.addr (by omega)
          have hg := List.getElem?_eq_getElem hlt
          obtain ⟨kv, c1, c2, hkv⟩ := hrp.get _ _ hg
          have hlong := hmp.long _ (List.mem_of_getElem? hg)
          obtain ⟨ka, kc, rfl, _⟩ := hkv.shape
          generalize ps[r + j] = p at *
          have hstep := fromN_step ps r j p hg
          obtain ⟨es, hes, ho, hF, hks, hd⟩ := hop
          have hel : es.length = j := by have := congrArg List.length hes; rw [hlen] at this; simpa using this
          have Hl := Lib.hid hl
          clear hl
          have Hg := Lib.hid hg
          clear hg
          have Hkv := Lib.hid hkv
          clear hkv
          have Hes := Lib.hid hes
          clear hes
          have Ho := Lib.hid ho
          clear ho
          have HF := Lib.hid hF
          clear hF
          have Hks := Lib.hid hks
          clear hks
          have Hd := Lib.hid hd
          clear hd
          have Hel := Lib.hid hel
          clear hel
          have Hstep := Lib.hid hstep
          clear hstep
          have Hlen := Lib.hid hlen
          clear hlen
          have i0 : (0 : Int) ≤ ((r + j : Nat) : Int) := by omega
          have i1 : ((r + j : Nat) : Int) < (ps.length : Int) := by omega
          go_wp2_with (fail)
          refine Hl.out.mono ?_
          rintro e w2 ⟨rfl, rfl⟩
          go_wp2_with (fail)
          (with_reducible refine (pcopied_any (G := F) _ _ p.2 p.1 Hkv.out (by omega)).mono ?_)
          rintro e w2 ⟨⟨kv', rfl, hob⟩, ht2⟩
          obtain ⟨qa, qc, rfl⟩ := hob.shape
          have ho2 := own_keep Ho.out (ht2.alloc (.cells #[.slice qa p.1.length qc, .int .u64 p.2] 33)) (fun _ _ h => h)
          have Hob := Lib.hid hob
          clear hob
          have Ho2 := Lib.hid ho2
          clear ho2
          go_wp2_with (at_builtin; refine wpList_push_any _ rfl _ _ 22 rfl 33 _ 2 32 Tryd.underlying22 info_pair rfl (by decide) (.slice va j vc) es.length (flat es) rfl Ho2.out (some ⟨w2.heap.size, 0, none⟩) 1 1 rfl (fun h => by cases h) [.slice qa p.1.length qc, .int .u64 p.2] (by omega) rfl (src_pair _ _ _ _) (pair_one Hob.out _) (by simp [maxLen]; have := Hel.out; omega) (by have := Hel.out; omega) ?_; intro v6 w3 hown3 ht3 hb3)
          have hop3 : OP w3 (Ge w.heap.size) v6 (es.map (·.2) ++ [(p.1, p.2)]) := op_append Ho.out HF.out Hks.out Hd.out (ht2.alloc _) (Hob.out.ext ((Touch.refl _ _).alloc _)) (fun b hb => by have := ht.size; unfold Ge; omega) hown3 ht3 hb3
          have e3 : Ext w w3 := (ht.trans' (ht2.alloc _)).ext_new ht3 (fun i hi => HF.out i hi)
          have Hop3 := Lib.hid hop3
          clear hop3 hown3 hb3 ht3
          go_wp2_with (fail)
          go_roundw
          case rel =>
            refine ⟨j + 1, by omega, by go_num, Or.inl (by omega), ?_, e3⟩
            rw [Hstep.out, ← Hes.out]
            exact Hop3.out
          case measure => simp [intOf]; omega
        · have hfin := Hend.out j (by omega) hjm
          rw [hfin] at hop
          have Hl := Lib.hid hl
          clear hl
          have Hop := Lib.hid hop
          clear hop
          have Hfin := Lib.hid hfin
          clear hfin
          have Hlen := Lib.hid hlen
          clear hlen
          go_wp2_with (fail)
          refine Hl.out.mono ?_
          rintro e w2 ⟨rfl, rfl⟩
          go_wp2_with (fail)
          go_ret
          exact ⟨⟨_, rfl, Hop.out⟩, ht⟩
      · have hfin := Hend.out j (by omega) hjm
        rw [hfin] at hop
        have Hl := Lib.hid hl
        clear hl
        have Hop := Lib.hid hop
        clear hop
        have Hfin := Lib.hid hfin
        clear hfin
        have Hlen := Lib.hid hlen
        clear hlen
        go_wp2_with (fail)
        refine Hl.out.mono ?_
        rintro e w2 ⟨rfl, rfl⟩
        go_wp2_with (fail)
        go_ret
        exact ⟨⟨_, rfl, Hop.out⟩, ht⟩
end ModB
end Go.Proofs.YtclnnkacfanaiaaDoor
