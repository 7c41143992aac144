/- The ternary tree writes its cells. -/
import Derived.Test.YthfnacadabhpdaaTernB
import Derived.Test.YthfnacadabhpdaaTreeB
import Derived.Test.YthfnacadabhpdaaTreeD
import Derived.Deep.DeepCutAuto
namespace Go.Proofs.Ythfnacadabhpdaa
open Go.RowKit
set_option linter.unusedVariables false
set_option linter.unusedSimpArgs false
namespace TernS
open TernB
variable {F : Nat → Prop}

/-- a block of cells that are known -/
def Cb (w : World) (b : Nat) (us : List Value) : Prop := ∀ (j : Nat) u, us[j]? = some u → w.cell? ⟨b, j, none⟩ = some u ∧ w.frozen? ⟨b, j, none⟩ = false
theorem Cb.set {w : World} {b : Nat} {us : List Value} (h : Cb w b us) (k : Nat) (u : Value) : Cb (w.setCell ⟨b, k, none⟩ u) b (us.set k u) := by
  intro j x hj
  rw [World.frozen?_setCell]
  by_cases hkj : k = j
  · subst hkj
    rw [List.getElem?_set_self' ] at hj
    cases hu : us[k]? with
    | none => rw [hu] at hj; simp at hj
    | some y =>
      rw [hu] at hj
      simp at hj
      subst hj
      exact ⟨World.cell?_setCell_same _ _ _ (h k y hu).1, (h k y hu).2⟩
  · rw [List.getElem?_set_ne hkj] at hj
    exact ⟨by rw [World.cell?_setCell_other _ _ _ _ (by simp [hkj])]; exact (h j x hj).1, (h j x hj).2⟩
theorem Cb.keep {S : Nat → Prop} {w w' : World} {b : Nat} {us : List Value} (h : Cb w b us) (t : Touch S w w') (hb : ¬ S b) : Cb w' b us := fun j u hj => ⟨keepc t hb (h j u hj).1, keepf (p := ⟨b, j, none⟩) t (World.block_lt_of_cell? _ _ (h j u hj).1) hb (h j u hj).2⟩
theorem Cb.new (w : World) (us : List Value) (t : TypeId) : Cb (w.alloc (.cells us.toArray t)) w.heap.size us := fun j u hj => ⟨by rw [World.cell?_alloc_new]; simpa using hj, by simp⟩

theorem rb_bound {w : World} {F : Nat → Prop} {v : Value} {k : List Int} (h : RB w F v k) : RB w (fun b => F b ∧ b < w.heap.size) v k := by
  obtain ⟨a, cap, h1, h2, h3, h4, h5⟩ := h
  refine ⟨a, cap, h1, h2, h3, h4, fun i hi => ?_⟩
  obtain ⟨b, off, h6, h7, h8⟩ := h5 i hi
  exact ⟨b, off, h6, ⟨h7, World.block_lt_of_cell? _ _ h8⟩, h8⟩
theorem rp_bound {w : World} {F : Nat → Prop} {v : Value} {ps : Prs} (h : RP w F v ps) : RP w (fun b => F b ∧ b < w.heap.size) v ps := by
  obtain ⟨es, h1, ⟨a, cap, g1, g2, g3, g4, g5⟩, h3⟩ := h
  refine ⟨es, h1, ⟨a, cap, g1, g2, g3, g4, fun i e he => ?_⟩, fun e he => rb_bound (h3 e he)⟩
  obtain ⟨b, off, h6, h7, h8, h9⟩ := g5 i e he
  exact ⟨b, off, h6, ⟨h7, World.block_lt_of_cell? _ _ h8⟩, h8, h9⟩
theorem rg_bound {w : World} {F : Nat → Prop} {v : Value} {G : List Prs} (h : RG w F v G) : RG w (fun b => F b ∧ b < w.heap.size) v G := by
  obtain ⟨a, cap, g1, g2, g3, g4, g5⟩ := h
  refine ⟨a, cap, g1, g2, g3, g4, fun i g hg => ?_⟩
  obtain ⟨b, off, u, h6, h7, h8, h9⟩ := g5 i g hg
  exact ⟨b, off, u, h6, ⟨h7, World.block_lt_of_cell? _ _ h8⟩, h8, rp_bound h9⟩

/-- a writer: its cells -/
structure Wr (w : World) (wb : Nat) (vo : Value) (cs : Cls) : Prop where
  c0 : w.cell? ⟨wb, 0, none⟩ = some vo
  f0 : w.frozen? ⟨wb, 0, none⟩ = false
  row : ∃ es : List Ec, es.map (·.2) = cs ∧ w.ownsRow 0 53 9 vo es.length (flatC es) ∧ ∀ e ∈ es, RB w (fun _ => False) e.1 e.2.key
  ne : vo.ownBlock ≠ some wb
/-- what a writer does not touch -/
def Kp (w : World) (wb : Nat) (vo : Value) : Nat → Prop := fun b => b < w.heap.size ∧ b ≠ wb ∧ vo.ownBlock ≠ some b
/-- one's own row, or a new one -/
abbrev Nx (w : World) (vo v' : Value) : Prop := v'.ownBlock = vo.ownBlock ∨ ∃ N, v'.ownBlock = some N ∧ w.heap.size ≤ N
theorem kp_step {S : Nat → Prop} {w w' : World} {wb : Nat} {vo v' : Value} (t : Touch S w w') (h : Nx w vo v') {b : Nat} (hb : Kp w wb vo b) : Kp w' wb v' b := by
  refine ⟨Nat.lt_of_lt_of_le hb.1 t.size, hb.2.1, fun h1 => ?_⟩
  rcases h with h2 | ⟨N, h2, h3⟩
  · exact hb.2.2 (h2 ▸ h1)
  · rw [h2] at h1; cases h1; have := hb.1; omega
theorem nx_trans {S : Nat → Prop} {w w' : World} {v0 v1 v2 : Value} (t : Touch S w w') (h1 : Nx w v0 v1) (h2 : Nx w' v1 v2) : Nx w v0 v2 := by
  rcases h2 with h | ⟨N, h, hN⟩
  · rcases h1 with g | ⟨M, g, hM⟩
    · exact Or.inl (h.trans g)
    · exact Or.inr ⟨M, h.trans g, hM⟩
  · exact Or.inr ⟨N, h, Nat.le_trans t.size hN⟩
abbrev Tw (wb : Nat) (vo : Value) : Nat → Prop := fun b => b = wb ∨ vo.ownBlock = some b
/-- two stretches of writing -/
theorem tw_trans {w w' w2 : World} {wb : Nat} {v0 v1 : Value} (t1 : Touch (Tw wb v0) w w') (h1 : Nx w v0 v1) (t2 : Touch (Tw wb v1) w' w2) : Touch (Tw wb v0) w w2 :=
  t1.trans t2 (fun i hi hlt => by
    rcases hi with hi | hi
    · exact Or.inl hi
    · rcases h1 with g | ⟨M, g, hM⟩
      · exact Or.inr (g ▸ hi)
      · rw [g] at hi; cases hi; omega)
theorem kp_not {w : World} {wb : Nat} {vo : Value} {b : Nat} (h : Kp w wb vo b) : ¬ Tw wb vo b := fun h1 => h1.elim h.2.1 h.2.2
theorem Wr.ext {w w' : World} {wb : Nat} {vo : Value} {cs : Cls} (h : Wr w wb vo cs) (x : Ext w w') : Wr w' wb vo cs := by
  obtain ⟨es, e1, e2, e3⟩ := h.row
  exact ⟨keepc x id h.c0, keepf (p := ⟨wb, 0, none⟩) x (World.block_lt_of_cell? _ _ h.c0) id h.f0, ⟨es, e1, own_keep e2 x (fun _ _ h => h), fun e he => (e3 e he).ext x⟩, h.ne⟩
def NodeRet (w : World) (wb : Nat) (vo : Value) (pre : Cls) (way : List Int) (l : List Prs) (e : Ending) (w' : World) : Prop :=
  e = .returned (.tuple #[]) ∧ ∃ vo' cs d, TT way l cs d ∧ Wr w' wb vo' (pre ++ cs) ∧ Touch (fun b => b = wb ∨ vo.ownBlock = some b) w w' ∧ (vo'.ownBlock = vo.ownBlock ∨ ∃ N, vo'.ownBlock = some N ∧ w.heap.size ≤ N)

theorem rp_empty (w : World) (K : Nat → Prop) (a : Option Addr) (c : Nat) (hc : c ≤ maxLen) (hn : a = none → c = 0) : RP w K (.slice a 0 c) [] := ⟨[], rfl, ⟨a, c, rfl, by simp, hc, hn, fun i e h => by simp at h⟩, fun e h => by simp at h⟩
theorem take_len_succ (l : List Prs) (j : Nat) (g) (h : l[j]? = some g) : (l.take (j + 1)).flatten.length = (l.take j).flatten.length + g.length := by
  rw [List.take_add_one, h]; simp
theorem take_len_le (l : List Prs) (j : Nat) : (l.take j).flatten.length ≤ l.flatten.length := by
  have h : l = l.take j ++ l.drop j := (List.take_append_drop j l).symm
  conv => rhs; rw [h]
  rw [List.flatten_append, List.length_append]; omega
abbrev cellV (n : Nat) (count kids : Nat) (b : Int) (f : Bool) (x : Int) : List Value := [.int .i64 4, .int .i64 n, .int .i64 count, .int .i64 kids, .int .u8 b, .bool f, .int .u64 x, .slice none 0 0, .slice none 0 0]

theorem tt_len_le {way : List Int} {l : List Prs} {cs : Cls} {d : Nat} (h : TT way l cs d) : cs.length ≤ mP way.length l.flatten := by
  induction h with
  | nil way => simp
  | node way l1 l2 G2 b f v ps cs1 cs2 cs3 d1 d2 d3 h1 h2 hG h3 hf hv lo hi hb bal on1 on2 on3 ih1 ih2 ih3 =>
    rw [hG] at ih2
    have hu := mP_up (on_up on2)
    have e : (l1 ++ ((if f then [(way ++ [b], v)] else []) ++ ps) :: l2).flatten = l1.flatten ++ (((if f then [(way ++ [b], v)] else []) ++ ps) ++ l2.flatten) := by simp
    rw [e, mP_append, mP_append, mP_append]
    have e1 : mP way.length (if f then [(way ++ [b], v)] else []) = if f then 1 else 0 := by cases f <;> simp [mP]
    have e2 : (way ++ [b]).length = way.length + 1 := by simp
    rw [e1]
    rw [e2] at ih2
    simp only [List.length_append, List.length_cons] at ih2 ⊢
    cases f with
    | true => simp only [if_true]; omega
    | false =>
      rcases hf with h8 | h8
      · cases h8
      · have := List.length_pos_iff.2 h8; simp only [Bool.false_eq_true, if_false]; omega

theorem node_nil (w : World) (wb : Nat) (vo : Value) (pre : Cls) (v : Value) (way : List Int) (hg : RG w F v []) (hw : Wr w wb vo pre) :
    Calls Try.prog 62 #[.pointer (some ⟨wb, 0, none⟩), v, .int .i64 way.length] w (NodeRet w wb vo pre way []) := by
  obtain ⟨a, c, rfl, _⟩ := hg.shape
  unfold NodeRet
  have Hg := Lib.hid hg
  clear hg
  have Hw := Lib.hid hw
  clear hw
  go_enter Try.func62, Try.ntmps62
  go_wp2_with (fail)
  exact bodyPost_ret (v := .tuple #[]) (by simp [results, Try.results62, go_sem]) rfl ⟨rfl, vo, [], 0, TT.nil way, by simpa using Hw.out, Touch.refl _ _, Or.inl rfl⟩


set_option maxRecDepth 100000 in
set_option maxHeartbeats 8000000 in
theorem node_any : ∀ (n : Nat) (w : World) (wb : Nat) (vo : Value) (pre : Cls) (v : Value) (way : List Int) (l : List Prs), mP way.length l.flatten ≤ n → RG w (Kp w wb vo) v l → Wr w wb vo pre → Good way.length l → On way l.flatten → Rises l.flatten →
    (∀ p ∈ l.flatten, KB p.1 ∧ p.1.length ≤ 65535) → pre.length + mP way.length l.flatten ≤ 100000000000 → l.flatten.length ≤ 1000000 → way.length ≤ 65535 →
    Calls Try.prog 62 #[.pointer (some ⟨wb, 0, none⟩), v, .int .i64 way.length] w (NodeRet w wb vo pre way l) := by
  intro n
  induction n with
  | zero =>
    intro w wb vo pre v way l hn hg hw hgood hon _ _ _ _ _
    have h1 := mP_pos hon
    have h2 := good_len hgood
    obtain rfl : l = [] := List.eq_nil_of_length_eq_zero (by omega)
    exact node_nil w wb vo pre v way hg hw
  | succ n ih =>
    intro w wb vo pre v way l hn hg hw hgood hon hr hpk hfit hm hwl
    by_cases hl0 : l.length = 0
    · obtain rfl := List.eq_nil_of_length_eq_zero hl0
      exact node_nil w wb vo pre v way hg hw
    have hlm : l.length ≤ 1000000 := Nat.le_trans (good_len hgood) hm
    obtain ⟨la, lc, rfl, l1, l2, _⟩ := hg.shape
    unfold maxLen at l2
    obtain ⟨lb, lo, rfl⟩ := hg.addr (by omega)
    obtain ⟨N, hN⟩ : ∃ N, N = l.length / 2 := ⟨_, rfl⟩
    have hNl : N < l.length := by omega
    have hgN := List.getElem?_eq_getElem hNl
    have hsp := split_mid l N hNl _ hgN
    obtain ⟨gv, lc0, hgp, hKl⟩ := hg.get N _ hgN
    generalize l[N] = g at *
    have hgoodp := hgood
    have hrp := hr
    have honp := hon
    rw [hsp] at hgoodp hrp honp
    obtain ⟨hg1, hg2, hgne, hsame, hlo, hhi⟩ := hgoodp.parts
    rw [flat_parts] at hrp honp
    have hrg : Rises g := (List.pairwise_append.1 (List.pairwise_append.1 hrp).2.1).1
    have hong : ∀ z ∈ g, ∃ b r, z.1 = way ++ b :: r := fun z hz => honp z (by simp [hz])
    obtain ⟨p, gs, rfl⟩ : ∃ p gs, g = p :: gs := by cases g with | nil => exact absurd rfl hgne | cons p gs => exact ⟨p, gs, rfl⟩
    obtain ⟨ga, gc, rfl, l3, l4, _⟩ := hgp.shape
    have l3' : gs.length + 1 ≤ gc := l3
    unfold maxLen at l4
    obtain ⟨gb, go, rfl, hKg⟩ := hgp.addr (by simp)
    obtain ⟨kv, e0, e1, hkv⟩ := hgp.get 0 p rfl
    simp only [Nat.zero_mul, Nat.add_zero] at e0 e1
    have hpm : p ∈ l.flatten := by rw [hsp]; simp
    have hpl := on_len hon hpm
    have hpb := on_get hon hpm
    have hpp := hpk p hpm
    obtain ⟨ka, kc, rfl, l5, l6, _⟩ := hkv.shape
    unfold maxLen at l6
    obtain ⟨kb, ko, rfl, hKk⟩ := hkv.addr (by omega)
    have k0 := hkv.cell way.length hpl
    have hbt : p.1[way.length] = bAt way.length p := by rw [List.getElem?_eq_getElem hpl] at hpb; exact Option.some.inj hpb
    rw [hbt] at k0
    have hgsl : gs.length + 1 ≤ 1000000 := by
      have h9 : gs.length + 1 ≤ l.flatten.length := by
        have h8 := congrArg (fun x => (List.flatten x).length) hsp
        simp only [flat_parts, List.length_append, List.length_cons] at h8
        omega
      omega
    generalize hb : bAt way.length p = b at *
    generalize hwn : way.length = wn at *
    have n0 : ((l.length : Int) == 0) = false := beq_eq_false_iff_ne.2 (by omega)
    have n1 : (0 : Int) ≤ (l.length : Int) / 2 := by omega
    have n2 : (l.length : Int) / 2 < (l.length : Int) := by omega
    have n3 : (wn : Int) < (p.1.length : Int) := by omega
    have n4 : (0 : Int) ≤ (wn : Int) := by omega
    have n5 : ((l.length : Int) / 2).toNat = N := by omega
    have hgl1 : (p :: gs).length = gs.length + 1 := rfl
    rw [hgl1] at *
    obtain ⟨w1, hw1⟩ : ∃ w1, w1 = w.alloc (.cells #[.int .i64 4, .int .i64 wn, .int .i64 0, .int .i64 0, .int .u8 b, .bool false, .int .u64 0, .slice none 0 0, .slice none 0 0] 53) := ⟨_, rfl⟩
    have x1 : Ext w w1 := by rw [hw1]; exact (Touch.refl _ _).alloc _
    have hcb1 : Cb w1 w.heap.size [.int .i64 4, .int .i64 wn, .int .i64 0, .int .i64 0, .int .u8 b, .bool false, .int .u64 0, .slice none 0 0, .slice none 0 0] := by rw [hw1]; exact Cb.new w _ _
    have hgp1 := hgp.ext x1
    have e0' := keepc x1 id e0
    have e1' := keepc x1 id e1
    have hgbw : gb ≠ w.heap.size := by have := hKg.1; omega
    obtain ⟨cb, hcbe⟩ : ∃ cb, cb = w.heap.size := ⟨_, rfl⟩
    rw [← hcbe] at hcb1 hgbw
    obtain ⟨⟨f, x, ps⟩, hmid⟩ : ∃ y : Bool × Int × Prs, ((p.1.length = wn + 1 ∧ y = (true, p.2, gs)) ∨ (p.1.length ≠ wn + 1 ∧ y = (false, 0, p :: gs))) ∧ (p :: gs) = (if y.1 then [(way ++ [b], y.2.1)] else []) ++ y.2.2 ∧ On (way ++ [b]) y.2.2 ∧ (y.1 = true ∨ y.2.2 ≠ []) ∧ (y.1 = false → y.2.1 = 0) ∧ y.2.2.length ≤ gs.length + 1 := by
      have hm2 := mid_full (way := way) (p := p) (g := gs) hrg (fun z hz => hong z hz) (fun z hz => by rw [hwn]; exact hsame z hz p (by simp))
      rw [hwn, hb] at hm2
      by_cases hfull : p.1.length = wn + 1
      · obtain ⟨h8, h9⟩ := hm2.1 hfull
        exact ⟨(true, p.2, gs), Or.inl ⟨hfull, rfl⟩, by simp [← h8], h9, Or.inl rfl, (fun h => by cases h), by simp⟩
      · exact ⟨(false, 0, p :: gs), Or.inr ⟨hfull, rfl⟩, by simp, hm2.2 hfull, Or.inr (by simp), fun _ => rfl, by simp⟩
    obtain ⟨hcase, hmid⟩ := hmid
    have hpsl := hmid.2.2.2.2
    simp only at hpsl
    have Hg := Lib.hid hg
    clear hg
    have Hw := Lib.hid hw
    clear hw
    have Hgood := Lib.hid hgood
    clear hgood
    have Hon := Lib.hid hon
    clear hon
    have Hr := Lib.hid hr
    clear hr
    have Hpk := Lib.hid hpk
    clear hpk
    have HgN := Lib.hid hgN
    clear hgN
    have Hsp := Lib.hid hsp
    clear hsp
    have Hgp := Lib.hid hgp
    clear hgp
    have Hgoodp := Lib.hid hgoodp
    clear hgoodp
    have Hrp := Lib.hid hrp
    clear hrp
    have Honp := Lib.hid honp
    clear honp
    have Hg1 := Lib.hid hg1
    clear hg1
    have Hg2 := Lib.hid hg2
    clear hg2
    have Hgne := Lib.hid hgne
    clear hgne
    have Hsame := Lib.hid hsame
    clear hsame
    have Hlo := Lib.hid hlo
    clear hlo
    have Hhi := Lib.hid hhi
    clear hhi
    have Hkv := Lib.hid hkv
    clear hkv
    have Hpm := Lib.hid hpm
    clear hpm
    have Hpb := Lib.hid hpb
    clear hpb
    have Hpp := Lib.hid hpp
    clear hpp
    have Hbt := Lib.hid hbt
    clear hbt
    have Hb := Lib.hid hb
    clear hb
    have Hwn := Lib.hid hwn
    clear hwn
    have Ih := Lib.hid ih
    clear ih
    have HN := Lib.hid hN
    clear hN
    have Hmid := Lib.hid hmid
    clear hmid
    have Hcb1 := Lib.hid hcb1
    clear hcb1
    have Hgp1 := Lib.hid hgp1
    clear hgp1
    have HKl := Lib.hid hKl
    clear hKl
    have HKg := Lib.hid hKg
    clear hKg
    have HKk := Lib.hid hKk
    clear hKk
    have Hcbe := Lib.hid hcbe
    clear hcbe
    have Hrg := Lib.hid hrg
    clear hrg
    have Hong := Lib.hid hong
    clear hong
    go_enter Try.func62, Try.ntmps62
    go_upto_region 4 with (fail)
    rw [← hw1]
    rw [← Hcbe.out]
    clear hw1 k0 e0 e1
    go_upto_if 37 with (fail)
    go_cut [7] (fun s7 wx => ∃ a7 c7, s7 = .slice a7 ps.length c7 ∧ RP wx (Kp w wb vo) (.slice a7 ps.length c7) ps ∧ Cb wx cb [.int .i64 4, .int .i64 wn, .int .i64 0, .int .i64 0, .int .u8 b, .bool f, .int .u64 x, .slice none 0 0, .slice none 0 0] ∧ Touch (fun i => i = cb) w1 wx)
    case first =>
      rcases hcase with ⟨hfull, hy⟩ | ⟨hfull, hy⟩
      · simp only [Prod.mk.injEq] at hy
        obtain ⟨rfl, rfl, rfl⟩ := hy
        have m0 : ((p.1.length : Int) == (wn : Int) + 1) = true := by simp; omega
        have m0' : ((p.1.length : Int) == ((wn + 1 : Nat) : Int)) = true := by simp; omega
        obtain ⟨q5, r5⟩ := Hcb1.out 5 _ rfl
        obtain ⟨q6, r6⟩ := Hcb1.out 6 _ rfl
        clear hfull
        go_wp2_with (fail)
        refine wp_region_plan (.take 0 (.take 1 (.take 2 (.take 3 (.take 4 (.must 5 (.take 6 (.last 7 .done)))))))) (fun wz => wz.cell? ⟨gb, go + 1, none⟩ = some (.int .u64 p.2)) (by kernel_rfl) (by kernel_rfl) (by kernel_rfl) rfl ?_ (fun KK hKK => ?_)
        · exact e1'
        repeat (first
          | (refine wpPlan_take (v := ?_) rfl (by rfl) (fun W hW => ?_) ?_; rotate_left; (focus ((try dsimp only at hW); go_split_ands; go_simp; (try with_reducible rfl); done)); (try simp only [Act.put, List.setIfInBounds_toArray, List.set_cons_zero, List.set_cons_succ]))
          | (refine wpPlan_skip rfl (by rfl) ?_; (try simp only [Act.put, List.setIfInBounds_toArray, List.set_cons_zero, List.set_cons_succ])))
        refine wpPlan_must rfl (by rfl) (fun K hK => ?_)
        go_simp
        have s5 : (w1.drew.setCell ⟨cb, 5, none⟩ (.bool true)).cell? ⟨gb, go + 1, none⟩ = some (.int .u64 p.2) := by rw [World.cell?_setCell_other _ _ _ _ (by simp [hgbw.symm])]; exact e1'
        have s6 : (w1.drew.setCell ⟨cb, 5, none⟩ (.bool true)).cell? ⟨cb, 6, none⟩ = some (.int .u64 0) := by rw [World.cell?_setCell_other _ _ _ _ (by simp)]; exact q6
        refine hK.out _ _ ?_ ?_
        · exact s5
        clear hK K
        (try simp only [Act.put, List.setIfInBounds_toArray, List.set_cons_zero, List.set_cons_succ])
        repeat (first
          | (refine wpPlan_take (v := ?_) rfl (by rfl) (fun W hW => ?_) ?_; rotate_left; (focus ((try dsimp only at hW); go_split_ands; go_simp; (try with_reducible rfl); done)); (try simp only [Act.put, List.setIfInBounds_toArray, List.set_cons_zero, List.set_cons_succ]))
          | (refine wpPlan_skip rfl (by rfl) ?_; (try simp only [Act.put, List.setIfInBounds_toArray, List.set_cons_zero, List.set_cons_succ])))
        refine wpPlan_last rfl (by rfl) (fun K hK => ?_)
        go_simp
        refine hK.out _ _ ?_
        clear hK K
        (try simp only [Act.put, List.setIfInBounds_toArray, List.set_cons_zero, List.set_cons_succ])
        refine wpPlan_done (hKK.out _ _ ?_)
        clear hKK KK
        have hcbf : Cb ((w1.drew.setCell ⟨cb, 5, none⟩ (.bool true)).setCell ⟨cb, 6, none⟩ (.int .u64 p.2)) cb (cellV wn 0 0 b true p.2) := (((Hcb1.out.keep (show Ext w1 w1.drew from (Touch.refl _ _).drew) id)).set 5 (.bool true)).set 6 (.int .u64 p.2)
        have htf : Touch (fun i => i = cb) w1 ((w1.drew.setCell ⟨cb, 5, none⟩ (.bool true)).setCell ⟨cb, 6, none⟩ (.int .u64 p.2)) := (((Touch.refl (fun i => i = cb) w1).drew).setCell (p := ⟨cb, 5, none⟩) (Or.inl rfl) _).setCell (p := ⟨cb, 6, none⟩) (Or.inl rfl) _
        have hgpf := Hgp1.out.keep htf (fun i hi h => by have h8 := hi.1; have h9 := Hcbe.out; omega)
        clear s5 s6 q5 r5 q6 r6
        have Hcbf := Lib.hid hcbf
        clear hcbf
        have Htf := Lib.hid htf
        clear htf
        have Hgpf := Lib.hid hgpf
        clear hgpf
        by_cases hgc : gc = 1
        · have hz : ps.length = 0 := by omega
          obtain rfl := List.eq_nil_of_length_eq_zero hz
          have hgc2 : gc ≤ 1 := by omega
          have hgc3 : 1 ≤ gc := by omega
          go_wp2_with (fail)
          all_goals
            go_meet
            exact ⟨_, _, rfl, rp_empty _ _ _ _ (by unfold maxLen; omega) (fun h => by cases h), Hcbf.out, Htf.out⟩
        · have hgc3 : (1 : Int) ≤ (gc : Int) := by omega
          go_wp2_with (fail)
          go_meet
          exact ⟨_, _, rfl, Hgpf.out.drop1, Hcbf.out, Htf.out⟩
      · simp only [Prod.mk.injEq] at hy
        obtain ⟨rfl, rfl, rfl⟩ := hy
        have m0 : ((p.1.length : Int) == (wn : Int) + 1) = false := by simp; omega
        have m0' : ((p.1.length : Int) == ((wn + 1 : Nat) : Int)) = false := by simp; omega
        clear hfull
        go_wp2_with (fail)
        go_meet
        exact ⟨_, _, rfl, Hgp1.out, Hcb1.out, Touch.refl _ _⟩
    case rest =>
      obtain ⟨a7, c7, rfl, hrp7, hcb7, ht7⟩ := hcut
      obtain ⟨_, _, hsh7, l7, l8, n7⟩ := hrp7.shape
      simp only [Value.slice.injEq] at hsh7
      obtain ⟨rfl, _, rfl⟩ := hsh7
      unfold maxLen at l8
      clear hcase e0' e1'
      have Hrp7 := Lib.hid hrp7
      clear hrp7
      have Hcb7 := Lib.hid hcb7
      clear hcb7
      have Ht7 := Lib.hid ht7
      clear ht7
      go_wp2_with (fail)
      go_loopw [48] (fun s48 wr => ∃ j : Nat, j ≤ l.length ∧ s48 = .int .i64 j ∧ Cb wr cb (cellV wn (l.take j).flatten.length 0 b f x) ∧ Touch (fun i => i = cb) wc wr) (fun s48 _ => l.length - (intOf s48).toNat)
      case atStart => exact ⟨0, by omega, rfl, Hcb7.out, Touch.refl _ _⟩
      case round =>
        obtain ⟨j, hj, rfl, hcbr, htr⟩ := hrel
        by_cases hjl : j < l.length
        · have hgj := List.getElem?_eq_getElem hjl
          have hsu := take_len_succ l j _ hgj
          have hsl := take_len_le l (j + 1)
          have hkeep : ∀ b', Kp w wb vo b' → ¬ b' = cb := fun b' hb' h => by have h8 := hb'.1; have h9 := Hcbe.out; omega
          obtain ⟨gvj, cj, hgpj, _⟩ := (((Hg.out.ext x1).keep Ht7.out hkeep).keep htr hkeep).get j _ hgj
          obtain ⟨aj, ccj, rfl, _⟩ := hgpj.shape
          obtain ⟨q2, r2⟩ := hcbr 2 _ rfl
          generalize l[j] = gj at *
          generalize hto : (l.take j).flatten.length = tot at *
          have i0 : (0 : Int) ≤ (j : Int) := by omega
          have i1 : (j : Int) < (l.length : Int) := by omega
          have hcb2 := hcbr.set 2 (.int .i64 ((tot : Int) + (gj.length : Int)))
          have hcn : ((tot : Int) + (gj.length : Int)) = (((l.take (j + 1)).flatten.length : Nat) : Int) := by omega
          have ht2 : Touch (fun i => i = cb) wc (wr.setCell ⟨cb, 2, none⟩ (.int .i64 ((tot : Int) + (gj.length : Int)))) := htr.setCell (p := ⟨cb, 2, none⟩) (Or.inl rfl) _
          have hb1 : tot + gj.length ≤ 1000000 := by omega
          have Hgj := Lib.hid hgj
          clear hgj
          have Hsu := Lib.hid hsu
          clear hsu
          have Hsl := Lib.hid hsl
          clear hsl
          have Hkeep := Lib.hid hkeep
          clear hkeep
          have Hgpj := Lib.hid hgpj
          clear hgpj
          have Hto := Lib.hid hto
          clear hto
          have Hcb2 := Lib.hid hcb2
          clear hcb2
          have Hcn := Lib.hid hcn
          clear hcn
          have Ht2 := Lib.hid ht2
          clear ht2
          have Hcbr := Lib.hid hcbr
          clear hcbr
          have Htr := Lib.hid htr
          clear htr
          go_wp2_with (fail)
          go_roundw
          case rel =>
            refine ⟨j + 1, by omega, by go_num, ?_, Ht2.out⟩
            have h9 := Hcb2.out
            rw [Hcn.out] at h9 ⊢
            exact h9
          case measure => simp [intOf]; omega
        · obtain rfl : j = l.length := by omega
          have i1 : ¬ ((l.length : Nat) : Int) < (l.length : Int) := by omega
          rw [List.take_length] at hcbr
          generalize hto : l.flatten.length = tot at *
          obtain ⟨kA, hkA⟩ : ∃ kA : Nat, kA = if N = 0 then 0 else 1 := ⟨_, rfl⟩
          obtain ⟨kB, hkB⟩ : ∃ kB : Nat, kB = kA + if ps.length = 0 then 0 else 2 := ⟨_, rfl⟩
          obtain ⟨kC, hkC⟩ : ∃ kC : Nat, kC = kB + if l.length - (N + 1) = 0 then 0 else 4 := ⟨_, rfl⟩
          obtain ⟨q3, r3⟩ := hcbr 3 _ rfl
          have hNn : N = l.length / 2 := HN.out
          have Hcbr := Lib.hid hcbr
          clear hcbr
          have Htr := Lib.hid htr
          clear htr
          have HkA := Lib.hid hkA
          clear hkA
          have HkB := Lib.hid hkB
          clear hkB
          have HkC := Lib.hid hkC
          clear hkC
          have Hto := Lib.hid hto
          clear hto
          have HNn := Lib.hid hNn
          clear hNn
          go_upto_if 60 with (fail)
          go_cut [] (fun wx => Cb wx cb (cellV wn tot kA b f x) ∧ Touch (fun i => i = cb) wr wx)
          case first =>
            by_cases hN0 : N = 0
            · have hA : kA = 0 := by rw [HkA.out, if_pos hN0]
              have hd : (l.length : Int) / 2 ≤ 0 := by have := HNn.out; omega
              clear hN0
              have HA := Lib.hid hA
              clear hA
              go_wp2_with (fail)
              go_meet
              rw [HA.out]
              exact ⟨Hcbr.out, Touch.refl _ _⟩
            · have hA : kA = 1 := by rw [HkA.out, if_neg hN0]
              have hd : 0 < (l.length : Int) / 2 := by have := HNn.out; omega
              clear hN0
              have HA := Lib.hid hA
              clear hA
              go_wp2_with (fail)
              go_meet
              rw [HA.out]
              exact ⟨Hcbr.out.set 3 _, (Touch.refl (fun i => i = cb) wr).setCell (p := ⟨cb, 3, none⟩) (Or.inl rfl) _⟩
          case rest =>
            obtain ⟨hcbA, htA⟩ := hcut
            obtain ⟨wA, rfl⟩ : ∃ wA, wA = wc := ⟨_, rfl⟩
            have hA1 : kA ≤ 1 := by rw [HkA.out]; split <;> omega
            obtain ⟨q3, r3⟩ := hcbA 3 _ rfl
            have HcbA := Lib.hid hcbA
            clear hcbA
            have HtA := Lib.hid htA
            clear htA
            go_upto_if 67 with (fail)
            go_cut [] (fun wx => Cb wx cb (cellV wn tot kB b f x) ∧ Touch (fun i => i = cb) wA wx)
            case first =>
              by_cases hp0 : ps.length = 0
              · have hA : kB = kA := by rw [HkB.out, if_pos hp0]; omega
                have hd : (ps.length : Int) ≤ 0 := by omega
                clear hp0
                have HA := Lib.hid hA
                clear hA
                go_wp2_with (fail)
                go_meet
                rw [HA.out]
                exact ⟨HcbA.out, Touch.refl _ _⟩
              · have hA : kB = kA + 2 := by rw [HkB.out, if_neg hp0]
                have hd : 0 < (ps.length : Int) := by omega
                clear hp0
                have HA := Lib.hid hA
                clear hA
                go_wp2_with (fail)
                go_meet
                rw [HA.out]
                exact ⟨HcbA.out.set 3 _, (Touch.refl (fun i => i = cb) wA).setCell (p := ⟨cb, 3, none⟩) (Or.inl rfl) _⟩
            case rest =>
              obtain ⟨hcbB, htB⟩ := hcut
              obtain ⟨wB, rfl⟩ : ∃ wB, wB = wc := ⟨_, rfl⟩
              have hB1 : kB ≤ 3 := by rw [HkB.out]; split <;> omega
              obtain ⟨q3, r3⟩ := hcbB 3 _ rfl
              have HcbB := Lib.hid hcbB
              clear hcbB
              have HtB := Lib.hid htB
              clear htB
              go_upto_if 76 with (fail)
              go_cut [] (fun wx => Cb wx cb (cellV wn tot kC b f x) ∧ Touch (fun i => i = cb) wB wx)
              case first =>
                by_cases hp0 : l.length - (N + 1) = 0
                · have hA : kC = kB := by rw [HkC.out, if_pos hp0]; omega
                  have hd : (l.length : Int) - 1 ≤ (l.length : Int) / 2 := by have := HNn.out; omega
                  clear hp0
                  have HA := Lib.hid hA
                  clear hA
                  go_wp2_with (fail)
                  go_meet
                  rw [HA.out]
                  exact ⟨HcbB.out, Touch.refl _ _⟩
                · have hA : kC = kB + 4 := by rw [HkC.out, if_neg hp0]
                  have hd : (l.length : Int) / 2 < (l.length : Int) - 1 := by have := HNn.out; omega
                  clear hp0
                  have HA := Lib.hid hA
                  clear hA
                  go_wp2_with (fail)
                  go_meet
                  rw [HA.out]
                  exact ⟨HcbB.out.set 3 _, (Touch.refl (fun i => i = cb) wB).setCell (p := ⟨cb, 3, none⟩) (Or.inl rfl) _⟩
              case rest =>
                obtain ⟨hcbC, htC⟩ := hcut
                obtain ⟨wC, rfl⟩ : ∃ wC, wC = wc := ⟨_, rfl⟩
                have zC : Touch (fun i => i = cb) w1 wC := ((Ht7.out.trans' Htr.out).trans' (HtA.out.trans' HtB.out)).trans' htC
                have xC : Ext w wC := x1.ext_new zC (fun i hi => by rw [hi, Hcbe.out]; omega)
                have hkcb : ∀ b', Kp w wb vo b' → ¬ b' = cb := fun b' hb' h => by have h8 := hb'.1; have h9 := Hcbe.out; omega
                have hrpC : RP wC (Kp w wb vo) (.slice a7 ps.length c7) ps := Hrp7.out.keep ((Htr.out.trans' (HtA.out.trans' HtB.out)).trans' htC) hkcb
                have hwC := Hw.out.ext xC
                obtain ⟨es, hes, hown, hek⟩ := hwC.row
                obtain ⟨va, vc, rfl⟩ := own_len hown
                have w0 := hwC.c0
                have wf := hwC.f0
                obtain ⟨p0, _⟩ := hcbC 0 _ rfl
                obtain ⟨p1, _⟩ := hcbC 1 _ rfl
                obtain ⟨p2, _⟩ := hcbC 2 _ rfl
                obtain ⟨p3, _⟩ := hcbC 3 _ rfl
                obtain ⟨p4, _⟩ := hcbC 4 _ rfl
                obtain ⟨p5, _⟩ := hcbC 5 _ rfl
                obtain ⟨p6, _⟩ := hcbC 6 _ rfl
                obtain ⟨p7, _⟩ := hcbC 7 _ rfl
                obtain ⟨p8, _⟩ := hcbC 8 _ rfl
                have hesl : es.length ≤ 100000000000 := by have h9 := congrArg List.length hes; simp only [List.length_map] at h9; omega
                have hwne : wb ≠ cb := by have := World.block_lt_of_cell? _ _ Hw.out.c0; simp only at this; rw [Hcbe.out]; omega
                have hvne : (Value.slice va es.length vc).ownBlock ≠ some wb := hwC.ne
                have hvcb : (Value.slice va es.length vc).ownBlock ≠ some cb := fun h => by
                  obtain ⟨es', _, h8, _⟩ := Hw.out.row
                  have := (h8.lt cb h).2; rw [Hcbe.out] at this; omega
                clear q3 r3
                have p0 : wC.cell? ⟨cb, 0, none⟩ = some (.int .i64 4) := p0
                have hk10 : ∀ W, Touch (fun b' => (Value.slice va es.length vc).ownBlock = some b') wC W → W.cell? ⟨wb, 0, none⟩ = some (.slice va es.length vc) ∧ W.cell? ⟨cb, 0, none⟩ = some (.int .i64 4) ∧ W.cell? ⟨cb, 1, none⟩ = some (.int .i64 wn) ∧ W.cell? ⟨cb, 2, none⟩ = some (.int .i64 tot) ∧ W.cell? ⟨cb, 3, none⟩ = some (.int .i64 kC) ∧ W.cell? ⟨cb, 4, none⟩ = some (.int .u8 b) ∧ W.cell? ⟨cb, 5, none⟩ = some (.bool f) ∧ W.cell? ⟨cb, 6, none⟩ = some (.int .u64 x) ∧ W.cell? ⟨cb, 7, none⟩ = some (.slice none 0 0) ∧ W.cell? ⟨cb, 8, none⟩ = some (.slice none 0 0) := fun W t =>
                  ⟨keepc t hvne w0, keepc t hvcb p0, keepc t hvcb p1, keepc t hvcb p2, keepc t hvcb p3, keepc t hvcb p4, keepc t hvcb p5, keepc t hvcb p6, keepc t hvcb p7, keepc t hvcb p8⟩
                have HcbC := Lib.hid hcbC
                clear hcbC
                have HtC := Lib.hid htC
                clear htC
                have ZC := Lib.hid zC
                clear zC
                have XC := Lib.hid xC
                clear xC
                have Hkcb := Lib.hid hkcb
                clear hkcb
                have HrpC := Lib.hid hrpC
                clear hrpC
                have HwC := Lib.hid hwC
                clear hwC
                have Hes := Lib.hid hes
                clear hes
                have Hown := Lib.hid hown
                clear hown
                have Hek := Lib.hid hek
                clear hek
                have Hwne := Lib.hid hwne
                clear hwne
                have Hvne := Lib.hid hvne
                clear hvne
                have Hvcb := Lib.hid hvcb
                clear hvcb
                have Hk10 := Lib.hid hk10
                clear hk10
                go_wp2_with (fail)
                refine wp_region_plan (.take 0 (.take 1 (.take 2 (.take 3 (.take 4 (.take 5 (.must 6 (.must 7 (.take 8 (.take 9 (.last 10 .done))))))))))) (fun W => W.cell? ⟨wb, 0, none⟩ = some (.slice va es.length vc) ∧ W.cell? ⟨cb, 0, none⟩ = some (.int .i64 4) ∧ W.cell? ⟨cb, 1, none⟩ = some (.int .i64 wn) ∧ W.cell? ⟨cb, 2, none⟩ = some (.int .i64 tot) ∧ W.cell? ⟨cb, 3, none⟩ = some (.int .i64 kC) ∧ W.cell? ⟨cb, 4, none⟩ = some (.int .u8 b) ∧ W.cell? ⟨cb, 5, none⟩ = some (.bool f) ∧ W.cell? ⟨cb, 6, none⟩ = some (.int .u64 x) ∧ W.cell? ⟨cb, 7, none⟩ = some (.slice none 0 0) ∧ W.cell? ⟨cb, 8, none⟩ = some (.slice none 0 0)) (by kernel_rfl) (by kernel_rfl) (by kernel_rfl) rfl ?_ (fun KK hKK => ?_)
                · exact Hk10.out _ (Touch.refl _ _).drew
                repeat (first
                  | (refine wpPlan_take (v := ?_) rfl (by rfl) (fun W hW => ?_) ?_; rotate_left; (focus ((try dsimp only at hW); go_split_ands; go_simp; (try with_reducible rfl); done)); (try simp only [Act.put, List.setIfInBounds_toArray, List.set_cons_zero, List.set_cons_succ]))
                  | (refine wpPlan_skip rfl (by rfl) ?_; (try simp only [Act.put, List.setIfInBounds_toArray, List.set_cons_zero, List.set_cons_succ])))
                refine wpPlan_must rfl (by rfl) (fun K hK => ?_)
                go_simp
                have xD : Ext wC (wC.drew.alloc (.cells (flat9 ((.slice none 0 0 : Value), nodeC b wn tot kC f x)).toArray 53)) := (Touch.refl _ _).drew.alloc _
                have hlit := own_lit wC.drew ((.slice none 0 0 : Value), nodeC b wn tot kC f x)
                obtain ⟨hsl, _, _, _⟩ := own_src hlit
                have wfD := keepf (p := ⟨wb, 0, none⟩) xD (World.block_lt_of_cell? _ _ w0) id wf
                have Hlit := Lib.hid hlit
                clear hlit
                have Hsl := Lib.hid hsl
                clear hsl
                have XD := Lib.hid xD
                clear xD
                refine hK.out _ _ ?_ ?_
                · exact Hk10.out _ XD.out.none_to
                clear hK K
                (try simp only [Act.put, List.setIfInBounds_toArray, List.set_cons_zero, List.set_cons_succ])
                refine wpPlan_must rfl (by rfl) (fun K hK => ?_)
                refine wp_push_any _ _ _ 50 rfl 53 _ 9 96 Try.underlying50 info_cell rfl (by decide) (.slice va es.length vc) es.length (flatC es) rfl (own_keep Hown.out XD.out (fun _ _ h => h)) (some ⟨wC.heap.size, 0, none⟩) 1 1 rfl (fun h => by cases h) (flatC [((.slice none 0 0 : Value), nodeC b wn tot kC f x)]) (by omega) (flatC_length _) Hsl.out (flatC_one _ (fun e he => by simp only [List.mem_cons, List.not_mem_nil, or_false] at he; subst he; rfl)) (by simp [maxLen]; omega) (by omega) ?_
                intro v5 w5 hown5 ht5 hb5
                have zD : Touch (fun b' => (Value.slice va es.length vc).ownBlock = some b') wC w5 := XD.out.ext_trans ht5
                have nx5 : Nx wC (.slice va es.length vc) v5 := hb5.imp id (fun h => ⟨_, h, by simp⟩)
                have w05 := keepc ht5 (fun h => Hvne.out h) (keepc XD.out id w0)
                have wf5 := keepf (p := ⟨wb, 0, none⟩) ht5 (World.block_lt_of_cell? _ _ (keepc XD.out id w0)) (fun h => Hvne.out h) wfD
                obtain ⟨a5, c5, rfl⟩ := own_len hown5
                clear ht5 hb5 wfD
                have Hown5 := Lib.hid hown5
                clear hown5
                have ZD := Lib.hid zD
                clear zD
                have Nx5 := Lib.hid nx5
                clear nx5
                refine hK.out _ _ ?_ ?_
                · exact Hk10.out _ ZD.out
                clear hK K
                (try simp only [Act.put, List.setIfInBounds_toArray, List.set_cons_zero, List.set_cons_succ])
                repeat (first
                  | (refine wpPlan_take (v := ?_) rfl (by rfl) (fun W hW => ?_) ?_; rotate_left; (focus ((try dsimp only at hW); go_split_ands; go_simp; (try with_reducible rfl); done)); (try simp only [Act.put, List.setIfInBounds_toArray, List.set_cons_zero, List.set_cons_succ]))
                  | (refine wpPlan_skip rfl (by rfl) ?_; (try simp only [Act.put, List.setIfInBounds_toArray, List.set_cons_zero, List.set_cons_succ])))
                refine wpPlan_last rfl (by rfl) (fun K hK => ?_)
                go_simp
                obtain ⟨wE, hwE⟩ : ∃ wE, wE = w5.setCell ⟨wb, 0, none⟩ (.slice a5 (es.length + 1) c5) := ⟨_, rfl⟩
                rw [← hwE]
                have zE : Touch (Tw wb (.slice va es.length vc)) w wE := by
                  rw [hwE]
                  exact Touch.setCell (S := Tw wb (.slice va es.length vc)) (XC.out.none_to.trans' (ZD.out.mono (fun i hi _ => Or.inr hi))) (p := ⟨wb, 0, none⟩) (Or.inl (Or.inl rfl)) _
                have zE2 : Touch (Tw wb (.slice va es.length vc)) wC wE := by
                  rw [hwE]
                  exact Touch.setCell (S := Tw wb (.slice va es.length vc)) (ZD.out.mono (fun i hi _ => Or.inr hi)) (p := ⟨wb, 0, none⟩) (Or.inl (Or.inl rfl)) _
                have hv5 : (Value.slice a5 (es.length + 1) c5).ownBlock ≠ some wb := fun h => by
                  rcases Nx5.out with h8 | ⟨M, h8, h9⟩
                  · exact Hvne.out (h8 ▸ h)
                  · rw [h8] at h; cases h; have := World.block_lt_of_cell? _ _ w0; simp only at this; omega
                have nxE : Nx w (.slice va es.length vc) (.slice a5 (es.length + 1) c5) := Nx5.out.imp id (fun ⟨M, h8, h9⟩ => ⟨M, h8, Nat.le_trans XC.out.size h9⟩)
                have hwrE : Wr wE wb (.slice a5 (es.length + 1) c5) (pre ++ [nodeC b wn tot kC f x]) := by
                  rw [hwE]
                  refine ⟨World.cell?_setCell_same _ _ _ w05, by rw [World.frozen?_setCell]; exact wf5, ⟨es ++ [((.slice none 0 0 : Value), nodeC b wn tot kC f x)], by simp [Hes.out], ?_, fun e he => ?_⟩, hv5⟩
                  · rw [List.length_append, flatC_append]
                    exact own_keep Hown5.out ((Touch.refl (fun i => i = wb) w5).setCell (p := ⟨wb, 0, none⟩) (Or.inl rfl) _) (fun b' hb' h => hv5 (by rw [hb', h]))
                  · rcases List.mem_append.1 he with h8 | h8
                    · exact ((Hek.out e h8).keep ZD.out (fun _ h _ => h.elim)).keep ((Touch.refl (fun i => i = wb) w5).setCell (p := ⟨wb, 0, none⟩) (Or.inl rfl) _) (fun _ h _ => h.elim)
                    · simp only [List.mem_cons, List.not_mem_nil, or_false] at h8; subst h8; exact RB.nil _ _
                have hmP : mP wn l.flatten = mP wn (l.take N).flatten + (mP wn (p :: gs) + mP wn (l.drop (N + 1)).flatten) := by
                  conv => lhs; rw [Hsp.out, flat_parts, mP_append, mP_append]
                have hmg := mP_pos (way := way) (ps := p :: gs) (fun z hz => Hong.out z hz)
                rw [Hwn.out] at hmg
                obtain ⟨hgeq, hon2, hfor, hv0, _⟩ := Hmid.out
                have hgeq : p :: gs = (if f then [(way ++ [b], x)] else []) ++ ps := hgeq
                have hon2 : On (way ++ [b]) ps := hon2
                have hfor : f = true ∨ ps ≠ [] := hfor
                have hv0 : f = false → x = 0 := hv0
                have hmu := mP_up (on_up hon2)
                rw [Hwn.out] at hmu
                have hmps : mP wn ps + (if f then 1 else 0) ≤ mP wn (p :: gs) := by
                  rw [hgeq, mP_append]
                  cases f with
                  | true => simp [mP]; have := Hwn.out; omega
                  | false => simp [mP]
                have hmp1 : mP (wn + 1) ps + 1 ≤ mP wn (p :: gs) := by
                  cases f with
                  | true => simp at hmps; omega
                  | false =>
                    rcases hfor with h8 | h8
                    · cases h8
                    · have := List.length_pos_iff.2 h8; simp at hmps; omega
                simp only [List.length_cons] at hmg
                have htl : ∀ z ∈ (l.take N).flatten, z ∈ l.flatten := fun z hz => by rw [Hsp.out, flat_parts]; simp [hz]
                have hdl : ∀ z ∈ (l.drop (N + 1)).flatten, z ∈ l.flatten := fun z hz => by rw [Hsp.out, flat_parts]; simp [hz]
                have hpsl2 : ∀ z ∈ ps, z ∈ l.flatten := fun z hz => by
                  rw [Hsp.out, flat_parts, hgeq]; simp [hz]
                have hl1l : (l.take N).flatten.length ≤ 1000000 := by have := take_len_le l N; rw [Hto.out] at this; omega
                have hlen : l.flatten.length = (l.take N).flatten.length + (gs.length + 1 + (l.drop (N + 1)).flatten.length) := by
                  conv => lhs; rw [Hsp.out, flat_parts]
                  simp only [List.length_append, List.length_cons]
                rw [Hto.out] at hlen
                have hl2l : (l.drop (N + 1)).flatten.length ≤ 1000000 := by omega
                have honE1 : On way (l.take N).flatten := on_sub Hon.out htl
                have honE3 : On way (l.drop (N + 1)).flatten := on_sub Hon.out hdl
                have hr1 : Rises (l.take N).flatten := (List.pairwise_append.1 Hrp.out).1
                have hr3 : Rises (l.drop (N + 1)).flatten := (List.pairwise_append.1 (List.pairwise_append.1 Hrp.out).2.1).2.1
                have hrps : Rises ps := by have h8 := Hrg.out; rw [hgeq] at h8; exact (List.pairwise_append.1 h8).2.1
                have hrg1 : RG wE (Kp wE wb (.slice a5 (es.length + 1) c5)) (.slice (some ⟨lb, lo, none⟩) N lc) (l.take N) := ((Hg.out.keep zE (fun b' hb' => kp_not hb')).mono (fun b' hb' => kp_step zE nxE hb')).take N (by omega)
                have hrpE : RP wE (Kp wE wb (.slice a5 (es.length + 1) c5)) (.slice a7 ps.length c7) ps := (HrpC.out.keep zE2 (fun b' hb' => kp_not hb')).mono (fun b' hb' => kp_step zE nxE hb')
                have hih1 := Ih.out wE wb (.slice a5 (es.length + 1) c5) (pre ++ [nodeC b wn tot kC f x]) (.slice (some ⟨lb, lo, none⟩) N lc) way (l.take N) (by rw [Hwn.out]; omega) hrg1 hwrE (by rw [Hwn.out]; exact Hg1.out) honE1 hr1 (fun z hz => Hpk.out z (htl z hz)) (by rw [Hwn.out]; simp only [List.length_append, List.length_cons, List.length_nil]; omega) hl1l (by rw [Hwn.out]; omega)
                rw [Hwn.out] at hih1
                unfold NodeRet at hih1
                have hNc : (l.length : Int) / 2 ≤ (lc : Int) := by omega
                clear hmps hmu hgeq hwE w05 wf5
                have ZE := Lib.hid zE
                clear zE
                have ZE2 := Lib.hid zE2
                clear zE2
                have Hv5 := Lib.hid hv5
                clear hv5
                have NxE := Lib.hid nxE
                clear nxE
                have HwrE := Lib.hid hwrE
                clear hwrE
                have HmP := Lib.hid hmP
                clear hmP
                have Hmg := Lib.hid hmg
                clear hmg
                have Hon2 := Lib.hid hon2
                clear hon2
                have Hfor := Lib.hid hfor
                clear hfor
                have Hv0 := Lib.hid hv0
                clear hv0
                have Hmp1 := Lib.hid hmp1
                clear hmp1
                have Htl := Lib.hid htl
                clear htl
                have Hdl := Lib.hid hdl
                clear hdl
                have Hpsl2 := Lib.hid hpsl2
                clear hpsl2
                have Hl1l := Lib.hid hl1l
                clear hl1l
                have Hlen := Lib.hid hlen
                clear hlen
                have Hl2l := Lib.hid hl2l
                clear hl2l
                have HonE1 := Lib.hid honE1
                clear honE1
                have HonE3 := Lib.hid honE3
                clear honE3
                have Hr1 := Lib.hid hr1
                clear hr1
                have Hr3 := Lib.hid hr3
                clear hr3
                have Hrps := Lib.hid hrps
                clear hrps
                have Hrg1 := Lib.hid hrg1
                clear hrg1
                have HrpE := Lib.hid hrpE
                clear hrpE
                have Hih1 := Lib.hid hih1
                clear hih1
                clear w0 wf p0 p1 p2 p3 p4 p5 p6 p7 p8
                refine hK.out _ _ ?_
                clear hK K
                (try simp only [Act.put, List.setIfInBounds_toArray, List.set_cons_zero, List.set_cons_succ])
                refine wpPlan_done (hKK.out _ _ ?_)
                clear hKK KK
                go_wp2_with (fail)
                (with_reducible refine Hih1.out.mono ?_)
                rintro e wF ⟨rfl, vo1, cs1, d1, htt1, hwr1, tF, nx1⟩
                have zF := tw_trans ZE.out NxE.out tF
                have nxF := nx_trans ZE.out NxE.out nx1
                have hrpF := (HrpE.out.keep tF (fun b' hb' => kp_not hb')).mono (fun b' hb' => kp_step tF nx1 hb')
                have hby := byByte_any (K := Kp wF wb vo1) wF _ ps (way ++ [b]) hrpF (fun b' hb' => hb'.1) Hon2.out Hrps.out (by omega) (by simp only [List.length_append, List.length_cons, List.length_nil, Hwn.out]; have := Hpp.out.2; omega)
                rw [show (((way ++ [b]).length : Nat) : Int) = (wn : Int) + 1 by simp [Hwn.out]] at hby
                unfold ByRet at hby
                have Htt1 := Lib.hid htt1
                clear htt1
                have Hwr1 := Lib.hid hwr1
                clear hwr1
                have TF := Lib.hid tF
                clear tF
                have Nx1 := Lib.hid nx1
                clear nx1
                have ZF := Lib.hid zF
                clear zF
                have NxF := Lib.hid nxF
                clear nxF
                have HrpF := Lib.hid hrpF
                clear hrpF
                have Hby := Lib.hid hby
                clear hby
                go_wp2_with (fail)
                (with_reducible refine Hby.out.mono ?_)
                rintro e wG ⟨⟨vg, G2, rfl, hG2, hgood2, hrgG⟩, xG⟩
                obtain ⟨ga2, gc2, rfl, _⟩ := hrgG.shape
                have hrgG2 : RG wG (Kp wG wb vo1) (.slice ga2 G2.length gc2) G2 := (rg_bound hrgG).mono (fun b' hb' => by
                  have hs := xG.size
                  have hwb := World.block_lt_of_cell? _ _ Hwr1.out.c0
                  simp only at hwb
                  rcases hb'.1 with h8 | h8
                  · exact ⟨hb'.2, h8.2⟩
                  · refine ⟨hb'.2, by omega, fun h9 => ?_⟩
                    obtain ⟨es', _, h7, _⟩ := Hwr1.out.row
                    have := (h7.lt b' h9).2; omega)
                have hon22 : On (way ++ [b]) G2.flatten := by rw [hG2]; exact Hon2.out
                have hlb : (way ++ [b]).length = wn + 1 := by simp [Hwn.out]
                have hcl1 := tt_len_le Htt1.out
                rw [Hwn.out] at hcl1
                have hih2 := Ih.out wG wb vo1 ((pre ++ [nodeC b wn tot kC f x]) ++ cs1) (.slice ga2 G2.length gc2) (way ++ [b]) G2 (by rw [hG2, hlb]; have := HmP.out; have := Hmp1.out; omega) hrgG2 (Hwr1.out.ext xG) hgood2 hon22 (by rw [hG2]; exact Hrps.out) (fun z hz => Hpk.out z (Hpsl2.out z (by rw [hG2] at hz; exact hz))) (by rw [hG2, hlb]; have := HmP.out; have := Hmp1.out; simp only [List.length_append, List.length_cons, List.length_nil]; omega) (by rw [hG2]; omega) (by rw [hlb]; have := Hpp.out.2; omega)
                rw [show (((way ++ [b]).length : Nat) : Int) = (wn : Int) + 1 by simp [Hwn.out]] at hih2
                unfold NodeRet at hih2
                have xGt : Touch (Tw wb vo1) wF wG := xG.none_to
                have Hih2 := Lib.hid hih2
                clear hih2
                have HG2 := Lib.hid hG2
                clear hG2
                have Hgood2 := Lib.hid hgood2
                clear hgood2
                have HrgG := Lib.hid hrgG
                clear hrgG
                have HrgG2 := Lib.hid hrgG2
                clear hrgG2
                have Hon22 := Lib.hid hon22
                clear hon22
                have Hlb := Lib.hid hlb
                clear hlb
                have XG := Lib.hid xG
                clear xG
                have XGt := Lib.hid xGt
                clear xGt
                have Hcl1 := Lib.hid hcl1
                clear hcl1
                go_wp2_with (fail)
                (with_reducible refine Hih2.out.mono ?_)
                rintro e wH ⟨rfl, vo2, cs2, d2, htt2, hwr2, tH, nx2⟩
                have zG := tw_trans ZF.out NxF.out XGt.out
                have zH := tw_trans zG NxF.out (tH.mono (fun i hi _ => hi))
                have nxH : Nx w (.slice va es.length vc) vo2 := nx_trans zG NxF.out nx2
                have hcl2 := tt_len_le htt2
                rw [HG2.out, Hlb.out] at hcl2
                have Htt2 := Lib.hid htt2
                clear htt2
                have Hwr2 := Lib.hid hwr2
                clear hwr2
                have TH := Lib.hid tH
                clear tH
                have Nx2 := Lib.hid nx2
                clear nx2
                have ZG := Lib.hid zG
                clear zG
                have ZH := Lib.hid zH
                clear zH
                have NxH := Lib.hid nxH
                clear nxH
                have Hcl2 := Lib.hid hcl2
                clear hcl2
                by_cases hlc : lc = N + 1
                · have hlN : l.length = N + 1 := by omega
                  have hdn : l.drop (N + 1) = [] := List.drop_of_length_le (by omega)
                  have hih3 := node_nil wH wb vo2 (((pre ++ [nodeC b wn tot kC f x]) ++ cs1) ++ cs2) (.slice (some ⟨lb, lo, none⟩) (l.length - (l.length / 2 + 1)) (N - l.length / 2)) way (F := fun _ => True) (by
                    rw [show l.length - (l.length / 2 + 1) = 0 by have := HNn.out; omega]
                    exact RG.nil _ _ _ _ (by unfold maxLen; omega) (fun h => by cases h)) Hwr2.out
                  rw [Hwn.out] at hih3
                  unfold NodeRet at hih3
                  have HlN := Lib.hid hlN
                  clear hlN
                  have Hdn := Lib.hid hdn
                  clear hdn
                  have Hih3 := Lib.hid hih3
                  clear hih3
                  go_wp2_with (fail)
                  (with_reducible refine Hih3.out.mono ?_)
                  rintro e wI ⟨rfl, vo3, cs3, d3, htt3, hwr3, tI, nx3⟩
                  rw [← Hdn.out] at htt3
                  have Htt3 := Lib.hid htt3
                  clear htt3
                  have Hwr3 := Lib.hid hwr3
                  clear hwr3
                  have TI := Lib.hid tI
                  clear tI
                  have Nx3 := Lib.hid nx3
                  clear nx3
                  clear Hih3
                  go_wp2_with (fail)
                  go_end0
                  have hgeq : p :: gs = (if f then [(way ++ [b], x)] else []) ++ ps := Hmid.out.1
                  have hlt : (l.take N).length = N := by simp; omega
                  have hld : (l.drop (N + 1)).length = l.length - (N + 1) := by simp
                  have T := TT.node way (l.take N) (l.drop (N + 1)) G2 b f x ps cs1 cs2 cs3 d1 d2 d3 Htt1.out Htt2.out HG2.out Htt3.out Hfor.out Hv0.out
                    (fun z hz => by have h8 := Hlo.out z hz p (by simp); rw [Hb.out] at h8; rw [Hwn.out]; exact h8) (fun z hz => by have h8 := Hhi.out z hz p (by simp); rw [Hb.out] at h8; rw [Hwn.out]; exact h8)
                    (Hpp.out.1 b (List.mem_of_getElem? Hpb.out)) (by rw [hlt, hld]; have := HNn.out; omega) HonE1.out Hon2.out HonE3.out
                  rw [← hgeq, ← Hsp.out, Hwn.out, Hto.out] at T
                  have hk : kidsOf (l.take N) ps (l.drop (N + 1)) = kC := by unfold kidsOf; rw [hlt, hld, HkC.out, HkB.out, HkA.out]
                  rw [hk] at T
                  have hwrF := Hwr3.out
                  simp only [List.append_assoc, List.cons_append, List.nil_append] at hwrF
                  exact ⟨rfl, vo3, _, _, T, hwrF, tw_trans ZH.out NxH.out TI.out, nx_trans ZH.out NxH.out Nx3.out⟩
                · have hrg3 : RG wH (Kp wH wb vo2) (.slice (some ⟨lb, lo + (N + 1), none⟩) (l.length - (N + 1)) (lc - (N + 1))) (l.drop (N + 1)) := ((Hg.out.keep ZH.out (fun b' hb' => kp_not hb')).mono (fun b' hb' => kp_step ZH.out NxH.out hb')).drop (N + 1) (by omega)
                  have hih3 := Ih.out wH wb vo2 (((pre ++ [nodeC b wn tot kC f x]) ++ cs1) ++ cs2) _ way (l.drop (N + 1)) (by rw [Hwn.out]; have := HmP.out; have := Hmg.out; omega) hrg3 Hwr2.out (by rw [Hwn.out]; exact Hg2.out) HonE3.out Hr3.out (fun z hz => Hpk.out z (Hdl.out z hz)) (by rw [Hwn.out]; have := HmP.out; have := Hmp1.out; have := Hcl1.out; have := Hcl2.out; simp only [List.length_append, List.length_cons, List.length_nil]; omega) Hl2l.out (by rw [Hwn.out]; omega)
                  rw [Hwn.out] at hih3
                  rw [HNn.out] at hih3
                  unfold NodeRet at hih3
                  have Hrg3 := Lib.hid hrg3
                  clear hrg3
                  have Hih3 := Lib.hid hih3
                  clear hih3
                  go_wp2_with (fail)
                  (with_reducible refine Hih3.out.mono ?_)
                  rintro e wI ⟨rfl, vo3, cs3, d3, htt3, hwr3, tI, nx3⟩
                  rw [← HNn.out] at htt3
                  have Htt3 := Lib.hid htt3
                  clear htt3
                  have Hwr3 := Lib.hid hwr3
                  clear hwr3
                  have TI := Lib.hid tI
                  clear tI
                  have Nx3 := Lib.hid nx3
                  clear nx3
                  clear Hih3
                  go_wp2_with (fail)
                  go_end0
                  have hgeq : p :: gs = (if f then [(way ++ [b], x)] else []) ++ ps := Hmid.out.1
                  have hlt : (l.take N).length = N := by simp; omega
                  have hld : (l.drop (N + 1)).length = l.length - (N + 1) := by simp
                  have T := TT.node way (l.take N) (l.drop (N + 1)) G2 b f x ps cs1 cs2 cs3 d1 d2 d3 Htt1.out Htt2.out HG2.out Htt3.out Hfor.out Hv0.out
                    (fun z hz => by have h8 := Hlo.out z hz p (by simp); rw [Hb.out] at h8; rw [Hwn.out]; exact h8) (fun z hz => by have h8 := Hhi.out z hz p (by simp); rw [Hb.out] at h8; rw [Hwn.out]; exact h8)
                    (Hpp.out.1 b (List.mem_of_getElem? Hpb.out)) (by rw [hlt, hld]; have := HNn.out; omega) HonE1.out Hon2.out HonE3.out
                  rw [← hgeq, ← Hsp.out, Hwn.out, Hto.out] at T
                  have hk : kidsOf (l.take N) ps (l.drop (N + 1)) = kC := by unfold kidsOf; rw [hlt, hld, HkC.out, HkB.out, HkA.out]
                  rw [hk] at T
                  have hwrF := Hwr3.out
                  simp only [List.append_assoc, List.cons_append, List.nil_append] at hwrF
                  exact ⟨rfl, vo3, _, _, T, hwrF, tw_trans ZH.out NxH.out TI.out, nx_trans ZH.out NxH.out Nx3.out⟩
end TernS
end Go.Proofs.Ythfnacadabhpdaa
