/- ModelBegins holds. -/
import Derived.Test.YthannllagabclaaModP
import Derived.Test.YthannllagabclaaArg
import Derived.Test.YthannllagabclaaSameR
import Derived.Test.YthannllagabclaaRows
namespace Go.Proofs.Ythannllagabclaa
open Go.ChangeShapes Go.WideShapes Go.ChangeAt Go.RowKit Go.Deep
set_option linter.unusedVariables false
set_option linter.unusedSimpArgs false
namespace LawModelBegins
open ModA ModB ModF ModI ModL ModP

theorem rp_push {w w' : World} {F : Nat → Prop} {v v' : Value} {es1 es2 : List El} (hk1 : ∀ e ∈ es1, OB w (fun b => F b ∧ v.ownBlock ≠ some b) e.1 e.2.1) (hk2 : ∀ e ∈ es2, RB w (fun b => v.ownBlock ≠ some b) e.1 e.2.1)
    (hown : w'.ownsRow 0 32 2 v' (es1.length + es2.length) (flat es1 ++ flat es2)) (ht : Touch (fun b => v.ownBlock = some b) w w') : RP w' Any v' (es1.map (·.2) ++ es2.map (·.2)) := by
  refine ⟨es1 ++ es2, by simp, Cells2.of_own (by rw [List.length_append, flat_append]; exact hown) (fun _ _ => trivial), fun e he => ?_⟩
  rcases List.mem_append.1 he with h | h
  · exact rb_any ((hk1 e h).rb.keep ht (fun b hb hb' => hb.2 hb'))
  · exact rb_any ((hk2 e h).keep ht (fun b hb hb' => hb hb'))

theorem wpList_push_if (w : World) {ops : Array Oper} {rest : List Oper} {o : Oper} {a : Act} {Q : Exit → Act → World → Prop} (hgd : Region.wanted o (yielded ops a.tmps) = true) (s x : Operand) (t : TypeId) (ho : o.op = .call { callee := .builtin .append, args := #[s, x], argTypes := #[t, t] })
    (e : TypeId) (z : Value) (size bytes : Nat) (ht : Try.prog.underlying t = some (.slice e)) (hi : (Try.prog.info? e).map (fun i => (i.zero, i.size, i.bytes)) = some (some z, size, bytes)) (hzs : z.cells.size = size) (hsz : 0 < size)
    (v : Value) (n : Nat) (xs : List Value) (hev : a.eval s = v) (hown : w.ownsRow 0 e size v n xs) (ad : Option Addr) (m c : Nat) (hex : a.eval x = .slice ad m c) (ha : ad = none → c = 0) (news : List Value) (hmc : m ≤ c) (hl : news.length = m * size) (hs : Src w ad news) (h1 : ∀ u ∈ news, u.oneCell' = true)
    (h63 : n + m ≤ maxLen) (hbytes : (n + m) * bytes ≤ 140737488355328)
    (h : ∀ v' w', w'.ownsRow 0 e size v' (n + m) (xs ++ news) → Touch (fun b => v.ownBlock = some b) w w' → (v'.ownBlock = v.ownBlock ∨ v'.ownBlock = some w.heap.size) → wpList Try.prog ops Q rest (a.put o.dst v') w') : wpList Try.prog ops Q (o :: rest) a w := by
  unfold wpList
  rw [if_pos hgd]
  exact Or.inl (wp_push_any w s x t ho e z size bytes ht hi hzs hsz v n xs hev hown ad m c hex ha news hmc hl hs h1 h63 hbytes h)

theorem pair_none {w w' : World} {e : Ending} (h : PairRet w none e w') : ∃ a c, e = .returned (.tuple #[.agg #[.slice a 0 c, .int .u64 0], .bool false]) ∧ OB w' (Ge w.heap.size) (.slice a 0 c) [] ∧ Ext w w' := by
  obtain ⟨⟨kv, rfl, ho⟩, ht⟩ := h
  obtain ⟨a, c, rfl⟩ := ho.shape
  exact ⟨a, c, rfl, ho, ht⟩


set_option maxRecDepth 100000 in
set_option maxHeartbeats 4000000 in
theorem walk_small (v0 v1 : Value) (ps : Prs) (k : List Int) (F : Nat → Prop) (w : World) (h0 : RP w F v0 ps) (h1 : RB w F v1 k) (hpk : PK ps) (kb : KB k) (hg : SameP.great ps 30 15 = false) (hm : ps.length ≤ 30) (hk : k.length ≤ 30) :
    Calls Try.prog 3 #[v0, v1] w fun e w' => e = .returned (.bool true) ∧ Ext w w' := by
  obtain ⟨a0, c0, rfl, l1, l2⟩ := h0.shape
  obtain ⟨a1, c1, rfl, l3, l4⟩ := h1.shape
  unfold maxLen at l2 l4
  have hgr := SameP.great_any w F _ ps 30 15 h0 (by decide) (by decide) (by decide) (by decide)
  have hnew := new_any w _ ps h0 (by omega) hpk
  rw [hg] at hgr
  have hr := mkK_rises ps
  have hml := mkK_length ps
  have hmm := fun p (hp : p ∈ mkK ps) => hpk p (mkK_mem hp)
  have hlo := longest_law hr k
  have hlt := lastI_lt (mkK ps) k
  generalize mkK ps = M at *
  have hM : M.length ≤ 30 := by omega
  have Hgr := Lib.hid hgr
  clear hgr
  have Hnew := Lib.hid hnew
  clear hnew
  have Hr := Lib.hid hr
  clear hr
  have Hmm := Lib.hid hmm
  clear hmm
  have Hlo := Lib.hid hlo
  clear hlo
  have Hlt := Lib.hid hlt
  clear hlt
  have H0 := Lib.hid h0
  clear h0
  have H1 := Lib.hid h1
  clear h1
  have Hpk := Lib.hid hpk
  clear hpk
  have Kb := Lib.hid kb
  clear kb
  clear hg hml
  go_enter Try.func3, Try.ntmps3
  go_wp2_with (fail)
  refine Hgr.out.mono ?_
  rintro e w' ⟨rfl, rfl⟩
  have dk : decide ((30 : Int) < (k.length : Int)) = false := by simp; omega
  go_wp2_with (fail)
  refine Hnew.out.mono ?_
  rintro e w1 ⟨g, Fm, rfl, hmp, hFm, ht1⟩
  have Hmp := Lib.hid hmp
  clear hmp
  have HFm := Lib.hid hFm
  clear hFm
  have Ht1 := Lib.hid ht1
  clear ht1
  go_wp2_with (fail)
  go_loopw [6, 7] (fun s6 s7 wr => ∃ j : Nat, j ≤ k.length + 1 ∧ s7 = .int .i64 j ∧ s6 = .int .i64 (lastI M k j) ∧ Ext w1 wr) (fun _ s7 _ => k.length + 1 - (intOf s7).toNat)
  case atStart => exact ⟨0, by omega, rfl, rfl, Touch.refl _ _⟩
  case round =>
    obtain ⟨j, hj, rfl, rfl, ht⟩ := hrel
    have hmq := Mq.of (Hmp.out.ext ht)
    by_cases hjk : j ≤ k.length
    · have hget := fun W (t : Ext w1 W) => get_any W _ (.slice a1 j c1) M (k.take j) (Mq.of (Hmp.out.ext t)) (((H1.out.take j hjk).ext Ht1.out).ext t) (Kb.out.take j) (by omega)
      have i1 : (j : Int) ≤ (k.length : Int) := by omega
      have i2 : (0 : Int) ≤ (j : Int) := by omega
      have i3 : (j : Int) ≤ (c1 : Int) := by omega
      have hstep : lastI M k (j + 1) = if hasK M (k.take j) then (j : Int) else lastI M k j := rfl
      by_cases hh : hasK M (k.take j) = true
      · rw [if_pos hh] at hstep
        rw [hh] at hget
        have Hget := Lib.hid hget
        clear hget
        have Hstep := Lib.hid hstep
        clear hstep
        have Hh := Lib.hid hh
        clear hh
        have Hmq := Lib.hid hmq
        clear hmq
        go_wp2_with (fail)
        refine (Hget.out _ ht).mono ?_
        rintro e w2 ⟨rfl, ht2⟩
        go_wp2_with (fail)
        go_roundw
        case rel => exact ⟨j + 1, by omega, by go_num, by rw [Hstep.out], ht.trans' ht2⟩
        case measure => simp [intOf]; omega
      · have hh : hasK M (k.take j) = false := by simpa using hh
        rw [if_neg (by simp [hh])] at hstep
        rw [hh] at hget
        have Hget := Lib.hid hget
        clear hget
        have Hstep := Lib.hid hstep
        clear hstep
        have Hh := Lib.hid hh
        clear hh
        have Hmq := Lib.hid hmq
        clear hmq
        go_wp2_with (fail)
        refine (Hget.out _ ht).mono ?_
        rintro e w2 ⟨rfl, ht2⟩
        go_wp2_with (fail)
        go_roundw
        case rel => exact ⟨j + 1, by omega, by go_num, by rw [Hstep.out], ht.trans' ht2⟩
        case measure => simp [intOf]; omega
    · obtain rfl : j = k.length + 1 := by omega
      have i1 : ¬ ((k.length + 1 : Nat) : Int) ≤ (k.length : Int) := by omega
      have hlong := longest_any wr _ (.slice a1 k.length c1) M k hmq ((H1.out.ext Ht1.out).ext ht) Kb.out (by omega)
      have hlo := Hlo.out
      have hlt := Hlt.out (k.length + 1)
      have hnh := lastI_has M k (k.length + 1)
      generalize lastI M k (k.length + 1) = n at *
      by_cases hn : 0 ≤ n
      · rw [if_pos hn] at hlo
        obtain ⟨n, rfl⟩ := Int.eq_ofNat_of_zero_le hn
        simp only [Int.toNat_natCast] at hlo
        have hnk : n ≤ k.length := by omega
        rw [hlo] at hlong
        have Hlong := Lib.hid hlong
        clear hlong
        have Hmq := Lib.hid hmq
        clear hmq
        have Hlo := Lib.hid hlo
        clear hlo
        go_wp2_with (fail)
        refine Hlong.out.mono ?_
        intro e w2 hp
        obtain ⟨pa, pc, rfl, hp, ht2⟩ := pair_some hp
        have ht2 := ht.trans' ht2
        have hl : (k.take n).length = n := by simp; omega
        rw [hl] at hp ⊢
        have Hp := Lib.hid hp
        clear hp
        have Ht2 := Lib.hid ht2
        clear ht2
        go_wp2_with (fail)
        have i3 : (n : Int) ≤ (c1 : Int) := by omega
        have i4 : (0 : Int) ≤ (n : Int) := by omega
        have x2 : Ext w2 (w2.alloc (.cells #[.slice pa n pc, .int .u64 (valK M (k.take n))] 32)) := (Touch.refl _ _).alloc _
        have y0 : (w2.alloc (.cells #[.slice pa n pc, .int .u64 (valK M (k.take n))] 32)).cell? ⟨w2.heap.size, 0, none⟩ = some (.slice pa n pc) := by simp
        have hsame := fun W (t : Ext (w2.alloc (.cells #[.slice pa n pc, .int .u64 (valK M (k.take n))] 32)) W) => SameP.same_bytes_yes W (.slice pa n pc) (.slice a1 n c1) (k.take n) ((Hp.out.rb.ext x2).ext t) (((((H1.out.take n hnk).ext Ht1.out).ext Ht2.out).ext x2).ext t) (by simp; omega)
        have x2' := Ht2.out.trans' x2
        generalize w2.alloc (.cells #[.slice pa n pc, .int .u64 (valK M (k.take n))] 32) = w3 at *
        have Hsame := Lib.hid hsame
        clear hsame
        have X2 := Lib.hid x2
        clear x2
        have X2' := Lib.hid x2'
        clear x2'
        refine wp_region_plan (.take 0 (.take 1 (.take 2 (.take 3 (.take 4 (.take 5 (.take 6 (.take 7 (.take 8 (.take 9 (.take 10 (.take 11 (.must 12 (.take 13 (.take 14 (.take 15 .done)))))))))))))))) (fun wy => Ext w3 wy ∧ wy.cell? ⟨w2.heap.size, 0, none⟩ = some (.slice pa n pc)) (by kernel_rfl) (by kernel_rfl) (by kernel_rfl) rfl ?_ (fun KK hKK => ?_)
        · exact ⟨(Touch.refl _ _).drew, y0⟩
        repeat (first
          | (refine wpPlan_take (v := ?_) rfl (by rfl) (fun W hW => ?_) ?_; rotate_left; (focus ((try dsimp only at hW); go_split_ands; go_simp; (try with_reducible rfl); done)); (try simp only [Act.put, List.setIfInBounds_toArray, List.set_cons_zero, List.set_cons_succ]))
          | (refine wpPlan_skip rfl (by rfl) ?_; (try simp only [Act.put, List.setIfInBounds_toArray, List.set_cons_zero, List.set_cons_succ])))
        refine wpPlan_must rfl (by rfl) (fun K hK => ?_)
        go_simp
        (with_reducible refine (Hsame.out _ (Touch.refl _ _).drew).mono ?_)
        rintro e w4 ⟨rfl, ht4⟩
        have ht4 : Ext w3 w4 := (Touch.refl _ _).drew.trans' ht4
        refine hK.out _ _ ?_ ?_
        · exact ⟨ht4, keepc ht4 id y0⟩
        clear hK K
        (try simp only [Act.put, List.setIfInBounds_toArray, List.set_cons_zero, List.set_cons_succ])
        repeat (first
          | (refine wpPlan_take (v := ?_) rfl (by rfl) (fun W hW => ?_) ?_; rotate_left; (focus ((try dsimp only at hW); go_split_ands; go_simp; (try with_reducible rfl); done)); (try simp only [Act.put, List.setIfInBounds_toArray, List.set_cons_zero, List.set_cons_succ]))
          | (refine wpPlan_skip rfl (by rfl) ?_; (try simp only [Act.put, List.setIfInBounds_toArray, List.set_cons_zero, List.set_cons_succ])))
        refine wpPlan_done (hKK.out _ _ ?_)
        clear hKK KK
        have tt : Ext w1 w4 := X2'.out.trans' ht4
        clear y0 ht4
        have hrank := rank_any _ _ (.slice a1 k.length c1) M k (Mq.of (Hmp.out.ext tt)) ((H1.out.ext Ht1.out).ext tt) Kb.out (by omega)
        have Tt := Lib.hid tt
        clear tt
        have Hrank := Lib.hid hrank
        clear hrank
        go_wp2_with (fail)
        refine Hrank.out.mono ?_
        rintro e w5 ⟨rfl, ht5⟩
        have hrl := rk_le M k
        have t5 := Tt.out.trans' ht5
        clear ht5
        have hfr := from_any (G := Any) w5 _ (.slice none 0 0) M [] (rk M k) (Mq.of (Hmp.out.ext t5)) (RB.nil _ _) KB.nil (by omega) (by unfold V64; omega)
        rw [from_nil] at hfr
        have hrr : fromK M k 40 = M.drop (rk M k) := from_rest (M := M) k 40 (by omega)
        have hat := fun i (h : i < M.length) => at_rk Hr.out (List.getElem?_eq_getElem h)
        have hsplit := List.take_append_drop (rk M k) M
        generalize rk M k = r at *
        have Hfr := Lib.hid hfr
        clear hfr
        have Hrr := Lib.hid hrr
        clear hrr
        have Hat := Lib.hid hat
        clear hat
        have T5 := Lib.hid t5
        clear t5
        have Hsplit := Lib.hid hsplit
        clear hsplit
        go_wp2_with (fail)
        refine Hfr.out.mono ?_
        rintro e w6 ⟨⟨va, rfl, hoa⟩, ht6⟩
        have hbe := from_any w6 _ (.slice a1 k.length c1) M k 40 (Mq.of (Hmp.out.ext (T5.out.trans' ht6))) ((H1.out.ext Ht1.out).ext (T5.out.trans' ht6)) Kb.out (by omega) (by unfold V64; omega)
        rw [Hrr.out] at hbe
        have Hbe := Lib.hid hbe
        clear hbe
        have Hoa := Lib.hid hoa
        clear hoa
        have Ht6 := Lib.hid ht6
        clear ht6
        go_wp2_with (fail)
        refine Hbe.out.mono ?_
        rintro e w7 ⟨⟨vb, rfl, hob⟩, ht7⟩
        have t7 := T5.out.trans' (Ht6.out.trans' ht7)
        obtain ⟨es1, he1, ho6, hF1, hk6, _⟩ := Hoa.out
        obtain ⟨es2, he2, hc2, hk2⟩ := hob.rp
        have hn1 : es1.length = r := by have := congrArg List.length he1; simp at this; omega
        obtain ⟨d, hd⟩ : ∃ d, r + d = M.length := ⟨M.length - r, by omega⟩
        have hn2 : es2.length = d := by have := congrArg List.length he2; simp at this; omega
        obtain ⟨xa, xc, rfl⟩ := own_len ho6
        obtain ⟨ya, yc, rfl, q1, q2, q3⟩ := hc2.shape
        have hlt6 := fun b hb => (ho6.lt b hb).2
        have ho7 := own_keep ho6 ht7 (fun _ _ h => h)
        have hk7 := fun e he => (hk6 e he).ext ht7
        have hk2' := fun e he => (hk2 e he).mono (G := fun b => (Value.slice xa es1.length xc).ownBlock ≠ some b) (fun b hb h => by have := hlt6 b h; unfold Ge at hb; omega)
        have hsz6 := (T5.out.trans' Ht6.out).size
        have hsz5 := T5.out.size
        clear hk6 ho6 hlt6 hk2 ht7 hob
        unfold maxLen at q2
        rw [hn1, hn2]
        rw [hn2] at q1
        have T7 := Lib.hid t7
        clear t7
        have He1 := Lib.hid he1
        clear he1
        have He2 := Lib.hid he2
        clear he2
        have HF1 := Lib.hid hF1
        clear hF1
        have Ho7 := Lib.hid ho7
        clear ho7
        have Hk7 := Lib.hid hk7
        clear hk7
        have Hk2' := Lib.hid hk2'
        clear hk2'
        have Hc2 := Lib.hid hc2
        clear hc2
        have Hn1 := Lib.hid hn1
        clear hn1
        have Hn2 := Lib.hid hn2
        clear hn2
        go_wp2_with (fail)
        go_loopw [15] (fun s15 wr => ∃ j : Nat, j ≤ M.length ∧ s15 = .int .i64 j ∧ Ext w7 wr) (fun s15 _ => M.length - (intOf s15).toNat)
        case atStart => exact ⟨0, by omega, rfl, Touch.refl _ _⟩
        case round =>
          obtain ⟨j, hj, rfl, ht⟩ := hrel
          have hlen := fun W (t : Ext w7 W) => len_any W _ M (Mq.of (Hmp.out.ext (T7.out.trans' t)))
          by_cases hjk : j < M.length
          · have hsel := select_any wr _ M j (Mq.of (Hmp.out.ext (T7.out.trans' ht))) (by omega)
            have hsv : selK M (j : Int) = some (M[j].1, M[j].2) := by unfold selK; rw [if_pos (by omega)]; simp [hjk]
            rw [hsv] at hsel
            have hrk := (Hat.out j hjk).1
            have hkb := (Hmm.out _ (List.getElem_mem hjk)).1
            generalize M[j] = p at *
            have i1 : (j : Int) < (M.length : Int) := by omega
            have i2 : (0 : Int) ≤ (j : Int) := by omega
            have Hsel := Lib.hid hsel
            clear hsel
            have Hsv := Lib.hid hsv
            clear hsv
            have Hrk := Lib.hid hrk
            clear hrk
            have Hkb := Lib.hid hkb
            clear hkb
            have Hlen := Lib.hid hlen
            clear hlen
            go_wp2_with (fail)
            refine (Hlen.out _ ht).mono ?_
            rintro e wl ⟨rfl, rfl⟩
            go_wp2_with (fail)
            refine Hsel.out.mono ?_
            intro e w8 hp
            obtain ⟨pa, pc, rfl, hp, ht8⟩ := pair_some hp
            have hrank := fun (o : Obj) => rank_any (w8.alloc o) _ (.slice pa p.1.length pc) M p.1 (Mq.of (Hmp.out.ext ((T7.out.trans' (ht.trans' ht8)).alloc _))) (hp.rb.ext ((Touch.refl _ _).alloc _)) Hkb.out (by omega)
            rw [Hrk.out] at hrank
            have Hrank := Lib.hid hrank
            clear hrank
            have Hp := Lib.hid hp
            clear hp
            go_wp2_with (fail)
            refine (Hrank.out _).mono ?_
            rintro e w9 ⟨rfl, ht9⟩
            go_wp2_with (fail)
            go_roundw
            case rel => exact ⟨j + 1, by omega, by go_num, ht.trans' ((ht8.alloc _).trans' ht9)⟩
            case measure => simp [intOf]; omega
          · obtain rfl : j = M.length := by omega
            have i1 : ¬ ((M.length : Nat) : Int) < (M.length : Int) := by omega
            have i6 : IntKind.i64.wrap ((r : Int) + (d : Int)) = (M.length : Int) := by rw [IntKind.wrap_i64]; omega
            have i7 : (r : Int) + (d : Int) = (M.length : Int) := by omega
            have Hlen := Lib.hid hlen
            clear hlen
            go_wp2_with (fail)
            refine (Hlen.out _ ht).mono ?_
            rintro e wl ⟨rfl, rfl⟩
            have ho8 := own_keep Ho7.out ht (fun _ _ h => h)
            have hk8 := fun e he => (Hk7.out e he).ext ht
            have hk28 := fun e he => (Hk2'.out e he).ext ht
            have hc8 := Hc2.out.ext ht
            rw [Hn1.out] at ho8
            have hls : ∀ W, Ext w7 W → Mq W _ Fm M := fun W t => Mq.of (Hmp.out.ext (T7.out.trans' t))
            have htw := (Ht1.out.trans' T7.out).trans' ht
            have hx1 : ∀ b, (Value.slice xa es1.length xc).ownBlock = some b → w5.heap.size ≤ b := fun b hb => HF1.out b hb
            have Ho8 := Lib.hid ho8
            clear ho8
            have Hk8 := Lib.hid hk8
            clear hk8
            have Hk28 := Lib.hid hk28
            clear hk28
            have Hc8 := Lib.hid hc8
            clear hc8
            have Hls := Lib.hid hls
            clear hls
            have Htw := Lib.hid htw
            clear htw
            have Hx1 := Lib.hid hx1
            clear hx1
            go_wp2_with (fail)
            refine (Hlen.out _ ht).mono ?_
            rintro e wl ⟨rfl, rfl⟩
            go_wp2_with (at_builtin; refine wpList_push_if _ rfl _ _ 22 rfl 32 _ 2 32 Try.underlying22 info_pair rfl (by decide) (.slice xa r xc) r (flat es1) rfl Ho8.out ya d yc rfl q3 (flat es2) q1 (by rw [flat_length, Hn2.out]) Hc8.out.src (flat_one_cell _ (fun e he => by obtain ⟨a, c, h1, _⟩ := (Hk28.out e he).shape; rw [h1]; rfl)) (by simp [maxLen]; omega) (by omega) ?_; intro v9 w9 hown9 ht9 hb9)
            have hrp9 := rp_push Hk8.out Hk28.out (by rw [Hn1.out, Hn2.out]; exact hown9) (by rw [Hn1.out]; exact ht9)
            rw [He1.out, He2.out, Hsplit.out] at hrp9
            have hx9 : Ext w1 w9 := ((T7.out.trans' ht)).ext_new ht9 (fun b hb => by have := Hx1.out b (by rw [Hn1.out]; exact hb); omega)
            have hall := all_any w9 _ M (Mq.of (Hmp.out.ext hx9)) (by omega)
            clear hown9 ht9 hb9
            have Hrp9 := Lib.hid hrp9
            clear hrp9
            have Hx9 := Lib.hid hx9
            clear hx9
            have Hall := Lib.hid hall
            clear hall
            go_wp2_with (fail)
            refine Hall.out.mono ?_
            rintro e w10 ⟨⟨v10, rfl, ho10⟩, ht10⟩
            have hsp := SameP.same_pairs w10 _ _ M (Hrp9.out.ext ht10) ho10.rp (by omega) (fun p hp => by have := (Hmm.out p hp).2; omega)
            have Hsp := Lib.hid hsp
            clear hsp
            have Ht10 := Lib.hid ht10
            clear ht10
            go_wp2_with (fail)
            refine Hsp.out.mono ?_
            rintro e w11 ⟨rfl, ht11⟩
            go_wp2_with (fail)
            refine (awake_any _).mono ?_
            rintro e w12 ⟨rfl, ht12⟩
            have hend := Ht1.out.trans' (Hx9.out.trans' (Ht10.out.trans' (ht11.trans' ht12)))
            clear ht11 ht12
            have Hend := Lib.hid hend
            clear hend
            go_wp2_with (fail)
            go_ret
            exact ⟨rfl, Hend.out⟩
      · obtain rfl : n = -1 := by omega
        rw [if_neg hn] at hlo
        rw [hlo] at hlong
        have Hlong := Lib.hid hlong
        clear hlong
        have Hmq := Lib.hid hmq
        clear hmq
        have Hlo := Lib.hid hlo
        clear hlo
        go_wp2_with (fail)
        refine Hlong.out.mono ?_
        intro e w2 hp
        obtain ⟨pa, pc, rfl, hp, ht2⟩ := pair_none hp
        have ht2 := ht.trans' ht2
        have Hp := Lib.hid hp
        clear hp
        have Ht2 := Lib.hid ht2
        clear ht2
        go_wp2_with (fail)
        have x2 := Ht2.out.alloc (.cells #[.slice pa 0 pc, .int .u64 0] 32)
        generalize w2.alloc (.cells #[.slice pa 0 pc, .int .u64 0] 32) = w3 at *
        have X2 := Lib.hid x2
        clear x2
        refine wp_region_plan (.take 0 (.take 1 (.take 2 (.take 3 (.take 4 (.take 5 (.take 6 (.take 7 (.take 8 (.take 9 (.take 10 (.take 11 (.take 12 (.take 13 (.take 14 (.take 15 .done)))))))))))))))) (fun wy => Ext w3 wy) (by kernel_rfl) (by kernel_rfl) (by kernel_rfl) rfl ?_ (fun KK hKK => ?_)
        · exact (Touch.refl _ _).drew
        repeat (first
          | (refine wpPlan_take (v := ?_) rfl (by rfl) (fun W hW => ?_) ?_; rotate_left; (focus ((try dsimp only at hW); go_split_ands; go_simp; (try with_reducible rfl); done)); (try simp only [Act.put, List.setIfInBounds_toArray, List.set_cons_zero, List.set_cons_succ]))
          | (refine wpPlan_skip rfl (by rfl) ?_; (try simp only [Act.put, List.setIfInBounds_toArray, List.set_cons_zero, List.set_cons_succ])))
        refine wpPlan_done (hKK.out _ _ ?_)
        clear hKK KK
        have tt : Ext w1 w3.drew := X2.out.drew
        have hrank := rank_any _ _ (.slice a1 k.length c1) M k (Mq.of (Hmp.out.ext tt)) ((H1.out.ext Ht1.out).ext tt) Kb.out (by omega)
        have Tt := Lib.hid tt
        clear tt
        have Hrank := Lib.hid hrank
        clear hrank
        go_wp2_with (fail)
        refine Hrank.out.mono ?_
        rintro e w5 ⟨rfl, ht5⟩
        have hrl := rk_le M k
        have t5 := Tt.out.trans' ht5
        clear ht5
        have hfr := from_any (G := Any) w5 _ (.slice none 0 0) M [] (rk M k) (Mq.of (Hmp.out.ext t5)) (RB.nil _ _) KB.nil (by omega) (by unfold V64; omega)
        rw [from_nil] at hfr
        have hrr : fromK M k 40 = M.drop (rk M k) := from_rest (M := M) k 40 (by omega)
        have hat := fun i (h : i < M.length) => at_rk Hr.out (List.getElem?_eq_getElem h)
        have hsplit := List.take_append_drop (rk M k) M
        generalize rk M k = r at *
        have Hfr := Lib.hid hfr
        clear hfr
        have Hrr := Lib.hid hrr
        clear hrr
        have Hat := Lib.hid hat
        clear hat
        have T5 := Lib.hid t5
        clear t5
        have Hsplit := Lib.hid hsplit
        clear hsplit
        go_wp2_with (fail)
        refine Hfr.out.mono ?_
        rintro e w6 ⟨⟨va, rfl, hoa⟩, ht6⟩
        have hbe := from_any w6 _ (.slice a1 k.length c1) M k 40 (Mq.of (Hmp.out.ext (T5.out.trans' ht6))) ((H1.out.ext Ht1.out).ext (T5.out.trans' ht6)) Kb.out (by omega) (by unfold V64; omega)
        rw [Hrr.out] at hbe
        have Hbe := Lib.hid hbe
        clear hbe
        have Hoa := Lib.hid hoa
        clear hoa
        have Ht6 := Lib.hid ht6
        clear ht6
        go_wp2_with (fail)
        refine Hbe.out.mono ?_
        rintro e w7 ⟨⟨vb, rfl, hob⟩, ht7⟩
        have t7 := T5.out.trans' (Ht6.out.trans' ht7)
        obtain ⟨es1, he1, ho6, hF1, hk6, _⟩ := Hoa.out
        obtain ⟨es2, he2, hc2, hk2⟩ := hob.rp
        have hn1 : es1.length = r := by have := congrArg List.length he1; simp at this; omega
        obtain ⟨d, hd⟩ : ∃ d, r + d = M.length := ⟨M.length - r, by omega⟩
        have hn2 : es2.length = d := by have := congrArg List.length he2; simp at this; omega
        obtain ⟨xa, xc, rfl⟩ := own_len ho6
        obtain ⟨ya, yc, rfl, q1, q2, q3⟩ := hc2.shape
        have hlt6 := fun b hb => (ho6.lt b hb).2
        have ho7 := own_keep ho6 ht7 (fun _ _ h => h)
        have hk7 := fun e he => (hk6 e he).ext ht7
        have hk2' := fun e he => (hk2 e he).mono (G := fun b => (Value.slice xa es1.length xc).ownBlock ≠ some b) (fun b hb h => by have := hlt6 b h; unfold Ge at hb; omega)
        have hsz6 := (T5.out.trans' Ht6.out).size
        have hsz5 := T5.out.size
        clear hk6 ho6 hlt6 hk2 ht7 hob
        unfold maxLen at q2
        rw [hn1, hn2]
        rw [hn2] at q1
        have T7 := Lib.hid t7
        clear t7
        have He1 := Lib.hid he1
        clear he1
        have He2 := Lib.hid he2
        clear he2
        have HF1 := Lib.hid hF1
        clear hF1
        have Ho7 := Lib.hid ho7
        clear ho7
        have Hk7 := Lib.hid hk7
        clear hk7
        have Hk2' := Lib.hid hk2'
        clear hk2'
        have Hc2 := Lib.hid hc2
        clear hc2
        have Hn1 := Lib.hid hn1
        clear hn1
        have Hn2 := Lib.hid hn2
        clear hn2
        go_wp2_with (fail)
        go_loopw [15] (fun s15 wr => ∃ j : Nat, j ≤ M.length ∧ s15 = .int .i64 j ∧ Ext w7 wr) (fun s15 _ => M.length - (intOf s15).toNat)
        case atStart => exact ⟨0, by omega, rfl, Touch.refl _ _⟩
        case round =>
          obtain ⟨j, hj, rfl, ht⟩ := hrel
          have hlen := fun W (t : Ext w7 W) => len_any W _ M (Mq.of (Hmp.out.ext (T7.out.trans' t)))
          by_cases hjk : j < M.length
          · have hsel := select_any wr _ M j (Mq.of (Hmp.out.ext (T7.out.trans' ht))) (by omega)
            have hsv : selK M (j : Int) = some (M[j].1, M[j].2) := by unfold selK; rw [if_pos (by omega)]; simp [hjk]
            rw [hsv] at hsel
            have hrk := (Hat.out j hjk).1
            have hkb := (Hmm.out _ (List.getElem_mem hjk)).1
            generalize M[j] = p at *
            have i1 : (j : Int) < (M.length : Int) := by omega
            have i2 : (0 : Int) ≤ (j : Int) := by omega
            have Hsel := Lib.hid hsel
            clear hsel
            have Hsv := Lib.hid hsv
            clear hsv
            have Hrk := Lib.hid hrk
            clear hrk
            have Hkb := Lib.hid hkb
            clear hkb
            have Hlen := Lib.hid hlen
            clear hlen
            go_wp2_with (fail)
            refine (Hlen.out _ ht).mono ?_
            rintro e wl ⟨rfl, rfl⟩
            go_wp2_with (fail)
            refine Hsel.out.mono ?_
            intro e w8 hp
            obtain ⟨pa, pc, rfl, hp, ht8⟩ := pair_some hp
            have hrank := fun (o : Obj) => rank_any (w8.alloc o) _ (.slice pa p.1.length pc) M p.1 (Mq.of (Hmp.out.ext ((T7.out.trans' (ht.trans' ht8)).alloc _))) (hp.rb.ext ((Touch.refl _ _).alloc _)) Hkb.out (by omega)
            rw [Hrk.out] at hrank
            have Hrank := Lib.hid hrank
            clear hrank
            have Hp := Lib.hid hp
            clear hp
            go_wp2_with (fail)
            refine (Hrank.out _).mono ?_
            rintro e w9 ⟨rfl, ht9⟩
            go_wp2_with (fail)
            go_roundw
            case rel => exact ⟨j + 1, by omega, by go_num, ht.trans' ((ht8.alloc _).trans' ht9)⟩
            case measure => simp [intOf]; omega
          · obtain rfl : j = M.length := by omega
            have i1 : ¬ ((M.length : Nat) : Int) < (M.length : Int) := by omega
            have i6 : IntKind.i64.wrap ((r : Int) + (d : Int)) = (M.length : Int) := by rw [IntKind.wrap_i64]; omega
            have i7 : (r : Int) + (d : Int) = (M.length : Int) := by omega
            have Hlen := Lib.hid hlen
            clear hlen
            go_wp2_with (fail)
            refine (Hlen.out _ ht).mono ?_
            rintro e wl ⟨rfl, rfl⟩
            have ho8 := own_keep Ho7.out ht (fun _ _ h => h)
            have hk8 := fun e he => (Hk7.out e he).ext ht
            have hk28 := fun e he => (Hk2'.out e he).ext ht
            have hc8 := Hc2.out.ext ht
            rw [Hn1.out] at ho8
            have hls : ∀ W, Ext w7 W → Mq W _ Fm M := fun W t => Mq.of (Hmp.out.ext (T7.out.trans' t))
            have htw := (Ht1.out.trans' T7.out).trans' ht
            have hx1 : ∀ b, (Value.slice xa es1.length xc).ownBlock = some b → w5.heap.size ≤ b := fun b hb => HF1.out b hb
            have Ho8 := Lib.hid ho8
            clear ho8
            have Hk8 := Lib.hid hk8
            clear hk8
            have Hk28 := Lib.hid hk28
            clear hk28
            have Hc8 := Lib.hid hc8
            clear hc8
            have Hls := Lib.hid hls
            clear hls
            have Htw := Lib.hid htw
            clear htw
            have Hx1 := Lib.hid hx1
            clear hx1
            go_wp2_with (fail)
            refine (Hlen.out _ ht).mono ?_
            rintro e wl ⟨rfl, rfl⟩
            go_wp2_with (at_builtin; refine wpList_push_if _ rfl _ _ 22 rfl 32 _ 2 32 Try.underlying22 info_pair rfl (by decide) (.slice xa r xc) r (flat es1) rfl Ho8.out ya d yc rfl q3 (flat es2) q1 (by rw [flat_length, Hn2.out]) Hc8.out.src (flat_one_cell _ (fun e he => by obtain ⟨a, c, h1, _⟩ := (Hk28.out e he).shape; rw [h1]; rfl)) (by simp [maxLen]; omega) (by omega) ?_; intro v9 w9 hown9 ht9 hb9)
            have hrp9 := rp_push Hk8.out Hk28.out (by rw [Hn1.out, Hn2.out]; exact hown9) (by rw [Hn1.out]; exact ht9)
            rw [He1.out, He2.out, Hsplit.out] at hrp9
            have hx9 : Ext w1 w9 := ((T7.out.trans' ht)).ext_new ht9 (fun b hb => by have := Hx1.out b (by rw [Hn1.out]; exact hb); omega)
            have hall := all_any w9 _ M (Mq.of (Hmp.out.ext hx9)) (by omega)
            clear hown9 ht9 hb9
            have Hrp9 := Lib.hid hrp9
            clear hrp9
            have Hx9 := Lib.hid hx9
            clear hx9
            have Hall := Lib.hid hall
            clear hall
            go_wp2_with (fail)
            refine Hall.out.mono ?_
            rintro e w10 ⟨⟨v10, rfl, ho10⟩, ht10⟩
            have hsp := SameP.same_pairs w10 _ _ M (Hrp9.out.ext ht10) ho10.rp (by omega) (fun p hp => by have := (Hmm.out p hp).2; omega)
            have Hsp := Lib.hid hsp
            clear hsp
            have Ht10 := Lib.hid ht10
            clear ht10
            go_wp2_with (fail)
            refine Hsp.out.mono ?_
            rintro e w11 ⟨rfl, ht11⟩
            go_wp2_with (fail)
            refine (awake_any _).mono ?_
            rintro e w12 ⟨rfl, ht12⟩
            have hend := Ht1.out.trans' (Hx9.out.trans' (Ht10.out.trans' (ht11.trans' ht12)))
            clear ht11 ht12
            have Hend := Lib.hid hend
            clear hend
            go_wp2_with (fail)
            go_ret
            exact ⟨rfl, Hend.out⟩

theorem great_not {ps : Prs} {most long : Nat} (h : SameP.great ps most long = false) : ps.length ≤ most ∧ ∀ p ∈ ps, p.1.length ≤ long := by
  unfold SameP.great at h
  simp only [Bool.or_eq_false_iff, decide_eq_false_iff_not, List.any_eq_false, decide_eq_true_eq] at h
  exact ⟨by omega, fun p hp => by have := h.2 p hp; omega⟩

set_option maxHeartbeats 400000 in
theorem walk_great (v0 v1 : Value) (ps : Prs) (k : List Int) (F : Nat → Prop) (w : World) (h0 : RP w F v0 ps) (h1 : RB w F v1 k) (h : SameP.great ps 30 15 = true ∨ SameP.great ps 30 15 = false ∧ 30 < k.length) :
    Calls Try.prog 3 #[v0, v1] w fun e w' => e = .returned (.bool true) ∧ Ext w w' := by
  obtain ⟨a0, c0, rfl, l1, l2⟩ := h0.shape
  obtain ⟨a1, c1, rfl, l3, l4⟩ := h1.shape
  unfold maxLen at l2 l4
  have hgr := SameP.great_any w F _ ps 30 15 h0 (by decide) (by decide) (by decide) (by decide)
  rcases h with hg | ⟨hg, hk⟩
  · rw [hg] at hgr
    have Hgr := Lib.hid hgr
    clear hgr
    have Hg := Lib.hid hg
    clear hg
    go_enter Try.func3, Try.ntmps3
    go_wp2_with (fail)
    refine Hgr.out.mono ?_
    rintro e w' ⟨rfl, rfl⟩
    go_wp2_with (fail)
    refine (awake_any _).mono ?_
    rintro e w' ⟨rfl, ht⟩
    go_wp2_with (fail)
    go_ret
    exact ⟨rfl, ht⟩
  · rw [hg] at hgr
    have dk : decide ((30 : Int) < (k.length : Int)) = true := by simp; omega
    have Hgr := Lib.hid hgr
    clear hgr
    have Hg := Lib.hid hg
    clear hg
    go_enter Try.func3, Try.ntmps3
    go_wp2_with (fail)
    refine Hgr.out.mono ?_
    rintro e w' ⟨rfl, rfl⟩
    go_wp2_with (fail)
    refine (awake_any _).mono ?_
    rintro e w' ⟨rfl, ht⟩
    go_wp2_with (fail)
    go_ret
    exact ⟨rfl, ht⟩

set_option maxRecDepth 100000 in
theorem lifted (os : Os) (started : os.Started) (H : Type) (enc : TypeId × Value → H) :
    ReturnsInHanded {} Try.checked os 3 .any (Rows.modelBeginsSpec.pre6 enc Try.prog Try.f3 Rows.modelBeginsRow.domain false) (Rows.modelBeginsSpec.post enc Try.prog Try.f3 false true false false) := by
  refine returnsInHanded_of_change (C := Try.checked) Try.own started (by kernel_rfl) Try.func3
    (ChangeSpec.witness6 (enc := enc) (C := Try.checked) false ⟨#[], #[.slice none 0 0, .slice none 0 0], []⟩ 8 (by kernel_rfl) (by kernel_rfl) (by kernel_rfl) (by kernel_rfl)) ?_
  intro W base args ds gs before hval0 hW hcnd _
  have hval : ∀ (j : Nat) t v, Try.f3.params[j]? = some t → args[j]? = some v → Value.okWide Try.prog W .any base t v := hval0
  have hW' := hW
  obtain ⟨p, q, hA0, hV, rfl, hfz, hnd⟩ := hW
  have hA : DataW.TrodAll enc Try.prog W 0 (fun _ => true) true Try.f3.params.toList args.toList ds p := hA0
  rw [Try.params3] at hA hval
  obtain ⟨v0, v1, d0, d1, p0, p1, rfl, rfl, rfl, h0, h1⟩ := trodAll_two hA
  obtain ⟨rfl, rfl⟩ := trodVars_none hV
  obtain ⟨ps, hps, hpp⟩ := rp_of_arg (hval 0 22 v0 rfl rfl) h0
  obtain ⟨k, hk, hkb⟩ := rb_of_arg (hval 1 23 v1 rfl rfl) h1
  refine Calls.mono (R := fun e w' => e = .returned (.bool true) ∧ Touch (fun _ => False) W w') ?_ fun e W' ⟨he, hw⟩ => ?_
  · by_cases hg : SameP.great ps 30 15 = true
    · exact walk_great v0 v1 ps k _ W hps hk (Or.inl hg)
    · have hg : SameP.great ps 30 15 = false := by simpa using hg
      have hgn := great_not (most := 30) (long := 15) hg
      by_cases hl : k.length ≤ 30
      · exact walk_small v0 v1 ps k _ W hps hk (fun p hp => ⟨(hpp p hp).1, by have := hgn.2 p hp; omega⟩) hkb hg hgn.1 hl
      · exact walk_great v0 v1 ps k _ W hps hk (Or.inr ⟨hg, by omega⟩)
  subst he
  exact ⟨_, rfl, law_post Try.laidOut (by kernel_rfl) rfl Try.underlying4 rfl rfl ⟨rfl, rfl, rfl⟩ hW' (hw.below fun _ h _ => h)⟩

theorem modelBegins_holds : Rows.ModelBeginsSaid :=
  OpenClaim.holds_of_wide 3 Try.f3 rfl rfl rfl rfl rfl rfl rfl ⟨rfl, rfl, rfl, rfl, rfl⟩ rfl rfl rfl rfl rfl (by kernel_rfl) Try.func3 (by kernel_rfl)
    (of_decide_eq_true (by kernel_rfl)) (by unfold Func.isWrapper; first | (rw [if_pos (by decide +kernel)]; kernel_rfl) | (rw [if_neg (by decide +kernel)]; exact ⟨rfl, rfl⟩))
    (fun os started H enc _ => lifted os started H enc)
end LawModelBegins
end Go.Proofs.Ythannllagabclaa
